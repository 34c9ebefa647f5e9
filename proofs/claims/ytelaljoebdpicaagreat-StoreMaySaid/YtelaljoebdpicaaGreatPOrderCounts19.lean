/- Part 19 of what the proof of OrderCounts rests on. No condition. -/
import Derived.Laws.IdiomCopy
import Derived.Test.YtelaljoebdpicaaGreatPOrderCounts14
import Derived.Test.YtelaljoebdpicaaGreatPOrderCounts18
namespace Go.Proofs.YtelaljoebdpicaaGreat
set_option maxRecDepth 100000
set_option maxHeartbeats 60000000
set_option linter.unusedVariables false
set_option linter.unusedSimpArgs false
set_option linter.unusedSectionVars false
section
open Go.RowKit Go.Maps
def FirstAt (p : Nat -> Bool) (n : Nat) (r : Int) : Prop := (r = -1 /\ ∀ i, i < n -> p i = false) ∨ ∃ k : Nat, k < n /\ r = (k : Int) /\ p k = true /\ ∀ i, i < k -> p i = false
theorem idx_msg (g : Nat) (lb : Array Value) (eg : ∀ args w, (callFunc g args).run Tryz.prog w = .ok (.enter g args) w) (p : Nat -> Bool) (f0 : Nat -> Int) (f1 : Nat -> ByteArray) (f2 : Nat -> ByteArray) (f3 : Nat -> Int) (f4 : Nat -> Int) (f5 : Nat -> Int) (cs : List Value) (n : Nat) (v : Value) (w : World) (h : CellsAt w v n 6 cs)
  (hcs : ∀ i, i < n -> cs[i * 6 + 0]? = some (.int .i64 (f0 i)) /\ cs[i * 6 + 1]? = some (.string (f1 i)) /\ cs[i * 6 + 2]? = some (.string (f2 i)) /\ cs[i * 6 + 3]? = some (.int .i64 (f3 i)) /\ cs[i * 6 + 4]? = some (.int .i64 (f4 i)) /\ cs[i * 6 + 5]? = some (.int .i64 (f5 i))) (hp : ∀ k, k < n -> ∀ W, Tch No w W -> Calls Tryz.prog g (#[.agg #[.int .i64 (f0 k), .string (f1 k), .string (f2 k), .int .i64 (f3 k), .int .i64 (f4 k), .int .i64 (f5 k)]] ++ lb) W fun e w' => e = .returned (.bool (p k)) /\ Tch No W w') :
  Calls Tryz.prog 160 #[v, .func (.func g) #[] lb] w fun e w' => (∃ r : Int, e = .returned (.int .i64 r) /\ FirstAt p n r) /\ Tch No w w' := by
 obtain ⟨a, c, rfl, hc1, hc2⟩ := CellsAt.shape h
 have H := Lib.hid h
 have HS := Lib.hid hcs
 have HP := Lib.hid hp
 have hml : n <= 9223372036854775807 := by unfold maxLen at hc2; omega
 clear h hcs hp hc1 hc2 
 go_enter Tryz.func160, Tryz.ntmps160
 go_wp2_with fail
 go_loopg [8] n (fun kx sx wr => ∃ k : Nat, sx = .int .i64 k /\ k <= n /\ n - k <= kx /\ Hid (Tch No w wr) /\ Hid (∀ i, i < k -> p i = false))
 case atStart => exact ⟨0, rfl, Nat.zero_le _, by omega, Tch.refl _ _, fun i h => absurd h (Nat.not_lt_zero _)⟩
 case round =>
  obtain ⟨k, rfl, hk, hgk, TT, I⟩ := hrel
  by_cases hlt : k < n
  ·have hb : ∃ b o, a = some ⟨b, o, none⟩ /\ wr.cell? ⟨b, o + k * 6, none⟩ = some (.int .i64 (f0 k)) /\ wr.cell? ⟨b, o + k * 6 + 1, none⟩ = some (.string (f1 k)) /\ wr.cell? ⟨b, o + k * 6 + 2, none⟩ = some (.string (f2 k)) /\ wr.cell? ⟨b, o + k * 6 + 3, none⟩ = some (.int .i64 (f3 k)) /\ wr.cell? ⟨b, o + k * 6 + 4, none⟩ = some (.int .i64 (f4 k)) /\ wr.cell? ⟨b, o + k * 6 + 5, none⟩ = some (.int .i64 (f5 k)) := by
    rcases H.out.2 with ⟨_, h0⟩ | ⟨b, o, cap2, h1, _, _, _, h5⟩
    ·omega
    ·injection h1 with h1 _ _
     obtain ⟨g0, g1, g2, g3, g4, g5⟩ := HS.out k hlt
     exact ⟨b, o, h1, TT.out.cell (by first | simpa [Nat.add_assoc] using h5 _ _ g0 | simpa using h5 _ _ g0) (fun h => h), TT.out.cell (by first | simpa [Nat.add_assoc] using h5 _ _ g1 | simpa using h5 _ _ g1) (fun h => h), TT.out.cell (by first | simpa [Nat.add_assoc] using h5 _ _ g2 | simpa using h5 _ _ g2) (fun h => h), TT.out.cell (by first | simpa [Nat.add_assoc] using h5 _ _ g3 | simpa using h5 _ _ g3) (fun h => h), TT.out.cell (by first | simpa [Nat.add_assoc] using h5 _ _ g4 | simpa using h5 _ _ g4) (fun h => h), TT.out.cell (by first | simpa [Nat.add_assoc] using h5 _ _ g5 | simpa using h5 _ _ g5) (fun h => h)⟩
   obtain ⟨b, o, rfl, e0, e1, e2, e3, e4, e5⟩ := hb
   have HF := HP.out k hlt wr TT.out
   obtain ⟨x0, hx0⟩ : ∃ z, f0 k = z := ⟨_, rfl⟩
   obtain ⟨x1, hx1⟩ : ∃ z, f1 k = z := ⟨_, rfl⟩
   obtain ⟨x2, hx2⟩ : ∃ z, f2 k = z := ⟨_, rfl⟩
   obtain ⟨x3, hx3⟩ : ∃ z, f3 k = z := ⟨_, rfl⟩
   obtain ⟨x4, hx4⟩ : ∃ z, f4 k = z := ⟨_, rfl⟩
   obtain ⟨x5, hx5⟩ : ∃ z, f5 k = z := ⟨_, rfl⟩
   rw [hx0, hx1, hx2, hx3, hx4, hx5] at HF
   rw [hx0] at e0
   rw [hx1] at e1
   rw [hx2] at e2
   rw [hx3] at e3
   rw [hx4] at e4
   rw [hx5] at e5
   clear hx0 hx1 hx2 hx3 hx4 hx5
   have HG := Lib.hid HF
   clear HF
   by_cases hit : p k = true
   ·rw [hit] at HG
    have HA : Hid (FirstAt p n (k : Int)) := .inr ⟨k, hlt, rfl, hit, I.out⟩
    clear hit
    go_wp2_with fail
    refine HG.out.mono ?_
    rintro e w3 ⟨rfl, T3⟩
    go_wp2_with fail
    go_ret
    exact ⟨⟨_, rfl, HA.out⟩, TT.out.trans0 T3⟩
   ·have hd : p k = false := by simpa using hit
    have HI : Hid (∀ i, i < k + 1 -> p i = false) := fun i h1 => by
     by_cases e : i = k
     ·subst e; exact hd
     ·exact I.out i (by omega)
    rw [hd] at HG
    clear hit hd
    go_wp2_with fail
    refine HG.out.mono ?_
    rintro e w3 ⟨rfl, T3⟩
    go_wp2_with fail
    go_roundg (n - (k + 1))
    case measure => omega
    case rel => exact ⟨k + 1, by go_num, by omega, by omega, TT.out.trans0 T3, HI.out⟩
  ·obtain rfl : k = n := by omega
   have HA : Hid (FirstAt p k (-1)) := .inl ⟨rfl, I.out⟩
   clear hlt
   go_wp2_with fail
   go_ret
   exact ⟨⟨_, rfl, HA.out⟩, TT.out⟩
end
section
open Go.RowKit Go.Maps
theorem zc_len (cs : Array Value) (n : Nat) : (Builtin.zeroCells cs n).toList.length = n * cs.size := by simp [Builtin.zeroCells]
theorem zc_one (cs : Array Value) (n : Nat) (h : ∀ i (hi : i < cs.size), cs[i].oneCell' = true) (hp : 0 < cs.size) : ∀ u ∈ (Builtin.zeroCells cs n).toList, u.oneCell' = true := by
 intro u hu
 unfold Builtin.zeroCells at hu
 rw [Array.toList_map] at hu
 obtain ⟨i, _, rfl⟩ := List.mem_map.1 hu
 have hm := Nat.mod_lt i hp
 rw [getElem!_pos cs (i % cs.size) hm]
 exact h _ hm
theorem run_clear_many (w : World) (t e ty : TypeId) (z : Value) (ht : Tryz.prog.underlying t = some (.slice e)) (hv : ∀ w, (zeroValue e).run Tryz.prog w = .ok z w) (b o n c : Nat) (hn : 0 < n) (zs : List Value) (hzs : (Builtin.zeroCells z.cells n).toList = zs) (h1 : ∀ u ∈ zs, u.oneCell' = true)
  (hc : ∀ j, j < zs.length -> (w.cell? ⟨b, o + j, none⟩).isSome = true) (hf : ∀ j, j < zs.length -> w.frozen? ⟨b, o + j, none⟩ = false) :
  (Builtin.clear_ #[t] ty #[.slice (some ⟨b, o, none⟩) n c]).run Tryz.prog w = .ok (.tuple #[]) (w.setCells b o zs) := by
 have hst := run_storeCells_cells (P := Tryz.prog) b o zs 0 w (by simpa using hc) (by simpa using hf) h1
 simp only [Nat.add_zero] at hst
 obtain ⟨m, rfl⟩ : ∃ m, n = m + 1 := ⟨n - 1, by omega⟩
 simp [Builtin.clear_, run_underlying ht, hv, hzs, hst]
end
section
open Go.RowKit Go.Maps
theorem blk_sets {b : Nat} {e : TypeId} : ∀ (vs : List Value) (o : Nat) (w : World) (cur : Array Value), w.heap[b]? = some (.cells cur e (0, 0)) -> o + vs.length <= cur.size ->
  ∃ cur' : Array Value, (w.setCells b o vs).heap[b]? = some (.cells cur' e (0, 0)) /\ cur'.size = cur.size /\ ∀ t, cur'[t]? = if o <= t /\ t < o + vs.length then vs[t - o]? else cur[t]?
 | [], o, w, cur, h, _ => ⟨cur, h, rfl, fun t => by rw [if_neg (by simp only [List.length_nil]; omega)]⟩
 | v :: r, o, w, cur, h, hl => by
  simp only [List.length_cons] at hl
  obtain ⟨cur', h1, h2, h3⟩ := blk_sets r (o + 1) (w.setCell ⟨b, o, none⟩ v) _ (blk_set h o v) (by rw [Array.size_setIfInBounds]; omega)
  refine ⟨cur', h1, by rw [h2, Array.size_setIfInBounds], fun t => ?_⟩
  rw [h3, List.length_cons]
  by_cases h4 : o + 1 <= t /\ t < o + 1 + r.length
  ·rw [if_pos h4, if_pos (by omega), show t - o = (t - (o + 1)) + 1 by omega, List.getElem?_cons_succ]
  ·rw [if_neg h4, Array.getElem?_setIfInBounds]
   by_cases h5 : o = t
   ·subst h5
    rw [if_pos rfl, if_pos (by omega), if_pos (by omega)]
    simp
   ·rw [if_neg h5, if_neg (by omega)]
theorem Tch.setCells {F : Nat -> Prop} {b : Nat} (hF : F b) : ∀ (vs : List Value) (o : Nat) (w : World), Tch F w (w.setCells b o vs)
 | [], _, w => Tch.refl F w
 | v :: r, o, w => (Tch.setCell (F := F) w ⟨b, o, none⟩ v (fun _ => hF)).trans (Tch.setCells hF r (o + 1) _) (fun _ _ h => h)
theorem own_mk {w : World} {e : TypeId} {size g n cap : Nat} {cur : Array Value} {xs : List Value} (hx : xs.length = n * size) (hg : w.heap[g]? = some (.cells cur e (0, 0))) (h1 : n <= cap) (h2 : cap <= maxLen) (h3 : cur.size = cap * size)
  (h : ∀ t, t < n * size -> cur[t]? = xs[t]?) : w.ownsRow 0 e size (.slice (some ⟨g, 0, none⟩) n cap) n xs := by
 refine ⟨hx, .inr ⟨g, cap, cur, rfl, Nat.zero_le _, hg, h1, h2, h3, ?_⟩⟩
 apply List.ext_getElem?
 intro t
 rw [List.getElem?_take]
 split
 ·rename_i ht
  rw [<- h t ht]
  simp
 ·rename_i ht
  rw [List.getElem?_eq_none (by omega)]
theorem own_get {w : World} {e : TypeId} {size n cap : Nat} {a : Addr} {xs : List Value} (h : w.ownsRow 0 e size (.slice (some a) n cap) n xs) :
  ∃ g cur, a = ⟨g, 0, none⟩ /\ w.heap[g]? = some (.cells cur e (0, 0)) /\ n <= cap /\ cap <= maxLen /\ cur.size = cap * size /\ xs.length = n * size /\ ∀ t, t < n * size -> cur[t]? = xs[t]? := by
 rcases h.2 with ⟨h1, _⟩ | ⟨g, cap', cur, h1, _, h3, h4, h5, h6, h7⟩
 ·cases h1
 ·injection h1 with h1 _ h2
  injection h1 with h1
  subst h1; subst h2
  refine ⟨g, cur, rfl, h3, h4, h5, h6, h.1, fun t ht => ?_⟩
  rw [<- h7, List.getElem?_take, if_pos ht]
  simp
section
variable {α : Type}
def keptM (p : α -> Bool) (l : List α) : List α := l.filter (fun x => !p x)
theorem keptM_app (p : α -> Bool) (a b : List α) : keptM p (a ++ b) = keptM p a ++ keptM p b := List.filter_append ..
theorem keptM_le (p : α -> Bool) (l : List α) : (keptM p l).length <= l.length := List.length_filter_le ..
theorem take_succ_app {l : List α} {j : Nat} (h : j < l.length) : l.take (j + 1) = l.take j ++ [l[j]] := by simp
structure DInv (enc : α -> List Value) (m : Nat) (p : α -> Bool) (l : List α) (C j i : Nat) (cur : Array Value) : Prop where
 sz : cur.size = C * m
 len : i = (keptM p (l.take j)).length
 low : ∀ t, t < i * m -> cur[t]? = ((keptM p (l.take j)).flatMap enc)[t]?
 high : ∀ t, j * m <= t -> t < l.length * m -> cur[t]? = (l.flatMap enc)[t]?
theorem keptM_all {p : α -> Bool} {l : List α} (h : ∀ x ∈ l, p x = false) : keptM p l = l := by
 unfold keptM
 rw [List.filter_eq_self]
 intro x hx
 rw [h x hx]; rfl
variable {enc : α -> List Value} {m : Nat} {p : α -> Bool} {l : List α} {C j i : Nat} {cur : Array Value}
theorem DInv.ij (h : DInv enc m p l C j i cur) (hj : j <= l.length) : i <= j := by
 rw [h.len]
 refine Nat.le_trans (keptM_le _ _) ?_
 rw [List.length_take]; omega
theorem DInv.start (he : ∀ x, (enc x).length = m) {k : Nat} (hk : k < l.length) (h1 : p l[k] = true) (h2 : ∀ i (hi : i < l.length), i < k -> p l[i] = false) (hs : cur.size = C * m) (hc : ∀ t, t < l.length * m -> cur[t]? = (l.flatMap enc)[t]?) :
  DInv enc m p l C (k + 1) k cur := by
 have e1 : keptM p (l.take k) = l.take k := keptM_all (fun x hx => by
  obtain ⟨i, hi, rfl⟩ := List.getElem_of_mem hx
  rw [List.length_take] at hi
  rw [List.getElem_take]
  exact h2 i (by omega) (by omega))
 have e2 : keptM p (l.take (k + 1)) = l.take k := by
  rw [take_succ_app hk, keptM_app, e1]
  simp [keptM, h1]
 have hm : k * m <= l.length * m := Nat.mul_le_mul_right _ (by omega)
 refine ⟨hs, by rw [e2, List.length_take]; omega, fun t ht => ?_, fun t _ ht => hc t ht⟩
 rw [e2, hc t (by omega), <- flat_take he, List.getElem?_take, if_pos ht]
theorem DInv.skip (h : DInv enc m p l C j i cur) (hj : j < l.length) (hp : p l[j] = true) : DInv enc m p l C (j + 1) i cur := by
 have e : keptM p (l.take (j + 1)) = keptM p (l.take j) := by
  rw [take_succ_app hj, keptM_app]
  simp [keptM, hp]
 refine ⟨h.sz, by rw [e]; exact h.len, fun t ht => by rw [e]; exact h.low t ht, fun t h1 h2 => h.high t ?_ h2⟩
 rw [Nat.succ_mul] at h1; omega
theorem DInv.keep (he : ∀ x, (enc x).length = m) (h : DInv enc m p l C j i cur) (hj : j < l.length) (hp : p l[j] = false) {cur' : Array Value} (hs : cur'.size = cur.size)
  (hc : ∀ t, cur'[t]? = if i * m <= t /\ t < i * m + m then (enc l[j])[t - i * m]? else cur[t]?) : DInv enc m p l C (j + 1) (i + 1) cur' := by
 have e : keptM p (l.take (j + 1)) = keptM p (l.take j) ++ [l[j]] := by
  rw [take_succ_app hj, keptM_app]
  simp [keptM, hp]
 have hi := h.ij (by omega)
 have hm : i * m <= j * m := Nat.mul_le_mul_right _ hi
 have hfl := flat_len enc m he (keptM p (l.take j))
 rw [<- h.len] at hfl
 refine ⟨by rw [hs]; exact h.sz, by rw [e, List.length_append, <- h.len]; rfl, fun t ht => ?_, fun t h1 h2 => ?_⟩
 ·rw [Nat.succ_mul] at ht
  rw [e, List.flatMap_append, hc t]
  by_cases h3 : i * m <= t
  ·rw [if_pos ⟨h3, ht⟩, List.getElem?_append_right (by omega), hfl]
   simp
  ·rw [if_neg (by omega), List.getElem?_append_left (by omega)]
   exact h.low t (by omega)
 ·rw [Nat.succ_mul] at h1
  rw [hc t, if_neg (by omega)]
  exact h.high t (by omega) h2
theorem DInv.done (he : ∀ x, (enc x).length = m) (h : DInv enc m p l C l.length i cur) {w : World} {e : TypeId} {g : Nat} (hn : l.length <= C) (hC : C <= maxLen) {cur' : Array Value} (hg : w.heap[g]? = some (.cells cur' e (0, 0))) (hs : cur'.size = cur.size)
  (hc : ∀ t, t < i * m -> cur'[t]? = cur[t]?) : w.ownsRow 0 e m (.slice (some ⟨g, 0, none⟩) i C) (keptM p l).length ((keptM p l).flatMap enc) := by
 have e1 : l.take l.length = l := List.take_length
 have hl := h.len
 rw [e1] at hl
 have hi := h.ij (Nat.le_refl _)
 have := own_mk (e := e) (w := w) (size := m) (g := g) (n := i) (cap := C) (cur := cur') (xs := (keptM p l).flatMap enc) (by rw [flat_len enc m he, hl]) hg (by omega) hC (by rw [hs]; exact h.sz) (fun t ht => by
  rw [hc t ht, h.low t ht, e1])
 rwa [<- hl]
theorem DInv.none_ (h : ∀ i (hi : i < l.length), p l[i] = false) : keptM p l = l := keptM_all (fun x hx => by
 obtain ⟨i, hi, rfl⟩ := List.getElem_of_mem hx
 exact h i hi)
end
theorem run_copy_many (w : World) {t e : TypeId} {size bytes : Nat} (E : ElT t e size bytes) (ty : TypeId) (b o dLen dCap : Nat) (a : Addr) (sLen sCap : Nat) (cs : List Value) (hn : cs.length = Nat.min sLen dLen * size)
  (hsrc : ∀ j v, cs[j]? = some v -> w.cell? (a.add j) = some v) (hc : ∀ j, j < cs.length -> (w.cell? ⟨b, o + j, none⟩).isSome = true) (hf : ∀ j, j < cs.length -> w.frozen? ⟨b, o + j, none⟩ = false) (h1 : Ones cs) :
  (Builtin.copy_ #[t, t] ty #[.slice (some ⟨b, o, none⟩) dLen dCap, .slice (some a) sLen sCap]).run Tryz.prog w = .ok (goInt (Nat.min sLen dLen)) (w.setCells b o cs) := by
 obtain ⟨i0, z, hi0, hz0, hz1, hz2, hzs⟩ := E.info
 have hl := run_loadCells_list (P := Tryz.prog) w a cs hsrc
 have hst := run_storeCells_cells (P := Tryz.prog) b o cs 0 w (by simpa using hc) (by simpa using hf) h1
 simp only [Nat.add_zero] at hst
 rw [hn] at hl
 simp [Builtin.copy_, run_underlying E.und, Builtin.lenOf, Builtin.firstCells, sizeOf, typeInfo, hi0, hz1, hl, hst]
end
section
open Go.RowKit Go.Maps
theorem del_msg (w0 : World) (g : Nat) (lb : Array Value) (eg : ∀ args w, (callFunc g args).run Tryz.prog w = .ok (.enter g args) w) (p : MsgM -> Bool) (l : List MsgM)
  (hp : ∀ x ∈ l, ∀ W, Tch No w0 W -> Calls Tryz.prog g (#[.agg #[.int .i64 (x.id), .string ⟨(x.q).toArray⟩, .string ⟨(x.b).toArray⟩, .int .i64 (x.seq), .int .i64 (x.cnt), .int .i64 (x.who)]] ++ lb) W fun e w' => e = .returned (.bool (p x)) /\ Tch No W w')
  (v : Value) (w : World) (t0 : Tch No w0 w) (h : OwnN w0 50 6 l.length (l.flatMap encMsg) v w) (hn : l.length <= 100000000) :
  Calls Tryz.prog 85 #[v, .func (.func g) #[] lb] w fun e w' => ∃ v', e = .returned v' /\ OwnN w0 50 6 (keptM p l).length ((keptM p l).flatMap encMsg) v' w' /\ Tch No w0 w' := by
 have he : ∀ x, (encMsg x).length = 6 := fun _ => rfl
 have hc := CellsAt.ofRow h.1
 have hcs : ∀ i (hi : i < l.length), (l.flatMap encMsg)[i * 6 + 0]? = some (.int .i64 (l[i].id)) /\ (l.flatMap encMsg)[i * 6 + 1]? = some (.string ⟨(l[i].q).toArray⟩) /\ (l.flatMap encMsg)[i * 6 + 2]? = some (.string ⟨(l[i].b).toArray⟩) /\ (l.flatMap encMsg)[i * 6 + 3]? = some (.int .i64 (l[i].seq)) /\ (l.flatMap encMsg)[i * 6 + 4]? = some (.int .i64 (l[i].cnt)) /\ (l.flatMap encMsg)[i * 6 + 5]? = some (.int .i64 (l[i].who)) := fun i hi =>
  ⟨flat_get encMsg 6 he l i 0 hi (by decide), flat_get encMsg 6 he l i 1 hi (by decide), flat_get encMsg 6 he l i 2 hi (by decide), flat_get encMsg 6 he l i 3 hi (by decide), flat_get encMsg 6 he l i 4 hi (by decide), flat_get encMsg 6 he l i 5 hi (by decide)⟩
 have hI := idx_msg g lb eg (fun i => if h : i < l.length then p l[i] else false) (fun i => if h : i < l.length then l[i].id else 0) (fun i => if h : i < l.length then ⟨(l[i].q).toArray⟩ else ⟨#[]⟩) (fun i => if h : i < l.length then ⟨(l[i].b).toArray⟩ else ⟨#[]⟩) (fun i => if h : i < l.length then l[i].seq else 0) (fun i => if h : i < l.length then l[i].cnt else 0) (fun i => if h : i < l.length then l[i].who else 0) _ l.length v w hc (fun i hi => by
   simp only [dif_pos hi]
   exact hcs i hi) (fun k hk W t => by
   simp only [dif_pos hk]
   exact hp _ (List.getElem_mem _) W (t0.trans0 t))
 have HI := Lib.hid hI
 have HP := Lib.hid hp
 have HS := Lib.hid hcs
 have T0 := Lib.hid t0
 have HO := Lib.hid h
 obtain ⟨a, c, rfl, hc1, hc2⟩ := own_shape h.1
 have hml : c <= 9223372036854775807 := by unfold maxLen at hc2; omega
 clear hp hcs t0 h hI hc
 go_enter Tryz.func85, Tryz.ntmps85
 go_wp2_with fail
 refine HI.out.mono ?_
 rintro e w1 ⟨⟨r, rfl, hr⟩, T1⟩
 have TT1 := Lib.hid T1
 rcases hr with ⟨rfl, hall⟩ | ⟨k0, hk0, rfl, hhit, hno⟩
 ·have HA := Lib.hid hall
  clear hall
  go_wp2_with fail
  go_ret
  have e1 : keptM p l = l := DInv.none_ (fun i hi => by have := HA.out i hi; simpa only [dif_pos hi] using this)
  rw [e1]
  exact ⟨_, rfl, stb_own _ _ _ TT1.out HO.out, T0.out.trans0 TT1.out⟩
 ·have hex : ∃ g0 cur0, a = some ⟨g0, 0, none⟩ /\ Hid (w0.heap.size <= g0 /\ w1.heap[g0]? = some (.cells cur0 50 (0, 0)) /\ cur0.size = c * 6 /\ ∀ t, t < l.length * 6 -> cur0[t]? = (l.flatMap encMsg)[t]?) := by
   have h1 := stb_own _ _ _ TT1.out HO.out
   cases a with
   | none =>
    rcases h1.1.2 with ⟨_, h0⟩ | ⟨_, _, _, h0, _⟩
    ·omega
    ·cases h0
   | some a =>
    obtain ⟨g0, cur, rfl, q1, q2, q3, q4, q5, q6⟩ := own_get h1.1
    exact ⟨g0, cur, rfl, h1.2 g0 rfl, q1, q4, q6⟩
  obtain ⟨g0, cur0, rfl, Q⟩ := hex
  have D0 : Hid (DInv encMsg 6 p l c (k0 + 1) k0 cur0) := DInv.start he hk0 (by simpa only [dif_pos hk0] using hhit) (fun i hi h => by have := hno i h; simpa only [dif_pos hi] using this) Q.out.2.2.1 Q.out.2.2.2
  have hne1 : ((k0 : Int) == -1) = false := beq_eq_false_iff_ne.2 (by omega)
  clear hhit hno
  go_wp2_with fail
  go_loopg [5, 6, 7] l.length (fun kx s5 s6 _ wr => ∃ (i j : Nat) (cur : Array Value), s5 = .int .i64 i /\ s6 = .int .i64 j /\ i + 1 <= j /\ j <= l.length /\ l.length - j <= kx /\ Hid (DInv encMsg 6 p l c j i cur) /\ Hid (wr.heap[g0]? = some (.cells cur 50 (0, 0))) /\ Hid (Tch No w0 wr))
  case atStart => exact ⟨k0, k0 + 1, cur0, rfl, by go_num, Nat.le_refl _, by omega, by omega, D0.out, Q.out.2.1, T0.out.trans0 TT1.out⟩
  case round =>
   obtain ⟨i, j, cur, rfl, rfl, hij, hjl, hgk, D, HG, TW⟩ := hrel
   have hsz : cur.size = c * 6 := D.out.sz
   by_cases hlt : j < l.length
   ·have hltz : (j : Int) < (l.length : Int) := by omega
    have hjm : j * 6 + 6 <= l.length * 6 := by omega
    have hcm : l.length * 6 <= c * 6 := Nat.mul_le_mul_right _ hc1
    have e0 : wr.cell? ⟨g0, j * 6, none⟩ = some (.int .i64 (l[j].id)) := by rw [blk_cell HG.out, D.out.high (j * 6) (by omega) (by omega)]; exact flat_get encMsg 6 he l j 0 hlt (by decide)
    have e1 : wr.cell? ⟨g0, j * 6 + 1, none⟩ = some (.string ⟨(l[j].q).toArray⟩) := by rw [blk_cell HG.out, D.out.high (j * 6 + 1) (by omega) (by omega)]; exact flat_get encMsg 6 he l j 1 hlt (by decide)
    have e2 : wr.cell? ⟨g0, j * 6 + 2, none⟩ = some (.string ⟨(l[j].b).toArray⟩) := by rw [blk_cell HG.out, D.out.high (j * 6 + 2) (by omega) (by omega)]; exact flat_get encMsg 6 he l j 2 hlt (by decide)
    have e3 : wr.cell? ⟨g0, j * 6 + 3, none⟩ = some (.int .i64 (l[j].seq)) := by rw [blk_cell HG.out, D.out.high (j * 6 + 3) (by omega) (by omega)]; exact flat_get encMsg 6 he l j 3 hlt (by decide)
    have e4 : wr.cell? ⟨g0, j * 6 + 4, none⟩ = some (.int .i64 (l[j].cnt)) := by rw [blk_cell HG.out, D.out.high (j * 6 + 4) (by omega) (by omega)]; exact flat_get encMsg 6 he l j 4 hlt (by decide)
    have e5 : wr.cell? ⟨g0, j * 6 + 5, none⟩ = some (.int .i64 (l[j].who)) := by rw [blk_cell HG.out, D.out.high (j * 6 + 5) (by omega) (by omega)]; exact flat_get encMsg 6 he l j 5 hlt (by decide)
    have HF := HP.out _ (List.getElem_mem hlt)
    obtain ⟨x, hx⟩ : ∃ x, l[j] = x := ⟨_, rfl⟩
    have HX := Lib.hid hx
    rw [hx] at e0 e1 e2 e3 e4 e5 HF
    clear hx
    obtain ⟨x0, hx0⟩ : ∃ z : Int, x.id = z := ⟨_, rfl⟩
    obtain ⟨x1, hx1⟩ : ∃ z : ByteArray, (⟨(x.q).toArray⟩ : ByteArray) = z := ⟨_, rfl⟩
    obtain ⟨x2, hx2⟩ : ∃ z : ByteArray, (⟨(x.b).toArray⟩ : ByteArray) = z := ⟨_, rfl⟩
    obtain ⟨x3, hx3⟩ : ∃ z : Int, x.seq = z := ⟨_, rfl⟩
    obtain ⟨x4, hx4⟩ : ∃ z : Int, x.cnt = z := ⟨_, rfl⟩
    obtain ⟨x5, hx5⟩ : ∃ z : Int, x.who = z := ⟨_, rfl⟩
    rw [hx0, hx1, hx2, hx3, hx4, hx5] at HF
    rw [hx0] at e0
    rw [hx1] at e1
    rw [hx2] at e2
    rw [hx3] at e3
    rw [hx4] at e4
    rw [hx5] at e5
    have HVS : Hid (encMsg x = [.int .i64 x0, .string x1, .string x2, .int .i64 x3, .int .i64 x4, .int .i64 x5]) := by rw [Hid, <- hx0, <- hx1, <- hx2, <- hx3, <- hx4, <- hx5]; rfl
    clear hx0 hx1 hx2 hx3 hx4 hx5
    have HG2 := Lib.hid HF
    clear HF
    by_cases hit : p x = true
    ·rw [hit] at HG2
     have D2 : Hid (DInv encMsg 6 p l c (j + 1) i cur) := D.out.skip hlt (by rw [HX.out]; exact hit)
     clear hit
     go_wp2_with fail
     refine (HG2.out _ (TW.out.trans0 (Tch.alloc _ _))).mono ?_
     rintro e w3 ⟨rfl, T3⟩
     go_wp2_with fail
     go_roundg (l.length - (j + 1))
     case measure => omega
     case rel => exact ⟨i, j + 1, cur, rfl, by go_num, by omega, by omega, Nat.le_refl _, D2.out, blk_tch ((Tch.alloc _ _).trans0 T3) HG.out (fun h => h), TW.out.trans0 ((Tch.alloc _ _).trans0 T3)⟩
    ·have hd : p x = false := by simpa using hit
     rw [hd] at HG2
     have PX : Hid (p l[j] = false) := by rw [Hid, HX.out]; exact hd
     clear hit hd
     have him : i * 6 + 6 <= j * 6 := by omega
     go_wp2_with fail
     refine (HG2.out _ (TW.out.trans0 (Tch.alloc _ _))).mono ?_
     rintro e w3 ⟨rfl, T3⟩
     have TT3 : Hid (Tch No wr w3) := (Tch.alloc _ _).trans0 T3
     have H3 := Lib.hid (blk_tch TT3.out HG.out (fun h => h))
     have bx0 := T3.cell (box_cell wr _ _ 0 (by simp)) (fun h => h)
     have bx1 := T3.cell (box_cell wr _ _ 1 (by simp)) (fun h => h)
     have bx2 := T3.cell (box_cell wr _ _ 2 (by simp)) (fun h => h)
     have bx3 := T3.cell (box_cell wr _ _ 3 (by simp)) (fun h => h)
     have bx4 := T3.cell (box_cell wr _ _ 4 (by simp)) (fun h => h)
     have bx5 := T3.cell (box_cell wr _ _ 5 (by simp)) (fun h => h)
     simp only [List.getElem_toArray, List.getElem_cons_zero, List.getElem_cons_succ] at bx0 bx1 bx2 bx3 bx4 bx5
     obtain ⟨o0, ho0⟩ : ∃ o, w3.cell? ⟨g0, i * 6, none⟩ = some o := ⟨cur[i * 6]'(by omega), by rw [blk_cell H3.out]; exact Array.getElem?_eq_getElem _⟩
     have hf0 : w3.frozen? ⟨g0, i * 6, none⟩ = false := blk_free H3.out _
     obtain ⟨o1, ho1⟩ : ∃ o, w3.cell? ⟨g0, i * 6 + 1, none⟩ = some o := ⟨cur[i * 6 + 1]'(by omega), by rw [blk_cell H3.out]; exact Array.getElem?_eq_getElem _⟩
     have hf1 : w3.frozen? ⟨g0, i * 6 + 1, none⟩ = false := blk_free H3.out _
     obtain ⟨o2, ho2⟩ : ∃ o, w3.cell? ⟨g0, i * 6 + 2, none⟩ = some o := ⟨cur[i * 6 + 2]'(by omega), by rw [blk_cell H3.out]; exact Array.getElem?_eq_getElem _⟩
     have hf2 : w3.frozen? ⟨g0, i * 6 + 2, none⟩ = false := blk_free H3.out _
     obtain ⟨o3, ho3⟩ : ∃ o, w3.cell? ⟨g0, i * 6 + 3, none⟩ = some o := ⟨cur[i * 6 + 3]'(by omega), by rw [blk_cell H3.out]; exact Array.getElem?_eq_getElem _⟩
     have hf3 : w3.frozen? ⟨g0, i * 6 + 3, none⟩ = false := blk_free H3.out _
     obtain ⟨o4, ho4⟩ : ∃ o, w3.cell? ⟨g0, i * 6 + 4, none⟩ = some o := ⟨cur[i * 6 + 4]'(by omega), by rw [blk_cell H3.out]; exact Array.getElem?_eq_getElem _⟩
     have hf4 : w3.frozen? ⟨g0, i * 6 + 4, none⟩ = false := blk_free H3.out _
     obtain ⟨o5, ho5⟩ : ∃ o, w3.cell? ⟨g0, i * 6 + 5, none⟩ = some o := ⟨cur[i * 6 + 5]'(by omega), by rw [blk_cell H3.out]; exact Array.getElem?_eq_getElem _⟩
     have hf5 : w3.frozen? ⟨g0, i * 6 + 5, none⟩ = false := blk_free H3.out _
     clear T3
     go_wp2_with fail
     go_roundg (l.length - (j + 1))
     case measure => omega
     case rel =>
      obtain ⟨cur', q1, q2, q3⟩ := blk_sets [.int .i64 x0, .string x1, .string x2, .int .i64 x3, .int .i64 x4, .int .i64 x5] (i * 6) w3 cur H3.out (by simp only [List.length_cons, List.length_nil]; omega)
      refine ⟨i + 1, j + 1, cur', by go_num, by go_num, by omega, by omega, Nat.le_refl _, D.out.keep he hlt PX.out q2 (fun t => ?_), q1, ((TW.out.trans0 TT3.out).fresh (F := fun k => k = g0) (Tch.setCells (F := fun k => k = g0) (b := g0) rfl [.int .i64 x0, .string x1, .string x2, .int .i64 x3, .int .i64 x4, .int .i64 x5] (i * 6) w3) (fun k h => by rw [h]; exact Q.out.1))⟩
      rw [q3 t, HX.out, HVS.out]
      rfl
   ·obtain rfl : j = l.length := by omega
    have hii : i < l.length := by omega
    have hic : i < c := by omega
    have hltz : ¬ ((l.length : Int) < (l.length : Int)) := by omega
    obtain ⟨zs, hzs⟩ : ∃ zs, (Builtin.zeroCells (Value.agg #[.int .i64 0, .string ⟨#[]⟩, .string ⟨#[]⟩, .int .i64 0, .int .i64 0, .int .i64 0]).cells (l.length - i)).toList = zs := ⟨_, rfl⟩
    have hzl : zs.length = (l.length - i) * 6 := by rw [<- hzs, zc_len]; rfl
    have hz1 : Ones zs := by
     rw [<- hzs]
     exact zc_one _ _ (fun q hq => by
      have hq' : q < 6 := hq
      have : q = 0 ∨ q = 1 ∨ q = 2 ∨ q = 3 ∨ q = 4 ∨ q = 5 := by omega
      rcases this with rfl | rfl | rfl | rfl | rfl | rfl <;> rfl) (by decide)
    have hfit : i * 6 + zs.length <= cur.size := by
     have : i * 6 + (l.length - i) * 6 <= c * 6 := by rw [<- Nat.add_mul]; exact Nat.mul_le_mul_right _ (by omega)
     omega
    have hcl : ∀ ty, (Builtin.clear_ #[22] ty #[.slice (some ⟨g0, i * 6, none⟩) (l.length - i) (c - i)]).run Tryz.prog wr = .ok (.tuple #[]) (wr.setCells g0 (i * 6) zs) := fun ty =>
     run_clear_many wr _ 50 ty (Value.agg #[.int .i64 0, .string ⟨#[]⟩, .string ⟨#[]⟩, .int .i64 0, .int .i64 0, .int .i64 0]) eltMsg.und (fun w => by kernel_rfl) g0 (i * 6) _ _ (by omega) zs hzs hz1 (fun q hq => by rw [blk_cell HG.out, Array.getElem?_eq_getElem (by omega)]; rfl) (fun q _ => blk_free HG.out _)
    have ZZ : Hid (i * 6 + zs.length <= cur.size) := hfit
    clear hzs hzl hz1 hfit hsz
    go_wp2
    go_ret
    obtain ⟨cur', q1, q2, q3⟩ := blk_sets zs (i * 6) wr cur HG.out ZZ.out
    exact ⟨_, rfl, ⟨D.out.done he hc1 hc2 q1 q2 (fun t ht => by rw [q3 t, if_neg (by omega)]), fun b hb => by
     have hb' : g0 = b := by simpa [Value.ownBlock] using hb
     have hq := Q.out.1
     omega⟩, TW.out.fresh (F := fun k => k = g0) (Tch.setCells (F := fun k => k = g0) (b := g0) rfl zs (i * 6) wr) (fun k h => by rw [h]; exact Q.out.1)⟩
end
end Go.Proofs.YtelaljoebdpicaaGreat
