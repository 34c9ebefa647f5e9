/- Part 11 of what the proof of StoreIds rests on. No condition. -/
import Derived.Laws.IdiomCopy
import Derived.Test.YtafndmnbnmlklaaGreatPStoreIds09
import Derived.Test.YtafndmnbnmlklaaGreatPStoreIds10
namespace Go.Proofs.YtafndmnbnmlklaaGreat
set_option maxRecDepth 100000
set_option maxHeartbeats 60000000
set_option linter.unusedVariables false
set_option linter.unusedSimpArgs false
set_option linter.unusedSectionVars false
section
open Go.RowKit Go.Maps
theorem blk_sets {b : Nat} {e : TypeId} : ∀ (vs : List Value) (o : Nat) (w : World) (cur : Array Value), w.heap[b]? = some (.cells cur e (0, 0)) -> o + vs.length <= cur.size ->
  ∃ cur' : Array Value, (w.setCells b o vs).heap[b]? = some (.cells cur' e (0, 0)) /\ cur'.size = cur.size /\ ∀ t, cur'[t]? = if o <= t /\ t < o + vs.length then vs[t - o]? else cur[t]?
 | [], o, w, cur, h, _ => ⟨cur, h, rfl, fun t => by rw [if_neg (by simp only [List.length_nil]; omega)]⟩
 | v :: r, o, w, cur, h, hl => by
  simp only [List.length_cons] at hl
  obtain ⟨cur', h1, h2, h3⟩ := blk_sets r (o + 1) (w.setCell ⟨b, o, none⟩ v) _ (blk_set h o v) (by rw [Array.size_setIfInBounds]; omega)
  refine ⟨cur', h1, by rw [h2, Array.size_setIfInBounds], fun t => ?_⟩
  rw [h3, List.length_cons]
  by_cases h4 : o + 1 <= t /\ t < o + 1 + r.length
  ·rw [if_pos h4, if_pos (by omega), show t - o = (t - (o + 1)) + 1 by omega, List.getElem?_cons_succ]
  ·rw [if_neg h4, Array.getElem?_setIfInBounds]
   by_cases h5 : o = t
   ·subst h5
    rw [if_pos rfl, if_pos (by omega), if_pos (by omega)]
    simp
   ·rw [if_neg h5, if_neg (by omega)]
theorem Tch.setCells {F : Nat -> Prop} {b : Nat} (hF : F b) : ∀ (vs : List Value) (o : Nat) (w : World), Tch F w (w.setCells b o vs)
 | [], _, w => Tch.refl F w
 | v :: r, o, w => (Tch.setCell (F := F) w ⟨b, o, none⟩ v (fun _ => hF)).trans (Tch.setCells hF r (o + 1) _) (fun _ _ h => h)
theorem own_mk {w : World} {e : TypeId} {size g n cap : Nat} {cur : Array Value} {xs : List Value} (hx : xs.length = n * size) (hg : w.heap[g]? = some (.cells cur e (0, 0))) (h1 : n <= cap) (h2 : cap <= maxLen) (h3 : cur.size = cap * size)
  (h : ∀ t, t < n * size -> cur[t]? = xs[t]?) : w.ownsRow 0 e size (.slice (some ⟨g, 0, none⟩) n cap) n xs := by
 refine ⟨hx, .inr ⟨g, cap, cur, rfl, Nat.zero_le _, hg, h1, h2, h3, ?_⟩⟩
 apply List.ext_getElem?
 intro t
 rw [List.getElem?_take]
 split
 ·rename_i ht
  rw [<- h t ht]
  simp
 ·rename_i ht
  rw [List.getElem?_eq_none (by omega)]
theorem own_get {w : World} {e : TypeId} {size n cap : Nat} {a : Addr} {xs : List Value} (h : w.ownsRow 0 e size (.slice (some a) n cap) n xs) :
  ∃ g cur, a = ⟨g, 0, none⟩ /\ w.heap[g]? = some (.cells cur e (0, 0)) /\ n <= cap /\ cap <= maxLen /\ cur.size = cap * size /\ xs.length = n * size /\ ∀ t, t < n * size -> cur[t]? = xs[t]? := by
 rcases h.2 with ⟨h1, _⟩ | ⟨g, cap', cur, h1, _, h3, h4, h5, h6, h7⟩
 ·cases h1
 ·injection h1 with h1 _ h2
  injection h1 with h1
  subst h1; subst h2
  refine ⟨g, cur, rfl, h3, h4, h5, h6, h.1, fun t ht => ?_⟩
  rw [<- h7, List.getElem?_take, if_pos ht]
  simp
section
variable {α : Type}
def keptM (p : α -> Bool) (l : List α) : List α := l.filter (fun x => !p x)
theorem keptM_app (p : α -> Bool) (a b : List α) : keptM p (a ++ b) = keptM p a ++ keptM p b := List.filter_append ..
theorem keptM_le (p : α -> Bool) (l : List α) : (keptM p l).length <= l.length := List.length_filter_le ..
theorem take_succ_app {l : List α} {j : Nat} (h : j < l.length) : l.take (j + 1) = l.take j ++ [l[j]] := by simp
structure DInv (enc : α -> List Value) (m : Nat) (p : α -> Bool) (l : List α) (C j i : Nat) (cur : Array Value) : Prop where
 sz : cur.size = C * m
 len : i = (keptM p (l.take j)).length
 low : ∀ t, t < i * m -> cur[t]? = ((keptM p (l.take j)).flatMap enc)[t]?
 high : ∀ t, j * m <= t -> t < l.length * m -> cur[t]? = (l.flatMap enc)[t]?
theorem keptM_all {p : α -> Bool} {l : List α} (h : ∀ x ∈ l, p x = false) : keptM p l = l := by
 unfold keptM
 rw [List.filter_eq_self]
 intro x hx
 rw [h x hx]; rfl
variable {enc : α -> List Value} {m : Nat} {p : α -> Bool} {l : List α} {C j i : Nat} {cur : Array Value}
theorem DInv.ij (h : DInv enc m p l C j i cur) (hj : j <= l.length) : i <= j := by
 rw [h.len]
 refine Nat.le_trans (keptM_le _ _) ?_
 rw [List.length_take]; omega
theorem DInv.start (he : ∀ x, (enc x).length = m) {k : Nat} (hk : k < l.length) (h1 : p l[k] = true) (h2 : ∀ i (hi : i < l.length), i < k -> p l[i] = false) (hs : cur.size = C * m) (hc : ∀ t, t < l.length * m -> cur[t]? = (l.flatMap enc)[t]?) :
  DInv enc m p l C (k + 1) k cur := by
 have e1 : keptM p (l.take k) = l.take k := keptM_all (fun x hx => by
  obtain ⟨i, hi, rfl⟩ := List.getElem_of_mem hx
  rw [List.length_take] at hi
  rw [List.getElem_take]
  exact h2 i (by omega) (by omega))
 have e2 : keptM p (l.take (k + 1)) = l.take k := by
  rw [take_succ_app hk, keptM_app, e1]
  simp [keptM, h1]
 have hm : k * m <= l.length * m := Nat.mul_le_mul_right _ (by omega)
 refine ⟨hs, by rw [e2, List.length_take]; omega, fun t ht => ?_, fun t _ ht => hc t ht⟩
 rw [e2, hc t (by omega), <- flat_take he, List.getElem?_take, if_pos ht]
theorem DInv.skip (h : DInv enc m p l C j i cur) (hj : j < l.length) (hp : p l[j] = true) : DInv enc m p l C (j + 1) i cur := by
 have e : keptM p (l.take (j + 1)) = keptM p (l.take j) := by
  rw [take_succ_app hj, keptM_app]
  simp [keptM, hp]
 refine ⟨h.sz, by rw [e]; exact h.len, fun t ht => by rw [e]; exact h.low t ht, fun t h1 h2 => h.high t ?_ h2⟩
 rw [Nat.succ_mul] at h1; omega
theorem DInv.keep (he : ∀ x, (enc x).length = m) (h : DInv enc m p l C j i cur) (hj : j < l.length) (hp : p l[j] = false) {cur' : Array Value} (hs : cur'.size = cur.size)
  (hc : ∀ t, cur'[t]? = if i * m <= t /\ t < i * m + m then (enc l[j])[t - i * m]? else cur[t]?) : DInv enc m p l C (j + 1) (i + 1) cur' := by
 have e : keptM p (l.take (j + 1)) = keptM p (l.take j) ++ [l[j]] := by
  rw [take_succ_app hj, keptM_app]
  simp [keptM, hp]
 have hi := h.ij (by omega)
 have hm : i * m <= j * m := Nat.mul_le_mul_right _ hi
 have hfl := flat_len enc m he (keptM p (l.take j))
 rw [<- h.len] at hfl
 refine ⟨by rw [hs]; exact h.sz, by rw [e, List.length_append, <- h.len]; rfl, fun t ht => ?_, fun t h1 h2 => ?_⟩
 ·rw [Nat.succ_mul] at ht
  rw [e, List.flatMap_append, hc t]
  by_cases h3 : i * m <= t
  ·rw [if_pos ⟨h3, ht⟩, List.getElem?_append_right (by omega), hfl]
   simp
  ·rw [if_neg (by omega), List.getElem?_append_left (by omega)]
   exact h.low t (by omega)
 ·rw [Nat.succ_mul] at h1
  rw [hc t, if_neg (by omega)]
  exact h.high t (by omega) h2
theorem DInv.done (he : ∀ x, (enc x).length = m) (h : DInv enc m p l C l.length i cur) {w : World} {e : TypeId} {g : Nat} (hn : l.length <= C) (hC : C <= maxLen) {cur' : Array Value} (hg : w.heap[g]? = some (.cells cur' e (0, 0))) (hs : cur'.size = cur.size)
  (hc : ∀ t, t < i * m -> cur'[t]? = cur[t]?) : w.ownsRow 0 e m (.slice (some ⟨g, 0, none⟩) i C) (keptM p l).length ((keptM p l).flatMap enc) := by
 have e1 : l.take l.length = l := List.take_length
 have hl := h.len
 rw [e1] at hl
 have hi := h.ij (Nat.le_refl _)
 have := own_mk (e := e) (w := w) (size := m) (g := g) (n := i) (cap := C) (cur := cur') (xs := (keptM p l).flatMap enc) (by rw [flat_len enc m he, hl]) hg (by omega) hC (by rw [hs]; exact h.sz) (fun t ht => by
  rw [hc t ht, h.low t ht, e1])
 rwa [<- hl]
theorem DInv.none_ (h : ∀ i (hi : i < l.length), p l[i] = false) : keptM p l = l := keptM_all (fun x hx => by
 obtain ⟨i, hi, rfl⟩ := List.getElem_of_mem hx
 exact h i hi)
end
theorem run_copy_many (w : World) {t e : TypeId} {size bytes : Nat} (E : ElT t e size bytes) (ty : TypeId) (b o dLen dCap : Nat) (a : Addr) (sLen sCap : Nat) (cs : List Value) (hn : cs.length = Nat.min sLen dLen * size)
  (hsrc : ∀ j v, cs[j]? = some v -> w.cell? (a.add j) = some v) (hc : ∀ j, j < cs.length -> (w.cell? ⟨b, o + j, none⟩).isSome = true) (hf : ∀ j, j < cs.length -> w.frozen? ⟨b, o + j, none⟩ = false) (h1 : Ones cs) :
  (Builtin.copy_ #[t, t] ty #[.slice (some ⟨b, o, none⟩) dLen dCap, .slice (some a) sLen sCap]).run Tryz.prog w = .ok (goInt (Nat.min sLen dLen)) (w.setCells b o cs) := by
 obtain ⟨i0, z, hi0, hz0, hz1, hz2, hzs⟩ := E.info
 have hl := run_loadCells_list (P := Tryz.prog) w a cs hsrc
 have hst := run_storeCells_cells (P := Tryz.prog) b o cs 0 w (by simpa using hc) (by simpa using hf) h1
 simp only [Nat.add_zero] at hst
 rw [hn] at hl
 simp [Builtin.copy_, run_underlying E.und, Builtin.lenOf, Builtin.firstCells, sizeOf, typeInfo, hi0, hz1, hl, hst]
end
section
open Go.RowKit Go.Maps
theorem del_pend (w0 : World) (g : Nat) (lb : Array Value) (eg : ∀ args w, (callFunc g args).run Tryz.prog w = .ok (.enter g args) w) (p : (PendM × Value) -> Bool) (l : List (PendM × Value)) (o : ∀ x ∈ l, ∃ a n c, x.2 = .slice a n c)
  (hp : ∀ x ∈ l, ∀ W, Tch No w0 W -> Calls Tryz.prog g (#[.agg #[.int .i64 (x.1.tid), x.2]] ++ lb) W fun e w' => e = .returned (.bool (p x)) /\ Tch No W w')
  (v : Value) (w : World) (t0 : Tch No w0 w) (h : OwnN w0 75 2 l.length (l.flatMap (encPr (fun q : PendM => q.tid))) v w) (hn : l.length <= 100000000) :
  Calls Tryz.prog 232 #[v, .func (.func g) #[] lb] w fun e w' => ∃ v', e = .returned v' /\ OwnN w0 75 2 (keptM p l).length ((keptM p l).flatMap (encPr (fun q : PendM => q.tid))) v' w' /\ Tch No w0 w' := by
 have he : ∀ x, ((encPr (fun q : PendM => q.tid)) x).length = 2 := fun _ => rfl
 have hc := CellsAt.ofRow h.1
 have hcs : ∀ i (hi : i < l.length), (l.flatMap (encPr (fun q : PendM => q.tid)))[i * 2 + 0]? = some (.int .i64 (l[i].1.tid)) /\ (l.flatMap (encPr (fun q : PendM => q.tid)))[i * 2 + 1]? = some (l[i].2) := fun i hi =>
  ⟨flat_get (encPr (fun q : PendM => q.tid)) 2 he l i 0 hi (by decide), flat_get (encPr (fun q : PendM => q.tid)) 2 he l i 1 hi (by decide)⟩
 have hI := idx_pend g lb eg (fun i => if h : i < l.length then p l[i] else false) (fun i => if h : i < l.length then l[i].1.tid else 0) (fun i => if h : i < l.length then l[i].2 else .bool false) (fun i => by show Value.oneCell' (if h : i < l.length then _ else _) = true; split; obtain ⟨_, _, _, ho⟩ := o _ (List.getElem_mem (by assumption)); rw [ho]; rfl; rfl) _ l.length v w hc (fun i hi => by
   simp only [dif_pos hi]
   exact hcs i hi) (fun k hk W t => by
   simp only [dif_pos hk]
   exact hp _ (List.getElem_mem _) W (t0.trans0 t))
 have HI := Lib.hid hI
 have HP := Lib.hid hp
 have HS := Lib.hid hcs
 have T0 := Lib.hid t0
 have HO := Lib.hid h
 have OO := Lib.hid o
 obtain ⟨a, c, rfl, hc1, hc2⟩ := own_shape h.1
 have hml : c <= 9223372036854775807 := by unfold maxLen at hc2; omega
 clear hp hcs t0 h hI hc o
 go_enter Tryz.func232, Tryz.ntmps232
 go_wp2_with fail
 refine HI.out.mono ?_
 rintro e w1 ⟨⟨r, rfl, hr⟩, T1⟩
 have TT1 := Lib.hid T1
 rcases hr with ⟨rfl, hall⟩ | ⟨k0, hk0, rfl, hhit, hno⟩
 ·have HA := Lib.hid hall
  clear hall
  go_wp2_with fail
  go_ret
  have e1 : keptM p l = l := DInv.none_ (fun i hi => by have := HA.out i hi; simpa only [dif_pos hi] using this)
  rw [e1]
  exact ⟨_, rfl, stb_own _ _ _ TT1.out HO.out, T0.out.trans0 TT1.out⟩
 ·have hex : ∃ g0 cur0, a = some ⟨g0, 0, none⟩ /\ Hid (w0.heap.size <= g0 /\ w1.heap[g0]? = some (.cells cur0 75 (0, 0)) /\ cur0.size = c * 2 /\ ∀ t, t < l.length * 2 -> cur0[t]? = (l.flatMap (encPr (fun q : PendM => q.tid)))[t]?) := by
   have h1 := stb_own _ _ _ TT1.out HO.out
   cases a with
   | none =>
    rcases h1.1.2 with ⟨_, h0⟩ | ⟨_, _, _, h0, _⟩
    ·omega
    ·cases h0
   | some a =>
    obtain ⟨g0, cur, rfl, q1, q2, q3, q4, q5, q6⟩ := own_get h1.1
    exact ⟨g0, cur, rfl, h1.2 g0 rfl, q1, q4, q6⟩
  obtain ⟨g0, cur0, rfl, Q⟩ := hex
  have D0 : Hid (DInv (encPr (fun q : PendM => q.tid)) 2 p l c (k0 + 1) k0 cur0) := DInv.start he hk0 (by simpa only [dif_pos hk0] using hhit) (fun i hi h => by have := hno i h; simpa only [dif_pos hi] using this) Q.out.2.2.1 Q.out.2.2.2
  have hne1 : ((k0 : Int) == -1) = false := beq_eq_false_iff_ne.2 (by omega)
  clear hhit hno
  go_wp2_with fail
  go_loopg [5, 6, 7] l.length (fun kx s5 s6 _ wr => ∃ (i j : Nat) (cur : Array Value), s5 = .int .i64 i /\ s6 = .int .i64 j /\ i + 1 <= j /\ j <= l.length /\ l.length - j <= kx /\ Hid (DInv (encPr (fun q : PendM => q.tid)) 2 p l c j i cur) /\ Hid (wr.heap[g0]? = some (.cells cur 75 (0, 0))) /\ Hid (Tch No w0 wr))
  case atStart => exact ⟨k0, k0 + 1, cur0, rfl, by go_num, Nat.le_refl _, by omega, by omega, D0.out, Q.out.2.1, T0.out.trans0 TT1.out⟩
  case round =>
   obtain ⟨i, j, cur, rfl, rfl, hij, hjl, hgk, D, HG, TW⟩ := hrel
   have hsz : cur.size = c * 2 := D.out.sz
   by_cases hlt : j < l.length
   ·have hltz : (j : Int) < (l.length : Int) := by omega
    have hjm : j * 2 + 2 <= l.length * 2 := by omega
    have hcm : l.length * 2 <= c * 2 := Nat.mul_le_mul_right _ hc1
    have e0 : wr.cell? ⟨g0, j * 2, none⟩ = some (.int .i64 (l[j].1.tid)) := by rw [blk_cell HG.out, D.out.high (j * 2) (by omega) (by omega)]; exact flat_get (encPr (fun q : PendM => q.tid)) 2 he l j 0 hlt (by decide)
    have e1 : wr.cell? ⟨g0, j * 2 + 1, none⟩ = some (l[j].2) := by rw [blk_cell HG.out, D.out.high (j * 2 + 1) (by omega) (by omega)]; exact flat_get (encPr (fun q : PendM => q.tid)) 2 he l j 1 hlt (by decide)
    have HF := HP.out _ (List.getElem_mem hlt)
    obtain ⟨x, hx⟩ : ∃ x, l[j] = x := ⟨_, rfl⟩
    have HX := Lib.hid hx
    rw [hx] at e0 e1 HF
    obtain ⟨qa, qn, qc, hov⟩ := OO.out _ (List.getElem_mem hlt)
    rw [hx] at hov
    clear hx
    obtain ⟨x0, hx0⟩ : ∃ z : Int, x.1.tid = z := ⟨_, rfl⟩
    have hx1 : x.2 = .slice qa qn qc := hov
    rw [hx0, hx1] at HF
    rw [hx0] at e0
    rw [hx1] at e1
    have HVS : Hid ((encPr (fun q : PendM => q.tid)) x = [.int .i64 x0, .slice qa qn qc]) := by rw [Hid, <- hx0, <- hx1]; rfl
    clear hx0 hx1 hov
    have HG2 := Lib.hid HF
    clear HF
    by_cases hit : p x = true
    ·rw [hit] at HG2
     have D2 : Hid (DInv (encPr (fun q : PendM => q.tid)) 2 p l c (j + 1) i cur) := D.out.skip hlt (by rw [HX.out]; exact hit)
     clear hit
     go_wp2_with fail
     refine (HG2.out _ (TW.out.trans0 (Tch.alloc _ _))).mono ?_
     rintro e w3 ⟨rfl, T3⟩
     go_wp2_with fail
     go_roundg (l.length - (j + 1))
     case measure => omega
     case rel => exact ⟨i, j + 1, cur, rfl, by go_num, by omega, by omega, Nat.le_refl _, D2.out, blk_tch ((Tch.alloc _ _).trans0 T3) HG.out (fun h => h), TW.out.trans0 ((Tch.alloc _ _).trans0 T3)⟩
    ·have hd : p x = false := by simpa using hit
     rw [hd] at HG2
     have PX : Hid (p l[j] = false) := by rw [Hid, HX.out]; exact hd
     clear hit hd
     have him : i * 2 + 2 <= j * 2 := by omega
     go_wp2_with fail
     refine (HG2.out _ (TW.out.trans0 (Tch.alloc _ _))).mono ?_
     rintro e w3 ⟨rfl, T3⟩
     have TT3 : Hid (Tch No wr w3) := (Tch.alloc _ _).trans0 T3
     have H3 := Lib.hid (blk_tch TT3.out HG.out (fun h => h))
     have bx0 := T3.cell (box_cell wr _ _ 0 (by simp)) (fun h => h)
     have bx1 := T3.cell (box_cell wr _ _ 1 (by simp)) (fun h => h)
     simp only [List.getElem_toArray, List.getElem_cons_zero, List.getElem_cons_succ] at bx0 bx1
     obtain ⟨o0, ho0⟩ : ∃ o, w3.cell? ⟨g0, i * 2, none⟩ = some o := ⟨cur[i * 2]'(by omega), by rw [blk_cell H3.out]; exact Array.getElem?_eq_getElem _⟩
     have hf0 : w3.frozen? ⟨g0, i * 2, none⟩ = false := blk_free H3.out _
     obtain ⟨o1, ho1⟩ : ∃ o, w3.cell? ⟨g0, i * 2 + 1, none⟩ = some o := ⟨cur[i * 2 + 1]'(by omega), by rw [blk_cell H3.out]; exact Array.getElem?_eq_getElem _⟩
     have hf1 : w3.frozen? ⟨g0, i * 2 + 1, none⟩ = false := blk_free H3.out _
     clear T3
     go_wp2_with fail
     go_roundg (l.length - (j + 1))
     case measure => omega
     case rel =>
      obtain ⟨cur', q1, q2, q3⟩ := blk_sets [.int .i64 x0, .slice qa qn qc] (i * 2) w3 cur H3.out (by simp only [List.length_cons, List.length_nil]; omega)
      refine ⟨i + 1, j + 1, cur', by go_num, by go_num, by omega, by omega, Nat.le_refl _, D.out.keep he hlt PX.out q2 (fun t => ?_), q1, ((TW.out.trans0 TT3.out).fresh (F := fun k => k = g0) (Tch.setCells (F := fun k => k = g0) (b := g0) rfl [.int .i64 x0, .slice qa qn qc] (i * 2) w3) (fun k h => by rw [h]; exact Q.out.1))⟩
      rw [q3 t, HX.out, HVS.out]
      rfl
   ·obtain rfl : j = l.length := by omega
    have hii : i < l.length := by omega
    have hic : i < c := by omega
    have hltz : ¬ ((l.length : Int) < (l.length : Int)) := by omega
    obtain ⟨zs, hzs⟩ : ∃ zs, (Builtin.zeroCells (Value.agg #[.int .i64 0, .slice none 0 0]).cells (l.length - i)).toList = zs := ⟨_, rfl⟩
    have hzl : zs.length = (l.length - i) * 2 := by rw [<- hzs, zc_len]; rfl
    have hz1 : Ones zs := by
     rw [<- hzs]
     exact zc_one _ _ (fun q hq => by
      have hq' : q < 2 := hq
      have : q = 0 ∨ q = 1 := by omega
      rcases this with rfl | rfl <;> rfl) (by decide)
    have hfit : i * 2 + zs.length <= cur.size := by
     have : i * 2 + (l.length - i) * 2 <= c * 2 := by rw [<- Nat.add_mul]; exact Nat.mul_le_mul_right _ (by omega)
     omega
    have hcl : ∀ ty, (Builtin.clear_ #[27] ty #[.slice (some ⟨g0, i * 2, none⟩) (l.length - i) (c - i)]).run Tryz.prog wr = .ok (.tuple #[]) (wr.setCells g0 (i * 2) zs) := fun ty =>
     run_clear_many wr _ 75 ty (Value.agg #[.int .i64 0, .slice none 0 0]) eltPend.und (fun w => by kernel_rfl) g0 (i * 2) _ _ (by omega) zs hzs hz1 (fun q hq => by rw [blk_cell HG.out, Array.getElem?_eq_getElem (by omega)]; rfl) (fun q _ => blk_free HG.out _)
    have ZZ : Hid (i * 2 + zs.length <= cur.size) := hfit
    clear hzs hzl hz1 hfit hsz
    go_wp2
    go_ret
    obtain ⟨cur', q1, q2, q3⟩ := blk_sets zs (i * 2) wr cur HG.out ZZ.out
    exact ⟨_, rfl, ⟨D.out.done he hc1 hc2 q1 q2 (fun t ht => by rw [q3 t, if_neg (by omega)]), fun b hb => by
     have hb' : g0 = b := by simpa [Value.ownBlock] using hb
     have hq := Q.out.1
     omega⟩, TW.out.fresh (F := fun k => k = g0) (Tch.setCells (F := fun k => k = g0) (b := g0) rfl zs (i * 2) wr) (fun k h => by rw [h]; exact Q.out.1)⟩
theorem del_br (w0 : World) (g : Nat) (lb : Array Value) (eg : ∀ args w, (callFunc g args).run Tryz.prog w = .ok (.enter g args) w) (p : (BrM × Value) -> Bool) (l : List (BrM × Value)) (o : ∀ x ∈ l, ∃ a n c, x.2 = .slice a n c)
  (hp : ∀ x ∈ l, ∀ W, Tch No w0 W -> Calls Tryz.prog g (#[.agg #[.int .i64 (x.1.tid), x.2]] ++ lb) W fun e w' => e = .returned (.bool (p x)) /\ Tch No W w')
  (v : Value) (w : World) (t0 : Tch No w0 w) (h : OwnN w0 95 2 l.length (l.flatMap (encPr (fun q : BrM => q.tid))) v w) (hn : l.length <= 100000000) :
  Calls Tryz.prog 225 #[v, .func (.func g) #[] lb] w fun e w' => ∃ v', e = .returned v' /\ OwnN w0 95 2 (keptM p l).length ((keptM p l).flatMap (encPr (fun q : BrM => q.tid))) v' w' /\ Tch No w0 w' := by
 have he : ∀ x, ((encPr (fun q : BrM => q.tid)) x).length = 2 := fun _ => rfl
 have hc := CellsAt.ofRow h.1
 have hcs : ∀ i (hi : i < l.length), (l.flatMap (encPr (fun q : BrM => q.tid)))[i * 2 + 0]? = some (.int .i64 (l[i].1.tid)) /\ (l.flatMap (encPr (fun q : BrM => q.tid)))[i * 2 + 1]? = some (l[i].2) := fun i hi =>
  ⟨flat_get (encPr (fun q : BrM => q.tid)) 2 he l i 0 hi (by decide), flat_get (encPr (fun q : BrM => q.tid)) 2 he l i 1 hi (by decide)⟩
 have hI := idx_br g lb eg (fun i => if h : i < l.length then p l[i] else false) (fun i => if h : i < l.length then l[i].1.tid else 0) (fun i => if h : i < l.length then l[i].2 else .bool false) (fun i => by show Value.oneCell' (if h : i < l.length then _ else _) = true; split; obtain ⟨_, _, _, ho⟩ := o _ (List.getElem_mem (by assumption)); rw [ho]; rfl; rfl) _ l.length v w hc (fun i hi => by
   simp only [dif_pos hi]
   exact hcs i hi) (fun k hk W t => by
   simp only [dif_pos hk]
   exact hp _ (List.getElem_mem _) W (t0.trans0 t))
 have HI := Lib.hid hI
 have HP := Lib.hid hp
 have HS := Lib.hid hcs
 have T0 := Lib.hid t0
 have HO := Lib.hid h
 have OO := Lib.hid o
 obtain ⟨a, c, rfl, hc1, hc2⟩ := own_shape h.1
 have hml : c <= 9223372036854775807 := by unfold maxLen at hc2; omega
 clear hp hcs t0 h hI hc o
 go_enter Tryz.func225, Tryz.ntmps225
 go_wp2_with fail
 refine HI.out.mono ?_
 rintro e w1 ⟨⟨r, rfl, hr⟩, T1⟩
 have TT1 := Lib.hid T1
 rcases hr with ⟨rfl, hall⟩ | ⟨k0, hk0, rfl, hhit, hno⟩
 ·have HA := Lib.hid hall
  clear hall
  go_wp2_with fail
  go_ret
  have e1 : keptM p l = l := DInv.none_ (fun i hi => by have := HA.out i hi; simpa only [dif_pos hi] using this)
  rw [e1]
  exact ⟨_, rfl, stb_own _ _ _ TT1.out HO.out, T0.out.trans0 TT1.out⟩
 ·have hex : ∃ g0 cur0, a = some ⟨g0, 0, none⟩ /\ Hid (w0.heap.size <= g0 /\ w1.heap[g0]? = some (.cells cur0 95 (0, 0)) /\ cur0.size = c * 2 /\ ∀ t, t < l.length * 2 -> cur0[t]? = (l.flatMap (encPr (fun q : BrM => q.tid)))[t]?) := by
   have h1 := stb_own _ _ _ TT1.out HO.out
   cases a with
   | none =>
    rcases h1.1.2 with ⟨_, h0⟩ | ⟨_, _, _, h0, _⟩
    ·omega
    ·cases h0
   | some a =>
    obtain ⟨g0, cur, rfl, q1, q2, q3, q4, q5, q6⟩ := own_get h1.1
    exact ⟨g0, cur, rfl, h1.2 g0 rfl, q1, q4, q6⟩
  obtain ⟨g0, cur0, rfl, Q⟩ := hex
  have D0 : Hid (DInv (encPr (fun q : BrM => q.tid)) 2 p l c (k0 + 1) k0 cur0) := DInv.start he hk0 (by simpa only [dif_pos hk0] using hhit) (fun i hi h => by have := hno i h; simpa only [dif_pos hi] using this) Q.out.2.2.1 Q.out.2.2.2
  have hne1 : ((k0 : Int) == -1) = false := beq_eq_false_iff_ne.2 (by omega)
  clear hhit hno
  go_wp2_with fail
  go_loopg [5, 6, 7] l.length (fun kx s5 s6 _ wr => ∃ (i j : Nat) (cur : Array Value), s5 = .int .i64 i /\ s6 = .int .i64 j /\ i + 1 <= j /\ j <= l.length /\ l.length - j <= kx /\ Hid (DInv (encPr (fun q : BrM => q.tid)) 2 p l c j i cur) /\ Hid (wr.heap[g0]? = some (.cells cur 95 (0, 0))) /\ Hid (Tch No w0 wr))
  case atStart => exact ⟨k0, k0 + 1, cur0, rfl, by go_num, Nat.le_refl _, by omega, by omega, D0.out, Q.out.2.1, T0.out.trans0 TT1.out⟩
  case round =>
   obtain ⟨i, j, cur, rfl, rfl, hij, hjl, hgk, D, HG, TW⟩ := hrel
   have hsz : cur.size = c * 2 := D.out.sz
   by_cases hlt : j < l.length
   ·have hltz : (j : Int) < (l.length : Int) := by omega
    have hjm : j * 2 + 2 <= l.length * 2 := by omega
    have hcm : l.length * 2 <= c * 2 := Nat.mul_le_mul_right _ hc1
    have e0 : wr.cell? ⟨g0, j * 2, none⟩ = some (.int .i64 (l[j].1.tid)) := by rw [blk_cell HG.out, D.out.high (j * 2) (by omega) (by omega)]; exact flat_get (encPr (fun q : BrM => q.tid)) 2 he l j 0 hlt (by decide)
    have e1 : wr.cell? ⟨g0, j * 2 + 1, none⟩ = some (l[j].2) := by rw [blk_cell HG.out, D.out.high (j * 2 + 1) (by omega) (by omega)]; exact flat_get (encPr (fun q : BrM => q.tid)) 2 he l j 1 hlt (by decide)
    have HF := HP.out _ (List.getElem_mem hlt)
    obtain ⟨x, hx⟩ : ∃ x, l[j] = x := ⟨_, rfl⟩
    have HX := Lib.hid hx
    rw [hx] at e0 e1 HF
    obtain ⟨qa, qn, qc, hov⟩ := OO.out _ (List.getElem_mem hlt)
    rw [hx] at hov
    clear hx
    obtain ⟨x0, hx0⟩ : ∃ z : Int, x.1.tid = z := ⟨_, rfl⟩
    have hx1 : x.2 = .slice qa qn qc := hov
    rw [hx0, hx1] at HF
    rw [hx0] at e0
    rw [hx1] at e1
    have HVS : Hid ((encPr (fun q : BrM => q.tid)) x = [.int .i64 x0, .slice qa qn qc]) := by rw [Hid, <- hx0, <- hx1]; rfl
    clear hx0 hx1 hov
    have HG2 := Lib.hid HF
    clear HF
    by_cases hit : p x = true
    ·rw [hit] at HG2
     have D2 : Hid (DInv (encPr (fun q : BrM => q.tid)) 2 p l c (j + 1) i cur) := D.out.skip hlt (by rw [HX.out]; exact hit)
     clear hit
     go_wp2_with fail
     refine (HG2.out _ (TW.out.trans0 (Tch.alloc _ _))).mono ?_
     rintro e w3 ⟨rfl, T3⟩
     go_wp2_with fail
     go_roundg (l.length - (j + 1))
     case measure => omega
     case rel => exact ⟨i, j + 1, cur, rfl, by go_num, by omega, by omega, Nat.le_refl _, D2.out, blk_tch ((Tch.alloc _ _).trans0 T3) HG.out (fun h => h), TW.out.trans0 ((Tch.alloc _ _).trans0 T3)⟩
    ·have hd : p x = false := by simpa using hit
     rw [hd] at HG2
     have PX : Hid (p l[j] = false) := by rw [Hid, HX.out]; exact hd
     clear hit hd
     have him : i * 2 + 2 <= j * 2 := by omega
     go_wp2_with fail
     refine (HG2.out _ (TW.out.trans0 (Tch.alloc _ _))).mono ?_
     rintro e w3 ⟨rfl, T3⟩
     have TT3 : Hid (Tch No wr w3) := (Tch.alloc _ _).trans0 T3
     have H3 := Lib.hid (blk_tch TT3.out HG.out (fun h => h))
     have bx0 := T3.cell (box_cell wr _ _ 0 (by simp)) (fun h => h)
     have bx1 := T3.cell (box_cell wr _ _ 1 (by simp)) (fun h => h)
     simp only [List.getElem_toArray, List.getElem_cons_zero, List.getElem_cons_succ] at bx0 bx1
     obtain ⟨o0, ho0⟩ : ∃ o, w3.cell? ⟨g0, i * 2, none⟩ = some o := ⟨cur[i * 2]'(by omega), by rw [blk_cell H3.out]; exact Array.getElem?_eq_getElem _⟩
     have hf0 : w3.frozen? ⟨g0, i * 2, none⟩ = false := blk_free H3.out _
     obtain ⟨o1, ho1⟩ : ∃ o, w3.cell? ⟨g0, i * 2 + 1, none⟩ = some o := ⟨cur[i * 2 + 1]'(by omega), by rw [blk_cell H3.out]; exact Array.getElem?_eq_getElem _⟩
     have hf1 : w3.frozen? ⟨g0, i * 2 + 1, none⟩ = false := blk_free H3.out _
     clear T3
     go_wp2_with fail
     go_roundg (l.length - (j + 1))
     case measure => omega
     case rel =>
      obtain ⟨cur', q1, q2, q3⟩ := blk_sets [.int .i64 x0, .slice qa qn qc] (i * 2) w3 cur H3.out (by simp only [List.length_cons, List.length_nil]; omega)
      refine ⟨i + 1, j + 1, cur', by go_num, by go_num, by omega, by omega, Nat.le_refl _, D.out.keep he hlt PX.out q2 (fun t => ?_), q1, ((TW.out.trans0 TT3.out).fresh (F := fun k => k = g0) (Tch.setCells (F := fun k => k = g0) (b := g0) rfl [.int .i64 x0, .slice qa qn qc] (i * 2) w3) (fun k h => by rw [h]; exact Q.out.1))⟩
      rw [q3 t, HX.out, HVS.out]
      rfl
   ·obtain rfl : j = l.length := by omega
    have hii : i < l.length := by omega
    have hic : i < c := by omega
    have hltz : ¬ ((l.length : Int) < (l.length : Int)) := by omega
    obtain ⟨zs, hzs⟩ : ∃ zs, (Builtin.zeroCells (Value.agg #[.int .i64 0, .slice none 0 0]).cells (l.length - i)).toList = zs := ⟨_, rfl⟩
    have hzl : zs.length = (l.length - i) * 2 := by rw [<- hzs, zc_len]; rfl
    have hz1 : Ones zs := by
     rw [<- hzs]
     exact zc_one _ _ (fun q hq => by
      have hq' : q < 2 := hq
      have : q = 0 ∨ q = 1 := by omega
      rcases this with rfl | rfl <;> rfl) (by decide)
    have hfit : i * 2 + zs.length <= cur.size := by
     have : i * 2 + (l.length - i) * 2 <= c * 2 := by rw [<- Nat.add_mul]; exact Nat.mul_le_mul_right _ (by omega)
     omega
    have hcl : ∀ ty, (Builtin.clear_ #[25] ty #[.slice (some ⟨g0, i * 2, none⟩) (l.length - i) (c - i)]).run Tryz.prog wr = .ok (.tuple #[]) (wr.setCells g0 (i * 2) zs) := fun ty =>
     run_clear_many wr _ 95 ty (Value.agg #[.int .i64 0, .slice none 0 0]) eltBr.und (fun w => by kernel_rfl) g0 (i * 2) _ _ (by omega) zs hzs hz1 (fun q hq => by rw [blk_cell HG.out, Array.getElem?_eq_getElem (by omega)]; rfl) (fun q _ => blk_free HG.out _)
    have ZZ : Hid (i * 2 + zs.length <= cur.size) := hfit
    clear hzs hzl hz1 hfit hsz
    go_wp2
    go_ret
    obtain ⟨cur', q1, q2, q3⟩ := blk_sets zs (i * 2) wr cur HG.out ZZ.out
    exact ⟨_, rfl, ⟨D.out.done he hc1 hc2 q1 q2 (fun t ht => by rw [q3 t, if_neg (by omega)]), fun b hb => by
     have hb' : g0 = b := by simpa [Value.ownBlock] using hb
     have hq := Q.out.1
     omega⟩, TW.out.fresh (F := fun k => k = g0) (Tch.setCells (F := fun k => k = g0) (b := g0) rfl zs (i * 2) wr) (fun k h => by rw [h]; exact Q.out.1)⟩
end
end Go.Proofs.YtafndmnbnmlklaaGreat
