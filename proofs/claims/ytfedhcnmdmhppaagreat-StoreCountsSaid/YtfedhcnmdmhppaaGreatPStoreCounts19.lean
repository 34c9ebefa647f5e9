/- Part 19 of what the proof of StoreCounts rests on. No condition. -/
import Derived.Test.YtfedhcnmdmhppaaGreatPStoreCounts09
import Derived.Test.YtfedhcnmdmhppaaGreatPStoreCounts10
import Derived.Test.YtfedhcnmdmhppaaGreatPStoreCounts18
namespace Go.Proofs.YtfedhcnmdmhppaaGreat
set_option maxRecDepth 100000
set_option maxHeartbeats 60000000
set_option linter.unusedVariables false
set_option linter.unusedSimpArgs false
namespace Ev
open Go Go.RowKit Go.Maps
structure InsK (P : Program) (f : FuncId) (el : TypeId) : Prop where
 shift : ∀ (n i c : Nat) (cs : List Value) (vb : Nat) (nb : Array Value) (w : World) (g : Nat) (cur : Array Value), i < n -> n + 1 <= c -> c <= maxLen -> n <= 10000000 -> w.heap[g]? = some (.cells cur el (0, 0)) -> cur.size = c * 2 -> cs.length = n * 2 -> (∀ t, t < n * 2 -> cur[t]? = cs[t]?) -> Ones cs ->
  w.heap[vb]? = some (.cells nb el (0, 0)) -> nb.size = 2 -> Ones nb.toList -> vb ≠ g ->
  Calls P f #[.slice (some ⟨g, 0, none⟩) n c, .int .i64 i, .slice (some ⟨vb, 0, none⟩) 1 1] w fun e w' => e = .returned (.slice (some ⟨g, 0, none⟩) (n + 1) c) /\ w' = (w.drew.setCells g ((i + 1) * 2) (cs.drop (i * 2))).setCells g (i * 2) nb.toList
 grow : ∀ (n i c : Nat) (cs : List Value) (vb : Nat) (nb : Array Value) (w : World) (g : Nat), i < n -> n <= c -> c < n + 1 -> n <= 10000000 -> cs.length = n * 2 -> (∀ t x, cs[t]? = some x -> w.cell? ⟨g, t, none⟩ = some x) -> Ones cs ->
  w.heap[vb]? = some (.cells nb el (0, 0)) -> nb.size = 2 -> Ones nb.toList ->
  Calls P f #[.slice (some ⟨g, 0, none⟩) n c, .int .i64 i, .slice (some ⟨vb, 0, none⟩) 1 1] w fun e w' => ∃ G cur', e = .returned (.slice (some ⟨w.heap.size, 0, none⟩) (n + 1) G) /\ w'.heap[w.heap.size]? = some (.cells cur' el (0, 0)) /\ cur'.size = G * 2 /\ n + 1 <= G /\ G <= maxLen /\
   (∀ t, t < (n + 1) * 2 -> cur'[t]? = (cs.take (i * 2) ++ nb.toList ++ cs.drop (i * 2))[t]?) /\ Tch No w w'
 body : ∃ fn, P.funcs[f]? = some fn /\ fn.body.isSome = true
def insOut (el : TypeId) (len k : Nat) (a b : AO) : Option AO := if k < len /\ len <= 1000000 /\ a.fz = false /\ a.ty = el /\ len * 2 <= a.cs.length /\ b.fz = false /\ b.ty = el /\ b.opn = false /\ b.cs.length = 2 then some ⟨el, (a.cs.take (len * 2)).take (k * 2) ++ b.cs ++ (a.cs.take (len * 2)).drop (k * 2), true, .ok⟩ else none
def insOrc (fid : FuncId) (el : TypeId) (orc : Orc) : Orc := fun f args H n => if f = fid then
  match args with
  | [.v (.c (.sl i 0 len (.op 2))), .v (.c (.int .i64 (.ofNat k))), .v (.c (.sl j 0 1 (.ex 1)))] => match hg H i, hg H j with
   | some a, some b => if i ≠ j /\ i < n then (match insOut el len k a b with
    | some o => (Ef.apT n H (.mv (one i ||| one j) i o)).map fun H' => (.v (.c (.sl n 0 (len + 1) (.op 2))), H', n + 1, one i ||| one j, one i)
    | none => none) else none
   | _, _ => none
  | _ => orc f args H n
 else orc f args H n
theorem insOrc_ok {P : Program} {fid : FuncId} {el : TypeId} {orc : Orc} (hi : InsK P fid el) (ho : OrcOK P orc) : OrcOK P (insOrc fid el orc) := by
 refine ⟨fun f args H n s H' n' F W h => ?_, fun f args H n r h => ?_⟩
 ·unfold insOrc at h
  split at h
  ·rename_i hf
   subst hf
   split at h
   ·rename_i i len k j
    split at h
    ·rename_i a b ha hb
     split at h
     ·rename_i hij
      split at h
      ·rename_i o hout
       rw [Option.map_eq_some_iff] at h
       obtain ⟨H1, h1, h2⟩ := h
       simp only [Prod.mk.injEq] at h2
       obtain ⟨rfl, rfl, rfl, rfl, rfl⟩ := h2
       rw [apT_ok h1]
       have hFi : tb (one i ||| one j) i = true := by rw [tb_or, tb_one]; rfl
       have hFj : tb (one i ||| one j) j = true := by rw [tb_or, tb_one, Bool.or_true]
       refine ⟨inv_ef (e := .mv (one i ||| one j) i o) (by simp [Ef.chk, ha, hFi, hij.2]), fun σ D w vals hargs hs hdom hD => ?_⟩
       unfold insOut at hout
       split at hout
       ·rename_i hc
        cases hout
        obtain ⟨hkl, hl1, hfa, hta, hla, hfb, htb, hob, hlb⟩ := hc
        match vals, hargs with
        | [v1, v2, v3], ⟨r1, r2, r3, _⟩ =>
         obtain ⟨hDi, c, e1, hlc, hcm, hct⟩ := r1
         rw [Nat.zero_add] at hct
         have e2 : v2 = .int .i64 (k : Int) := r2
         obtain ⟨hDj, e3⟩ := r3
         subst e1; subst e2; subst e3
         have hDn : ¬ D n := hD n (Nat.le_refl _) (Nat.lt_succ_self n)
         obtain ⟨_, hOa⟩ := obj_of hs hFi ha
         obtain ⟨_, hOb⟩ := obj_of hs hFj hb
         obtain ⟨ca, fa, a1, a0, a2, a3, a4, a5⟩ := hOa.ok hfa
         obtain ⟨cb, fb, b1, b0, b2, b3, b4, b5⟩ := hOb.ok hfb
         have := a0 hfa; subst this
         have := b0 hfb; subst this
         subst hta
         rw [htb] at b1
         have hA := (cells_of (i := i) a5 (by omega)).take (len * 2)
         have hB := cells_of (i := j) b5 (by omega)
         rw [List.take_take, Nat.min_eq_left hla] at hA
         have hcbs : cb.size = 2 := by rw [b2, <- b4 hob, hlb]
         have hBt : cb.toList.take b.cs.length = cb.toList := by rw [hlb]; apply List.take_of_length_le; simp [hcbs]
         rw [hBt] at hB
         have hne : (σ j).b ≠ (σ i).b := fun e => hij.1 (hs.inj i j (some_of (rst_some.2 ⟨hFi, ha⟩)) (some_of (rst_some.2 ⟨hFj, hb⟩)) e.symm)
         have hl : (ca.toList.take (len * 2)).length = len * 2 := by simp; omega
         have hcells : ∀ t, t < len * 2 -> ca[t]? = (ca.toList.take (len * 2))[t]? := fun t ht => by rw [List.getElem?_take, if_pos ht, Array.getElem?_toList]
         have hnew := ((hA.take (k * 2)).append hB).append (hA.drop (k * 2))
         have hnl : ((ca.toList.take (len * 2)).take (k * 2) ++ cb.toList ++ (ca.toList.take (len * 2)).drop (k * 2)).length = (len + 1) * 2 := by
          simp only [List.length_append, List.length_take, List.length_drop, hl, Array.length_toList, hcbs]; omega
         -- what is left to be shown, wherever the row lies
         have fin : ∀ (g c' : Nat) (cur' : Array Value) (w' : World), w'.heap[g]? = some (.cells cur' a.ty (0, 0)) -> cur'.size = c' * 2 -> len + 1 <= c' -> c' <= maxLen -> (∀ t, t < (len + 1) * 2 -> cur'[t]? = ((ca.toList.take (len * 2)).take (k * 2) ++ cb.toList ++ (ca.toList.take (len * 2)).drop (k * 2))[t]?) -> Tch (fun q => q = (σ i).b) w w' -> (w.heap.size <= g ∨ g = (σ i).b) ->
           ∃ v σ', Ending.returned (.slice (some ⟨g, 0, none⟩) (len + 1) c') = .returned v /\ RS σ' (more D n (n + 1)) (.v (.c (.sl n 0 (len + 1) (.op 2)))) v /\ Out σ D w (rst (tb (one i ||| one j)) (hg H)) (aft (tb (one i ||| one j)) n (n + 1) ((Ef.mv (one i ||| one j) i ⟨a.ty, (a.cs.take (len * 2)).take (k * 2) ++ b.cs ++ (a.cs.take (len * 2)).drop (k * 2), true, .ok⟩).ap n (hg H))) n (n + 1) (tb (one i)) σ' w' := by
          intro g c' cur' w' g1 g2 g3 g4 g5 g6 g7
          have hsm : ∀ q, D q -> at_ σ n ⟨g, cur'.size⟩ q = σ q := fun q hq => at_other (fun e => by subst e; exact hDn hq)
          refine ⟨_, at_ σ n ⟨g, cur'.size⟩, rfl, ⟨.inr ⟨Nat.le_refl _, Nat.lt_succ_self _⟩, c', by rw [at_same]; rfl, g3, g4, by rw [at_same, Nat.zero_add]; exact g2.symm⟩, ?_⟩
          have hO := out_mv (F := one i ||| one j) (i := i) (k := ⟨g, cur'.size⟩) (ob := ⟨a.ty, (a.cs.take (len * 2)).take (k * 2) ++ b.cs ++ (a.cs.take (len * 2)).drop (k * 2), true, .ok⟩) (w' := w') hs hDn hFi (by rw [ha]; rfl) g6 g7 ?_
          ·rw [Ef.W_eq] at hO; exact hO
          ·have hnew' := RL.ext (D' := more D n (n + 1)) hnew hsm (fun _ h => .inl h)
           have hll := hnew'.length
           refine ⟨cur', (0, 0), by rw [at_same]; exact g1, fun _ => rfl, by rw [at_same], ?_, (fun h => by cases h), fun q cc e => ?_⟩
           ·rw [at_same]; simp only; rw [<- hll, hnl, g2]; exact Nat.mul_le_mul_right _ g3
           ·obtain ⟨v, v1, v2⟩ := hnew'.get e
            have hlt := (List.getElem?_eq_some_iff.1 v1).1
            exact ⟨v, by rw [g5 q (by omega)]; exact v1, v2⟩
         by_cases hroom : len + 1 <= c
         ·refine (hi.shift len k c (ca.toList.take (len * 2)) (σ j).b cb w (σ i).b ca hkl hroom hcm (by omega) a1 (by omega) hl hcells hA.ones b1 hcbs hB.ones hne).mono ?_
          rintro e w' ⟨rfl, rfl⟩
          obtain ⟨c1, d1, d2, d3⟩ := blk_sets ((ca.toList.take (len * 2)).drop (k * 2)) ((k + 1) * 2) w.drew ca a1 (by rw [List.length_drop, hl]; omega)
          obtain ⟨c2, f1, f2, f3⟩ := blk_sets cb.toList (k * 2) _ c1 d1 (by rw [d2, Array.length_toList, hcbs]; omega)
          refine fin _ c c2 _ f1 (by omega) hroom hcm (fun t ht => ?_) ?_ (.inr rfl)
          ·rw [f3 t]
           by_cases q1 : t < k * 2
           ·rw [if_neg (by omega), d3 t, if_neg (by omega), hcells t (by omega), List.append_assoc, List.getElem?_append_left (by rw [List.length_take, hl]; omega)]
            conv => rhs; rw [List.getElem?_take, if_pos q1]
           ·by_cases q2 : t < (k + 1) * 2
            ·rw [if_pos ⟨by omega, by rw [Array.length_toList, hcbs]; omega⟩, List.getElem?_append_left (by rw [List.length_append, List.length_take, hl, Array.length_toList, hcbs]; omega), List.getElem?_append_right (by rw [List.length_take, hl]; omega), List.length_take, hl, Nat.min_eq_left (by omega)]
            ·rw [if_neg (by rw [Array.length_toList, hcbs]; omega), d3 t, if_pos ⟨by omega, by rw [List.length_drop, hl]; omega⟩, List.getElem?_append_right (by rw [List.length_append, List.length_take, hl, Array.length_toList, hcbs]; omega), List.length_append, List.length_take, hl, Array.length_toList, hcbs, Nat.min_eq_left (by omega)]
             congr 1; omega
          ·exact ((Tch.drew w).no.trans (Tch.setCells (F := fun q => q = (σ i).b) rfl _ _ _) (fun _ _ h => h)).trans (Tch.setCells (F := fun q => q = (σ i).b) rfl _ _ _) (fun _ _ h => h)
         ·refine (hi.grow len k c (ca.toList.take (len * 2)) (σ j).b cb w (σ i).b hkl hlc (by omega) (by omega) hl (fun t x e => ?_) hA.ones b1 hcbs hB.ones).mono ?_
          ·rw [List.getElem?_take] at e
           split at e
           ·rw [cell_of_row w _ t ca a.ty (0, 0) a1]; simpa using e
           ·cases e
          ·rintro e w' ⟨G, cur', rfl, d1, d2, d3, d4, d5, d6⟩
           exact fin _ G cur' w' d1 d2 d3 d4 d5 d6.no (.inl (Nat.le_refl _))
       ·cases hout
      ·cases h
     ·cases h
    ·cases h
   ·exact ho.1 _ _ _ _ _ _ _ _ _ h
  ·exact ho.1 _ _ _ _ _ _ _ _ _ h
 ·unfold insOrc at h
  split at h
  ·rename_i hf; subst hf; exact hi.body
  ·exact ho.2 _ _ _ _ _ h
theorem insEnd : InsK Tryz.prog 193 59 :=
 ⟨fun n i c cs vb nb w g cur => ins_end_shift n i c cs vb nb w g cur, fun n i c cs vb nb w g => ins_end_grow n i c cs vb nb w g, ⟨_, Tryz.func193, rfl⟩⟩
end Ev
section
open Go.RowKit Go.Maps
theorem begun10_any (w : World) : Calls Tryz.prog 16 #[] w fun e w' => e = .returned (.bool true) /\ Tch No w w' := Ev.closed (orc := Ev.insOrc 193 59 Ev.noOrc) (N := 100) (k := 60) (Ev.insOrc_ok Ev.insEnd Ev.noOrc_ok) Ev.pok (by kernel_rfl) w
end
section
open Go.RowKit Go.Maps
theorem del_pend (w0 : World) (g : Nat) (lb : Array Value) (eg : ∀ args w, (callFunc g args).run Tryz.prog w = .ok (.enter g args) w) (p : (PendM × Value) -> Bool) (l : List (PendM × Value)) (o : ∀ x ∈ l, ∃ a n c, x.2 = .slice a n c)
  (hp : ∀ x ∈ l, ∀ W, Tch No w0 W -> Calls Tryz.prog g (#[.agg #[.int .i64 (x.1.tid), x.2]] ++ lb) W fun e w' => e = .returned (.bool (p x)) /\ Tch No W w')
  (v : Value) (w : World) (t0 : Tch No w0 w) (h : OwnN w0 63 2 l.length (l.flatMap (encPr (fun q : PendM => q.tid))) v w) (hn : l.length <= 100000000) :
  Calls Tryz.prog 202 #[v, .func (.func g) #[] lb] w fun e w' => ∃ v', e = .returned v' /\ OwnN w0 63 2 (keptM p l).length ((keptM p l).flatMap (encPr (fun q : PendM => q.tid))) v' w' /\ Tch No w0 w' := by
 have he : ∀ x, ((encPr (fun q : PendM => q.tid)) x).length = 2 := fun _ => rfl
 have hc := CellsAt.ofRow h.1
 have hcs : ∀ i (hi : i < l.length), (l.flatMap (encPr (fun q : PendM => q.tid)))[i * 2 + 0]? = some (.int .i64 (l[i].1.tid)) /\ (l.flatMap (encPr (fun q : PendM => q.tid)))[i * 2 + 1]? = some (l[i].2) := fun i hi =>
  ⟨flat_get (encPr (fun q : PendM => q.tid)) 2 he l i 0 hi (by decide), flat_get (encPr (fun q : PendM => q.tid)) 2 he l i 1 hi (by decide)⟩
 have hI := idx_pend g lb eg (fun i => if h : i < l.length then p l[i] else false) (fun i => if h : i < l.length then l[i].1.tid else 0) (fun i => if h : i < l.length then l[i].2 else .bool false) (fun i => by show Value.oneCell' (if h : i < l.length then _ else _) = true; split; obtain ⟨_, _, _, ho⟩ := o _ (List.getElem_mem (by assumption)); rw [ho]; rfl; rfl) _ l.length v w hc (fun i hi => by
   simp only [dif_pos hi]
   exact hcs i hi) (fun k hk W t => by
   simp only [dif_pos hk]
   exact hp _ (List.getElem_mem _) W (t0.trans0 t))
 have HI := Lib.hid hI
 have HP := Lib.hid hp
 have HS := Lib.hid hcs
 have T0 := Lib.hid t0
 have HO := Lib.hid h
 have OO := Lib.hid o
 obtain ⟨a, c, rfl, hc1, hc2⟩ := own_shape h.1
 have hml : c <= 9223372036854775807 := by unfold maxLen at hc2; omega
 clear hp hcs t0 h hI hc o
 go_enter Tryz.func202, Tryz.ntmps202
 go_wp2_with fail
 refine HI.out.mono ?_
 rintro e w1 ⟨⟨r, rfl, hr⟩, T1⟩
 have TT1 := Lib.hid T1
 rcases hr with ⟨rfl, hall⟩ | ⟨k0, hk0, rfl, hhit, hno⟩
 ·have HA := Lib.hid hall
  clear hall
  go_wp2_with fail
  go_ret
  have e1 : keptM p l = l := DInv.none_ (fun i hi => by have := HA.out i hi; simpa only [dif_pos hi] using this)
  rw [e1]
  exact ⟨_, rfl, stb_own _ _ _ TT1.out HO.out, T0.out.trans0 TT1.out⟩
 ·have hex : ∃ g0 cur0, a = some ⟨g0, 0, none⟩ /\ Hid (w0.heap.size <= g0 /\ w1.heap[g0]? = some (.cells cur0 63 (0, 0)) /\ cur0.size = c * 2 /\ ∀ t, t < l.length * 2 -> cur0[t]? = (l.flatMap (encPr (fun q : PendM => q.tid)))[t]?) := by
   have h1 := stb_own _ _ _ TT1.out HO.out
   cases a with
   | none =>
    rcases h1.1.2 with ⟨_, h0⟩ | ⟨_, _, _, h0, _⟩
    ·omega
    ·cases h0
   | some a =>
    obtain ⟨g0, cur, rfl, q1, q2, q3, q4, q5, q6⟩ := own_get h1.1
    exact ⟨g0, cur, rfl, h1.2 g0 rfl, q1, q4, q6⟩
  obtain ⟨g0, cur0, rfl, Q⟩ := hex
  have D0 : Hid (DInv (encPr (fun q : PendM => q.tid)) 2 p l c (k0 + 1) k0 cur0) := DInv.start he hk0 (by simpa only [dif_pos hk0] using hhit) (fun i hi h => by have := hno i h; simpa only [dif_pos hi] using this) Q.out.2.2.1 Q.out.2.2.2
  have hne1 : ((k0 : Int) == -1) = false := beq_eq_false_iff_ne.2 (by omega)
  clear hhit hno
  go_wp2_with fail
  go_loopg [5, 6, 7] l.length (fun kx s5 s6 _ wr => ∃ (i j : Nat) (cur : Array Value), s5 = .int .i64 i /\ s6 = .int .i64 j /\ i + 1 <= j /\ j <= l.length /\ l.length - j <= kx /\ Hid (DInv (encPr (fun q : PendM => q.tid)) 2 p l c j i cur) /\ Hid (wr.heap[g0]? = some (.cells cur 63 (0, 0))) /\ Hid (Tch No w0 wr))
  case atStart => exact ⟨k0, k0 + 1, cur0, rfl, by go_num, Nat.le_refl _, by omega, by omega, D0.out, Q.out.2.1, T0.out.trans0 TT1.out⟩
  case round =>
   obtain ⟨i, j, cur, rfl, rfl, hij, hjl, hgk, D, HG, TW⟩ := hrel
   have hsz : cur.size = c * 2 := D.out.sz
   by_cases hlt : j < l.length
   ·have hltz : (j : Int) < (l.length : Int) := by omega
    have hjm : j * 2 + 2 <= l.length * 2 := by omega
    have hcm : l.length * 2 <= c * 2 := Nat.mul_le_mul_right _ hc1
    have e0 : wr.cell? ⟨g0, j * 2, none⟩ = some (.int .i64 (l[j].1.tid)) := by rw [blk_cell HG.out, D.out.high (j * 2) (by omega) (by omega)]; exact flat_get (encPr (fun q : PendM => q.tid)) 2 he l j 0 hlt (by decide)
    have e1 : wr.cell? ⟨g0, j * 2 + 1, none⟩ = some (l[j].2) := by rw [blk_cell HG.out, D.out.high (j * 2 + 1) (by omega) (by omega)]; exact flat_get (encPr (fun q : PendM => q.tid)) 2 he l j 1 hlt (by decide)
    have HF := HP.out _ (List.getElem_mem hlt)
    obtain ⟨x, hx⟩ : ∃ x, l[j] = x := ⟨_, rfl⟩
    have HX := Lib.hid hx
    rw [hx] at e0 e1 HF
    obtain ⟨qa, qn, qc, hov⟩ := OO.out _ (List.getElem_mem hlt)
    rw [hx] at hov
    clear hx
    obtain ⟨x0, hx0⟩ : ∃ z : Int, x.1.tid = z := ⟨_, rfl⟩
    have hx1 : x.2 = .slice qa qn qc := hov
    rw [hx0, hx1] at HF
    rw [hx0] at e0
    rw [hx1] at e1
    have HVS : Hid ((encPr (fun q : PendM => q.tid)) x = [.int .i64 x0, .slice qa qn qc]) := by rw [Hid, <- hx0, <- hx1]; rfl
    clear hx0 hx1 hov
    have HG2 := Lib.hid HF
    clear HF
    by_cases hit : p x = true
    ·rw [hit] at HG2
     have D2 : Hid (DInv (encPr (fun q : PendM => q.tid)) 2 p l c (j + 1) i cur) := D.out.skip hlt (by rw [HX.out]; exact hit)
     clear hit
     go_wp2_with fail
     refine (HG2.out _ (TW.out.trans0 (Tch.alloc _ _))).mono ?_
     rintro e w3 ⟨rfl, T3⟩
     go_wp2_with fail
     go_roundg (l.length - (j + 1))
     case measure => omega
     case rel => exact ⟨i, j + 1, cur, rfl, by go_num, by omega, by omega, Nat.le_refl _, D2.out, blk_tch ((Tch.alloc _ _).trans0 T3) HG.out (fun h => h), TW.out.trans0 ((Tch.alloc _ _).trans0 T3)⟩
    ·have hd : p x = false := by simpa using hit
     rw [hd] at HG2
     have PX : Hid (p l[j] = false) := by rw [Hid, HX.out]; exact hd
     clear hit hd
     have him : i * 2 + 2 <= j * 2 := by omega
     go_wp2_with fail
     refine (HG2.out _ (TW.out.trans0 (Tch.alloc _ _))).mono ?_
     rintro e w3 ⟨rfl, T3⟩
     have TT3 : Hid (Tch No wr w3) := (Tch.alloc _ _).trans0 T3
     have H3 := Lib.hid (blk_tch TT3.out HG.out (fun h => h))
     have bx0 := T3.cell (box_cell wr _ _ 0 (by simp)) (fun h => h)
     have bx1 := T3.cell (box_cell wr _ _ 1 (by simp)) (fun h => h)
     simp only [List.getElem_toArray, List.getElem_cons_zero, List.getElem_cons_succ] at bx0 bx1
     obtain ⟨o0, ho0⟩ : ∃ o, w3.cell? ⟨g0, i * 2, none⟩ = some o := ⟨cur[i * 2]'(by omega), by rw [blk_cell H3.out]; exact Array.getElem?_eq_getElem _⟩
     have hf0 : w3.frozen? ⟨g0, i * 2, none⟩ = false := blk_free H3.out _
     obtain ⟨o1, ho1⟩ : ∃ o, w3.cell? ⟨g0, i * 2 + 1, none⟩ = some o := ⟨cur[i * 2 + 1]'(by omega), by rw [blk_cell H3.out]; exact Array.getElem?_eq_getElem _⟩
     have hf1 : w3.frozen? ⟨g0, i * 2 + 1, none⟩ = false := blk_free H3.out _
     clear T3
     go_wp2_with fail
     go_roundg (l.length - (j + 1))
     case measure => omega
     case rel =>
      obtain ⟨cur', q1, q2, q3⟩ := blk_sets [.int .i64 x0, .slice qa qn qc] (i * 2) w3 cur H3.out (by simp only [List.length_cons, List.length_nil]; omega)
      refine ⟨i + 1, j + 1, cur', by go_num, by go_num, by omega, by omega, Nat.le_refl _, D.out.keep he hlt PX.out q2 (fun t => ?_), q1, ((TW.out.trans0 TT3.out).fresh (F := fun k => k = g0) (Tch.setCells (F := fun k => k = g0) (b := g0) rfl [.int .i64 x0, .slice qa qn qc] (i * 2) w3) (fun k h => by rw [h]; exact Q.out.1))⟩
      rw [q3 t, HX.out, HVS.out]
      rfl
   ·obtain rfl : j = l.length := by omega
    have hii : i < l.length := by omega
    have hic : i < c := by omega
    have hltz : ¬ ((l.length : Int) < (l.length : Int)) := by omega
    obtain ⟨zs, hzs⟩ : ∃ zs, (Builtin.zeroCells (Value.agg #[.int .i64 0, .slice none 0 0]).cells (l.length - i)).toList = zs := ⟨_, rfl⟩
    have hzl : zs.length = (l.length - i) * 2 := by rw [<- hzs, zc_len]; rfl
    have hz1 : Ones zs := by
     rw [<- hzs]
     exact zc_one _ _ (fun q hq => by
      have hq' : q < 2 := hq
      have : q = 0 ∨ q = 1 := by omega
      rcases this with rfl | rfl <;> rfl) (by decide)
    have hfit : i * 2 + zs.length <= cur.size := by
     have : i * 2 + (l.length - i) * 2 <= c * 2 := by rw [<- Nat.add_mul]; exact Nat.mul_le_mul_right _ (by omega)
     omega
    have hcl : ∀ ty, (Builtin.clear_ #[25] ty #[.slice (some ⟨g0, i * 2, none⟩) (l.length - i) (c - i)]).run Tryz.prog wr = .ok (.tuple #[]) (wr.setCells g0 (i * 2) zs) := fun ty =>
     run_clear_many wr _ 63 ty (Value.agg #[.int .i64 0, .slice none 0 0]) eltPend.und (fun w => by kernel_rfl) g0 (i * 2) _ _ (by omega) zs hzs hz1 (fun q hq => by rw [blk_cell HG.out, Array.getElem?_eq_getElem (by omega)]; rfl) (fun q _ => blk_free HG.out _)
    have ZZ : Hid (i * 2 + zs.length <= cur.size) := hfit
    clear hzs hzl hz1 hfit hsz
    go_wp2
    go_ret
    obtain ⟨cur', q1, q2, q3⟩ := blk_sets zs (i * 2) wr cur HG.out ZZ.out
    exact ⟨_, rfl, ⟨D.out.done he hc1 hc2 q1 q2 (fun t ht => by rw [q3 t, if_neg (by omega)]), fun b hb => by
     have hb' : g0 = b := by simpa [Value.ownBlock] using hb
     have hq := Q.out.1
     omega⟩, TW.out.fresh (F := fun k => k = g0) (Tch.setCells (F := fun k => k = g0) (b := g0) rfl zs (i * 2) wr) (fun k h => by rw [h]; exact Q.out.1)⟩
theorem del_br (w0 : World) (g : Nat) (lb : Array Value) (eg : ∀ args w, (callFunc g args).run Tryz.prog w = .ok (.enter g args) w) (p : (BrM × Value) -> Bool) (l : List (BrM × Value)) (o : ∀ x ∈ l, ∃ a n c, x.2 = .slice a n c)
  (hp : ∀ x ∈ l, ∀ W, Tch No w0 W -> Calls Tryz.prog g (#[.agg #[.int .i64 (x.1.tid), x.2]] ++ lb) W fun e w' => e = .returned (.bool (p x)) /\ Tch No W w')
  (v : Value) (w : World) (t0 : Tch No w0 w) (h : OwnN w0 81 2 l.length (l.flatMap (encPr (fun q : BrM => q.tid))) v w) (hn : l.length <= 100000000) :
  Calls Tryz.prog 195 #[v, .func (.func g) #[] lb] w fun e w' => ∃ v', e = .returned v' /\ OwnN w0 81 2 (keptM p l).length ((keptM p l).flatMap (encPr (fun q : BrM => q.tid))) v' w' /\ Tch No w0 w' := by
 have he : ∀ x, ((encPr (fun q : BrM => q.tid)) x).length = 2 := fun _ => rfl
 have hc := CellsAt.ofRow h.1
 have hcs : ∀ i (hi : i < l.length), (l.flatMap (encPr (fun q : BrM => q.tid)))[i * 2 + 0]? = some (.int .i64 (l[i].1.tid)) /\ (l.flatMap (encPr (fun q : BrM => q.tid)))[i * 2 + 1]? = some (l[i].2) := fun i hi =>
  ⟨flat_get (encPr (fun q : BrM => q.tid)) 2 he l i 0 hi (by decide), flat_get (encPr (fun q : BrM => q.tid)) 2 he l i 1 hi (by decide)⟩
 have hI := idx_br g lb eg (fun i => if h : i < l.length then p l[i] else false) (fun i => if h : i < l.length then l[i].1.tid else 0) (fun i => if h : i < l.length then l[i].2 else .bool false) (fun i => by show Value.oneCell' (if h : i < l.length then _ else _) = true; split; obtain ⟨_, _, _, ho⟩ := o _ (List.getElem_mem (by assumption)); rw [ho]; rfl; rfl) _ l.length v w hc (fun i hi => by
   simp only [dif_pos hi]
   exact hcs i hi) (fun k hk W t => by
   simp only [dif_pos hk]
   exact hp _ (List.getElem_mem _) W (t0.trans0 t))
 have HI := Lib.hid hI
 have HP := Lib.hid hp
 have HS := Lib.hid hcs
 have T0 := Lib.hid t0
 have HO := Lib.hid h
 have OO := Lib.hid o
 obtain ⟨a, c, rfl, hc1, hc2⟩ := own_shape h.1
 have hml : c <= 9223372036854775807 := by unfold maxLen at hc2; omega
 clear hp hcs t0 h hI hc o
 go_enter Tryz.func195, Tryz.ntmps195
 go_wp2_with fail
 refine HI.out.mono ?_
 rintro e w1 ⟨⟨r, rfl, hr⟩, T1⟩
 have TT1 := Lib.hid T1
 rcases hr with ⟨rfl, hall⟩ | ⟨k0, hk0, rfl, hhit, hno⟩
 ·have HA := Lib.hid hall
  clear hall
  go_wp2_with fail
  go_ret
  have e1 : keptM p l = l := DInv.none_ (fun i hi => by have := HA.out i hi; simpa only [dif_pos hi] using this)
  rw [e1]
  exact ⟨_, rfl, stb_own _ _ _ TT1.out HO.out, T0.out.trans0 TT1.out⟩
 ·have hex : ∃ g0 cur0, a = some ⟨g0, 0, none⟩ /\ Hid (w0.heap.size <= g0 /\ w1.heap[g0]? = some (.cells cur0 81 (0, 0)) /\ cur0.size = c * 2 /\ ∀ t, t < l.length * 2 -> cur0[t]? = (l.flatMap (encPr (fun q : BrM => q.tid)))[t]?) := by
   have h1 := stb_own _ _ _ TT1.out HO.out
   cases a with
   | none =>
    rcases h1.1.2 with ⟨_, h0⟩ | ⟨_, _, _, h0, _⟩
    ·omega
    ·cases h0
   | some a =>
    obtain ⟨g0, cur, rfl, q1, q2, q3, q4, q5, q6⟩ := own_get h1.1
    exact ⟨g0, cur, rfl, h1.2 g0 rfl, q1, q4, q6⟩
  obtain ⟨g0, cur0, rfl, Q⟩ := hex
  have D0 : Hid (DInv (encPr (fun q : BrM => q.tid)) 2 p l c (k0 + 1) k0 cur0) := DInv.start he hk0 (by simpa only [dif_pos hk0] using hhit) (fun i hi h => by have := hno i h; simpa only [dif_pos hi] using this) Q.out.2.2.1 Q.out.2.2.2
  have hne1 : ((k0 : Int) == -1) = false := beq_eq_false_iff_ne.2 (by omega)
  clear hhit hno
  go_wp2_with fail
  go_loopg [5, 6, 7] l.length (fun kx s5 s6 _ wr => ∃ (i j : Nat) (cur : Array Value), s5 = .int .i64 i /\ s6 = .int .i64 j /\ i + 1 <= j /\ j <= l.length /\ l.length - j <= kx /\ Hid (DInv (encPr (fun q : BrM => q.tid)) 2 p l c j i cur) /\ Hid (wr.heap[g0]? = some (.cells cur 81 (0, 0))) /\ Hid (Tch No w0 wr))
  case atStart => exact ⟨k0, k0 + 1, cur0, rfl, by go_num, Nat.le_refl _, by omega, by omega, D0.out, Q.out.2.1, T0.out.trans0 TT1.out⟩
  case round =>
   obtain ⟨i, j, cur, rfl, rfl, hij, hjl, hgk, D, HG, TW⟩ := hrel
   have hsz : cur.size = c * 2 := D.out.sz
   by_cases hlt : j < l.length
   ·have hltz : (j : Int) < (l.length : Int) := by omega
    have hjm : j * 2 + 2 <= l.length * 2 := by omega
    have hcm : l.length * 2 <= c * 2 := Nat.mul_le_mul_right _ hc1
    have e0 : wr.cell? ⟨g0, j * 2, none⟩ = some (.int .i64 (l[j].1.tid)) := by rw [blk_cell HG.out, D.out.high (j * 2) (by omega) (by omega)]; exact flat_get (encPr (fun q : BrM => q.tid)) 2 he l j 0 hlt (by decide)
    have e1 : wr.cell? ⟨g0, j * 2 + 1, none⟩ = some (l[j].2) := by rw [blk_cell HG.out, D.out.high (j * 2 + 1) (by omega) (by omega)]; exact flat_get (encPr (fun q : BrM => q.tid)) 2 he l j 1 hlt (by decide)
    have HF := HP.out _ (List.getElem_mem hlt)
    obtain ⟨x, hx⟩ : ∃ x, l[j] = x := ⟨_, rfl⟩
    have HX := Lib.hid hx
    rw [hx] at e0 e1 HF
    obtain ⟨qa, qn, qc, hov⟩ := OO.out _ (List.getElem_mem hlt)
    rw [hx] at hov
    clear hx
    obtain ⟨x0, hx0⟩ : ∃ z : Int, x.1.tid = z := ⟨_, rfl⟩
    have hx1 : x.2 = .slice qa qn qc := hov
    rw [hx0, hx1] at HF
    rw [hx0] at e0
    rw [hx1] at e1
    have HVS : Hid ((encPr (fun q : BrM => q.tid)) x = [.int .i64 x0, .slice qa qn qc]) := by rw [Hid, <- hx0, <- hx1]; rfl
    clear hx0 hx1 hov
    have HG2 := Lib.hid HF
    clear HF
    by_cases hit : p x = true
    ·rw [hit] at HG2
     have D2 : Hid (DInv (encPr (fun q : BrM => q.tid)) 2 p l c (j + 1) i cur) := D.out.skip hlt (by rw [HX.out]; exact hit)
     clear hit
     go_wp2_with fail
     refine (HG2.out _ (TW.out.trans0 (Tch.alloc _ _))).mono ?_
     rintro e w3 ⟨rfl, T3⟩
     go_wp2_with fail
     go_roundg (l.length - (j + 1))
     case measure => omega
     case rel => exact ⟨i, j + 1, cur, rfl, by go_num, by omega, by omega, Nat.le_refl _, D2.out, blk_tch ((Tch.alloc _ _).trans0 T3) HG.out (fun h => h), TW.out.trans0 ((Tch.alloc _ _).trans0 T3)⟩
    ·have hd : p x = false := by simpa using hit
     rw [hd] at HG2
     have PX : Hid (p l[j] = false) := by rw [Hid, HX.out]; exact hd
     clear hit hd
     have him : i * 2 + 2 <= j * 2 := by omega
     go_wp2_with fail
     refine (HG2.out _ (TW.out.trans0 (Tch.alloc _ _))).mono ?_
     rintro e w3 ⟨rfl, T3⟩
     have TT3 : Hid (Tch No wr w3) := (Tch.alloc _ _).trans0 T3
     have H3 := Lib.hid (blk_tch TT3.out HG.out (fun h => h))
     have bx0 := T3.cell (box_cell wr _ _ 0 (by simp)) (fun h => h)
     have bx1 := T3.cell (box_cell wr _ _ 1 (by simp)) (fun h => h)
     simp only [List.getElem_toArray, List.getElem_cons_zero, List.getElem_cons_succ] at bx0 bx1
     obtain ⟨o0, ho0⟩ : ∃ o, w3.cell? ⟨g0, i * 2, none⟩ = some o := ⟨cur[i * 2]'(by omega), by rw [blk_cell H3.out]; exact Array.getElem?_eq_getElem _⟩
     have hf0 : w3.frozen? ⟨g0, i * 2, none⟩ = false := blk_free H3.out _
     obtain ⟨o1, ho1⟩ : ∃ o, w3.cell? ⟨g0, i * 2 + 1, none⟩ = some o := ⟨cur[i * 2 + 1]'(by omega), by rw [blk_cell H3.out]; exact Array.getElem?_eq_getElem _⟩
     have hf1 : w3.frozen? ⟨g0, i * 2 + 1, none⟩ = false := blk_free H3.out _
     clear T3
     go_wp2_with fail
     go_roundg (l.length - (j + 1))
     case measure => omega
     case rel =>
      obtain ⟨cur', q1, q2, q3⟩ := blk_sets [.int .i64 x0, .slice qa qn qc] (i * 2) w3 cur H3.out (by simp only [List.length_cons, List.length_nil]; omega)
      refine ⟨i + 1, j + 1, cur', by go_num, by go_num, by omega, by omega, Nat.le_refl _, D.out.keep he hlt PX.out q2 (fun t => ?_), q1, ((TW.out.trans0 TT3.out).fresh (F := fun k => k = g0) (Tch.setCells (F := fun k => k = g0) (b := g0) rfl [.int .i64 x0, .slice qa qn qc] (i * 2) w3) (fun k h => by rw [h]; exact Q.out.1))⟩
      rw [q3 t, HX.out, HVS.out]
      rfl
   ·obtain rfl : j = l.length := by omega
    have hii : i < l.length := by omega
    have hic : i < c := by omega
    have hltz : ¬ ((l.length : Int) < (l.length : Int)) := by omega
    obtain ⟨zs, hzs⟩ : ∃ zs, (Builtin.zeroCells (Value.agg #[.int .i64 0, .slice none 0 0]).cells (l.length - i)).toList = zs := ⟨_, rfl⟩
    have hzl : zs.length = (l.length - i) * 2 := by rw [<- hzs, zc_len]; rfl
    have hz1 : Ones zs := by
     rw [<- hzs]
     exact zc_one _ _ (fun q hq => by
      have hq' : q < 2 := hq
      have : q = 0 ∨ q = 1 := by omega
      rcases this with rfl | rfl <;> rfl) (by decide)
    have hfit : i * 2 + zs.length <= cur.size := by
     have : i * 2 + (l.length - i) * 2 <= c * 2 := by rw [<- Nat.add_mul]; exact Nat.mul_le_mul_right _ (by omega)
     omega
    have hcl : ∀ ty, (Builtin.clear_ #[23] ty #[.slice (some ⟨g0, i * 2, none⟩) (l.length - i) (c - i)]).run Tryz.prog wr = .ok (.tuple #[]) (wr.setCells g0 (i * 2) zs) := fun ty =>
     run_clear_many wr _ 81 ty (Value.agg #[.int .i64 0, .slice none 0 0]) eltBr.und (fun w => by kernel_rfl) g0 (i * 2) _ _ (by omega) zs hzs hz1 (fun q hq => by rw [blk_cell HG.out, Array.getElem?_eq_getElem (by omega)]; rfl) (fun q _ => blk_free HG.out _)
    have ZZ : Hid (i * 2 + zs.length <= cur.size) := hfit
    clear hzs hzl hz1 hfit hsz
    go_wp2
    go_ret
    obtain ⟨cur', q1, q2, q3⟩ := blk_sets zs (i * 2) wr cur HG.out ZZ.out
    exact ⟨_, rfl, ⟨D.out.done he hc1 hc2 q1 q2 (fun t ht => by rw [q3 t, if_neg (by omega)]), fun b hb => by
     have hb' : g0 = b := by simpa [Value.ownBlock] using hb
     have hq := Q.out.1
     omega⟩, TW.out.fresh (F := fun k => k = g0) (Tch.setCells (F := fun k => k = g0) (b := g0) rfl zs (i * 2) wr) (fun k h => by rw [h]; exact Q.out.1)⟩
end
section
open Go.RowKit Go.Maps
theorem map_kept {α β : Type} (p : α -> Bool) : ∀ l : List (α × β), (keptM (fun x => p x.1) l).map Prod.fst = keptM p (l.map Prod.fst)
 | [] => rfl
 | a :: r => by
  unfold keptM
  have ih := map_kept p r
  unfold keptM at ih
  cases h : p a.1 <;> simp [List.filter_cons, h, ih]
theorem beq_dec (a b : Int) : (a == b) = decide (a = b) := by by_cases h : a = b <;> simp [h]
theorem swithout_own (prs : List (PendM × Value)) (hn : prs.length <= 10000000) (t : Int) (v : Value) (w : World) (hc : IsL (encPr (fun q : PendM => q.tid)) 2 w v prs) (hsl : ∀ x ∈ prs, ∃ a n c, x.2 = .slice a n c) :
  Calls Tryz.prog 163 #[v, .int .i64 t] w fun e w' => ∃ v', e = .returned v' /\ OwnN w 63 2 (keptM (fun x : PendM × Value => decide (x.1.tid = t)) prs).length ((keptM (fun x : PendM × Value => decide (x.1.tid = t)) prs).flatMap (encPr (fun q : PendM => q.tid))) v' w' /\ Tch No w w' := by
 have hone : Ones (prs.flatMap (encPr (fun q : PendM => q.tid))) := ones_pr (fun p hp => by obtain ⟨_, _, _, e⟩ := hsl p hp; rw [e]; rfl)
 obtain ⟨n, hln⟩ : ∃ n, prs.length = n := ⟨_, rfl⟩
 have hc0 : CellsAt w v n 2 (prs.flatMap (encPr (fun q : PendM => q.tid))) := by rw [<- hln]; exact hc
 obtain ⟨a, c, rfl, _, _⟩ := CellsAt.shape hc0
 have HCl := Lib.hid (fun W (t : Tch No w W) => clone_pend (.slice a n c) n _ W (hc0.keep t) hone (by omega))
 have HDel : Hid (∀ w0 : World, Tch No w w0 -> w0.cell? ⟨w.heap.size, 0, none⟩ = some (.int .i64 t) -> ∀ v W, Tch No w0 W -> OwnN w0 63 2 n (prs.flatMap (encPr (fun q : PendM => q.tid))) v W ->
   Calls Tryz.prog 202 #[v, .func (.func 203) #[] #[.pointer (some ⟨w.heap.size, 0, none⟩)]] W fun e w' => ∃ v', e = .returned v' /\ OwnN w0 63 2 (keptM (fun x : PendM × Value => decide (x.1.tid = t)) prs).length ((keptM (fun x : PendM × Value => decide (x.1.tid = t)) prs).flatMap (encPr (fun q : PendM => q.tid))) v' w' /\ Tch No w0 w') := fun w0 t0 hcell v W tW hW =>
  del_pend w0 _ _ (enters_of Tryz.func203 rfl rfl) (fun x => decide (x.1.tid = t)) prs hsl (fun x hx W' t' => by
   obtain ⟨_, _, _, e⟩ := hsl x hx
   have := without1_any x.1.tid t x.2 (by rw [e]; rfl) w.heap.size W' (t'.cell hcell (fun h => h))
   rw [beq_dec] at this
   exact this) v W tW (by rw [hln]; exact hW) (by omega)
 clear hc hone hsl hln hc0
 go_enter Tryz.func163, Tryz.ntmps163
 go_wp2_with fail
 refine (HCl.out _ (Tch.alloc _ _)).mono ?_
 rintro e w1 ⟨a1, c1, rfl, O1, T1, _⟩
 have OO1 := Lib.hid O1
 have TT1 := Lib.hid T1
 clear O1 T1
 go_wp2_with fail
 refine (HDel.out _ (Tch.alloc _ _) (box_cell w #[.int .i64 t] _ 0 (by simp)) _ w1 TT1.out OO1.out).mono ?_
 rintro e w2 ⟨v', rfl, O2, T2⟩
 have OO2 := Lib.hid O2
 have TT2 : Hid (Tch No w w2) := (Tch.alloc _ _).trans0 T2
 clear O2 T2
 go_wp2
 go_ret
 exact ⟨v', rfl, ⟨OO2.out.1, fun b hb => Nat.le_trans (Tch.alloc _ _).size (OO2.out.2 b hb)⟩, TT2.out⟩
theorem insP_prs {α : Type} (f : α -> Int) (prs : List (α × Value)) (x : α) (y : Value) : (prs.take (posP f (prs.map Prod.fst) (f x)) ++ (x, y) :: prs.drop (posP f (prs.map Prod.fst) (f x))).map Prod.fst = insP f (prs.map Prod.fst) x := by
 rw [insP_eq, List.map_append, List.map_cons, List.map_take, List.map_drop]
theorem mem_ins2 {α : Type} {l : List α} {k : Nat} {x p : α} (h : p ∈ l.take k ++ x :: l.drop k) : p = x ∨ p ∈ l := by
 rcases List.mem_append.1 h with h | h
 ·exact .inr (List.mem_of_mem_take h)
 ·rcases List.mem_cons.1 h with h | h
  ·exact .inl h
  ·exact .inr (List.mem_of_mem_drop h)
theorem len_ins2 {α : Type} {l : List α} {k : Nat} {x : α} : (l.take k ++ x :: l.drop k).length = l.length + 1 := by
 rw [List.length_append, List.length_take, List.length_cons, List.length_drop]; omega
theorem pos_map_le {α : Type} (f : α -> Int) (prs : List (α × Value)) (t : Int) : posP f (prs.map Prod.fst) t <= prs.length := by
 have := posP_le f (prs.map Prod.fst) t
 rwa [List.length_map] at this
theorem swith_own (prs : List (PendM × Value)) (hs : strictB ((prs.map Prod.fst).map (·.tid)) = true) (hn : prs.length <= 10000000) (t : Int) (ps : List Int) (hps : ps.length <= 10000000) (v vp : Value) (w : World) (hc : IsL (encPr (fun q : PendM => q.tid)) 2 w v prs) (hi : ∀ p ∈ prs, IsInts w p.2 p.1.parts) (hp : IsInts w vp ps) :
  Calls Tryz.prog 159 #[v, .int .i64 t, vp] w fun e w' => ∃ v' vq, e = .returned v' /\ OwnN w 63 2 (prs.length + 1) ((prs.take (posP (·.tid) (prs.map Prod.fst) t) ++ ((⟨t, ps⟩ : PendM), vq) :: prs.drop (posP (·.tid) (prs.map Prod.fst) t)).flatMap (encPr (fun q : PendM => q.tid))) v' w' /\ OwnN w 3 1 ps.length (ps.map (fun x => .int .i64 x)) vq w' /\ Tch No w w' := by
 have hpend : IsPends w v (prs.map Prod.fst) := pends_pairs.2 ⟨prs, rfl, hc, hi⟩
 have HPe := Lib.hid (pends_any (prs.map Prod.fst) hs (by rw [List.length_map]; omega) t v w hpend)
 have hone : Ones (prs.flatMap (encPr (fun q : PendM => q.tid))) := ones_pr (fun p hp => by obtain ⟨_, _, e, _⟩ := CellsAt.shape (hi p hp); rw [e]; rfl)
 obtain ⟨a, c, rfl, _, _⟩ := CellsAt.shape hc
 obtain ⟨pa, pc, rfl, _, _⟩ := CellsAt.shape hp
 have HCl := Lib.hid (fun W (t : Tch No w W) => clone_pend (.slice a prs.length c) prs.length _ W (hc.keep t) hone (by omega))
 have HCi := Lib.hid (fun W (t : Tch No w W) => clone_int (.slice pa ps.length pc) ps W (hp.keep t) (by omega))
 obtain ⟨k, hk⟩ : ∃ k, posP (·.tid) (prs.map Prod.fst) t = k := ⟨_, rfl⟩
 have hkl : k <= prs.length := by rw [<- hk]; exact pos_map_le _ _ _
 rw [hk] at HPe
 rw [hk]
 have HON := Lib.hid hone
 have HN : Hid (prs.length <= 10000000) := hn
 have HKL := Lib.hid hkl
 clear hc hone hi hk hs hp hps hkl hpend
 go_enter Tryz.func159, Tryz.ntmps159
 go_wp2_with fail
 refine HPe.out.mono ?_
 rintro e w1 ⟨rfl, T1⟩
 have TT1 := Lib.hid T1
 clear T1
 go_wp2_with fail
 refine (HCl.out _ TT1.out).mono ?_
 rintro e w2 ⟨a1, c1, rfl, O2, T2, _⟩
 have OO2 := Lib.hid O2
 have TT2 := Lib.hid T2
 clear O2 T2
 go_wp2_with fail
 refine (HCi.out _ (TT1.out.trans0 TT2.out)).mono ?_
 rintro e w3 ⟨a2, c2, rfl, O3, T3, _⟩
 have OO3 := Lib.hid O3
 have TT3 := Lib.hid T3
 clear O3 T3
 go_wp2_with fail
 refine (ins_pend w1 prs.length k _ w3.heap.size #[.int .i64 t, .slice a2 ps.length c2] (w3.alloc (.cells #[.int .i64 t, .slice a2 ps.length c2] 63)) (.slice a1 prs.length c1) HKL.out ((TT2.out.trans0 TT3.out).trans0 (Tch.alloc _ _)) (stb_own _ _ _ (TT3.out.trans0 (Tch.alloc _ _)) OO2.out) HN.out HON.out (blk_new _ _) rfl (fun u hu => by
  simp only [List.mem_cons, List.not_mem_nil, or_false] at hu
  rcases hu with rfl | rfl <;> rfl) (fun _ e => Nat.lt_irrefl _ ((own_tch OO2.out.1 TT3.out (fun _ _ h => h)).lt _ e).2)).mono ?_
 rintro e w4 ⟨v', rfl, O4, T4, U4⟩
 have OO4 := Lib.hid O4
 have TT4 : Hid (Tch No w w4) := TT1.out.trans0 T4
 have TI : Hid (OwnN w 3 1 ps.length (ps.map (fun x => .int .i64 x)) (.slice a2 ps.length c2) w4) := by
  have h3 := own_tch (own_tch OO3.out.1 (Tch.alloc w3 (.cells #[.int .i64 t, .slice a2 ps.length c2] 63)) (fun _ _ h => h)) U4 (fun k hk e => by
   have h1 := OO3.out.2 k hk
   have h2 := (OO2.out.1.lt k e).2
   omega)
  exact ⟨h3, fun b hb => by have z1 := OO3.out.2 b hb; have z2 := TT1.out.size; have z3 := TT2.out.size; omega⟩
 clear O4 T4 U4
 go_wp2
 go_ret
 refine ⟨v', .slice a2 ps.length c2, rfl, ⟨?_, fun b hb => Nat.le_trans TT1.out.size (OO4.out.2 b hb)⟩, TI.out, TT4.out⟩
 have hcc := OO4.out.1
 rw [List.flatMap_append, List.flatMap_cons]
 rw [flat_take (m := 2) (fun _ => rfl), flat_drop (m := 2) (fun _ => rfl), List.append_assoc] at hcc
 exact hcc
end
end Go.Proofs.YtfedhcnmdmhppaaGreat
