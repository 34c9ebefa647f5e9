/- Part 42 of what the proof of OrderCounts rests on. No condition. -/
import Derived.Lib.SlicesCompact
import Derived.Test.YtelaljoebdpicaaGreatPOrderCounts02
import Derived.Test.YtelaljoebdpicaaGreatPOrderCounts20
import Derived.Test.YtelaljoebdpicaaGreatPOrderCounts39
import Derived.Test.YtelaljoebdpicaaGreatPOrderCounts41
namespace Go.Proofs.YtelaljoebdpicaaGreat
set_option maxRecDepth 100000
set_option maxHeartbeats 60000000
set_option linter.unusedVariables false
set_option linter.unusedSimpArgs false
set_option linter.unusedSectionVars false
section
section
variable {α : Type} [Inhabited α] [DecidableEq α]
theorem cmpU_mem (d : Array α) : ∀ m, ∀ x ∈ Go.Lib.compactUpTo d m, ∃ j, j < m /\ x = d[j]! := by
 intro m
 induction m with
 | zero => intro x hx; simp [Go.Lib.compactUpTo] at hx
 | succ m ih =>
  intro x hx
  rw [Go.Lib.compactUpTo_succ, List.mem_append] at hx
  rcases hx with hx | hx
  ·obtain ⟨j, h1, h2⟩ := ih x hx
   exact ⟨j, by omega, h2⟩
  ·split at hx
   ·simp at hx; exact ⟨m, by omega, hx⟩
   ·cases hx
theorem cmpU_all (d : Array α) : ∀ m j, j < m -> d[j]! ∈ Go.Lib.compactUpTo d m := by
 intro m
 induction m with
 | zero => intro j hj; omega
 | succ m ih =>
  intro j hj
  rw [Go.Lib.compactUpTo_succ, List.mem_append]
  by_cases h : j < m
  ·exact .inl (ih j h)
  ·have : j = m := by omega
   subst this
   by_cases hk : Go.Lib.keeps d j = true
   ·right; simp [hk]
   ·left
    have h2 : j ≠ 0 /\ d[j]! = d[j - 1]! := by
     unfold Go.Lib.keeps at hk
     simp only [decide_eq_true_eq, not_or, Decidable.not_not] at hk
     exact hk
    rw [h2.2]
    exact ih (j - 1) (by omega)
theorem cmpU_lt (le : α -> α -> Prop) (tr : ∀ a b c, le a b -> le b c -> le a c) (an : ∀ a b, le a b -> le b a -> a = b) (d : Array α) (hs : ∀ i j, i < j -> j < d.size -> le d[i]! d[j]!) : ∀ m, m <= d.size -> (Go.Lib.compactUpTo d m).Pairwise (fun a b => le a b /\ a ≠ b) := by
 intro m
 induction m with
 | zero => intro _; simp [Go.Lib.compactUpTo]
 | succ m ih =>
  intro hm
  rw [Go.Lib.compactUpTo_succ]
  by_cases hk : Go.Lib.keeps d m = true
  ·rw [if_pos hk, List.pairwise_append]
   refine ⟨ih (by omega), by simp, fun a ha b hb => ?_⟩
   obtain ⟨j, hj, rfl⟩ := cmpU_mem d m a ha
   simp only [List.mem_cons, List.not_mem_nil, or_false] at hb
   subst hb
   have h1 := hs j m hj (by omega)
   refine ⟨h1, fun e => ?_⟩
   have hk2 : m = 0 ∨ d[m]! ≠ d[m - 1]! := by unfold Go.Lib.keeps at hk; simpa using hk
   rcases hk2 with h0 | h0
   ·omega
   ·by_cases hjm : j = m - 1
    ·rw [hjm] at e; exact h0 e.symm
    ·have h2 := hs j (m - 1) (by omega) (by omega)
     have h3 := hs (m - 1) m (by omega) (by omega)
     rw [e] at h2
     exact h0 (an _ _ h2 h3)
  ·rw [if_neg hk, List.append_nil]
   exact ih (by omega)
theorem comp_mem {l : List α} {x : α} : x ∈ Go.Lib.compact l ↔ x ∈ l := by
 unfold Go.Lib.compact
 constructor
 ·intro h
  obtain ⟨j, hj, rfl⟩ := cmpU_mem _ _ _ h
  have : l.toArray[j]! = l[j] := by simp [hj]
  rw [this]; exact List.getElem_mem _
 ·intro h
  obtain ⟨j, hj, rfl⟩ := List.getElem_of_mem h
  have := cmpU_all l.toArray l.length j hj
  simpa [hj] using this
theorem comp_lt (le : α -> α -> Prop) (tr : ∀ a b c, le a b -> le b c -> le a c) (an : ∀ a b, le a b -> le b a -> a = b) {l : List α} (h : l.Pairwise le) : (Go.Lib.compact l).Pairwise (fun a b => le a b /\ a ≠ b) := by
 unfold Go.Lib.compact
 refine cmpU_lt le tr an l.toArray (fun i j hij hj => ?_) _ (by simp)
 have hj' : j < l.length := by simpa using hj
 have := (List.pairwise_iff_getElem.1 h) i j (by omega) hj' hij
 simpa [hj', show i < l.length by omega] using this
theorem sum_counts {β : Type} [DecidableEq β] {γ : Type} (f : γ -> β) : ∀ (l : List γ) (q : List β), q.Nodup -> (∀ x ∈ l, f x ∈ q) -> (q.map fun b => l.countP fun x => decide (f x = b)).sum = l.length
 | [], q, _, _ => by
  have : ∀ p : List β, (p.map fun _ => 0).sum = 0 := by
   intro p
   induction p with
   | nil => rfl
   | cons a t ih => rw [List.map_cons, List.sum_cons, ih]
  simpa using this q
 | x :: r, q, hn, hq => by
  have ih := sum_counts f r q hn (fun y hy => hq y (List.mem_cons_of_mem _ hy))
  have key : ∀ p : List β, p.Nodup -> (p.map fun b => (x :: r).countP fun y => decide (f y = b)).sum = (p.map fun b => r.countP fun y => decide (f y = b)).sum + (if f x ∈ p then 1 else 0) := by
   intro p
   induction p with
   | nil => intro _; simp
   | cons b t iht =>
    intro hp
    obtain ⟨h1, h2⟩ := List.nodup_cons.1 hp
    rw [List.map_cons, List.sum_cons, List.map_cons, List.sum_cons, iht h2, List.countP_cons]
    by_cases e : f x = b
    ·subst e
     simp [h1]; omega
    ·have : (f x ∈ b :: t) ↔ f x ∈ t := by simp [e]
     simp only [this]
     simp [e]; omega
  rw [key q hn, ih, if_pos (hq x List.mem_cons_self)]
  simp
theorem sum_counts_le {β : Type} [DecidableEq β] {γ : Type} (f : γ -> β) (l : List γ) (q : List β) (hn : q.Nodup) : (q.map fun b => l.countP fun x => decide (f x = b)).sum <= l.length := by
 have h1 := sum_counts f (l.filter fun x => decide (f x ∈ q)) q hn (fun x hx => by simpa using (List.mem_filter.1 hx).2)
 have h2 : ∀ p : List β, (∀ b ∈ p, b ∈ q) -> (p.map fun b => l.countP fun x => decide (f x = b)) = (p.map fun b => (l.filter fun x => decide (f x ∈ q)).countP fun x => decide (f x = b)) := by
  intro p hp
  refine List.map_congr_left (fun b hb => ?_)
  rw [List.countP_filter]
  refine List.countP_congr (fun x hx => ?_)
  by_cases e : f x = b
  ·simp [e, hp b hb]
  ·simp [e]
 rw [h2 q (fun b hb => hb), h1]
 exact List.length_filter_le _ _
theorem nodup_of_lt {le : α -> α -> Prop} {l : List α} (h : l.Pairwise (fun a b => le a b /\ a ≠ b)) : l.Nodup := h.imp (fun h => h.2)
end
end
section
open Go.RowKit Go.Maps
def inQ (l : List MsgM) (q : Txt) : Nat := l.countP (fun m => decide (m.q = q))
theorem three_all (l : List MsgM) (q : Txt) : freeN l q + heldN l q + deadN l q = inQ l q := by
 unfold freeN heldN deadN inQ freeB deadB
 induction l with
 | nil => rfl
 | cons m r ih =>
  simp only [List.countP_cons]
  by_cases h1 : m.q = q <;> by_cases h2 : m.who = 0 <;> by_cases h3 : m.cnt < 3
  all_goals
   have h4 : (3 <= m.cnt) ↔ ¬ m.cnt < 3 := by omega
   simp only [h1, h2, h3, h4, decide_true, decide_false, Bool.and_true, Bool.and_false, Bool.true_and, Bool.false_and, Bool.not_true, Bool.not_false, if_true, if_false, not_true, not_false_iff, Bool.false_eq_true] at *
   omega
theorem txt_le_trans (a b c : Txt) (h1 : a <= b) (h2 : b <= c) : a <= c := List.le_trans h1 h2
theorem txt_le_antisymm (a b : Txt) (h1 : a <= b) (h2 : b <= a) : a = b := List.le_antisymm h1 h2
theorem sortM_sorted (l : List Txt) : (sortM l).Pairwise (· <= ·) := by
 have := List.pairwise_mergeSort (le := fun x y : Txt => decide (x <= y)) (fun a b c h1 h2 => by simp only [decide_eq_true_eq] at *; exact txt_le_trans a b c h1 h2) (fun a b => by simp only [Bool.or_eq_true, decide_eq_true_eq]; exact List.le_total a b) l
 exact this.imp (fun h => by simpa using h)
theorem queues_nodup (s : StM) (more : List PutM) : (queuesM s more).Nodup := nodup_of_lt (comp_lt (· <= ·) txt_le_trans txt_le_antisymm (sortM_sorted _))
theorem queues_mem (s : StM) (more : List PutM) {q : Txt} : q ∈ queuesM s more ↔ q ∈ namesM s more := by
 unfold queuesM sortM
 rw [comp_mem]
 exact (List.mergeSort_perm _ _).mem_iff
theorem queues_sum (s : StM) : ((queuesM s []).map fun q => inQ s.ms q).sum = s.ms.length :=
 sum_counts (fun m : MsgM => m.q) s.ms (queuesM s []) (queues_nodup s []) (fun m hm => (queues_mem s []).2 (by unfold namesM; exact List.mem_append_left _ (List.mem_map_of_mem hm)))
theorem queues_part (s : StM) (k : Nat) : (((queuesM s []).take k).map fun q => inQ s.ms q).sum <= s.ms.length :=
 sum_counts_le (fun m : MsgM => m.q) s.ms _ ((List.take_sublist k _).nodup (queues_nodup s []))
theorem next_free (s : StM) (q : Txt) : (nextM s q).isSome = decide (0 < freeN s.ms q) /\ ∀ m, nextM s q = some m -> m.q = q /\ m.who = 0 /\ m.cnt < 3 := by
 have hk : keptM (notNext q) s.ms = s.ms.filter (fun m => decide (m.q = q) && freeB m) := by
  unfold keptM
  refine List.filter_congr (fun m hm => ?_)
  unfold notNext
  simp
 have hl : (keptM (notNext q) s.ms).length = freeN s.ms q := by rw [hk, freeN, List.countP_eq_length_filter]
 refine ⟨?_, fun m hm => ?_⟩
 ·unfold nextM
  rw [<- hl]
  cases keptM (notNext q) s.ms <;> simp
 ·unfold nextM at hm
  have : m ∈ keptM (notNext q) s.ms := List.mem_of_mem_head? (by rw [hm]; rfl)
  rw [hk] at this
  have := (List.mem_filter.1 this).2
  unfold freeB at this
  simp only [Bool.and_eq_true, decide_eq_true_eq] at this
  exact this
theorem moreM_may {s : StM} (h : MayP s) : (moreM [] s.waits).length <= 20000 := by
 have : ∀ l : List BrM, (∀ b ∈ l, b.puts.length <= 10) -> (l.flatMap (·.puts)).length <= 10 * l.length := by
  intro l
  induction l with
  | nil => intro _; simp
  | cons a r ih =>
   intro hl
   rw [List.flatMap_cons, List.length_append, List.length_cons]
   have h1 := ih (fun b hb => hl b (List.mem_cons_of_mem _ hb))
   have h2 := hl a List.mem_cons_self
   omega
 have h2 := this s.waits (fun b hb => (h.waits b hb).len)
 have h3 := h.lw
 unfold moreM
 simp only [List.nil_append]
 omega
end
namespace Ev
open Go Go.RowKit Go.Maps
theorem pmix : Tryz.prog.follows .mixedOrders = true := by kernel_rfl
theorem pname : named Tryz.prog = true := by kernel_rfl
theorem pregs : progOk Tryz.prog = true := by kernel_rfl
theorem pok : POk Tryz.prog := ⟨pmix, pname, pregs⟩
end Ev
namespace Ev
open Go Go.RowKit Go.Maps
structure InsK (P : Program) (f : FuncId) (el : TypeId) : Prop where
 shift : ∀ (n i c : Nat) (cs : List Value) (vb : Nat) (nb : Array Value) (w : World) (g : Nat) (cur : Array Value), i < n -> n + 1 <= c -> c <= maxLen -> n <= 10000000 -> w.heap[g]? = some (.cells cur el (0, 0)) -> cur.size = c * 2 -> cs.length = n * 2 -> (∀ t, t < n * 2 -> cur[t]? = cs[t]?) -> Ones cs ->
  w.heap[vb]? = some (.cells nb el (0, 0)) -> nb.size = 2 -> Ones nb.toList -> vb ≠ g ->
  Calls P f #[.slice (some ⟨g, 0, none⟩) n c, .int .i64 i, .slice (some ⟨vb, 0, none⟩) 1 1] w fun e w' => e = .returned (.slice (some ⟨g, 0, none⟩) (n + 1) c) /\ w' = (w.drew.setCells g ((i + 1) * 2) (cs.drop (i * 2))).setCells g (i * 2) nb.toList
 grow : ∀ (n i c : Nat) (cs : List Value) (vb : Nat) (nb : Array Value) (w : World) (g : Nat), i < n -> n <= c -> c < n + 1 -> n <= 10000000 -> cs.length = n * 2 -> (∀ t x, cs[t]? = some x -> w.cell? ⟨g, t, none⟩ = some x) -> Ones cs ->
  w.heap[vb]? = some (.cells nb el (0, 0)) -> nb.size = 2 -> Ones nb.toList ->
  Calls P f #[.slice (some ⟨g, 0, none⟩) n c, .int .i64 i, .slice (some ⟨vb, 0, none⟩) 1 1] w fun e w' => ∃ G cur', e = .returned (.slice (some ⟨w.heap.size, 0, none⟩) (n + 1) G) /\ w'.heap[w.heap.size]? = some (.cells cur' el (0, 0)) /\ cur'.size = G * 2 /\ n + 1 <= G /\ G <= maxLen /\
   (∀ t, t < (n + 1) * 2 -> cur'[t]? = (cs.take (i * 2) ++ nb.toList ++ cs.drop (i * 2))[t]?) /\ Tch No w w'
 body : ∃ fn, P.funcs[f]? = some fn /\ fn.body.isSome = true
def insOut (el : TypeId) (len k : Nat) (a b : AO) : Option AO := if k < len /\ len <= 1000000 /\ a.fz = false /\ a.ty = el /\ len * 2 <= a.cs.length /\ b.fz = false /\ b.ty = el /\ b.opn = false /\ b.cs.length = 2 then some ⟨el, (a.cs.take (len * 2)).take (k * 2) ++ b.cs ++ (a.cs.take (len * 2)).drop (k * 2), true, .ok⟩ else none
def insOrc (fid : FuncId) (el : TypeId) (orc : Orc) : Orc := fun f args H n => if f = fid then
  match args with
  | [.v (.c (.sl i 0 len (.op 2))), .v (.c (.int .i64 (.ofNat k))), .v (.c (.sl j 0 1 (.ex 1)))] => match hg H i, hg H j with
   | some a, some b => if i ≠ j /\ i < n then (match insOut el len k a b with
    | some o => (Ef.apT n H (.mv (one i ||| one j) i o)).map fun H' => (.v (.c (.sl n 0 (len + 1) (.op 2))), H', n + 1, one i ||| one j, one i)
    | none => none) else none
   | _, _ => none
  | _ => orc f args H n
 else orc f args H n
theorem insOrc_ok {P : Program} {fid : FuncId} {el : TypeId} {orc : Orc} (hi : InsK P fid el) (ho : OrcOK P orc) : OrcOK P (insOrc fid el orc) := by
 refine ⟨fun f args H n s H' n' F W h => ?_, fun f args H n r h => ?_⟩
 ·unfold insOrc at h
  split at h
  ·rename_i hf
   subst hf
   split at h
   ·rename_i i len k j
    split at h
    ·rename_i a b ha hb
     split at h
     ·rename_i hij
      split at h
      ·rename_i o hout
       rw [Option.map_eq_some_iff] at h
       obtain ⟨H1, h1, h2⟩ := h
       simp only [Prod.mk.injEq] at h2
       obtain ⟨rfl, rfl, rfl, rfl, rfl⟩ := h2
       rw [apT_ok h1]
       have hFi : tb (one i ||| one j) i = true := by rw [tb_or, tb_one]; rfl
       have hFj : tb (one i ||| one j) j = true := by rw [tb_or, tb_one, Bool.or_true]
       refine ⟨inv_ef (e := .mv (one i ||| one j) i o) (by simp [Ef.chk, ha, hFi, hij.2]), fun σ D w vals hargs hs hdom hD => ?_⟩
       unfold insOut at hout
       split at hout
       ·rename_i hc
        cases hout
        obtain ⟨hkl, hl1, hfa, hta, hla, hfb, htb, hob, hlb⟩ := hc
        match vals, hargs with
        | [v1, v2, v3], ⟨r1, r2, r3, _⟩ =>
         obtain ⟨hDi, c, e1, hlc, hcm, hct⟩ := r1
         rw [Nat.zero_add] at hct
         have e2 : v2 = .int .i64 (k : Int) := r2
         obtain ⟨hDj, e3⟩ := r3
         subst e1; subst e2; subst e3
         have hDn : ¬ D n := hD n (Nat.le_refl _) (Nat.lt_succ_self n)
         obtain ⟨_, hOa⟩ := obj_of hs hFi ha
         obtain ⟨_, hOb⟩ := obj_of hs hFj hb
         obtain ⟨ca, fa, a1, a0, a2, a3, a4, a5⟩ := hOa.ok hfa
         obtain ⟨cb, fb, b1, b0, b2, b3, b4, b5⟩ := hOb.ok hfb
         have := a0 hfa; subst this
         have := b0 hfb; subst this
         subst hta
         rw [htb] at b1
         have hA := (cells_of (i := i) a5 (by omega)).take (len * 2)
         have hB := cells_of (i := j) b5 (by omega)
         rw [List.take_take, Nat.min_eq_left hla] at hA
         have hcbs : cb.size = 2 := by rw [b2, <- b4 hob, hlb]
         have hBt : cb.toList.take b.cs.length = cb.toList := by rw [hlb]; apply List.take_of_length_le; simp [hcbs]
         rw [hBt] at hB
         have hne : (σ j).b ≠ (σ i).b := fun e => hij.1 (hs.inj i j (some_of (rst_some.2 ⟨hFi, ha⟩)) (some_of (rst_some.2 ⟨hFj, hb⟩)) e.symm)
         have hl : (ca.toList.take (len * 2)).length = len * 2 := by simp; omega
         have hcells : ∀ t, t < len * 2 -> ca[t]? = (ca.toList.take (len * 2))[t]? := fun t ht => by rw [List.getElem?_take, if_pos ht, Array.getElem?_toList]
         have hnew := ((hA.take (k * 2)).append hB).append (hA.drop (k * 2))
         have hnl : ((ca.toList.take (len * 2)).take (k * 2) ++ cb.toList ++ (ca.toList.take (len * 2)).drop (k * 2)).length = (len + 1) * 2 := by
          simp only [List.length_append, List.length_take, List.length_drop, hl, Array.length_toList, hcbs]; omega
         -- what is left to be shown, wherever the row lies
         have fin : ∀ (g c' : Nat) (cur' : Array Value) (w' : World), w'.heap[g]? = some (.cells cur' a.ty (0, 0)) -> cur'.size = c' * 2 -> len + 1 <= c' -> c' <= maxLen -> (∀ t, t < (len + 1) * 2 -> cur'[t]? = ((ca.toList.take (len * 2)).take (k * 2) ++ cb.toList ++ (ca.toList.take (len * 2)).drop (k * 2))[t]?) -> Tch (fun q => q = (σ i).b) w w' -> (w.heap.size <= g ∨ g = (σ i).b) ->
           ∃ v σ', Ending.returned (.slice (some ⟨g, 0, none⟩) (len + 1) c') = .returned v /\ RS σ' (more D n (n + 1)) (.v (.c (.sl n 0 (len + 1) (.op 2)))) v /\ Out σ D w (rst (tb (one i ||| one j)) (hg H)) (aft (tb (one i ||| one j)) n (n + 1) ((Ef.mv (one i ||| one j) i ⟨a.ty, (a.cs.take (len * 2)).take (k * 2) ++ b.cs ++ (a.cs.take (len * 2)).drop (k * 2), true, .ok⟩).ap n (hg H))) n (n + 1) (tb (one i)) σ' w' := by
          intro g c' cur' w' g1 g2 g3 g4 g5 g6 g7
          have hsm : ∀ q, D q -> at_ σ n ⟨g, cur'.size⟩ q = σ q := fun q hq => at_other (fun e => by subst e; exact hDn hq)
          refine ⟨_, at_ σ n ⟨g, cur'.size⟩, rfl, ⟨.inr ⟨Nat.le_refl _, Nat.lt_succ_self _⟩, c', by rw [at_same]; rfl, g3, g4, by rw [at_same, Nat.zero_add]; exact g2.symm⟩, ?_⟩
          have hO := out_mv (F := one i ||| one j) (i := i) (k := ⟨g, cur'.size⟩) (ob := ⟨a.ty, (a.cs.take (len * 2)).take (k * 2) ++ b.cs ++ (a.cs.take (len * 2)).drop (k * 2), true, .ok⟩) (w' := w') hs hDn hFi (by rw [ha]; rfl) g6 g7 ?_
          ·rw [Ef.W_eq] at hO; exact hO
          ·have hnew' := RL.ext (D' := more D n (n + 1)) hnew hsm (fun _ h => .inl h)
           have hll := hnew'.length
           refine ⟨cur', (0, 0), by rw [at_same]; exact g1, fun _ => rfl, by rw [at_same], ?_, (fun h => by cases h), fun q cc e => ?_⟩
           ·rw [at_same]; simp only; rw [<- hll, hnl, g2]; exact Nat.mul_le_mul_right _ g3
           ·obtain ⟨v, v1, v2⟩ := hnew'.get e
            have hlt := (List.getElem?_eq_some_iff.1 v1).1
            exact ⟨v, by rw [g5 q (by omega)]; exact v1, v2⟩
         by_cases hroom : len + 1 <= c
         ·refine (hi.shift len k c (ca.toList.take (len * 2)) (σ j).b cb w (σ i).b ca hkl hroom hcm (by omega) a1 (by omega) hl hcells hA.ones b1 hcbs hB.ones hne).mono ?_
          rintro e w' ⟨rfl, rfl⟩
          obtain ⟨c1, d1, d2, d3⟩ := blk_sets ((ca.toList.take (len * 2)).drop (k * 2)) ((k + 1) * 2) w.drew ca a1 (by rw [List.length_drop, hl]; omega)
          obtain ⟨c2, f1, f2, f3⟩ := blk_sets cb.toList (k * 2) _ c1 d1 (by rw [d2, Array.length_toList, hcbs]; omega)
          refine fin _ c c2 _ f1 (by omega) hroom hcm (fun t ht => ?_) ?_ (.inr rfl)
          ·rw [f3 t]
           by_cases q1 : t < k * 2
           ·rw [if_neg (by omega), d3 t, if_neg (by omega), hcells t (by omega), List.append_assoc, List.getElem?_append_left (by rw [List.length_take, hl]; omega)]
            conv => rhs; rw [List.getElem?_take, if_pos q1]
           ·by_cases q2 : t < (k + 1) * 2
            ·rw [if_pos ⟨by omega, by rw [Array.length_toList, hcbs]; omega⟩, List.getElem?_append_left (by rw [List.length_append, List.length_take, hl, Array.length_toList, hcbs]; omega), List.getElem?_append_right (by rw [List.length_take, hl]; omega), List.length_take, hl, Nat.min_eq_left (by omega)]
            ·rw [if_neg (by rw [Array.length_toList, hcbs]; omega), d3 t, if_pos ⟨by omega, by rw [List.length_drop, hl]; omega⟩, List.getElem?_append_right (by rw [List.length_append, List.length_take, hl, Array.length_toList, hcbs]; omega), List.length_append, List.length_take, hl, Array.length_toList, hcbs, Nat.min_eq_left (by omega)]
             congr 1; omega
          ·exact ((Tch.drew w).no.trans (Tch.setCells (F := fun q => q = (σ i).b) rfl _ _ _) (fun _ _ h => h)).trans (Tch.setCells (F := fun q => q = (σ i).b) rfl _ _ _) (fun _ _ h => h)
         ·refine (hi.grow len k c (ca.toList.take (len * 2)) (σ j).b cb w (σ i).b hkl hlc (by omega) (by omega) hl (fun t x e => ?_) hA.ones b1 hcbs hB.ones).mono ?_
          ·rw [List.getElem?_take] at e
           split at e
           ·rw [cell_of_row w _ t ca a.ty (0, 0) a1]; simpa using e
           ·cases e
          ·rintro e w' ⟨G, cur', rfl, d1, d2, d3, d4, d5, d6⟩
           exact fin _ G cur' w' d1 d2 d3 d4 d5 d6.no (.inl (Nat.le_refl _))
       ·cases hout
      ·cases h
     ·cases h
    ·cases h
   ·exact ho.1 _ _ _ _ _ _ _ _ _ h
  ·exact ho.1 _ _ _ _ _ _ _ _ _ h
 ·unfold insOrc at h
  split at h
  ·rename_i hf; subst hf; exact hi.body
  ·exact ho.2 _ _ _ _ _ h
theorem insEnd : InsK Tryz.prog 189 57 :=
 ⟨fun n i c cs vb nb w g cur => ins_end_shift n i c cs vb nb w g cur, fun n i c cs vb nb w g => ins_end_grow n i c cs vb nb w g, ⟨_, Tryz.func189, rfl⟩⟩
end Ev
section
open Go.RowKit Go.Maps
theorem begun10_any (w : World) : Calls Tryz.prog 12 #[] w fun e w' => e = .returned (.bool true) /\ Tch No w w' := Ev.closed (orc := Ev.insOrc 189 57 Ev.noOrc) (N := 100) (k := 60) (Ev.insOrc_ok Ev.insEnd Ev.noOrc_ok) Ev.pok (by kernel_rfl) w
end
end Go.Proofs.YtelaljoebdpicaaGreat
