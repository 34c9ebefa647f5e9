/- Part 8 of what the proof of WhereLong rests on. No condition. -/
import Derived.Lib.AppendZerosOnto
import Derived.Test.YtafndmnbnmlklaaGreatPWhereLong07
namespace Go.Proofs.YtafndmnbnmlklaaGreat
set_option maxRecDepth 100000
set_option maxHeartbeats 60000000
set_option linter.unusedVariables false
set_option linter.unusedSimpArgs false
set_option linter.unusedSectionVars false
namespace Ev
open Go Go.RowKit Go.Maps
section
variable {P : Program} {ρ : Operand -> Value} {o : Oper} {σ : Nat -> Blk} {D : Nat -> Prop} {w : World} {H : Heap} {n : Nat} {A : Operand -> Option S}
def aSrc (H : Heap) (sz : Nat) (m : Nat) : C -> Option (List C × Nat)
 | .sl j off _ _ => match H j with
  | some ob => (ldC ob off (m * sz)).map fun l => (l, one j)
  | none => none
 | .snil => some ([], 0)
 | .se => if m = 0 then some ([], 0) else none
 | .str b => if sz = 1 then some ((b.take m).map fun u => C.int .u8 u.toNat, 0) else none
 | _ => none
def aLenC : C -> Option Nat | .sl _ _ len _ => some len | .snil => some 0 | .se => some 0 | .str b => some b.length | _ => none
theorem lenC_ok {c : C} {v : Value} {k : Nat} (h : aLenC c = some k) (hv : RC σ D c v) : (Builtin.lenOf v).run P w = .ok k w := by
 unfold aLenC at h
 split at h <;> first | (cases h; done) | skip
 ·cases h; obtain ⟨_, c, rfl⟩ := sl_val hv; rfl
 ·cases h; cases hv; rfl
 ·cases h; obtain ⟨_, _, rfl⟩ := hv; rfl
 ·cases h; cases hv; simp [Builtin.lenOf, <- ByteArray.size_data]
theorem src_ok {F sz m k : Nat} {c : C} {v : Value} {l : List C} (hs : Sat σ D (rst (tb F) H) w) (h : aSrc H sz m c = some (l, k)) (hF : ∀ j, tb k j = true -> tb F j = true) (hv : RC σ D c v) (hm : ∀ q, aLenC c = some q -> m <= q) :
  ∃ vs : List Value, RL σ D l vs /\ vs.length = m * sz /\ (Builtin.firstCells sz m v).run P w = .ok vs.toArray w := by
 unfold aSrc at h
 split at h <;> first | (cases h; done) | skip
 ·rename_i j off q cp
  split at h
  ·rename_i ob hob
   rw [Option.map_eq_some_iff] at h
   obtain ⟨l', h1, h2⟩ := h
   cases h2
   obtain ⟨_, c, rfl⟩ := sl_val hv
   obtain ⟨vs, g1, g2, g3⟩ := ldC_ok (obj_of hs (hF j tb_one) hob).2 h1
   refine ⟨vs, g2, g1, ?_⟩
   have := run_loadCells_list (P := P) w (adr (σ j) off) vs g3
   rw [g1] at this
   simp [Builtin.firstCells, this]
  ·cases h
 ·cases h; cases hv
  have := hm 0 rfl
  obtain rfl : m = 0 := by omega
  exact ⟨[], trivial, by simp, by simp [Builtin.firstCells]⟩
 ·split at h
  ·rename_i h0
   cases h; subst h0
   obtain ⟨a, c, rfl⟩ := hv
   refine ⟨[], trivial, by simp, ?_⟩
   cases a <;> simp [Builtin.firstCells, loadCells, loadCellsFrom]
  ·cases h
 ·rename_i b
  split at h
  ·rename_i h0
   cases h; subst h0; cases hv
   have hm' := hm b.length rfl
   refine ⟨(b.take m).map fun u => .int .u8 u.toNat, ?_, by simp; omega, ?_⟩
   ·generalize b.take m = z
    induction z with
    | nil => trivial
    | cons a r ih => exact ⟨rfl, ih⟩
   ·have : ((ByteArray.mk b.toArray).extract 0 m).data = (b.take m).toArray := by
     rw [ByteArray.data_extract]; simp [List.extract_eq_take_drop]
    simp [Builtin.firstCells, this]
  ·cases h
def aCopy (P : Program) (H : Heap) (A : Operand -> Option S) (dT : TypeId) (d x : Operand) : Option (S × Ef) := match P.underlying dT, S.c? (A d), S.c? (A x) with
 | some (.slice el), some (.sl i off dLen cp), some c => match szOf P el, aLenC c, H i with
  | some sz, some q, some ob => match aSrc H sz (min q dLen) c with
   | some (l, k) => (wrC ob off l).map fun ob' => (.v (.c (.int .i64 ((min q dLen : Nat) : Int))), .set (one i ||| k) i ob')
   | none => none
  | _, _, _ => none
 | some (.slice el), some .snil, some c => match szOf P el, aLenC c with
  | some sz, some q => match aSrc H sz 0 c with
   | some (l, k) => some (.v (.c (.int .i64 0)), .no k)
   | none => none
  | _, _ => none
 | _, _, _ => none
theorem copy_ok {dT sT : TypeId} {d x : Operand} {s : S} {e : Ef} (ho : o.op = .call { callee := .builtin .copy, args := #[d, x], argTypes := #[dT, sT] }) (hA : Eqv σ D A ρ) (h : aCopy P H A dT d x = some (s, e)) (hs : Sat σ D (rst (tb e.F) H) w) : AOK P ρ o σ D w H n s e := by
 unfold aCopy at h
 split at h
 ·rename_i el i off dLen cp c ht hd hx
  split at h
  ·rename_i sz q ob hsz hq hob
   split at h
   ·rename_i l k hsrc
    rw [Option.map_eq_some_iff] at h
    obtain ⟨ob', h1, h2⟩ := h
    cases h2
    have hF1 : tb (one i ||| k) i = true := by rw [tb_or, tb_one]; rfl
    obtain ⟨vs, g1, g2, g3⟩ := src_ok (P := P) hs hsrc (fun j hj => by show tb (one i ||| k) j = true; rw [tb_or, hj, Bool.or_true]) (hA.c hx) (fun q' hq' => by rw [hq] at hq'; cases hq'; exact Nat.min_le_left q dLen)
    obtain ⟨_, cc, hp⟩ := sl_val (hA.c hd)
    obtain ⟨w', k1, k2, k3⟩ := wrC_ok (P := P) (obj_of hs hF1 hob).2 h1 g1
    have hl := lenC_ok (P := P) (w := w) hq (hA.c hx)
    refine ⟨_, .int .i64 ((min q dLen : Nat) : Int), _, _, did_set hs hF1 (by rw [hob]; rfl) (run_bi ho (fun _ => rfl) (v := .int .i64 ((min q dLen : Nat) : Int)) (w' := w') ?_) (.inl rfl) rfl k3 k2⟩
    have hmin : Nat.min q dLen = min q dLen := rfl
    simp [Builtin.copy_, run_underlying ht, hp, hl, run_sz hsz, hmin, g3, k1, goInt]
   ·cases h
  ·cases h
 ·rename_i el c ht hd hx
  split at h
  ·rename_i sz q hsz hq
   split at h
   ·rename_i l k hsrc
    cases h
    obtain ⟨vs, g1, g2, g3⟩ := src_ok (P := P) hs hsrc (fun j hj => hj) (hA.c hx) (fun q' hq' => Nat.zero_le _)
    have hp : ρ d = .slice none 0 0 := hA.c hd
    have hl := lenC_ok (P := P) (w := w) hq (hA.c hx)
    refine ⟨_, .int .i64 0, _, _, did_no hs (run_bi ho (fun _ => rfl) (v := .int .i64 0) ?_) (.inl rfl) rfl⟩
    have hmin : Nat.min q 0 = 0 := Nat.min_zero _
    simp [Builtin.copy_, run_underlying ht, hp, hl, run_sz hsz, hmin, g3, goInt]
   ·cases h
  ·cases h
 ·cases h
def aClear (P : Program) (H : Heap) (A : Operand -> Option S) (t : TypeId) (x : Operand) : Option (S × Ef) := match P.underlying t, S.c? (A x) with
 | some (.slice el), some (.sl i off (len + 1) cp) => match zeroOf P el, H i with
  | some (_, z), some ob => if 0 < z.length then (wrC ob off (zerosC z ((len + 1) * z.length))).map fun ob' => (.tup [], .set (one i) i ob') else none
  | _, _ => none
 | some (.slice el), some (.sl i off 0 cp) => some (.tup [], .no 0)
 | some (.slice el), some .snil => some (.tup [], .no 0)
 | some (.slice el), some .se => some (.tup [], .no 0)
 | _, _ => none
theorem clear_ok {t : TypeId} {x : Operand} {s : S} {e : Ef} (ho : o.op = .call { callee := .builtin .clear, args := #[x], argTypes := #[t] }) (hA : Eqv σ D A ρ) (h : aClear P H A t x = some (s, e)) (hs : Sat σ D (rst (tb e.F) H) w) : AOK P ρ o σ D w H n s e := by
 unfold aClear at h
 split at h
 ·rename_i el i off len cp ht hx
  split at h
  ·rename_i z0 z ob hz0 hob
   split at h
   ·rename_i hzl
    rw [Option.map_eq_some_iff] at h
    obtain ⟨ob', h1, h2⟩ := h
    cases h2
    obtain ⟨hz, hzr, _⟩ := zeroOf_ok (σ := σ) (D := D) hz0
    obtain ⟨_, cc, hp⟩ := sl_val (hA.c hx)
    have hzs := zeros_ok (n := (len + 1) * z.length) hz hzl
    obtain ⟨w', k1, k2, k3⟩ := wrC_ok (P := P) (obj_of hs tb_one hob).2 h1 hzs
    have hzl2 := hz.length
    rw [Array.length_toList] at hzl2
    refine ⟨_, .tuple #[], _, _, did_set hs tb_one (by rw [hob]; rfl) (run_bi ho (fun _ => rfl) (v := .tuple #[]) (w' := w') ?_) (.inl rfl) ⟨[], trivial, rfl⟩ k3 k2⟩
    simp [Builtin.clear_, run_underlying ht, hp, hzr, zeroCells_eq, hzl2, k1]
   ·cases h
  ·cases h
 ·rename_i el i off cp ht hx
  cases h
  obtain ⟨_, cc, hp⟩ := sl_val (hA.c hx)
  exact ⟨_, .tuple #[], _, _, did_no hs (run_bi ho (fun _ => rfl) (v := .tuple #[]) (by simp [Builtin.clear_, run_underlying ht, hp])) (.inl rfl) ⟨[], trivial, rfl⟩⟩
 ·rename_i el ht hx
  cases h
  have hp : ρ x = .slice none 0 0 := hA.c hx
  exact ⟨_, .tuple #[], _, _, did_no hs (run_bi ho (fun _ => rfl) (v := .tuple #[]) (by simp [Builtin.clear_, run_underlying ht, hp])) (.inl rfl) ⟨[], trivial, rfl⟩⟩
 ·rename_i el ht hx
  cases h
  obtain ⟨a, c, hp⟩ := hA.c hx
  exact ⟨_, .tuple #[], _, _, did_no hs (run_bi ho (fun _ => rfl) (v := .tuple #[]) (by cases a <;> simp [Builtin.clear_, run_underlying ht, hp])) (.inl rfl) ⟨[], trivial, rfl⟩⟩
 ·cases h
theorem Sat.drew {σ : Nat -> Blk} {D : Nat -> Prop} {h : Heap} {w : World} (hs : Sat σ D h w) : Sat σ D h w.drew :=
 ⟨fun i o e => ⟨(hs.obj i o e).1, (hs.obj i o e).2.ext rfl rfl (fun _ _ => rfl) (fun _ h => h)⟩, hs.inj⟩
def noInt : TypeDesc -> Bool | .slice _ => true | .string => true | _ => false
theorem run_app_grow {t t2 ty e : TypeId} {d2 : TypeDesc} {i : TypeInfo} {z : Value} (ht : P.underlying t = some (.slice e)) (ht2 : P.underlying t2 = some d2) (hn : noInt d2 = true) (hi : P.info? e = some i) (hz : i.zero = some z)
  {base : Option Addr} {sLen sCap m : Nat} {x : Value} {olds news : List Value} (hlx : ∀ w, (Builtin.lenOf x).run P w = .ok m w) (hold : (Builtin.firstCells i.size sLen (.slice base sLen sCap)).run P w.drew = .ok olds.toArray w.drew)
  (hnew : (Builtin.firstCells i.size m x).run P w.drew = .ok news.toArray w.drew) (hg : sCap < sLen + m) (h63 : ((sLen + m : Nat) : Int) <= 9223372036854775807) (hfit : Builtin.nextslicecap (sLen + m) sCap * i.bytes <= 281474976710656) :
  (Builtin.append_ #[t, t2] ty #[.slice base sLen sCap, x]).run P w = .ok (.slice (some ⟨w.heap.size, 0, none⟩) (sLen + m) (grownCap w (sLen + m) sCap e))
    (w.drew.alloc (.cells ((olds ++ news).toArray ++ Builtin.zeroCells z.cells (grownCap w (sLen + m) sCap e - (sLen + m))) e)) := by
 have hap : ∀ q : Array Value, olds.toArray ++ (news.toArray ++ q) = (olds ++ news).toArray ++ q := fun q => by apply Array.ext'; simp
 have hn1 : ¬ (sLen + m <= sCap) := by omega
 have h63' : ¬ (9223372036854775807 < ((sLen : Int) + (m : Int))) := by omega
 have h48' : ¬ (281474976710656 < Builtin.nextslicecap (sLen + m) sCap * i.bytes) := by omega
 cases d2 <;> first | (cases hn; done) | simp [Builtin.append_, run_underlying ht, run_underlying ht2, sizeOf, typeInfo, zeroValue, hi, hz, hlx, hn1, h63', h48', Question.forced, hold, hnew, newRow, grownCap, hap]
theorem run_app_room {t t2 ty e : TypeId} {d2 : TypeDesc} {i : TypeInfo} (ht : P.underlying t = some (.slice e)) (ht2 : P.underlying t2 = some d2) (hn : noInt d2 = true) (hi : P.info? e = some i)
  {a : Addr} {sLen sCap m : Nat} {x : Value} {news : List Value} {w' : World} (hlx : ∀ w, (Builtin.lenOf x).run P w = .ok m w) (hnew : (Builtin.firstCells i.size m x).run P w = .ok news.toArray w) (hroom : sLen + m <= sCap)
  (hst : (storeCells (a.add (sLen * i.size)) news).run P w = .ok () w') : (Builtin.append_ #[t, t2] ty #[.slice (some a) sLen sCap, x]).run P w = .ok (.slice (some a) (sLen + m) sCap) w' := by
 cases d2 <;> first | (cases hn; done) | simp [Builtin.append_, run_underlying ht, run_underlying ht2, sizeOf, typeInfo, hi, hlx, hroom, hnew, hst]
theorem run_app_none {t t2 ty e : TypeId} {d2 : TypeDesc} {i : TypeInfo} (ht : P.underlying t = some (.slice e)) (ht2 : P.underlying t2 = some d2) (hn : noInt d2 = true) (hi : P.info? e = some i)
  {a : Option Addr} {sLen sCap : Nat} {x : Value} (hlx : ∀ w, (Builtin.lenOf x).run P w = .ok 0 w) (hnew : (Builtin.firstCells i.size 0 x).run P w = .ok #[] w) (hroom : sLen <= sCap) :
  (Builtin.append_ #[t, t2] ty #[.slice a sLen sCap, x]).run P w = .ok (.slice a sLen sCap) w := by
 cases d2 <;> first | (cases hn; done) | (cases a <;> simp [Builtin.append_, run_underlying ht, run_underlying ht2, sizeOf, typeInfo, hi, hlx, hroom, hnew, storeCells])
structure AppT (P : Program) (t t2 el : TypeId) (inf : TypeInfo) (z : Value) : Prop where
 ht : P.underlying t = some (.slice el)
 d2 : ∃ d, P.underlying t2 = some d /\ noInt d = true
 hi : P.info? el = some inf
 hz : inf.zero = some z
 hzl : z.cells.size = inf.size
 hsz : 0 < inf.size
 hb : inf.bytes <= 1000000
theorem cells_of {i : Nat} {ob : AO} {cur : Array Value} (h5 : ∀ (j : Nat) (c : C), ob.cs[j]? = some c -> ∃ v, cur[j]? = some v /\ RC σ D c v) (h3 : ob.cs.length <= cur.size) : RL σ D ob.cs (cur.toList.take ob.cs.length) :=
 RL.of (by simp; omega) (fun j c e => by
  obtain ⟨v, a1, a2⟩ := h5 j c e
  exact ⟨v, by rw [List.getElem?_take, if_pos (List.getElem?_eq_some_iff.1 e).1, Array.getElem?_toList]; exact a1, a2⟩)
theorem grown_obj {i : Nat} {σ' : Nat -> Blk} {D' : Nat -> Prop} {el : TypeId} {inf : TypeInfo} {z : Value} {need cap : Nat} {l : List C} {vs : List Value} {w' : World} (hl : RL σ' D' l vs) (hlen : vs.length = need * inf.size) (hzl : z.cells.size = inf.size) (hcap : need <= cap) (hi : σ' i = ⟨w'.heap.size, cap * inf.size⟩) :
  ObjAt σ' D' i ⟨el, l, true, .ok⟩ (w'.alloc (.cells (vs.toArray ++ Builtin.zeroCells z.cells (cap - need)) el)) := by
 have hll := hl.length
 have hm := Nat.mul_le_mul_right inf.size hcap
 refine ⟨_, (0, 0), by rw [hi]; exact heap_alloc_new w' _, fun _ => rfl, ?_, ?_, (fun h => by cases h), fun j c e => ?_⟩
 ·rw [hi, Array.size_append, size_zeroCells, hzl, List.size_toArray, hlen, <- Nat.add_mul]
  congr 1; omega
 ·rw [hi]; show l.length <= cap * inf.size; omega
 ·obtain ⟨v, a1, a2⟩ := hl.get e
  refine ⟨v, ?_, a2⟩
  have hlt := (List.getElem?_eq_some_iff.1 a1).1
  rw [Array.getElem?_append_left (by simpa using hlt)]
  simpa using a1
theorem grow_ok {t t2 el : TypeId} {F i k len c m : Nat} {inf : TypeInfo} {z : Value} {ob : AO} {l : List C} {x : Operand} {s : Operand} {src : C} (ho : o.op = .call { callee := .builtin .append, args := #[s, x], argTypes := #[t, t2] })
  (hT : AppT P t t2 el inf z) (hs : Sat σ D (rst (tb F) H) w) (hD : ¬ D n) (hF1 : tb F i = true) (hF2 : ∀ j, tb k j = true -> tb F j = true)
  (hob : H i = some ob) (hfz : ob.fz = false) (hty : ob.ty = el) (hlen : len * inf.size <= ob.cs.length) (hc : c * inf.size = (σ i).t) (hlc : len <= c) (hcm : c <= maxLen)
  (hp : ρ s = .slice (some (adr (σ i) 0)) len c) (hsrc : aSrc H inf.size m src = some (l, k)) (hv : RC σ D src (ρ x)) (hq : aLenC src = some m) (hlm : len + m <= 1000000) :
  AOK P ρ o σ D w H n (.v (.c (.sl n 0 (len + m) (.op inf.size)))) (.mv F i ⟨el, ob.cs.take (len * inf.size) ++ l, true, .ok⟩) := by
 obtain ⟨d2, hd2, hni⟩ := hT.d2
 obtain ⟨hDi, hO⟩ := obj_of hs hF1 hob
 obtain ⟨cur, fr, h1, h0, h2, h3, h4, h5⟩ := hO.ok hfz
 have hfr := h0 hfz
 subst hfr
 have hty' := hty
 subst hty'
 have hlx := fun w => lenC_ok (P := P) (w := w) hq hv
 have hold := cells_of (i := i) h5 (by omega)
 have hcut : (cur.toList.take ob.cs.length).take (len * inf.size) = cur.toList.take (len * inf.size) := by rw [List.take_take, Nat.min_eq_left hlen]
 have hold2 := hold.take (len * inf.size)
 rw [hcut] at hold2
 by_cases hroom : len + m <= c
 ·-- in its place
  obtain ⟨vs, g1, g2, g3⟩ := src_ok (P := P) hs hsrc hF2 hv (fun q hq' => by rw [hq] at hq'; cases hq'; exact Nat.le_refl _)
  have hfit : len * inf.size + vs.length <= cur.size := by
   rw [g2, <- Nat.add_mul, h2, <- hc]; exact Nat.mul_le_mul_right _ hroom
  have hst := run_storeCells_at P (σ i).b (len * inf.size) ob.ty vs 0 cur w h1 (by omega) g1.ones
  simp only [Nat.add_zero] at hst
  have hr := run_app_room (ty := o.type) hT.ht hd2 hni hT.hi (a := adr (σ i) 0) hlx g3 hroom (by rw [adr_add, Nat.zero_add]; exact hst)
  have hsm : ∀ i, D i -> at_ σ n (σ i) i = σ i := fun i hi => at_other (fun e => by subst e; exact hD hi)
  have hsm' : ∀ j, D j -> at_ σ n (σ i) j = σ j := fun j hj => at_other (fun e => by subst e; exact hD hj)
  refine ⟨_, .slice (some (adr (σ i) 0)) (len + m) c, _, _, did_mv (k := σ i) hs hD hF1 (by rw [hob]; rfl) (run_bi ho (fun _ => rfl) (w' := w.setRow (σ i).b (cur.toList.take (len * inf.size) ++ vs ++ cur.toList.drop (len * inf.size + vs.length)).toArray) ?_) (.inl rfl) ?_ ⟨rfl, rfl, rfl, by simp, fun k hk hn => setRow_other w _ k _ hn⟩ (.inr rfl) ?_⟩
  ·simp only [List.map_toArray, List.map_cons, List.map_nil, hp]; exact hr
  ·exact ⟨.inr ⟨Nat.le_refl _, Nat.lt_succ_self _⟩, c, by rw [at_same], hroom, hcm, by rw [at_same, Nat.zero_add]; exact hc⟩
  ·have hnew := hold2.append g1
   refine ⟨_, (0, 0), by rw [at_same]; exact setRow_heap w _ cur _ ob.ty _ h1, fun _ => rfl, ?_, ?_, (fun h => by cases h), fun j cc e => ?_⟩
   ·rw [at_same]; simp; omega
   ·rw [at_same]
    have hl2 := g1.length
    simp only [List.length_append, List.length_take]
    rw [Nat.min_eq_left hlen]
    omega
   ·obtain ⟨v, a1, a2⟩ := hnew.get e
    refine ⟨v, ?_, a2.ext hsm' (fun _ h => .inl h)⟩
    rw [List.getElem?_toArray, List.getElem?_append_left (List.getElem?_eq_some_iff.1 a1).1]
    exact a1
 ·-- elsewhere
  obtain ⟨vs, g1, g2, g3⟩ := src_ok (P := P) hs.drew hsrc hF2 hv (fun q hq' => by rw [hq] at hq'; cases hq'; exact Nat.le_refl _)
  have hfirst : (Builtin.firstCells inf.size len (.slice (some (adr (σ i) 0)) len c)).run P w.drew = .ok (cur.toList.take (len * inf.size)).toArray w.drew := by
   have := run_loadCells_list (P := P) w.drew (adr (σ i) 0) (cur.toList.take (len * inf.size)) (fun j v e => by
    rw [List.getElem?_take] at e
    split at e
    ·unfold adr
     rw [addr_add, cell_of_row w.drew _ _ cur ob.ty (0, 0) h1]
     simpa using e
    ·cases e)
   have hl : (cur.toList.take (len * inf.size)).length = len * inf.size := by simp; omega
   rw [hl] at this
   simp [Builtin.firstCells, this]
  have hg' : c < len + m := by omega
  have hr := run_app_grow (ty := o.type) (w := w) hT.ht hd2 hni hT.hi hT.hz hlx hfirst g3 hg' (by omega) (growslice_fits hg' (by have := Nat.mul_le_mul hlm hT.hb; omega))
  have hcap := grownCap_ge w (len + m) c ob.ty
  have hcle := grownCap_le_maxLen w (len + m) c ob.ty (by unfold maxLen; omega)
  refine ⟨_, .slice (some ⟨w.heap.size, 0, none⟩) (len + m) (grownCap w (len + m) c ob.ty), _, _, did_mv (k := ⟨w.heap.size, grownCap w (len + m) c ob.ty * inf.size⟩) (w' := w.drew.alloc (.cells ((cur.toList.take (len * inf.size) ++ vs).toArray ++ Builtin.zeroCells z.cells (grownCap w (len + m) c ob.ty - (len + m))) ob.ty)) hs hD hF1 (by rw [hob]; rfl) (run_bi ho (fun _ => rfl) ?_) (.inl rfl) ?_ (((Tch.drew w).trans0 (Tch.alloc _ _)).no) (.inl (Nat.le_refl _)) ?_⟩
  ·simp only [List.map_toArray, List.map_cons, List.map_nil, hp]; exact hr
  ·exact ⟨.inr ⟨Nat.le_refl _, Nat.lt_succ_self _⟩, _, by rw [at_same]; rfl, hcap, hcle, by rw [at_same, Nat.zero_add]⟩
  ·have hsm : ∀ j, D j -> at_ σ n ⟨w.heap.size, grownCap w (len + m) c ob.ty * inf.size⟩ j = σ j := fun j hj => at_other (fun e => by subst e; exact hD hj)
   have hnew := RL.ext (D' := more D n (n + 1)) (hold2.append g1) hsm (fun _ h => .inl h)
   have := grown_obj (i := n) (el := ob.ty) (inf := inf) (z := z) (need := len + m) (cap := grownCap w (len + m) c ob.ty) (w' := w.drew) hnew (by rw [List.length_append, g2, Nat.add_mul]; simp; omega) hT.hzl hcap at_same
   simpa using this
def app0 : C -> Option (S × Ef)
 | .snil => some (.v (.c .snil), .no 0)
 | .sl i off len (.ex c) => if len <= c then some (.v (.c (.sl i off len (.ex c))), .no 0) else none
 | .sl i off len (.op s1) => some (.v (.c (.sl i off len (.op s1))), .no 0)
 | _ => none
theorem app0_ok {t t2 el : TypeId} {inf : TypeInfo} {z : Value} {s x : Operand} {sv xv : C} {s' : S} {e : Ef} (ho : o.op = .call { callee := .builtin .append, args := #[s, x], argTypes := #[t, t2] }) (hT : AppT P t t2 el inf z)
  (hsv : RC σ D sv (ρ s)) (hxv : RC σ D xv (ρ x)) (hx : aLenC xv = some 0) (h : app0 sv = some (s', e)) (hs : Sat σ D (rst (tb e.F) H) w) : AOK P ρ o σ D w H n s' e := by
 obtain ⟨d2, hd2, hni⟩ := hT.d2
 have hlx := fun w => lenC_ok (P := P) (w := w) hx hxv
 have hfx : (Builtin.firstCells inf.size 0 (ρ x)).run P w = .ok #[] w := by
  unfold aLenC at hx
  split at hx <;> first | (cases hx; done) | skip
  ·obtain ⟨_, c, e⟩ := sl_val hxv; rw [e]; simp [Builtin.firstCells, loadCells, loadCellsFrom]
  ·rw [show ρ x = .slice none 0 0 from hxv]; simp [Builtin.firstCells]
  ·obtain ⟨a, c, e⟩ := hxv; rw [e]; cases a <;> simp [Builtin.firstCells, loadCells, loadCellsFrom]
  ·rename_i b
   rw [show ρ x = .string ⟨b.toArray⟩ from hxv]
   have : ((ByteArray.mk b.toArray).extract 0 0).data = #[] := by rw [ByteArray.data_extract]; simp
   simp [Builtin.firstCells, this]
 have key : ∀ a len c, ρ s = .slice a len c -> len <= c -> (execOp ρ o).run P w = .ok (.value (ρ s)) w := fun a len c e hle => by
  refine run_bi ho (fun _ => rfl) ?_
  simp only [List.map_toArray, List.map_cons, List.map_nil, e]
  exact run_app_none hT.ht hd2 hni hT.hi hlx hfx hle
 unfold app0 at h
 split at h
 ·cases h
  exact ⟨_, ρ s, _, _, did_no hs (key none 0 0 hsv (Nat.le_refl _)) (.inl rfl) hsv⟩
 ·rename_i i off len c
  split at h
  ·rename_i hle
   cases h
   exact ⟨_, ρ s, _, _, did_no hs (key _ _ _ hsv.2 hle) (.inl rfl) hsv⟩
  ·cases h
 ·rename_i i off len s1
  cases h
  obtain ⟨_, c, e, hle, _⟩ := id hsv
  exact ⟨_, ρ s, _, _, did_no hs (key _ _ _ e hle) (.inl rfl) hsv⟩
 ·cases h
def appS (H : Heap) (n : Nat) (el : TypeId) (sz m : Nat) (l : List C) (k : Nat) : C -> Option (S × Ef)
  | .snil => some (.v (.c (.sl n 0 m (.op sz))), .new k ⟨el, l, true, .ok⟩)
  | .sl i off len cp => match H i with
    | some ob => if off = 0 /\ ob.fz = false /\ ob.ty = el /\ len * sz <= ob.cs.length /\ len + m <= 1000000 then
        match cp with
        | .ex c => if len <= c /\ c <= maxLen /\ ob.opn = false /\ c * sz = ob.cs.length then
            (if len + m <= c then (wrC ob (len * sz) l).map fun ob' => (.v (.c (.sl i 0 (len + m) (.ex c))), .set (one i ||| k) i ob')
             else some (.v (.c (.sl n 0 (len + m) (.op sz))), .mv (one i ||| k) i ⟨el, ob.cs.take (len * sz) ++ l, true, .ok⟩)) else none
        | .op s1 => if s1 = sz then
            (if (len + m) * sz <= ob.cs.length then (wrC ob (len * sz) l).map fun ob' => (.v (.c (.sl i 0 (len + m) (.op sz))), .set (one i ||| k) i ob')
             else some (.v (.c (.sl n 0 (len + m) (.op sz))), .mv (one i ||| k) i ⟨el, ob.cs.take (len * sz) ++ l, true, .ok⟩)) else none
      else none
    | none => none
  | _ => none
theorem room_ok {t t2 el : TypeId} {F i k len c m : Nat} {inf : TypeInfo} {z : Value} {ob ob' : AO} {l : List C} {s x : Operand} {src : C} {cp : Cp} (ho : o.op = .call { callee := .builtin .append, args := #[s, x], argTypes := #[t, t2] })
  (hT : AppT P t t2 el inf z) (hs : Sat σ D (rst (tb F) H) w) (hF1 : tb F i = true) (hF2 : ∀ j, tb k j = true -> tb F j = true)
  (hob : H i = some ob) (hp : ρ s = .slice (some (adr (σ i) 0)) len c) (hroom : len + m <= c) (hsrc : aSrc H inf.size m src = some (l, k)) (hq : aLenC src = some m) (hv : RC σ D src (ρ x)) (hw : wrC ob (len * inf.size) l = some ob')
  (hres : RC σ D (.sl i 0 (len + m) cp) (.slice (some (adr (σ i) 0)) (len + m) c)) : AOK P ρ o σ D w H n (.v (.c (.sl i 0 (len + m) cp))) (.set F i ob') := by
 obtain ⟨d2, hd2, hni⟩ := hT.d2
 obtain ⟨vs, g1, g2, g3⟩ := src_ok (P := P) hs hsrc hF2 hv (fun q hq' => by rw [hq] at hq'; cases hq'; exact Nat.le_refl _)
 obtain ⟨w', k1, k2, k3⟩ := wrC_ok (P := P) (obj_of hs hF1 hob).2 hw g1
 have hlx := fun w => lenC_ok (P := P) (w := w) hq hv
 refine ⟨_, .slice (some (adr (σ i) 0)) (len + m) c, _, _, did_set hs hF1 (by rw [hob]; rfl) (run_bi ho (fun _ => rfl) (w' := w') ?_) (.inl rfl) hres k3 k2⟩
 simp only [List.map_toArray, List.map_cons, List.map_nil, hp]
 exact run_app_room hT.ht hd2 hni hT.hi hlx g3 hroom (by rw [adr_add, Nat.zero_add]; exact k1)
theorem appS_ok {t t2 el : TypeId} {m k : Nat} {inf : TypeInfo} {z : Value} {l : List C} {s x : Operand} {sv src : C} {s' : S} {e : Ef} (ho : o.op = .call { callee := .builtin .append, args := #[s, x], argTypes := #[t, t2] }) (hD : n < e.n' n -> ¬ D n)
  (hT : AppT P t t2 el inf z) (hsv : RC σ D sv (ρ s)) (hv : RC σ D src (ρ x)) (hm : 0 < m) (hsrc : aSrc H inf.size m src = some (l, k)) (hq : aLenC src = some m) (hm1 : m <= 1000000) (h : appS H n el inf.size m l k sv = some (s', e)) (hs : Sat σ D (rst (tb e.F) H) w) : AOK P ρ o σ D w H n s' e := by
 obtain ⟨d2, hd2, hni⟩ := hT.d2
 unfold appS at h
 split at h
 ·cases h
  have hD' : ¬ D n := hD (Nat.lt_succ_self n)
  have hp : ρ s = .slice none 0 0 := hsv
  have hlx := fun w => lenC_ok (P := P) (w := w) hq hv
  obtain ⟨vs, g1, g2, g3⟩ := src_ok (P := P) hs.drew hsrc (fun j hj => hj) hv (fun q hq' => by rw [hq] at hq'; cases hq'; exact Nat.le_refl _)
  have hg' : 0 < 0 + m := by omega
  have hr := run_app_grow (ty := o.type) (w := w) (base := none) (sLen := 0) (sCap := 0) (olds := []) hT.ht hd2 hni hT.hi hT.hz hlx (by simp [Builtin.firstCells]) g3 hg' (by omega) (growslice_fits hg' (by rw [Nat.zero_add]; have := Nat.mul_le_mul hm1 hT.hb; omega))
  simp only [Nat.zero_add, List.nil_append] at hr
  have hcap := grownCap_ge w m 0 el
  have hcle := grownCap_le_maxLen w m 0 el (by unfold maxLen; omega)
  have hsm : ∀ j, D j -> at_ σ n ⟨w.heap.size, grownCap w m 0 el * inf.size⟩ j = σ j := fun j hj => at_other (fun e => by subst e; exact hD' hj)
  refine ⟨_, .slice (some ⟨w.heap.size, 0, none⟩) m (grownCap w m 0 el), _, _, did_new (k := ⟨w.heap.size, grownCap w m 0 el * inf.size⟩) hs hD' (run_bi ho (fun _ => rfl) (w' := w.drew.alloc (.cells (vs.toArray ++ Builtin.zeroCells z.cells (grownCap w m 0 el - m)) el)) ?_) (.inl rfl) ?_ ((Tch.drew w).trans0 (Tch.alloc _ _)) (Nat.le_refl _) ?_⟩
  ·simp only [List.map_toArray, List.map_cons, List.map_nil, hp]; simpa using hr
  ·exact ⟨.inr ⟨Nat.le_refl _, Nat.lt_succ_self _⟩, _, by rw [at_same]; rfl, hcap, hcle, by rw [at_same, Nat.zero_add]⟩
  ·exact grown_obj (inf := inf) (w' := w.drew) (g1.ext hsm (fun _ h => .inl h)) g2 hT.hzl hcap at_same
 ·rename_i i off len cp
  split at h
  ·rename_i ob hob
   split at h
   ·rename_i hc
    obtain ⟨rfl, hfz, hty, hlen, hlm⟩ := hc
    have hF1 : ∀ {a}, tb (one i ||| a) i = true := by intro a; rw [tb_or, tb_one]; rfl
    have hF2 : ∀ j, tb k j = true -> tb (one i ||| k) j = true := fun j hj => by rw [tb_or, hj, Bool.or_true]
    split at h
    ·rename_i c
     split at h
     ·rename_i hc2
      obtain ⟨hlc, hcm, hopn, hcs⟩ := hc2
      have ht0 : ∀ {F}, Sat σ D (rst (tb F) H) w -> tb F i = true -> c * inf.size = (σ i).t := fun hs hF => by
       obtain ⟨cur, fr, h1, h0, h2, h3, h4, h5⟩ := (obj_of hs hF hob).2.ok hfz
       rw [hcs]; exact h4 hopn
      split at h
      ·rename_i hroom
       rw [Option.map_eq_some_iff] at h
       obtain ⟨ob', h1, h2⟩ := h
       cases h2
       exact room_ok ho hT hs hF1 hF2 hob hsv.2 hroom hsrc hq hv h1 ⟨hsv.1, rfl⟩
      ·cases h
       have hs' : Sat σ D (rst (tb (one i ||| k)) H) w := hs
       exact grow_ok ho hT hs' (hD (Nat.lt_succ_self n)) hF1 hF2 hob hfz hty hlen (ht0 hs' hF1) hlc hcm hsv.2 hsrc hv hq hlm
     ·cases h
    ·rename_i s1
     split at h
     ·rename_i hs1
      subst hs1
      obtain ⟨hDi, c, hp, hlc, hcm, hct⟩ := id hsv
      rw [Nat.zero_add] at hct
      split at h
      ·rename_i hfit
       rw [Option.map_eq_some_iff] at h
       obtain ⟨ob', h1, h2⟩ := h
       cases h2
       have hs' : Sat σ D (rst (tb (one i ||| k)) H) w := hs
       have hroom : len + m <= c := by
        obtain ⟨cur, fr, h1, h0, h2, h3, h4, h5⟩ := (obj_of hs' hF1 hob).2.ok hfz
        have := Nat.le_trans hfit h3
        rw [<- hct] at this
        exact Nat.le_of_mul_le_mul_right this hT.hsz
       exact room_ok ho hT hs' hF1 hF2 hob hp hroom hsrc hq hv h1 ⟨hDi, c, rfl, hroom, hcm, by rw [Nat.zero_add]; exact hct⟩
      ·cases h
       have hs' : Sat σ D (rst (tb (one i ||| k)) H) w := hs
       exact grow_ok ho hT hs' (hD (Nat.lt_succ_self n)) hF1 hF2 hob hfz hty hlen hct hlc hcm hp hsrc hv hq hlm
     ·cases h
   ·cases h
  ·cases h
 ·cases h
def appZ (P : Program) (n : Nat) (el : TypeId) (inf : TypeInfo) (z : List C) (t2 : TypeId) (sv xv : C) : Option (S × Ef) := match sv, xv, P.underlying t2 with
 | .snil, .int _ (.ofNat (m + 1)), some (.int _) => if m + 1 <= 1000000 /\ inf.bytes <= 1000000 then some (.v (.c (.sl n 0 (m + 1) (.op inf.size))), .new 0 ⟨el, zerosC z ((m + 1) * z.length), true, .ok⟩) else none
 | _, _, _ => none
theorem appZ_ok {t t2 el : TypeId} {inf : TypeInfo} {z : Value} {zl : List C} {s x : Operand} {sv xv : C} {s' : S} {e : Ef} (ho : o.op = .call { callee := .builtin .append, args := #[s, x], argTypes := #[t, t2] }) (hD : n < e.n' n -> ¬ D n)
  (ht : P.underlying t = some (.slice el)) (hi : P.info? el = some inf) (hz : inf.zero = some z) (hzr : RL σ D zl z.cells.toList) (hzl : zl.length = inf.size) (hsz : 0 < inf.size)
  (hsv : RC σ D sv (ρ s)) (hxv : RC σ D xv (ρ x)) (h : appZ P n el inf zl t2 sv xv = some (s', e)) (hs : Sat σ D (rst (tb e.F) H) w) : AOK P ρ o σ D w H n s' e := by
 unfold appZ at h
 split at h
 ·rename_i q m kn ht2
  split at h
  ·rename_i hc
   cases h
   have hD' : ¬ D n := hD (Nat.lt_succ_self n)
   have hp : ρ s = .slice none 0 0 := hsv
   have hpx : ρ x = .int q ((m + 1 : Nat) : Int) := hxv
   have hbb : (m + 1) * inf.bytes <= 281474976710656 := by have := Nat.mul_le_mul hc.1 hc.2; omega
   have hr := Go.Lib.run_append_nil_zeros (P := P) w t t2 o.type el inf z q kn ht ht2 hi hz (m + 1) (Nat.succ_pos _) hsz (by omega) hbb
   have hge : m + 1 <= grownCap w (m + 1) 0 el := grownCap_ge w (m + 1) 0 el
   have hle : grownCap w (m + 1) 0 el <= maxLen := grownCap_le_maxLen w (m + 1) 0 el (by unfold maxLen; omega)
   have hzc : z.cells.size = inf.size := by rw [<- hzl]; have := hzr.length; rwa [Array.length_toList] at this
   have hsm : ∀ i, D i -> at_ σ n ⟨w.heap.size, grownCap w (m + 1) 0 el * inf.size⟩ i = σ i := fun i hi => at_other (fun e => by subst e; exact hD' hi)
   have hz0 := zeros_ok (n := (m + 1) * zl.length) hzr (by omega)
   refine ⟨_, .slice (some ⟨w.heap.size, 0, none⟩) (m + 1) (grownCap w (m + 1) 0 el), _, _, did_new (k := ⟨w.heap.size, grownCap w (m + 1) 0 el * inf.size⟩) hs hD' (run_bi ho (fun _ => rfl) (w' := w.drew.alloc (.cells (Builtin.zeroCells z.cells (m + 1) ++ Builtin.zeroCells z.cells (grownCap w (m + 1) 0 el - (m + 1))) el)) ?_) (.inl rfl) ?_ ?_ (Nat.le_refl _) ?_⟩
   ·simp only [List.map_toArray, List.map_cons, List.map_nil, hp, hpx]; exact hr
   ·exact ⟨.inr ⟨Nat.le_refl _, Nat.lt_succ_self _⟩, _, by rw [at_same]; rfl, hge, hle, by rw [at_same, Nat.zero_add]⟩
   ·exact (Tch.drew w).trans0 (Tch.alloc _ _)
   ·have := grown_obj (i := n) (el := el) (inf := inf) (z := z) (need := m + 1) (cap := grownCap w (m + 1) 0 el) (w' := w.drew) (RL.ext (D' := more D n (n + 1)) hz0 hsm (fun _ h => .inl h)) (by rw [hzl]; simp [madeCells]) hzc hge at_same
    have e : Builtin.zeroCells z.cells (m + 1) = madeCells z.cells ((m + 1) * zl.length) := by rw [zeroCells_eq, hzc, hzl]
    rw [e]
    simpa using this
  ·cases h
 ·cases h
def aApp (P : Program) (H : Heap) (A : Operand -> Option S) (n : Nat) (t t2 : TypeId) (s x : Operand) : Option (S × Ef) := match P.underlying t, S.c? (A s), S.c? (A x) with
 | some (.slice el), some sv, some xv => match P.info? el, zeroOf P el with
  | some inf, some (_, z) => if z.length = inf.size /\ 0 < inf.size /\ inf.bytes <= 1000000 then
    match aLenC xv with
    | none => appZ P n el inf z t2 sv xv
    | some m => match P.underlying t2 with
     | some d2 => if noInt d2 = true /\ m <= 1000000 then (match m with
      | 0 => app0 sv
      | m + 1 => match aSrc H inf.size (m + 1) xv with
       | some (l, k) => appS H n el inf.size (m + 1) l k sv
       | none => none) else none
     | none => none
   else none
  | _, _ => none
 | _, _, _ => none
theorem app_ok {t t2 : TypeId} {s x : Operand} {s' : S} {e : Ef} (ho : o.op = .call { callee := .builtin .append, args := #[s, x], argTypes := #[t, t2] }) (hA : Eqv σ D A ρ) (hD : n < e.n' n -> ¬ D n) (h : aApp P H A n t t2 s x = some (s', e)) (hs : Sat σ D (rst (tb e.F) H) w) : AOK P ρ o σ D w H n s' e := by
 unfold aApp at h
 split at h
 ·rename_i el sv xv ht hsv hxv
  split at h
  ·rename_i inf z0 z hi hz0
   split at h
   ·rename_i hc
    obtain ⟨hzl, hsz, hb⟩ := hc
    obtain ⟨hz, hzr, i', hi', hz'⟩ := zeroOf_ok (σ := σ) (D := D) hz0
    rw [hi] at hi'; cases hi'
    have hzc : z0.cells.size = inf.size := by rw [<- hzl]; have := hz.length; rwa [Array.length_toList] at this
    have hS := hA.c hsv
    have hX := hA.c hxv
    split at h
    ·exact appZ_ok ho hD ht hi hz' hz hzl hsz hS hX h hs
    ·rename_i m hq
     split at h
     ·rename_i d2 hd2
      split at h
      ·rename_i hc2
       have hT : AppT P t t2 el inf z0 := ⟨ht, ⟨d2, hd2, hc2.1⟩, hi, hz', hzc, hsz, hb⟩
       split at h
       ·exact app0_ok ho hT hS hX hq h hs
       ·rename_i m
        split at h
        ·rename_i l k hsrc
         exact appS_ok ho hD hT hS hX (Nat.succ_pos _) hsrc hq hc2.2 h hs
        ·cases h
      ·cases h
     ·cases h
   ·cases h
  ·cases h
 ·cases h
end
end Ev
end Go.Proofs.YtafndmnbnmlklaaGreat
