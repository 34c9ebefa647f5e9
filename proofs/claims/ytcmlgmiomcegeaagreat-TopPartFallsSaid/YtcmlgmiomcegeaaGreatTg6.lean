/- The texts EwC, one behind the other. No condition. -/
import Derived.Test.YtcmlgmiomcegeaaGreatTg4
import Derived.Test.YtcmlgmiomcegeaaGreatTg5
namespace Go.Proofs.YtcmlgmiomcegeaaGreat.Ev
open Go Go.RowKit Go.Maps
set_option linter.unusedVariables false
set_option linter.unusedSimpArgs false
set_option linter.unusedSectionVars false
variable [Env]
theorem RVL.len {σ : Nat → Blk} {D : Nat → Prop} : ∀ {l : List V} {m : List Value}, RVL σ D l m → m.length = l.length
  | [], [], _ => rfl
  | _ :: _, _ :: _, h => by simp [RVL.len h.2]
theorem RVL.app {σ : Nat → Blk} {D : Nat → Prop} : ∀ {l : List V} {m : List Value} {x : V} {v : Value}, RVL σ D l m → RV σ D x v → RVL σ D (l ++ [x]) (m ++ [v])
  | [], [], _, _, _, h => ⟨h, trivial⟩
  | _ :: _, _ :: _, _, _, h, k => ⟨h.1, RVL.app h.2 k⟩
/-! ### What is let in -/
noncomputable def lenV (l : List V) : Nat := List.rec (motive := fun _ => Nat) 0 (fun _ _ ih => Nat.succ ih) l
theorem lenV_eq (l : List V) : lenV l = l.length := by
  induction l with
  | nil => rfl
  | cons a l ih => show Nat.succ (lenV l) = _; rw [ih]; rfl
noncomputable def okV (six : Bool) : V → Bool
  | .c (.str _) => !six
  | .agg [_, _, _, _, _, _] => six
  | _ => false
theorem wrC_fz {ob ob' : AO} {off : Nat} {l : List C} (h : wrC ob off l = some ob') : ob.fz = false := by
  unfold wrC at h
  split at h
  · rename_i hc; exact hc.2
  · cases h
/-- put: a lane with room; or, of texts, one without. -/
noncomputable def putFn (six : Bool) : GFn := fun args H n => match args with
  | [.v (.c (.ptr h ho)), .v (.c (.ch i)), .v x] => match HT.get H i with
    | some ob => match ob.k with
      | .ch room buf => if okV six x = true then
          (if Nat.ble (Nat.succ (lenV buf)) room = true then some (.v (.c (.bool true)), .set (one i) i ⟨ob.ty, [], ob.opn, .ch room (buf ++ [x])⟩)
           else if six = true then none else match HT.get H h with
            | some hob => match ldC hob (ho + 2) 1 with
              | some [.int .i64 (.ofNat m)] => if Nat.ble m 999999 = true then (wrC hob (ho + 2) [.int .i64 (.ofNat (m + 1))]).map fun hob' => (.v (.c (.bool false)), .set (one h ||| one i) h hob') else none
              | _ => none
            | none => none) else none
      | _ => none
    | none => none
  | _ => none
theorem chan_put {σ : Nat → Blk} {D : Nat → Prop} {w' : World} {i room : Nat} {buf : List V} {x : V} {v : Value} {ty : TypeId} {opn : Bool} (hcs : ∃ vs : List Value, ∃ s r, w'.heap[(σ i).b]? = some (.chan room (vs ++ [v]).toArray false s r false) ∧ RVL σ D buf vs) (hx : RV σ D x v) : ObjAt σ D i ⟨ty, [], opn, .ch room (buf ++ [x])⟩ w' := by
  obtain ⟨vs, s, r, h1, h2⟩ := hcs
  exact ⟨rfl, vs ++ [v], s, r, h1, h2.app hx⟩
theorem setChan_tch {w : World} {c cap s r : Nat} {buf : Array Value} : Tch (fun k => k = c) w (w.setChan c cap buf false s r false) :=
  ⟨rfl, rfl, rfl, by simp [World.setChan], fun k hk hn => by simp only [World.setChan]; exact Array.getElem?_setIfInBounds_ne (fun e => hn e.symm)⟩
theorem setChan_at {w : World} {c cap s r : Nat} {buf : Array Value} (h : c < w.heap.size) : (w.setChan c cap buf false s r false).heap[c]? = some (.chan cap buf false s r false) := by simp [World.setChan, h]
/-- What is asked of put: with room; without. -/
structure PutK (P : Program) (f : FuncId) (six : Bool) : Prop where
  body : ∃ fn, P.funcs[f]? = some fn ∧ fn.body.isSome = true
  room : ∀ (h x : Value) (c cap s r : Nat) (buf : Array Value) (w : World), (six = true → ∃ x0 x1 x2 x3 x4 x5, x = .agg #[x0, x1, x2, x3, x4, x5]) → w.heap[c]? = some (.chan cap buf false s r false) → buf.size < cap →
    Calls P f #[h, .chan (some c), x] w fun e w' => e = .returned (.bool true) ∧ w'.heap[c]? = some (.chan cap (buf.push x) false (s + 1) r false) ∧ Tch (fun k => k = c) w w'
  full : six = false → ∀ (hb ho : Nat) (n : Int) (x : Value) (c cap s r : Nat) (buf : Array Value) (w : World), w.heap[c]? = some (.chan cap buf false s r false) → cap ≤ buf.size → w.cell? ⟨hb, ho + 2, none⟩ = some (.int .i64 n) → w.frozen? ⟨hb, ho + 2, none⟩ = false → 0 ≤ n → n < 1000000 →
    Calls P f #[.pointer (some ⟨hb, ho, none⟩), .chan (some c), x] w fun e w' => e = .returned (.bool false) ∧ w' = w.setCell ⟨hb, ho + 2, none⟩ (.int .i64 (n + 1))
theorem putTx : PutK Tryz.prog 485 false := by
  refine ⟨⟨_, Tryz.func485, rfl⟩, fun h x c cap s r buf w _ hc hr => ?_, fun _ hb ho n x c cap s r buf w hc hf hn hz h0 h1 => puts_full hb ho n x c cap s r buf w hc hf hn hz h0 h1⟩
  refine (puts_room h x c cap s r buf w hc hr).mono ?_
  rintro e w' ⟨rfl, rfl⟩
  exact ⟨rfl, setChan_at (Array.getElem?_eq_some_iff.1 hc).1, setChan_tch⟩
theorem putPk : PutK Tryz.prog 240 true := by
  refine ⟨⟨_, Tryz.func240, rfl⟩, fun h x c cap s r buf w h6 hc hr => ?_, fun h => by cases h⟩
  obtain ⟨x0, x1, x2, x3, x4, x5, rfl⟩ := h6 rfl
  refine (putp_room h x0 x1 x2 x3 x4 x5 c cap s r buf w hc hr).mono ?_
  rintro e w' ⟨rfl, rfl⟩
  have hlt := (Array.getElem?_eq_some_iff.1 hc).1
  exact ⟨rfl, setChan_at (by simp; omega), (Tch.alloc _ _).no.trans setChan_tch (fun _ _ h => h)⟩
theorem RV.six {σ : Nat → Blk} {D : Nat → Prop} {x : V} {v : Value} (h : RV σ D x v) (hk : okV true x = true) : ∃ x0 x1 x2 x3 x4 x5, v = .agg #[x0, x1, x2, x3, x4, x5] := by
  unfold okV at hk
  split at hk
  · cases hk
  · obtain ⟨m, hm, rfl⟩ := h
    match m, hm with
    | [x0, x1, x2, x3, x4, x5], _ => exact ⟨x0, x1, x2, x3, x4, x5, rfl⟩
  · cases hk
theorem put_ok {P : Program} {f : FuncId} {six : Bool} (hi : PutK P f six) : GenOK P f (putFn six) := by
  refine ⟨hi.body, fun args H n s e h σ D w vals hargs hs hD => ?_⟩
  unfold putFn at h
  split at h
  · rename_i hh ho i x
    match vals, hargs with
    | [v1, v2, v3], ⟨e1, e2, e3, _⟩ =>
    have e1 : D hh ∧ v1 = .pointer (some (adr (σ hh) ho)) := e1
    have e2 : D i ∧ v2 = .chan (some (σ i).b) := e2
    have e3 : RV σ D x v3 := e3
    obtain ⟨_, rfl⟩ := e1
    obtain ⟨_, rfl⟩ := e2
    split at h
    · rename_i ob hob
      split at h
      · rename_i room buf hk
        split at h
        · rename_i hx
          split at h
          · rename_i hr
            cases h
            have hr := Nat.le_of_ble_eq_true hr
            rw [lenV_eq] at hr
            obtain ⟨_, vs, s, r, c1, c2⟩ := chan_of hs tb_one hob hk
            have hl := c2.len
            refine (hi.room _ v3 (σ i).b room s r vs.toArray w (fun h6 => e3.six (by subst h6; exact hx)) c1 (by simp; omega)).mono ?_
            rintro ex w' ⟨rfl, g1, g2⟩
            refine ⟨_, σ, rfl, rfl, out_set hs tb_one (by show (HT.get H i).isSome = true; rw [hob]; rfl) g2 (chan_put ⟨vs, s + 1, r, by simpa using g1, c2⟩ e3)⟩
          · rename_i hr
            split at h
            · cases h
            · rename_i h6
              have h6 : six = false := by cases six <;> simp_all
              split at h
              · rename_i hob2 hho
                split at h
                · rename_i m hl
                  split at h
                  · rename_i hm
                    have hm := Nat.le_of_ble_eq_true hm
                    rw [Option.map_eq_some_iff] at h
                    obtain ⟨ob', h1, h2⟩ := h
                    cases h2
                    have hF1 : tb (one hh ||| one i) hh = true := tb_or_l tb_one
                    have hF2 : tb (one hh ||| one i) i = true := tb_or_r tb_one
                    obtain ⟨_, vs, s, r, c1, c2⟩ := chan_of hs hF2 hob hk
                    have hl2 := c2.len
                    have hO := (obj_of hs hF1 hho).2
                    obtain ⟨ms, q1, q2, q3⟩ := ldC_ok hO hl
                    match ms, q2 with
                    | [u], ⟨q2, _⟩ =>
                    have q2 : u = .int .i64 (.ofNat m) := q2
                    subst q2
                    have hcell := q3 0 _ rfl
                    have hnr : room ≤ vs.length := by
                      have : ¬ Nat.ble (Nat.succ (lenV buf)) room = true := hr
                      rw [lenV_eq] at this
                      have : ¬ (buf.length + 1 ≤ room) := fun hc => this (Nat.ble_eq_true_of_le hc)
                      omega
                    have hfz := (wrC_fz h1)
                    obtain ⟨cur, fr, p1, p2, p3, p4, p5, p6⟩ := hO.ok hfz
                    have hfr := p2 hfz
                    subst hfr
                    obtain ⟨w2, k1, k2, k3⟩ := wrC_ok (P := P) hO h1 (m := [.int .i64 (.ofNat (m + 1))]) ⟨rfl, trivial⟩
                    have hcell' : w.cell? ⟨(σ hh).b, ho + 2, none⟩ = some (.int .i64 (.ofNat m)) := by simpa [adr, addr_add] using hcell
                    have hfro : w.frozen? ⟨(σ hh).b, ho + 2, none⟩ = false := by simp [World.frozen?, p1]
                    refine (hi.full h6 (σ hh).b ho (.ofNat m) v3 (σ i).b room s r vs.toArray w c1 (by simpa using hnr) hcell' hfro (by simp) (by simp; omega)).mono ?_
                    rintro ex w' ⟨rfl, rfl⟩
                    have hw2 : w2 = w.setCell ⟨(σ hh).b, ho + 2, none⟩ (.int .i64 (.ofNat (m + 1))) := by
                      have : (storeCells (adr (σ hh) (ho + 2)) [.int .i64 (.ofNat (m + 1))]).run P w = .ok () (w.setCell ⟨(σ hh).b, ho + 2, none⟩ (.int .i64 (.ofNat (m + 1)))) := by
                        simp [storeCells, adr, addr_add, store, Sem.run, hfro, hcell']
                      rw [k1] at this
                      injection this
                    subst hw2
                    exact ⟨_, σ, rfl, rfl, out_set hs hF1 (by show (HT.get H hh).isSome = true; rw [hho]; rfl) k3 k2⟩
                  · cases h
                · cases h
              · cases h
        · cases h
      · cases h
    · cases h
  · cases h
/-! ### What is taken -/
noncomputable def zV (six : Bool) : V := Bool.rec (motive := fun _ => V) (.c (.str [])) (.agg [.int .i64 0, .int .i64 0, .int .i64 0, .int .i64 0, .int .i64 0, .bool false]) six
def zVal (six : Bool) : Value := match six with | false => .string ⟨#[]⟩ | true => .agg #[.int .i64 0, .int .i64 0, .int .i64 0, .int .i64 0, .int .i64 0, .bool false]
noncomputable def takeFn (six : Bool) : GFn := fun args H n => match args with
  | [.v (.c (.ptr h ho))] => match HT.get H h with
    | some hob => match ldC hob ho 2 with
      | some [.ch i, .ch j] => match HT.get H i, HT.get H j with
        | some o1, some o2 => match o1.k, o2.k with
          | .ch r1 (x :: b1), .ch _ _ => if okV six x = true then some (.tup [x, .c (.bool true)], .set (one h ||| one i ||| one j) i ⟨o1.ty, [], o1.opn, .ch r1 b1⟩) else none
          | .ch _ [], .ch r2 (x :: b2) => if okV six x = true then some (.tup [x, .c (.bool true)], .set (one h ||| one i ||| one j) j ⟨o2.ty, [], o2.opn, .ch r2 b2⟩) else none
          | .ch _ [], .ch _ [] => some (.tup [zV six, .c (.bool false)], .no (one h ||| one i ||| one j))
          | _, _ => none
        | _, _ => none
      | _ => none
    | none => none
  | _ => none
structure TakeK (P : Program) (f : FuncId) (six : Bool) : Prop where
  body : ∃ fn, P.funcs[f]? = some fn ∧ fn.body.isSome = true
  fast : ∀ (hb ho c d capc sc rc capd sd rd : Nat) (bd : List Value) (w : World) (v : Value) (vs : List Value), (six = true → ∃ x0 x1 x2 x3 x4 x5, v = .agg #[x0, x1, x2, x3, x4, x5] ∧ ∀ u ∈ [x0, x1, x2, x3, x4, x5], u.oneCell' = true) → w.cell? ⟨hb, ho, none⟩ = some (.chan (some c)) → w.cell? ⟨hb, ho + 1, none⟩ = some (.chan (some d)) → w.heap[c]? = some (.chan capc (v :: vs).toArray false sc rc false) → w.heap[d]? = some (.chan capd bd.toArray false sd rd false) →
    Calls P f #[.pointer (some ⟨hb, ho, none⟩)] w fun e w' => e = .returned (.tuple #[v, .bool true]) ∧ w'.heap[c]? = some (.chan capc vs.toArray false sc (rc + 1) false) ∧ Tch (fun k => k = c) w w'
  slow : ∀ (hb ho c d capc sc rc capd sd rd : Nat) (w : World) (v : Value) (vs : List Value), (six = true → ∃ x0 x1 x2 x3 x4 x5, v = .agg #[x0, x1, x2, x3, x4, x5] ∧ ∀ u ∈ [x0, x1, x2, x3, x4, x5], u.oneCell' = true) → w.cell? ⟨hb, ho, none⟩ = some (.chan (some c)) → w.cell? ⟨hb, ho + 1, none⟩ = some (.chan (some d)) → w.heap[c]? = some (.chan capc ([] : List Value).toArray false sc rc false) → w.heap[d]? = some (.chan capd (v :: vs).toArray false sd rd false) →
    Calls P f #[.pointer (some ⟨hb, ho, none⟩)] w fun e w' => e = .returned (.tuple #[v, .bool true]) ∧ w'.heap[d]? = some (.chan capd vs.toArray false sd (rd + 1) false) ∧ Tch (fun k => k = d) w w'
  none : ∀ (hb ho c d capc sc rc capd sd rd : Nat) (w : World), w.cell? ⟨hb, ho, none⟩ = some (.chan (some c)) → w.cell? ⟨hb, ho + 1, none⟩ = some (.chan (some d)) → w.heap[c]? = some (.chan capc ([] : List Value).toArray false sc rc false) → w.heap[d]? = some (.chan capd ([] : List Value).toArray false sd rd false) →
    Calls P f #[.pointer (some ⟨hb, ho, none⟩)] w fun e w' => e = .returned (.tuple #[zVal six, .bool false]) ∧ Tch No w w'
theorem takeTx : TakeK Tryz.prog 457 false := by
  refine ⟨⟨_, Tryz.func457, rfl⟩, fun hb ho c d capc sc rc capd sd rd bd w v vs _ hf hs hc hd => ?_, fun hb ho c d capc sc rc capd sd rd w v vs _ hf hs hc hd => ?_, fun hb ho c d capc sc rc capd sd rd w hf hs hc hd => ?_⟩
  · refine (takes_fast hb ho c d capc sc rc capd sd rd _ bd w hf hs hc hd v vs rfl).mono ?_
    rintro e w' ⟨rfl, rfl⟩
    exact ⟨rfl, setChan_at (Array.getElem?_eq_some_iff.1 hc).1, setChan_tch⟩
  · refine (takes_slow hb ho c d capc sc rc capd sd rd _ _ w hf hs hc hd v vs rfl rfl).mono ?_
    rintro e w' ⟨rfl, rfl⟩
    exact ⟨rfl, setChan_at (Array.getElem?_eq_some_iff.1 hd).1, setChan_tch⟩
  · refine (takes_none hb ho c d capc sc rc capd sd rd _ _ w hf hs hc hd rfl rfl).mono ?_
    rintro e w' ⟨rfl, rfl⟩
    exact ⟨rfl, Tch.refl _ _⟩
theorem takePk : TakeK Tryz.prog 131 true := by
  refine ⟨⟨_, Tryz.func131, rfl⟩, fun hb ho c d capc sc rc capd sd rd bd w v vs h6 hf hs hc hd => ?_, fun hb ho c d capc sc rc capd sd rd w v vs h6 hf hs hc hd => ?_, fun hb ho c d capc sc rc capd sd rd w hf hs hc hd => ?_⟩
  · obtain ⟨x0, x1, x2, x3, x4, x5, rfl, h1⟩ := h6 rfl
    exact takep_fast hb ho c d capc sc rc capd sd rd _ bd w hf hs hc hd x0 x1 x2 x3 x4 x5 vs rfl h1
  · obtain ⟨x0, x1, x2, x3, x4, x5, rfl, h1⟩ := h6 rfl
    exact takep_slow hb ho c d capc sc rc capd sd rd _ _ w hf hs hc hd x0 x1 x2 x3 x4 x5 vs rfl rfl h1
  · exact takep_none hb ho c d capc sc rc capd sd rd _ _ w hf hs hc hd rfl rfl
theorem RV.six1 {σ : Nat → Blk} {D : Nat → Prop} {x : V} {v : Value} (h : RV σ D x v) (hk : okV true x = true) : ∃ x0 x1 x2 x3 x4 x5, v = .agg #[x0, x1, x2, x3, x4, x5] ∧ ∀ u ∈ [x0, x1, x2, x3, x4, x5], u.oneCell' = true := by
  unfold okV at hk
  split at hk
  · cases hk
  · obtain ⟨m, hm, rfl⟩ := h
    match m, hm with
    | [x0, x1, x2, x3, x4, x5], hm => exact ⟨x0, x1, x2, x3, x4, x5, rfl, hm.ones⟩
  · cases hk
theorem take_ok {P : Program} {f : FuncId} {six : Bool} (hi : TakeK P f six) : GenOK P f (takeFn six) := by
  refine ⟨hi.body, fun args H n s e h σ D w vals hargs hs hD => ?_⟩
  unfold takeFn at h
  split at h
  · rename_i hh ho
    match vals, hargs with
    | [v1], ⟨e1, _⟩ =>
    have e1 : D hh ∧ v1 = .pointer (some (adr (σ hh) ho)) := e1
    obtain ⟨_, rfl⟩ := e1
    split at h
    · rename_i hob hho
      split at h
      · rename_i i j hl
        split at h
        · rename_i o1 o2 h1 h2
          have base : ∀ {F}, Sat σ D (rst (tb F) (hg H)) w → tb F hh = true → w.cell? ⟨(σ hh).b, ho, none⟩ = some (.chan (some (σ i).b)) ∧ w.cell? ⟨(σ hh).b, ho + 1, none⟩ = some (.chan (some (σ j).b)) := by
            intro F hs hF
            have hO := (obj_of hs hF hho).2
            obtain ⟨ms, q1, q2, q3⟩ := ldC_ok hO hl
            match ms, q2 with
            | [u, v], ⟨q2, q4, _⟩ =>
              have q2 : u = .chan (some (σ i).b) := q2.2
              have q4 : v = .chan (some (σ j).b) := q4.2
              subst q2; subst q4
              have a0 := q3 0 _ rfl
              have a1 := q3 1 _ rfl
              exact ⟨by simpa [adr, addr_add] using a0, by simpa [adr, addr_add] using a1⟩
          have f1 : tb (one hh ||| one i ||| one j) hh = true := tb_or_l (tb_or_l tb_one)
          have f2 : tb (one hh ||| one i ||| one j) i = true := tb_or_l (tb_or_r tb_one)
          have f3 : tb (one hh ||| one i ||| one j) j = true := tb_or_r tb_one
          split at h
          · rename_i r1 x b1 r2 b2 k1 k2
            split at h
            · rename_i hx
              cases h
              obtain ⟨c1, c2⟩ := base hs f1
              obtain ⟨_, vs, s, r, d1, d2⟩ := chan_of hs f2 h1 k1
              obtain ⟨_, us, s2, q2, d3, d4⟩ := chan_of hs f3 h2 k2
              match vs, d2 with
              | v :: vs, ⟨d2, d5⟩ =>
              refine (hi.fast (σ hh).b ho (σ i).b (σ j).b r1 s r r2 s2 q2 us w v vs (fun h6 => d2.six1 (by subst h6; exact hx)) c1 c2 d1 d3).mono ?_
              rintro ex w' ⟨rfl, g1, g2⟩
              exact ⟨_, σ, rfl, ⟨[v, .bool true], ⟨d2.ext (fun _ _ => rfl) (fun _ h => .inl h), rfl, trivial⟩, rfl⟩, out_set hs f2 (by show (HT.get H i).isSome = true; rw [h1]; rfl) g2 ⟨rfl, vs, s, r + 1, g1, d5⟩⟩
            · cases h
          · rename_i r1 r2 x b2 k1 k2
            split at h
            · rename_i hx
              cases h
              obtain ⟨c1, c2⟩ := base hs f1
              obtain ⟨_, us, s2, q2, d3, d4⟩ := chan_of hs f2 h1 k1
              obtain ⟨_, vs, s, r, d1, d2⟩ := chan_of hs f3 h2 k2
              match us, d4 with
              | [], _ =>
              match vs, d2 with
              | v :: vs, ⟨d2, d5⟩ =>
              refine (hi.slow (σ hh).b ho (σ i).b (σ j).b r1 s2 q2 r2 s r w v vs (fun h6 => d2.six1 (by subst h6; exact hx)) c1 c2 d3 d1).mono ?_
              rintro ex w' ⟨rfl, g1, g2⟩
              exact ⟨_, σ, rfl, ⟨[v, .bool true], ⟨d2.ext (fun _ _ => rfl) (fun _ h => .inl h), rfl, trivial⟩, rfl⟩, out_set hs f3 (by show (HT.get H j).isSome = true; rw [h2]; rfl) g2 ⟨rfl, vs, s, r + 1, g1, d5⟩⟩
            · cases h
          · rename_i r1 r2 k1 k2
            cases h
            obtain ⟨c1, c2⟩ := base hs f1
            obtain ⟨_, us, s2, q2, d3, d4⟩ := chan_of hs f2 h1 k1
            obtain ⟨_, vs, s, r, d1, d2⟩ := chan_of hs f3 h2 k2
            match us, d4 with
            | [], _ =>
            match vs, d2 with
            | [], _ =>
            refine (hi.none (σ hh).b ho (σ i).b (σ j).b r1 s2 q2 r2 s r w c1 c2 d3 d1).mono ?_
            rintro ex w' ⟨rfl, g2⟩
            refine ⟨_, σ, rfl, ⟨[zVal six, .bool false], ⟨?_, rfl, trivial⟩, rfl⟩, ?_⟩
            · cases six with
              | false => exact (rfl : zVal false = .string ⟨([] : List UInt8).toArray⟩)
              | true => exact ⟨[.int .i64 0, .int .i64 0, .int .i64 0, .int .i64 0, .int .i64 0, .bool false], ⟨rfl, rfl, rfl, rfl, rfl, rfl, trivial⟩, rfl⟩
            · rw [Ef.W_eq]
              exact out_still hs g2
          · cases h
        · cases h
      · cases h
    · cases h
  · cases h
/-! ### Which session has a transaction -/
/-- The keys of those entries that have that number. -/
noncomputable def ofK (t : Int) : List (C × V × Nat) → Option (List Int)
  | [] => some []
  | e :: es => match e.1, e.2.1, ofK t es with
    | .int .i64 k, .c (.int .i64 v), some l => some (Bool.rec (motive := fun _ => List Int) l (k :: l) (eqF v t))
    | _, _, _ => none
noncomputable def ofFn : GFn := fun args H n => match args with
  | [.v (.c (.ptr s so)), .v (.c (.int .i64 t))] => match HT.get H s with
    | some sob => match ldC sob (so + 2) 1 with
      | some [.map m] => match HT.get H m with
        | some mo => match mo.k with
          | .mp es cl => if (es.all (fun e => decide (e.2.2 < cl)) && ndB (es.map (·.2.2)) && notB (eqF t 0)) = true then (match ofK t es with
            | some [] => some (.v (.c (.int .i64 0)), .no (one s ||| one m))
            | some [k] => some (.v (.c (.int .i64 k)), .no (one s ||| one m))
            | _ => none) else none
          | _ => none
        | none => none
      | _ => none
    | none => none
  | _ => none
theorem ofK_ok {σ : Nat → Blk} {D : Nat → Prop} {t : Int} : ∀ {es : List (C × V × Nat)} {m : List MapEntry} {l : List Int}, RM σ D es m → ofK t es = some l →
    (∀ x ∈ m, ∃ p q, x.key = .int .i64 p ∧ x.val = .int .i64 q) ∧ (∀ x ∈ m, x.val = .int .i64 t → ∃ k ∈ l, x.key = .int .i64 k) ∧ (∀ k ∈ l, ∃ x ∈ m, x.val = .int .i64 t) ∧ m.map (·.born) = es.map (·.2.2)
  | [], [], l, _, h => by
    simp only [ofK, Option.some.injEq] at h; subst h
    exact ⟨fun x hx => (by cases hx), fun x hx => (by cases hx), fun x hx => (by cases hx), rfl⟩
  | e :: es, q :: m, l, hm, h => by
    unfold ofK at h
    split at h
    · rename_i k v l' h1 h2 h3
      simp only [Option.some.injEq] at h
      obtain ⟨a, b, c, d⟩ := ofK_ok hm.2 h3
      have hk : q.key = .int .i64 k := by have := hm.1.1; rw [h1] at this; exact this
      have hv : q.val = .int .i64 v := by have := hm.1.2.1; rw [h2] at this; exact this
      rw [eqF_eq] at h
      refine ⟨fun x hx => ?_, fun x hx hxt => ?_, fun k' hk' => ?_, by rw [List.map_cons, List.map_cons, d, hm.1.2.2]⟩
      · rcases List.mem_cons.1 hx with rfl | hx
        · exact ⟨k, v, hk, hv⟩
        · exact a x hx
      · cases hb : (v == t) with
        | true =>
          rw [hb] at h
          have h : k :: l' = l := h
          subst h
          rcases List.mem_cons.1 hx with rfl | hx
          · exact ⟨k, by simp, hk⟩
          · obtain ⟨k', g1, g2⟩ := b x hx hxt
            exact ⟨k', List.mem_cons_of_mem _ g1, g2⟩
        | false =>
          rw [hb] at h
          have h : l' = l := h
          subst h
          rcases List.mem_cons.1 hx with rfl | hx
          · rw [hv] at hxt
            injection hxt with _ hxt
            subst hxt
            simp at hb
          · exact b x hx hxt
      · cases hb : (v == t) with
        | true =>
          exact ⟨q, by simp, by rw [hv]; simp at hb; rw [hb]⟩
        | false =>
          rw [hb] at h
          have h : l' = l := h
          subst h
          obtain ⟨x, g1, g2⟩ := c k' hk'
          exact ⟨x, List.mem_cons_of_mem _ g1, g2⟩
    · cases h
theorem of_ok : GenOK Tryz.prog 120 ofFn := by
  refine ⟨⟨_, Tryz.func120, rfl⟩, fun args H n s e h σ D w vals hargs hs hD => ?_⟩
  unfold ofFn at h
  split at h
  · rename_i ss so t
    match vals, hargs with
    | [v1, v2], ⟨e1, e2, _⟩ =>
    have e1 : D ss ∧ v1 = .pointer (some (adr (σ ss) so)) := e1
    have e2 : v2 = .int .i64 t := e2
    obtain ⟨_, rfl⟩ := e1
    subst e2
    split at h
    · rename_i sob hso
      split at h
      · rename_i m hl
        split at h
        · rename_i mo hmo
          split at h
          · rename_i es cl hk
            split at h
            · rename_i hc
              simp only [Bool.and_eq_true, List.all_eq_true, decide_eq_true_eq] at hc
              obtain ⟨⟨hc1, hc2⟩, hc3⟩ := hc
              have h0 : t ≠ 0 := by
                intro e
                rw [eqF_eq, e] at hc3
                simp [notB] at hc3
              have key : ∀ {r : Int} {l : List Int}, ofK t es = some l → (l = [] ∧ r = 0 ∨ l = [r]) → Sat σ D (rst (tb (one ss ||| one m)) (hg H)) w →
                  Calls Tryz.prog 120 #[.pointer (some (adr (σ ss) so)), .int .i64 t] w fun e w' => e = .returned (.int .i64 r) ∧ Tch No w w' := by
                intro r l hof hlr hs
                have f1 : tb (one ss ||| one m) ss = true := tb_or_l tb_one
                have f2 : tb (one ss ||| one m) m = true := tb_or_r tb_one
                have hO := (obj_of hs f1 hso).2
                obtain ⟨ms, q1, q2, q3⟩ := ldC_ok hO hl
                match ms, q2 with
                | [u], ⟨q2, _⟩ =>
                have q2 : u = .map (some (σ m).b) := q2.2
                subst q2
                have a0 := q3 0 _ rfl
                have hcell : w.cell? ⟨(σ ss).b, so + 2, none⟩ = some (.map (some (σ m).b)) := by simpa [adr, addr_add] using a0
                obtain ⟨_, ma, hm1, hm2⟩ := map_of hs f2 hmo hk
                obtain ⟨g1, g2, g3, g4⟩ := ofK_ok hm2 hof
                refine sof_any (sb := (σ ss).b) (so := so) hcell hm1 g1 (fun x hx => ?_) (by rw [g4]; exact ndB_ok hc2) (fun x hx hxt => ?_) (fun hno => ?_) h0
                · have hxb : x.born ∈ ma.toList.map (·.born) := List.mem_map_of_mem hx
                  rw [g4, List.mem_map] at hxb
                  obtain ⟨e', he', h6⟩ := hxb
                  rw [← h6]
                  exact hc1 e' he'
                · obtain ⟨k, hk1, hk2⟩ := g2 x hx hxt
                  rcases hlr with ⟨rfl, _⟩ | rfl
                  · cases hk1
                  · rw [hk2, List.mem_singleton.1 hk1]
                · rcases hlr with ⟨_, rfl⟩ | rfl
                  · rfl
                  · obtain ⟨x, hx, hxt⟩ := g3 r (by simp)
                    exact absurd hxt (hno x hx)
              split at h
              · rename_i hof
                cases h
                refine (key hof (.inl ⟨rfl, rfl⟩) hs).mono ?_
                rintro ex w' ⟨rfl, g2⟩
                refine ⟨_, σ, rfl, rfl, ?_⟩
                rw [Ef.W_eq]
                exact out_still hs g2
              · rename_i k hof
                cases h
                refine (key hof (.inr rfl) hs).mono ?_
                rintro ex w' ⟨rfl, g2⟩
                refine ⟨_, σ, rfl, rfl, ?_⟩
                rw [Ef.W_eq]
                exact out_still hs g2
              · cases h
            · cases h
          · cases h
        · cases h
      · cases h
    · cases h
  · cases h
end Go.Proofs.YtcmlgmiomcegeaaGreat.Ev
