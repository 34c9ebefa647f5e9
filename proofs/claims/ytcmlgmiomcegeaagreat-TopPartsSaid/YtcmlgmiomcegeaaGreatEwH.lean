/- Segments that are not there: the rounds of seg.Open that look for the last one, told from outside. No condition. -/
import Derived.Test.YtcmlgmiomcegeaaGreatEwS
namespace Go.Proofs.YtcmlgmiomcegeaaGreat.Ev
open Go Go.RowKit Go.Maps
set_option linter.unusedVariables false
set_option linter.unusedSimpArgs false
set_option linter.unusedSectionVars false
variable [Env]

/-! ### A segment's name -/
def segN (n : Nat) : List UInt8 := [108, 111, 103, UInt8.ofNat (48 + n / 100), UInt8.ofNat (48 + n / 10 % 10), UInt8.ofNat (48 + n % 10)]
def nameN (n : Nat) : ByteArray := ⟨(segN n).toArray⟩
def digN (n : Nat) : List UInt8 := [UInt8.ofNat (48 + n / 100), UInt8.ofNat (48 + n / 10 % 10), UInt8.ofNat (48 + n % 10)]
theorem addN {P : Program} (n : Nat) (w : World) : (Op.stringOp .add ⟨#[108, 111, 103]⟩ ⟨(digN n).toArray⟩).run P w = .ok (.string (nameN n)) w := by
  rw [run_string_add (P := P) (w := w) ⟨#[108, 111, 103]⟩ ⟨(digN n).toArray⟩ (by decide) (by
    have h1 : (⟨#[108, 111, 103]⟩ : ByteArray).size = 3 := rfl
    have h2 : (⟨(digN n).toArray⟩ : ByteArray).size = 3 := rfl
    omega)]
  rfl
set_option maxRecDepth 100000 in
theorem convN (n : Nat) (hn : n ≤ 999) (w : World) : (convert 128 9 (.slice (some ⟨w.heap.size, 0, none⟩) 3 3)).run Tryz.prog (w.alloc (.cells #[.int .u8 (48 + (n : Int) / 100), .int .u8 (48 + (n : Int) / 10 % 10), .int .u8 (48 + (n : Int) % 10)] 5)) = .ok (.string ⟨(digN n).toArray⟩) (w.alloc (.cells #[.int .u8 (48 + (n : Int) / 100), .int .u8 (48 + (n : Int) / 10 % 10), .int .u8 (48 + (n : Int) % 10)] 5)) := by
  have h1 : ((UInt8.ofNat (48 + n / 100)).toNat : Int) = 48 + (n : Int) / 100 := by simp; omega
  have h2 : ((UInt8.ofNat (48 + n / 10 % 10)).toNat : Int) = 48 + (n : Int) / 10 % 10 := by simp; omega
  have h3 : ((UInt8.ofNat (48 + n % 10)).toNat : Int) = 48 + (n : Int) % 10 := by simp; omega
  have hC : (#[.int .u8 (48 + (n : Int) / 100), .int .u8 (48 + (n : Int) / 10 % 10), .int .u8 (48 + (n : Int) % 10)] : Array Value) = (u8s (digN n)).toArray := by
    simp only [digN, u8s, List.map_cons, List.map_nil, h1, h2, h3]
  exact (SlB.lit w _ (digN n) 3 5 (0, 0) rfl hC (by simp [lim])).str (P := Tryz.prog) Tryz.underlying128 Tryz.underlying5 Tryz.underlying9
set_option maxRecDepth 100000 in
set_option maxHeartbeats 1000000 in
theorem nameN_any (n : Nat) (hn : n ≤ 999) (w : World) : Calls Tryz.prog 246 #[.int .i64 n] w fun e w' => e = .returned (.string (nameN n)) ∧ Tch No w w' := by
  have p1 : (0 : Int) ≤ (n : Int) := by omega
  have p2 : (n : Int) ≤ 999 := by omega
  have p3 : ¬ (n : Int) < 0 := by omega
  have p4 : ¬ 999 < (n : Int) := by omega
  have hc := convN n hn w
  have ha := fun W => addN (P := Tryz.prog) n W
  go_enter Tryz.func246, Tryz.ntmps246
  go_wp2_with fail
  go_ret
  exact ⟨rfl, Tch.alloc _ _⟩
/-! ### A file that is not there -/
structure NoKey (w : World) (db mb : Nat) (s : ByteArray) : Prop where
  cell : w.cell? ⟨db, 1, none⟩ = some (.map (some mb))
  map : ∃ (m : Array MapEntry) (cl : Nat), w.heap[mb]? = some (.map m cl) ∧ Instr.findNow .string (.string s) m.toList 0 = some none
theorem NoKey.keep {w w' : World} {db mb : Nat} {s : ByteArray} (h : NoKey w db mb s) (t : Tch No w w') : NoKey w' db mb s := by
  obtain ⟨m, cl, h1, h2⟩ := h.map
  have hlt : mb < w.heap.size := (Array.getElem?_eq_some_iff.1 h1).1
  exact ⟨t.cell h.cell (fun h => h), m, cl, (t.block mb hlt (fun h => h)).trans h1, h2⟩
theorem zeroN (w : World) : (zeroValue 141).run Tryz.prog w = .ok (.pointer none) w := by kernel_rfl
theorem NoKey.look {w : World} {db mb : Nat} {s : ByteArray} (h : NoKey w db mb s) : (Instr.lookup 111 (.map (some mb)) (.string s) false).run Tryz.prog w = .ok (.pointer none) w := by
  obtain ⟨m, cl, h1, h2⟩ := h.map
  have hd : Tryz.prog.underlying 9 = some .string := Tryz.underlying9
  have hk := fun b v w => run_checkKey (P := Tryz.prog) hd rfl b v w
  have hfk := fun w => run_findKey (P := Tryz.prog) (r := none) hd h2 w
  simp [Instr.lookup, run_underlying Tryz.underlying111, getObj, Sem.run, h1, hk, hfk, zeroN]
set_option maxRecDepth 100000 in
set_option maxHeartbeats 1000000 in
theorem get_no {w : World} {db mb : Nat} {s : ByteArray} (h : NoKey w db mb s) :
    Calls Tryz.prog 244 #[.pointer (some ⟨db, 0, none⟩), .string s] w fun e w' => e = .returned (.pointer none) ∧ w = w' := by
  have hl := h.look
  have h1 := h.cell
  clear h
  go_enter Tryz.func244, Tryz.ntmps244
  go_wp2
  go_ret
  exact ⟨rfl, rfl⟩
set_option maxRecDepth 100000 in
set_option maxHeartbeats 1000000 in
theorem read_no {w : World} {db mb : Nat} {s : ByteArray} (h : NoKey w db mb s) :
    Calls Tryz.prog 159 #[.pointer (some ⟨db, 0, none⟩), .string s] w fun e w' => e = .returned (.tuple #[.slice none 0 0, .bool false]) ∧ w = w' := by
  have hc := Lib.hid (get_no h)
  clear h
  go_enter Tryz.func159, Tryz.ntmps159
  go_wp2_with (go_at_call 244; go_must (refine hc.out.mono ?_); rintro e w1 ⟨rfl, rfl⟩)
  go_ret2
  exact ⟨rfl, rfl⟩
/-! ### A round -/
def firstLoop : Code → Option Code
  | .loop c => some c
  | .seq a b => match firstLoop a with | some c => some c | none => firstLoop b
  | .cond _ a b => match firstLoop a with | some c => some c | none => firstLoop b
  | .block _ c => firstLoop c
  | _ => none
def kept : List Nat := [2, 3, 4, 5, 6, 10, 11, 12, 13, 14, 15, 16, 17, 18, 19, 20, 21, 22, 23, 24, 25, 26, 27, 28, 29, 43, 44, 45, 46, 47, 48, 49, 50, 51, 52, 53, 54, 55, 56, 57, 58, 59, 60, 61, 62, 63, 64, 65, 66, 67, 68, 69, 70, 71, 72, 73, 74, 75, 76, 77, 78, 79, 80, 81, 82, 83, 84, 85, 86, 87, 88, 89, 90, 91, 92, 93, 94, 95, 96]
def gone : List Nat := [8, 9, 30, 31, 32, 33, 34, 35, 36, 37, 38, 39, 40, 41, 42]
set_option maxRecDepth 100000 in
set_option maxHeartbeats 4000000 in
theorem scan_round : ∃ c, firstLoop (Tryz.f161.body.getD .skip) = some c ∧ ∀ (x : Nat → Value) (d : _) (w : World) (db mb n f : Nat) (Q : Exit → Act → World → Prop), f < n → n ≤ 999 → NoKey w db mb (nameN n) → x 0 = .pointer (some ⟨db, 0, none⟩) → x 1 = .int .i64 f → x 7 = .int .i64 n →
    (∀ (L : List Value) (w' : World), L.length = 97 → L.getD 0 undef = .pointer (some ⟨db, 0, none⟩) → L.getD 1 undef = .int .i64 f → L.getD 7 undef = .int .i64 ((n - 1 : Nat) : Int) → kept.map (fun i => L.getD i undef) = kept.map x → Tch No w w' → Q .normal ⟨L.toArray, d⟩ w') →
    c.wp Tryz.prog Q ⟨((List.range 97).map x).toArray, d⟩ w := by
  refine ⟨_, rfl, fun x d w db mb n f Q hfn hn hk h0 h1 h7 hQ => ?_⟩
  have hx : ((List.range 97).map x).toArray = #[x 0, x 1, x 2, x 3, x 4, x 5, x 6, x 7, x 8, x 9, x 10, x 11, x 12, x 13, x 14, x 15, x 16, x 17, x 18, x 19, x 20, x 21, x 22, x 23, x 24, x 25, x 26, x 27, x 28, x 29, x 30, x 31, x 32, x 33, x 34, x 35, x 36, x 37, x 38, x 39, x 40, x 41, x 42, x 43, x 44, x 45, x 46, x 47, x 48, x 49, x 50, x 51, x 52, x 53, x 54, x 55, x 56, x 57, x 58, x 59, x 60, x 61, x 62, x 63, x 64, x 65, x 66, x 67, x 68, x 69, x 70, x 71, x 72, x 73, x 74, x 75, x 76, x 77, x 78, x 79, x 80, x 81, x 82, x 83, x 84, x 85, x 86, x 87, x 88, x 89, x 90, x 91, x 92, x 93, x 94, x 95, x 96] := rfl
  rw [hx, h0, h1, h7]
  clear hx h0 h1 h7
  have HQ := Lib.hid hQ
  have HR : Hid (∀ W, Tch No w W → Calls Tryz.prog 159 #[.pointer (some ⟨db, 0, none⟩), .string (nameN n)] W fun e w' => e = .returned (.tuple #[.slice none 0 0, .bool false]) ∧ W = w') := fun W hW => read_no (hk.keep hW)
  have p1 : (f : Int) < (n : Int) := by omega
  clear hQ hk
  go_wp2_with fail
  refine (nameN_any n hn w).mono ?_
  rintro e w4 ⟨rfl, t4⟩
  have T4 := Lib.hid t4; clear t4
  go_wp2_with fail
  refine (HR.out _ T4.out).mono ?_
  rintro e w5 ⟨rfl, rfl⟩
  go_wp2_with fail
  exact HQ.out _ _ rfl rfl rfl (by show (Value.int .i64 _) = _; go_num) rfl T4.out
/-! ### All rounds -/
noncomputable def loopsOf : Code → List Code
  | .loop c => c :: loopsOf c
  | .seq a b => loopsOf a ++ loopsOf b
  | .cond _ a b => loopsOf a ++ loopsOf b
  | .block _ c => loopsOf c
  | _ => []
noncomputable def scanC : Code := (firstLoop (Tryz.f161.body.getD .skip)).getD .skip
theorem list_of {L : List Value} {n : Nat} (h : L.length = n) : L = (List.range n).map (fun i => L.getD i undef) := by
  refine List.ext_getElem (by simp [h]) (fun i h1 h2 => ?_)
  simp [List.getD, h1]
theorem scan_skip (f m : Nat) (d : _) (db mb k : Nat) (Q : Exit → Act → World → Prop) (hfm : f ≤ m) : ∀ (j : Nat) (x : Nat → Value) (w : World), m + j ≤ 999 → (∀ i, m < i → i ≤ m + j → NoKey w db mb (nameN i)) → x 0 = .pointer (some ⟨db, 0, none⟩) → x 1 = .int .i64 f → x 7 = .int .i64 ((m + j : Nat) : Int) →
    (∀ (x' : Nat → Value) (w' : World), x' 0 = .pointer (some ⟨db, 0, none⟩) → x' 1 = .int .i64 f → x' 7 = .int .i64 (m : Int) → (∀ i ∈ kept, x' i = x i) → Tch No w w' → LoopN Tryz.prog scanC Q k ⟨((List.range 97).map x').toArray, d⟩ w') →
    LoopN Tryz.prog scanC Q (k + j) ⟨((List.range 97).map x).toArray, d⟩ w
  | 0, x, w, _, _, h0, h1, h7, h => h x w h0 h1 h7 (fun _ _ => rfl) (Tch.refl _ _)
  | j + 1, x, w, hm, hk, h0, h1, h7, h => by
    obtain ⟨c, hc, hr⟩ := scan_round
    have e : scanC = c := by unfold scanC; rw [hc]; rfl
    show scanC.wp Tryz.prog (Exit.then (LoopN Tryz.prog scanC Q (k + j)) Q) _ w
    have hr2 := hr x d w db mb (m + (j + 1)) f (Exit.then (LoopN Tryz.prog scanC Q (k + j)) Q) (by omega) hm (hk _ (by omega) (Nat.le_refl _)) h0 h1 h7 (fun L w' hl e0 e1 e7 ek ht => ?_)
    · rw [← e] at hr2; exact hr2
    · show LoopN Tryz.prog scanC Q (k + j) _ w'
      have hx : L.toArray = ((List.range 97).map (fun i => L.getD i undef)).toArray := congrArg List.toArray (list_of hl)
      rw [hx]
      refine scan_skip f m d db mb k Q hfm j (fun i => L.getD i undef) w' (by omega) (fun i a b => (hk i a (by omega)).keep ht) e0 e1 (by rw [e7]; rfl) (fun x' w2 a0 a1 a7 ak at2 => h x' w2 a0 a1 a7 (fun i hi => ?_) (ht.trans0 at2))
      rw [ak i hi]
      exact List.map_inj_left.1 ek i hi
/-! ### What an abstract run is told -/
noncomputable def segNo : List UInt8 → Nat
  | [_, _, _, a, b, c] => (a.toNat - 48) * 100 + (b.toNat - 48) * 10 + (c.toNat - 48)
  | _ => 0
theorem segNo_segN (n : Nat) (h : n ≤ 999) : segNo (segN n) = n := by
  have h1 : (UInt8.ofNat (48 + n / 100)).toNat = 48 + n / 100 := by simp; omega
  have h2 : (UInt8.ofNat (48 + n / 10 % 10)).toNat = 48 + n / 10 % 10 := by simp; omega
  have h3 : (UInt8.ofNat (48 + n % 10)).toNat = 48 + n % 10 := by simp; omega
  simp only [segNo, segN, h1, h2, h3]
  omega
/-- No name of a segment above it is there; a thousand: that is not told. -/
noncomputable def topSeg (f : Nat) : List (C × V × Nat) → Nat
  | [] => f
  | e :: es => match e.1 with
    | .str s => Nat.max (segNo s) (topSeg f es)
    | _ => 1000
theorem topSeg_none {f n : Nat} : ∀ {es : List (C × V × Nat)} (i : Nat), topSeg f es < n → n ≤ 999 → findK .string (.str (segN n)) es i = some none
  | [], i, _, _ => rfl
  | e :: es, i, h, hn => by
    unfold topSeg at h
    split at h
    · rename_i s hs
      have h1 : segNo s < n := Nat.lt_of_le_of_lt (Nat.le_max_left _ _) h
      have h2 : topSeg f es < n := Nat.lt_of_le_of_lt (Nat.le_max_right _ _) h
      have hne : (segN n == s) = false := by
        rw [beq_eq_false_iff_ne]
        intro e1
        rw [← e1, segNo_segN n hn] at h1
        exact Nat.lt_irrefl _ h1
      simp only [findK, hs, eqX, eqK, hne]
      exact topSeg_none (i + 1) h2 hn
    · omega
theorem topSeg_ge {f : Nat} : ∀ {es : List (C × V × Nat)}, f ≤ 1000 → f ≤ topSeg f es
  | [], _ => Nat.le_refl _
  | e :: es, h => by
    unfold topSeg
    split
    · exact Nat.le_trans (topSeg_ge h) (Nat.le_max_right _ _)
    · exact h
noncomputable def forgetL : List Nat → TS → Option TS
  | [], A => some A
  | k :: l, A => match TS.put A k none with
    | some A' => forgetL l A'
    | none => none
theorem forgetL_ok : ∀ {l : List Nat} {A A' : TS}, forgetL l A = some A' → ∀ t, A'.get t = if t ∈ l then none else A.get t
  | [], A, A', h, t => by simp only [forgetL, Option.some.injEq] at h; subst h; simp
  | k :: l, A, A', h, t => by
    simp only [forgetL] at h
    split at h
    · rename_i A1 h1
      rw [forgetL_ok h t, TS.get_put h1]
      by_cases e : t ∈ l
      · rw [if_pos e, if_pos (List.mem_cons_of_mem _ e)]
      · rw [if_neg e]
        by_cases e2 : t = k
        · rw [if_pos e2, if_pos (by rw [e2]; exact List.mem_cons_self ..)]
        · rw [if_neg e2, if_neg (by simp [e, e2])]
    · cases h
noncomputable def scanTo (st : St) (di mi f v m : Nat) : Option (St × Nat) := Bool.rec (motive := fun _ => Option (St × Nat)) none (match forgetL gone st.A with
    | some A1 => match TS.put A1 7 (some (.v (.c (.int .i64 (Int.ofNat m))))) with
      | some A2 => some (⟨A2, st.H, st.n⟩, one di ||| one mi)
      | none => none
    | none => none) (Nat.ble v 999 && Nat.ble f 999 && Nat.ble (Nat.succ m) v)
noncomputable def scanG (st : St) : Option (St × Nat) := match st.A.get 0, st.A.get 1, st.A.get 7 with
  | some (.v (.c (.ptr di 0))), some (.v (.c (.int .i64 (Int.ofNat f)))), some (.v (.c (.int .i64 (Int.ofNat v)))) => match hg st.H di with
    | some ob => match (ob.cs[1]? : Option C) with
      | some (C.map mi) => match hg st.H mi with
        | some mo => match mo.k with
          | .mp es cl => scanTo st di mi f v (topSeg f es)
          | _ => none
        | none => none
      | _ => none
    | none => none
  | _, _, _ => none
theorem scanG_ok {st st' : St} {F : Nat} (h : scanG st = some (st', F)) : SkipOK Tryz.prog 97 scanC st st' F := by
  unfold scanG at h
  split at h
  · rename_i di f v g0 g1 g7
    split at h
    · rename_i ob hob
      split at h
      · rename_i mi hmi
        split at h
        · rename_i mo hmo
          split at h
          · rename_i es cl hes
            unfold scanTo at h
            cases hb : (Nat.ble v 999 && Nat.ble f 999 && Nat.ble (Nat.succ (topSeg f es)) v) with
            | false => rw [hb] at h; cases h
            | true =>
              rw [hb] at h
              simp only [Bool.and_eq_true] at hb
              obtain ⟨⟨b1, b2⟩, b3⟩ := hb
              have c1 := Nat.le_of_ble_eq_true b1
              have c2 := Nat.le_of_ble_eq_true b2
              have c3 := Nat.le_of_ble_eq_true b3
              simp only at h
              split at h
              · rename_i A1 hA1
                split at h
                · rename_i A2 hA2
                  simp only [Option.some.injEq, Prod.mk.injEq] at h
                  obtain ⟨rfl, rfl⟩ := h
                  have hget : ∀ t, A2.get t = if t = 7 then some (.v (.c (.int .i64 (Int.ofNat (topSeg f es))))) else if t ∈ gone then none else st.A.get t := fun t => by
                    rw [TS.get_put hA2, forgetL_ok hA1]
                  refine ⟨rfl, rfl, fun σ D w a Q k hA hs hK => ?_⟩
                  have hF1 : tb (one di ||| one mi) di = true := tb_or_l tb_one
                  have hF2 : tb (one di ||| one mi) mi = true := tb_or_r tb_one
                  obtain ⟨_, hO⟩ := obj_of hs hF1 hob
                  obtain ⟨v0, c4, c5⟩ := cell_of hO hmi
                  have c6 : v0 = .map (some (σ mi).b) := c5.2
                  subst c6
                  obtain ⟨_, mm, hm1, hm2⟩ := map_of hs hF2 hmo hes
                  have ha0 := hA.2 0 _ g0
                  have ha1 := hA.2 1 _ g1
                  have ha7 := hA.2 7 _ g7
                  obtain ⟨tmps, df⟩ := a
                  have hsz : tmps.size = 97 := hA.1
                  have hT : tmps = ((List.range 97).map (fun i => tmps.getD i undef)).toArray := by
                    have := congrArg List.toArray (list_of (L := tmps.toList) (n := 97) (by simpa using hsz))
                    simpa [List.getD] using this
                  have hev : ∀ t, (Act.mk tmps df).eval (.tmp t) = tmps.getD t undef := fun t => rfl
                  refine ⟨k + (v - topSeg f es), ?_⟩
                  rw [hT]
                  have hge := topSeg_ge (f := f) (es := es) (by omega)
                  refine scan_skip f (topSeg f es) df (σ di).b (σ mi).b k Q hge (v - topSeg f es) _ w (by omega) (fun i h1 h2 => ⟨c4, mm, cl, hm1, ?_⟩) ha0.2.2 ha1.2 (by rw [show topSeg f es + (v - topSeg f es) = v by omega]; exact ha7.2) (fun x' w' e0 e1 e7 ek ht => ?_)
                  · exact findK_ok (k := .str (segN i)) (x := .string (nameN i)) rfl (topSeg_none 0 h1 (by omega)) hm2
                  · refine hK _ w' ⟨by simp, fun t s e => ?_⟩ rfl ht
                    rw [hget] at e
                    have hev2 : ∀ t : Nat, t < 97 → (Act.mk ((List.range 97).map x').toArray df).eval (.tmp t) = x' t := fun t ht => by
                      show ((List.range 97).map x').toArray.getD t undef = x' t
                      simp [Array.getD, ht]
                    split at e
                    · rename_i e2
                      subst e2
                      cases e
                      refine ⟨by omega, ?_⟩
                      rw [hev2 7 (by decide), e7]
                      exact rfl
                    · rename_i hn7
                      split at e
                      · cases e
                      · rename_i hng
                        obtain ⟨q1, q2⟩ := hA.2 t s e
                        refine ⟨q1, ?_⟩
                        rw [hev2 t q1]
                        have hq : x' t = tmps.getD t undef := by
                          by_cases t0 : t = 0
                          · subst t0; rw [e0]; exact ha0.2.2.symm
                          by_cases t1 : t = 1
                          · subst t1; rw [e1]; exact ha1.2.symm
                          refine ek t ?_
                          have key : ∀ t : Fin 97, t.val ≠ 7 → t.val ∉ gone → t.val ≠ 0 → t.val ≠ 1 → t.val ∈ kept := by decide +kernel
                          exact key ⟨t, q1⟩ hn7 hng t0 t1
                        rw [hq]; exact q2
                · cases h
              · cases h
          · cases h
        · cases h
      · cases h
    · cases h
  · cases h
noncomputable def regId : Code → Nat
  | .region id _ _ => id
  | .seq a _ => regId a
  | .block _ c => regId c
  | _ => 0
noncomputable def scanK : Hook := fun c => Bool.rec (motive := fun _ => Option (St → Option (St × Nat))) none (some scanG) (Nat.beq (regId c) 8)
noncomputable def scanH : FuncId → Hook := fun f => Bool.rec (motive := fun _ => Hook) noHook scanK (Nat.beq f 161)
theorem hookOK_of {P : Program} {nt : Nat} {hk : Hook} : ∀ (c : Code), (∀ c' ∈ loopsOf c, ∀ g, hk c' = some g → ∀ st st' F, g st = some (st', F) → SkipOK P nt c' st st' F) → HookOK P nt hk c
  | .seq a b, h => ⟨hookOK_of a (fun c hc => h c (List.mem_append_left _ hc)), hookOK_of b (fun c hc => h c (List.mem_append_right _ hc))⟩
  | .cond _ a b, h => ⟨hookOK_of a (fun c hc => h c (List.mem_append_left _ hc)), hookOK_of b (fun c hc => h c (List.mem_append_right _ hc))⟩
  | .block _ c, h => hookOK_of c h
  | .loop c, h => ⟨h c (List.mem_cons_self ..), hookOK_of c (fun c' hc => h c' (List.mem_cons_of_mem _ hc))⟩
  | .skip, _ => trivial
  | .region .., _ => trivial
  | .rangeFunc .., _ => trivial
  | .exit _, _ => trivial
  | .scope _, _ => trivial
  | .label _, _ => trivial
  | .goto _, _ => trivial
  | .ret, _ => trivial
  | .refuse _, _ => trivial
theorem scan_loops : (loopsOf (Tryz.f161.body.getD .skip)).map regId = [8, 14] ∧ (loopsOf (Tryz.f161.body.getD .skip))[0]? = some scanC := ⟨by kernel_rfl, by kernel_rfl⟩
theorem scanH_ok : HooksOK Tryz.prog scanH := by
  intro f fn c hfn hc
  unfold scanH scanK
  cases hb : Nat.beq f 161 with
  | false => exact noHook_ok _ _ c
  | true =>
    have hf := Nat.eq_of_beq_eq_true hb
    subst hf
    have e := Tryz.func161
    rw [e] at hfn
    cases hfn
    have hnt : Tryz.f161.ntmps = 97 := by kernel_rfl
    rw [hnt]
    obtain ⟨h1, h2⟩ := scan_loops
    rw [hc] at h1 h2
    simp only [Option.getD_some] at h1 h2
    refine hookOK_of c (fun c' hc' g hg st st' F h => ?_)
    obtain ⟨i, hi, rfl⟩ := List.getElem_of_mem hc'
    have hlen : (loopsOf c).length = 2 := by have := congrArg List.length h1; simpa using this
    have hreg : ∀ j : Nat, ((loopsOf c).map regId)[j]? = ([8, 14] : List Nat)[j]? := fun j => by rw [h1]
    have hi2 : i = 0 ∨ i = 1 := by omega
    rcases hi2 with rfl | rfl
    · rw [List.getElem?_eq_getElem hi, Option.some.injEq] at h2
      rw [h2] at hg ⊢
      have hg : Bool.rec (motive := fun _ => Option (St → Option (St × Nat))) none (some scanG) (Nat.beq (regId scanC) 8) = some g := hg
      cases hb2 : Nat.beq (regId scanC) 8 with
      | false => rw [hb2] at hg; cases hg
      | true => rw [hb2] at hg; cases hg; exact scanG_ok h
    · have := hreg 1
      rw [List.getElem?_map, List.getElem?_eq_getElem hi] at this
      simp only [Option.map_some, List.getElem?_cons_succ, List.getElem?_cons_zero, Option.some.injEq] at this
      have hg : Bool.rec (motive := fun _ => Option (St → Option (St × Nat))) none (some scanG) (Nat.beq (regId (loopsOf c)[1]) 8) = some g := hg
      rw [this] at hg
      cases hg
end Go.Proofs.YtcmlgmiomcegeaaGreat.Ev
