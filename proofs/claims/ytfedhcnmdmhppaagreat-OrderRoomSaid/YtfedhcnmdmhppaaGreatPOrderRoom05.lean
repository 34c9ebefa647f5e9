/- Part 5 of what the proof of OrderRoom rests on. No condition. -/
import Derived.BigQuiet
import Derived.Deep.CutBlock
import Derived.Test.YtfedhcnmdmhppaaGreatPOrderRoom04
namespace Go.Proofs.YtfedhcnmdmhppaaGreat
set_option maxRecDepth 100000
set_option maxHeartbeats 60000000
set_option linter.unusedVariables false
set_option linter.unusedSimpArgs false
section
open Go.RowKit Go.Maps
theorem OutS.text_at {w0 w W : World} {ob : Nat} {bs : List UInt8} (h : OutS w0 ob bs w) (T : Tch No w W) (hl : bs.length <= 900000) (s : Txt) (hs : s.length <= 65535) :
  Calls Tryz.prog 128 #[.pointer (some ⟨ob, 0, none⟩), strV s] W fun e w' => e = .returned (.tuple #[]) /\ OutS w0 ob (bs ++ textM s) w' /\ ∀ p x, w.heap.size <= p.block -> W.cell? p = some x -> w'.cell? p = some x := by
 obtain ⟨v, h1, h2⟩ := h.ex
 have hlt := blk_lt h1.cell
 have hvl := own_loc h1.own
 refine (otext_any ob v bs ⟨s.toArray⟩ W (h1.tch T (fun _ _ h => h)) hl (by show s.toArray.size <= 65535; simpa using hs)).mono ?_
 rintro e w' ⟨rfl, hP⟩
 have ht : Tch (OutF ob v) W w' := by obtain ⟨_, _, t, _⟩ := hP; exact t
 refine ⟨rfl, ?_, fun p x hp hx => ht.cell hx ?_⟩
 ·have := OutS.step (h.keep T).tch h.new h2 hP
  rwa [show bs ++ leBytes 2 (ByteArray.size ⟨s.toArray⟩) ++ (ByteArray.data ⟨s.toArray⟩).toList = bs ++ textM s by unfold textM; rw [<- List.append_assoc]; rfl] at this
 ·rintro (h | h)
  ·omega
  ·have := hvl _ h; omega
theorem encPt_len (l : List Int) : (l.flatMap encPtM).length = 2 * l.length := by
 induction l with
 | nil => rfl
 | cons a r ih => rw [List.flatMap_cons, List.length_append, ih, encPtM, leBytes_length, List.length_cons]; omega
theorem encPu_len {l : List PutM} (h : ∀ p ∈ l, putB p = true) : (l.flatMap encPuM).length <= 72 * l.length := by
 induction l with
 | nil => simp
 | cons a r ih =>
  have h1 := h a List.mem_cons_self
  have h2 := ih (fun p hp => h p (List.mem_cons_of_mem _ hp))
  unfold putB queueB bodyB at h1
  simp only [Bool.and_eq_true, decide_eq_true_eq] at h1
  rw [List.flatMap_cons, List.length_append, encPuM, textM, textM, List.length_append, List.length_append, List.length_append, leBytes_length, leBytes_length, List.length_cons]
  omega
theorem recencode_any (r : RecM) (hok : OkRec r) (v : Value) (w : World) (h : IsRec w v r) :
  Calls Tryz.prog 179 #[v] w fun e w' => Tch No w w' /\ ((recB r = false /\ e = .returned (.slice none 0 0)) ∨ (recB r = true /\ ∃ v', e = .returned v' /\ SlB w' v' (encRecM r) /\ v' ≠ .slice none 0 0 /\ ∀ k, v'.ownBlock = some k -> w.heap.size <= k)) := by
 have HK := Lib.hid (fun W h => krecord_any r hok v W h)
 have HR := Lib.hid h
 obtain ⟨kd, tid, id, yes, parts, puts⟩ := r
 obtain ⟨vp, vu, rfl, hp, hu⟩ := h
 have HRt : Hid (∀ W, Tch No w W -> Calls Tryz.prog 77 #[.agg #[.int .i64 kd, .int .i64 tid, .int .i64 id, .bool yes, vp, vu]] W fun e w' => e = .returned (.bool (recB ⟨kd, tid, id, yes, parts, puts⟩)) /\ Tch No W w') := fun W T => HK.out W (HR.out.keep T)
 have HP : Hid (IsInts w vp parts) := hp
 have HU : Hid (IsPuts w vu puts) := hu
 obtain ⟨ap, cp, rfl, hcp, hmp⟩ := CellsAt.shape hp
 obtain ⟨au, cu, rfl, hcu, hmu⟩ := CellsAt.shape hu
 have HOK := Lib.hid hok
 clear hp hu hok hcp hmp hcu hmu HK HR
 cases hb : recB ⟨kd, tid, id, yes, parts, puts⟩ with
 | false =>
  rw [hb] at HRt
  clear hb
  go_enter Tryz.func179, Tryz.ntmps179
  go_wp2_with fail
  refine (HRt.out _ (Tch.alloc _ _)).mono ?_
  rintro e w1 ⟨rfl, T1⟩
  go_wp2_with fail
  go_ret
  exact ⟨(Tch.alloc _ _).trans0 T1, .inl ⟨trivial, rfl⟩⟩
 | true =>
  rw [hb] at HRt
  have HB := Lib.hid hb
  clear hb
  have hk1 : 1 <= kd /\ kd <= 9 := by
   have := HB.out
   unfold recB at this
   simp only [Bool.and_eq_true, decide_eq_true_eq] at this
   exact this.1.1.1.1.1
  go_enter Tryz.func179, Tryz.ntmps179
  go_wp2_with fail
  refine (HRt.out _ (Tch.alloc _ _)).mono ?_
  rintro e w1 ⟨rfl, T1⟩
  have bx : ∀ i (hi : i < (#[Value.int .i64 kd, .int .i64 tid, .int .i64 id, .bool yes, .slice ap parts.length cp, .slice au puts.length cu] : Array Value).size), w1.cell? ⟨w.heap.size, i, none⟩ = some (#[Value.int .i64 kd, .int .i64 tid, .int .i64 id, .bool yes, .slice ap parts.length cp, .slice au puts.length cu][i]) := fun i hi => T1.cell (box_cell w _ _ i hi) (fun h => h)
  have TT1 : Hid (Tch No w w1) := (Tch.alloc _ _).trans0 T1
  have O1 : Hid (OutS w1 w1.heap.size [] (w1.alloc (.cells #[.slice none 0 0] 146))) := OutS.made (Tch.refl _ _)
  have b0 := bx 0 (by simp)
  have b1 := bx 1 (by simp)
  have b2 := bx 2 (by simp)
  have b3 := bx 3 (by simp)
  have b4 := bx 4 (by simp)
  have b5 := bx 5 (by simp)
  simp only [List.getElem_toArray, List.getElem_cons_zero, List.getElem_cons_succ] at b0 b1 b2 b3 b4 b5
  clear bx T1
  have c0 := cal b0
  have c1 := cal b1
  go_wp2_with fail
  refine (O1.out.smallz (by simp) kd (by omega) (by omega)).mono ?_
  rintro e w2 ⟨rfl, o2⟩
  have d1 := o2.tch.cell b1 (fun h => h)
  have O2 := Lib.hid o2
  clear o2 O1 c0 c1
  go_wp2_with fail
  refine (O2.out.long (by simp [leBytes_length]) tid HOK.out.tid).mono ?_
  rintro e w3 ⟨rfl, o3⟩
  have d0 := o3.tch.cell b0 (fun h => h)
  have d2 := o3.tch.cell b2 (fun h => h)
  have d3 := o3.tch.cell b3 (fun h => h)
  have d4 := o3.tch.cell b4 (fun h => h)
  have d5 := o3.tch.cell b5 (fun h => h)
  obtain ⟨pre, hpre⟩ : ∃ pre, ([] ++ leBytes 2 kd.toNat) ++ leBytes 8 (u64of tid) = pre := ⟨_, rfl⟩
  have HPL : Hid (pre.length = 10) := by rw [<- hpre]; simp [Hid, leBytes_length]
  have HE : Hid (encRecM ⟨kd, tid, id, yes, parts, puts⟩ = pre ++ (if decide (kd = 2) = true then leBytes 8 (u64of id) else []) ++ (if decide (kd = 5) = true then [if yes then 1 else 0] else []) ++ (if ptsB kd = true then leBytes 2 parts.length ++ parts.flatMap encPtM else []) ++ (if putsB kd = true then leBytes 2 puts.length ++ puts.flatMap encPuM else [])) := by
   rw [<- hpre]; simp [Hid, encRecM]
  rw [hpre] at o3
  have O3 := Lib.hid o3
  have HX : Hid ((decide (kd = 2) = true /\ decide (kd = 5) = false /\ ptsB kd = false /\ putsB kd = false) ∨ (decide (kd = 2) = false /\ decide (kd = 5) = true /\ ptsB kd = false /\ putsB kd = false) ∨ (decide (kd = 2) = false /\ decide (kd = 5) = false /\ ptsB kd = true /\ putsB kd = false) ∨
    (decide (kd = 2) = false /\ decide (kd = 5) = false /\ ptsB kd = false /\ putsB kd = true) ∨ (decide (kd = 2) = false /\ decide (kd = 5) = false /\ ptsB kd = false /\ putsB kd = false)) := by
   have : kd = 1 ∨ kd = 2 ∨ kd = 3 ∨ kd = 4 ∨ kd = 5 ∨ kd = 6 ∨ kd = 7 ∨ kd = 8 ∨ kd = 9 := by omega
   rcases this with h | h | h | h | h | h | h | h | h <;> subst h <;> simp [Hid, ptsB, putsB]
  have HPO : Hid (ptsB kd = true -> (∀ x ∈ parts, 0 <= x /\ x < 9223372036854775808) /\ parts.length <= 7) := fun hq => by
   have hB := HB.out
   have hx : kd = 6 ∨ kd = 8 ∨ kd = 9 := by unfold ptsB at hq; simp at hq; omega
   unfold recB at hB
   simp only [Bool.and_eq_true] at hB
   have hl := hB.2
   have hrise : risingB parts = true /\ parts.length <= 7 := by
    rcases hx with rfl | rfl | rfl <;> simp at hl <;> exact ⟨hl.2, by omega⟩
   refine ⟨fun x hx => ?_, hrise.2⟩
   have h1 := hrise.1
   unfold risingB at h1
   simp only [Bool.and_eq_true, List.all_eq_true] at h1
   have := h1.1 x hx
   unfold brokerB at this
   simp only [decide_eq_true_eq] at this
   omega
  have HUO : Hid (putsB kd = true -> (∀ p ∈ puts, putB p = true) /\ puts.length <= 10) := fun hq => by
   have hB := HB.out
   have hx : kd = 4 ∨ kd = 7 := by unfold putsB at hq; simp at hq; omega
   unfold recB at hB
   simp only [Bool.and_eq_true] at hB
   have hl := hB.1.2
   rw [if_pos hx] at hl
   simp only [Bool.and_eq_true, decide_eq_true_eq, List.all_eq_true] at hl
   exact ⟨hl.2, hl.1⟩
  have HH := Lib.hid (rechas_any kd w3)
  clear o3 hpre b0 b1 b2 b3 d1 O2
  generalize decide (kd = 2) = x1 at HE HX HH
  generalize decide (kd = 5) = x2 at HE HX HH
  generalize ptsB kd = x3 at HE HX HH HPO
  generalize putsB kd = x4 at HE HX HH HUO
  have hend : ∀ (bs : List UInt8) (W : World), OutS w1 w1.heap.size bs W -> bs.length <= 1000 -> ∃ vr, W.cell? ⟨w1.heap.size, 0, none⟩ = some vr /\ Hid (SlB W vr bs /\ (bs ≠ [] -> vr ≠ .slice none 0 0) /\ (∀ k, vr.ownBlock = some k -> w.heap.size <= k) /\ Tch No w W) := fun bs W o hl => by
   obtain ⟨vr, q1, q2, q3, q4⟩ := o.cell0 (by unfold lim; omega)
   exact ⟨vr, q1, q2, q3, fun k hk => Nat.le_trans TT1.out.size (q4 k hk), TT1.out.trans0 o.tch⟩
  have HEND := Lib.hid hend
  clear hend
  rcases HX.out with ⟨rfl, rfl, rfl, rfl⟩ | ⟨rfl, rfl, rfl, rfl⟩ | ⟨rfl, rfl, rfl, rfl⟩ | ⟨rfl, rfl, rfl, rfl⟩ | ⟨rfl, rfl, rfl, rfl⟩
  ·simp only [if_true, if_false, Bool.false_eq_true, List.append_nil] at HE
   clear HX HPO HUO HRt
   go_wp2_with fail
   refine HH.out.mono ?_
   rintro e w4 ⟨rfl, rfl⟩
   go_wp2_with fail
   refine (O3.out.long (by rw [HPL.out]; omega) id HOK.out.id).mono ?_
   rintro e w5 ⟨rfl, o5⟩
   obtain ⟨vr, c5, Q5⟩ := HEND.out _ _ o5 (by rw [List.length_append, leBytes_length, HPL.out]; omega)
   rw [<- HE.out] at Q5
   clear o5
   go_wp2_with fail
   go_ret
   exact ⟨Q5.out.2.2.2, .inr ⟨trivial, vr, rfl, Q5.out.1, Q5.out.2.1 (by simp [encRecM, leBytes]), Q5.out.2.2.1⟩⟩
  ·simp only [if_true, if_false, Bool.false_eq_true, List.append_nil] at HE
   clear HX HPO HUO HRt
   go_wp2_with fail
   refine HH.out.mono ?_
   rintro e w4 ⟨rfl, rfl⟩
   go_wp2_with fail
   refine (O3.out.truth (by rw [HPL.out]; omega) yes).mono ?_
   rintro e w5 ⟨rfl, o5⟩
   obtain ⟨vr, c5, Q5⟩ := HEND.out _ _ o5 (by rw [List.length_append, HPL.out]; simp)
   rw [<- HE.out] at Q5
   clear o5
   go_wp2_with fail
   go_ret
   exact ⟨Q5.out.2.2.2, .inr ⟨trivial, vr, rfl, Q5.out.1, Q5.out.2.1 (by simp [encRecM, leBytes]), Q5.out.2.2.1⟩⟩
  ·simp only [if_true, if_false, Bool.false_eq_true, List.append_nil] at HE
   clear HX HUO HRt
   have hlp : parts.length <= 7 := (HPO.out (by trivial)).2
   go_wp2_with fail
   refine HH.out.mono ?_
   rintro e w4 ⟨rfl, rfl⟩
   go_wp2_with fail
   refine (O3.out.small (by rw [HPL.out]; omega) parts.length (by omega)).mono ?_
   rintro e w5 ⟨rfl, o5⟩
   have f4 := o5.tch.cell b4 (fun h => h)
   obtain ⟨np, hnp⟩ : ∃ n, parts.length = n := ⟨_, rfl⟩
   have HNP : Hid (parts.length = np) := hnp
   have O5 := Lib.hid o5
   rw [hnp] at O5 HP f4 d4 b4 hlp
   rw [hnp]
   clear hnp o5
   go_wp2_with fail
   go_loopg [9, 52] np (fun kx _ sx wr => ∃ k : Nat, sx = .int .i64 k /\ k <= np /\ np - k <= kx /\ Hid (OutS w1 w1.heap.size (pre ++ leBytes 2 np ++ (parts.take k).flatMap encPtM) wr))
   case atStart => exact ⟨0, rfl, Nat.zero_le _, by omega, by simpa [Hid] using O5.out⟩
   case round =>
    obtain ⟨k, rfl, hk, hgk, OO⟩ := hrel
    by_cases hlt : k < np
    ·have hlt' : k < parts.length := by rw [HNP.out]; exact hlt
     have hb : ∃ b o, ap = some ⟨b, o, none⟩ /\ wr.cell? ⟨b, o + k, none⟩ = some (.int .i64 parts[k]) := by
      rcases HP.out.2 with ⟨_, h0⟩ | ⟨b, o, cap2, h1, _, _, _, h5⟩
      ·rw [HNP.out] at h0; omega
      ·injection h1 with h1 _ _
       exact ⟨b, o, h1, OO.out.tch.cell (TT1.out.cell (h5 k _ (by rw [List.getElem?_map, List.getElem?_eq_getElem hlt']; rfl)) (fun h => h)) (fun h => h)⟩
     obtain ⟨b, o, rfl, e0⟩ := hb
     have hx := (HPO.out (by trivial)).1 _ (List.getElem_mem hlt')
     have HK : Hid (pre ++ leBytes 2 np ++ (parts.take k).flatMap encPtM ++ leBytes 2 parts[k].toNat = pre ++ leBytes 2 np ++ (parts.take (k + 1)).flatMap encPtM) := by
      rw [Hid, List.take_succ_eq_append_getElem hlt', List.flatMap_append]; simp [encPtM]
     have hll : (pre ++ leBytes 2 np ++ (parts.take k).flatMap encPtM).length <= 1000000 := by
      rw [List.length_append, List.length_append, leBytes_length, HPL.out, encPt_len, List.length_take]; omega
     have HC := Lib.hid (OO.out.smallz hll parts[k] hx.1 hx.2)
     rw [HK.out] at HC
     obtain ⟨x, hxx⟩ : ∃ x, parts[k] = x := ⟨_, rfl⟩
     rw [hxx] at HC e0
     clear hxx hx hll HK
     go_wp2_with fail
     refine HC.out.mono ?_
     rintro e w6 ⟨rfl, o6⟩
     go_wp2_with fail
     go_roundg (np - (k + 1))
     case measure => omega
     case rel => exact ⟨k + 1, by go_num, by omega, by omega, o6⟩
    ·obtain rfl : k = np := by omega
     have hnp := HNP.out
     have HF : Hid (pre ++ leBytes 2 k ++ (parts.take k).flatMap encPtM = encRecM ⟨kd, tid, id, yes, parts, puts⟩) := by
      rw [Hid, HE.out, <- hnp, List.take_length, List.append_assoc]
     have hll : (pre ++ leBytes 2 k ++ (parts.take k).flatMap encPtM).length <= 1000 := by
      rw [List.length_append, List.length_append, leBytes_length, HPL.out, encPt_len, List.length_take]; omega
     obtain ⟨vr, c5, Q5⟩ := HEND.out _ _ OO.out hll
     rw [HF.out] at Q5
     clear hlt hnp hll HF
     go_wp2_with fail
     go_ret
     exact ⟨Q5.out.2.2.2, .inr ⟨trivial, vr, rfl, Q5.out.1, Q5.out.2.1 (by simp [encRecM, leBytes]), Q5.out.2.2.1⟩⟩
  ·simp only [if_true, if_false, Bool.false_eq_true, List.append_nil] at HE
   clear HX HPO HRt
   have hlp : puts.length <= 10 := (HUO.out (by trivial)).2
   go_wp2_with fail
   refine HH.out.mono ?_
   rintro e w4 ⟨rfl, rfl⟩
   go_wp2_with fail
   refine (O3.out.small (by rw [HPL.out]; omega) puts.length (by omega)).mono ?_
   rintro e w5 ⟨rfl, o5⟩
   have f5 := o5.tch.cell b5 (fun h => h)
   obtain ⟨np, hnp⟩ : ∃ n, puts.length = n := ⟨_, rfl⟩
   have HNP : Hid (puts.length = np) := hnp
   have O5 := Lib.hid o5
   rw [hnp] at O5 HU f5 d5 b5 hlp
   rw [hnp]
   clear hnp o5
   go_wp2_with fail
   go_loopg [11, 69] np (fun kx _ sx wr => ∃ k : Nat, sx = .int .i64 k /\ k <= np /\ np - k <= kx /\ Hid (OutS w1 w1.heap.size (pre ++ leBytes 2 np ++ (puts.take k).flatMap encPuM) wr))
   case atStart => exact ⟨0, rfl, Nat.zero_le _, by omega, by simpa [Hid] using O5.out⟩
   case round =>
    obtain ⟨k, rfl, hk, hgk, OO⟩ := hrel
    by_cases hlt : k < np
    ·have hlt' : k < puts.length := by rw [HNP.out]; exact hlt
     have hb : ∃ b o, au = some ⟨b, o, none⟩ /\ wr.cell? ⟨b, o + k * 2, none⟩ = some (strV puts[k].q) /\ wr.cell? ⟨b, o + k * 2 + 1, none⟩ = some (strV puts[k].b) := by
      rcases HU.out.2 with ⟨_, h0⟩ | ⟨b, o, cap2, h1, _, _, _, h5⟩
      ·rw [HNP.out] at h0; omega
      ·injection h1 with h1 _ _
       exact ⟨b, o, h1, OO.out.tch.cell (TT1.out.cell (h5 (k * 2) _ (flat_get encPut 2 (fun _ => rfl) puts k 0 hlt' (by decide))) (fun h => h)) (fun h => h), OO.out.tch.cell (TT1.out.cell (h5 (k * 2 + 1) _ (flat_get encPut 2 (fun _ => rfl) puts k 1 hlt' (by decide))) (fun h => h)) (fun h => h)⟩
     obtain ⟨b, o, rfl, e0, e1⟩ := hb
     have hx := (HUO.out (by trivial)).1 _ (List.getElem_mem hlt')
     unfold putB queueB bodyB at hx
     simp only [Bool.and_eq_true, decide_eq_true_eq] at hx
     have HK : Hid (pre ++ leBytes 2 np ++ (puts.take k).flatMap encPuM ++ textM puts[k].q ++ textM puts[k].b = pre ++ leBytes 2 np ++ (puts.take (k + 1)).flatMap encPuM) := by
      rw [Hid, List.take_succ_eq_append_getElem hlt', List.flatMap_append]; simp [encPuM]
     have hl0 : (pre ++ leBytes 2 np ++ (puts.take k).flatMap encPuM).length <= 1000 := by
      have := encPu_len (l := puts.take k) (fun p hp => (HUO.out (by trivial)).1 p (List.mem_of_mem_take hp))
      rw [List.length_append, List.length_append, leBytes_length, HPL.out]
      rw [List.length_take] at this; omega
     have HC := Lib.hid (fun W (T : Tch No wr W) => OO.out.text_at T (by omega) puts[k].q (by omega))
     have HC2 := Lib.hid (fun W (h : OutS w1 w1.heap.size (pre ++ leBytes 2 np ++ (puts.take k).flatMap encPuM ++ textM puts[k].q) W) => h.text (by
      have e : (textM puts[k].q).length = 2 + puts[k].q.length := by simp [textM, leBytes_length]
      rw [List.length_append]; omega) puts[k].b (by omega))
     rw [HK.out] at HC2
     simp only [strV] at HC HC2 e0 e1
     obtain ⟨x, hxx⟩ : ∃ x : ByteArray, (⟨puts[k].q.toArray⟩ : ByteArray) = x := ⟨_, rfl⟩
     obtain ⟨y, hyy⟩ : ∃ y : ByteArray, (⟨puts[k].b.toArray⟩ : ByteArray) = y := ⟨_, rfl⟩
     rw [hxx] at HC e0
     rw [hyy] at HC2 e1
     clear hxx hyy hx hl0 HK
     go_wp2_with fail
     refine (HC.out _ (Tch.alloc _ _)).mono ?_
     rintro e w6 ⟨rfl, o6, q6⟩
     have g1 := q6 ⟨wr.heap.size, 1, none⟩ _ (Nat.le_refl _) (box_cell wr _ _ 1 (by simp))
     simp only [List.getElem_toArray, List.getElem_cons_succ, List.getElem_cons_zero] at g1
     have O6 := Lib.hid o6
     clear q6 o6
     go_wp2_with fail
     refine (HC2.out _ O6.out).mono ?_
     rintro e w7 ⟨rfl, o7⟩
     go_wp2_with fail
     go_roundg (np - (k + 1))
     case measure => omega
     case rel => exact ⟨k + 1, by go_num, by omega, by omega, o7⟩
    ·obtain rfl : k = np := by omega
     have hnp := HNP.out
     have HF : Hid (pre ++ leBytes 2 k ++ (puts.take k).flatMap encPuM = encRecM ⟨kd, tid, id, yes, parts, puts⟩) := by
      rw [Hid, HE.out, <- hnp, List.take_length, List.append_assoc]
     have hll : (pre ++ leBytes 2 k ++ (puts.take k).flatMap encPuM).length <= 1000 := by
      have := encPu_len (l := puts.take k) (fun p hp => (HUO.out (by trivial)).1 p (List.mem_of_mem_take hp))
      rw [List.length_append, List.length_append, leBytes_length, HPL.out]
      rw [List.length_take] at this; omega
     obtain ⟨vr, c5, Q5⟩ := HEND.out _ _ OO.out hll
     rw [HF.out] at Q5
     clear hlt hnp hll HF
     go_wp2_with fail
     go_ret
     exact ⟨Q5.out.2.2.2, .inr ⟨trivial, vr, rfl, Q5.out.1, Q5.out.2.1 (by simp [encRecM, leBytes]), Q5.out.2.2.1⟩⟩
  ·simp only [if_true, if_false, Bool.false_eq_true, List.append_nil] at HE
   clear HX HPO HUO HRt
   go_wp2_with fail
   refine HH.out.mono ?_
   rintro e w4 ⟨rfl, rfl⟩
   obtain ⟨vr, c5, Q5⟩ := HEND.out _ _ O3.out (by rw [HPL.out]; omega)
   rw [<- HE.out] at Q5
   go_wp2_with fail
   go_ret
   exact ⟨Q5.out.2.2.2, .inr ⟨trivial, vr, rfl, Q5.out.1, Q5.out.2.1 (by simp [encRecM, leBytes]), Q5.out.2.2.1⟩⟩
end
section
open Go.RowKit Go.Maps
theorem leNum_leBytes : ∀ k n, n < 256 ^ k -> leNum (leBytes k n) = n
 | 0, n, h => by simp at h; simp [leBytes, leNum, h]
 | k + 1, n, h => by
  have h1 : n / 256 < 256 ^ k := by rw [Nat.pow_succ] at h; omega
  rw [leBytes, leNum, leNum_leBytes k _ h1, UInt8.toNat_ofNat']
  omega
theorem take_le (k n : Nat) (r : List UInt8) : (leBytes k n ++ r).take k = leBytes k n := by
 have := leBytes_length k n
 rw [List.take_left' this]
theorem drop_le (k n : Nat) (r : List UInt8) : (leBytes k n ++ r).drop k = r := by
 have := leBytes_length k n
 rw [List.drop_left' this]
structure InS (w0 : World) (ib : Nat) (bs : List UInt8) (w : World) : Prop where
 ex : ∃ v, IsIn w ib v bs false /\ ∀ k, v.ownBlock = some k -> k < w0.heap.size
 tch : Tch No w0 w
 new : w0.heap.size <= ib
theorem InS.keepF {F : Nat -> Prop} {w0 w w' : World} {ib : Nat} {bs : List UInt8} (h : InS w0 ib bs w) (t : Tch F w w') (h1 : ¬ F ib) (h2 : ∀ k, F k -> w0.heap.size <= k) : InS w0 ib bs w' := by
 obtain ⟨v, i1, i2⟩ := h.ex
 exact ⟨⟨v, i1.tch t h1 (fun k hk e => by have g1 := i2 k hk; have g2 := h2 k e; omega), i2⟩, h.tch.fresh t h2, h.new⟩
theorem InS.keep {w0 w w' : World} {ib : Nat} {bs : List UInt8} (h : InS w0 ib bs w) (t : Tch No w w') : InS w0 ib bs w' := h.keepF t (fun h => h) (fun _ h => h.elim)
theorem InS.made {w0 w : World} {v : Value} {bs : List UInt8} (t : Tch No w0 w) (h : SlB w v bs) (hv : ∀ k, v.ownBlock = some k -> k < w0.heap.size) : InS w0 w.heap.size bs (w.alloc (.cells #[v, .bool false] 185)) :=
 ⟨⟨v, IsIn.made h, hv⟩, t.trans0 (Tch.alloc _ _), t.size⟩
theorem InS.step {w0 w w' : World} {ib : Nat} {v res : Value} {bs rest : List UInt8} {n : Nat} {e : Ending} (t : Tch No w0 w) (hn : w0.heap.size <= ib) (hv : ∀ k, v.ownBlock = some k -> k < w0.heap.size) (hr : bs.drop n = rest) (h : RdOk w ib v bs n res e w') : e = .returned res /\ InS w0 ib rest w' /\ Tch (InF ib) w w' := by
 obtain ⟨v2, h1, h2, h3, h4⟩ := h
 refine ⟨h1, ⟨⟨v2, by rw [<- hr]; exact h2, fun k hk => hv k (h3 k hk)⟩, t.fresh h4 (fun k hk => ?_), hn⟩, h4⟩
 rw [InF] at hk
 omega
theorem InS.small {w0 w : World} {ib : Nat} (n : Nat) (rest : List UInt8) (h : InS w0 ib (leBytes 2 n ++ rest) w) (hn : n < 65536) :
  Calls Tryz.prog 113 #[.pointer (some ⟨ib, 0, none⟩)] w fun e w' => e = .returned (.int .i64 n) /\ InS w0 ib rest w' /\ Tch (InF ib) w w' := by
 obtain ⟨v, h1, h2⟩ := h.ex
 refine (ismall_ok ib v _ w h1 (by rw [List.length_append, leBytes_length]; omega)).mono ?_
 intro e w' hR
 rw [take_le, leNum_leBytes 2 n (by simpa using hn)] at hR
 exact InS.step h.tch h.new h2 (drop_le 2 n rest) hR
theorem wrap_u64 (n : Int) (h : I64 n) : wrap64 ((u64of n : Nat) : Int) = n := by
 unfold I64 at h
 unfold u64of
 rw [Int.toNat_of_nonneg (Int.emod_nonneg _ (by decide))]
 unfold wrap64
 omega
theorem InS.long {w0 w : World} {ib : Nat} (n : Int) (rest : List UInt8) (h : InS w0 ib (leBytes 8 (u64of n) ++ rest) w) (hn : I64 n) :
  Calls Tryz.prog 114 #[.pointer (some ⟨ib, 0, none⟩)] w fun e w' => e = .returned (.int .i64 n) /\ InS w0 ib rest w' /\ Tch (InF ib) w w' := by
 obtain ⟨v, h1, h2⟩ := h.ex
 refine (ilong_ok ib v _ w h1 (by rw [List.length_append, leBytes_length]; omega)).mono ?_
 intro e w' hR
 rw [take_le, leNum_leBytes 8 _ (by unfold u64of; omega), wrap_u64 n hn] at hR
 exact InS.step h.tch h.new h2 (drop_le 8 _ rest) hR
theorem InS.text {w0 w : World} {ib : Nat} (s : Txt) (rest : List UInt8) (h : InS w0 ib (textM s ++ rest) w) (hn : s.length < 65536) :
  Calls Tryz.prog 112 #[.pointer (some ⟨ib, 0, none⟩)] w fun e w' => e = .returned (strV s) /\ InS w0 ib rest w' /\ Tch (InF ib) w w' := by
 obtain ⟨v, h1, h2⟩ := h.ex
 have hb : textM s ++ rest = leBytes 2 s.length ++ (s ++ rest) := by unfold textM; rw [List.append_assoc]
 rw [hb] at h1
 refine (itext_ok ib v _ w h1 (by rw [List.length_append, leBytes_length]; omega) s.length (by rw [take_le, leNum_leBytes 2 _ (by simpa using hn)]) (by rw [List.length_append, List.length_append, leBytes_length]; omega)).mono ?_
 intro e w' hR
 have e1 : ((leBytes 2 s.length ++ (s ++ rest)).drop 2).take s.length = s := by rw [drop_le, List.take_left' rfl]
 have e2 : (leBytes 2 s.length ++ (s ++ rest)).drop (2 + s.length) = rest := by rw [<- List.drop_drop, drop_le, List.drop_left' rfl]
 rw [e1] at hR
 exact InS.step h.tch h.new h2 e2 hR
theorem InS.truth {w0 w : World} {ib : Nat} (x : Bool) (rest : List UInt8) (h : InS w0 ib ([if x then 1 else 0] ++ rest) w) :
  Calls Tryz.prog 174 #[.pointer (some ⟨ib, 0, none⟩)] w fun e w' => e = .returned (.bool x) /\ InS w0 ib rest w' /\ Tch (InF ib) w w' := by
 obtain ⟨v, h1, h2⟩ := h.ex
 refine (itruth_ok ib v (if x then 1 else 0) rest w h1 (by cases x <;> decide)).mono ?_
 intro e w' hR
 have e1 : ((if x then (1 : UInt8) else 0) == 1) = x := by cases x <;> rfl
 rw [e1] at hR
 exact InS.step h.tch h.new h2 rfl hR
theorem InS.bad {w0 w : World} {ib : Nat} {bs : List UInt8} (h : InS w0 ib bs w) :
  Calls Tryz.prog 175 #[.pointer (some ⟨ib, 0, none⟩)] w fun e w' => e = .returned (.bool false) /\ w = w' := by
 obtain ⟨v, h1, h2⟩ := h.ex
 exact ibad_any ib v bs false w h1
theorem InS.ended {w0 w : World} {ib : Nat} (h : InS w0 ib [] w) :
  Calls Tryz.prog 123 #[.pointer (some ⟨ib, 0, none⟩)] w fun e w' => e = .returned (.bool true) /\ w = w' := by
 obtain ⟨v, h1, h2⟩ := h.ex
 exact iend_any ib v [] false w h1
end
section
open Go.RowKit Go.Maps
structure TchW (w : World) where
 wo : World
 t : Tch No w wo
instance (w : World) : Inhabited (TchW w) := ⟨⟨w, Tch.refl _ _⟩⟩
theorem wp_region_qt {P : Program} {id : Nat} {Q : Exit -> Act -> World -> Prop} {a : Act} {w : World} {l : List Oper} (hm : P.follows .mixedOrders = true) (hB : Region.lexB .any l.toArray = true)
  (h : wpQuiet P l.toArray (fun w' => ∃ p : TchW w, w' = p.wo) (fun a' => ∀ w', (∃ p : TchW w, w' = p.wo) -> Q .normal a' w') l a) : (Code.region id l.toArray true).wp P Q a w :=
 wp_region_quiet (C := fun w' => ∃ p : TchW w, w' = p.wo) hm hB ⟨⟨w.drew, Tch.drew w⟩, rfl⟩ (by simpa using h)
theorem qt_t {P : Program} {f : FuncId} {args : Array Value} {w : World} {p : TchW w} {v : Value} (h : Calls P f args p.wo fun e w' => e = .returned v /\ Tch No p.wo w') :
  Calls P f args p.wo fun e w'' => e = .returned v /\ ∃ q : TchW w, w'' = q.wo :=
 h.mono fun _ x ⟨he, t⟩ => ⟨he, ⟨x, p.t.trans0 t⟩, rfl⟩
theorem qt_s {P : Program} {f : FuncId} {args : Array Value} {w : World} {p : TchW w} {v : Value} (h : Calls P f args p.wo fun e w' => e = .returned v /\ p.wo = w') :
  Calls P f args p.wo fun e w'' => e = .returned v /\ ∃ q : TchW w, w'' = q.wo :=
 h.mono fun _ x ⟨he, t⟩ => ⟨he, p, t.symm⟩
theorem TchW.cell {w : World} (p : TchW w) {a : Addr} {v : Value} (h : w.cell? a = some v) : p.wo.cell? a = some v := p.t.cell h (fun h => h)
theorem wp_world {P : Program} {c : Code} {Q : Exit -> Act -> World -> Prop} {a : Act} {w : World} (F : World -> Prop) (hF : F w) (h : ∀ w', F w' -> Code.wp P c Q a w') : Code.wp P c Q a w := h w hF
def RiseQ (q : Int -> Bool) (l : List Int) (k : Nat) : Prop := ∀ i (h : i < l.length), i < k -> q l[i] = true /\ ∀ (h0 : 0 < i), l[i - 1] < l[i]
theorem riseQ_all {q : Int -> Bool} {l : List Int} : RiseQ q l l.length ↔ (l.all q && strictB l) = true := by
 unfold RiseQ
 rw [Bool.and_eq_true, strict_idx, List.all_eq_true]
 constructor
 ·intro h
  refine ⟨fun x hx => ?_, fun i hi => ?_⟩
  ·obtain ⟨i, hi, rfl⟩ := List.getElem_of_mem hx
   exact (h i hi hi).1
  ·exact (h (i + 1) hi hi).2 (by omega)
 ·rintro ⟨h1, h2⟩ i hi _
  refine ⟨h1 _ (List.getElem_mem hi), fun h0 => ?_⟩
  have := h2 (i - 1) (by omega)
  simpa [Nat.sub_add_cancel h0] using this
theorem riseQ_bad {q : Int -> Bool} {l : List Int} {k : Nat} (hk : k < l.length) (h : q l[k] = false ∨ ∃ h0 : 0 < k, ¬ l[k - 1] < l[k]) : (l.all q && strictB l) = false := by
 cases e : (l.all q && strictB l) with
 | false => rfl
 | true =>
  have := (riseQ_all.2 e) k hk hk
  rcases h with h | ⟨h0, h⟩
  ·rw [this.1] at h; cases h
  ·exact absurd (this.2 h0) h
theorem riseQ_step {q : Int -> Bool} {l : List Int} {k : Nat} (h : RiseQ q l k) (hk : k < l.length) (hb : q l[k] = true) (hp : ∀ h0 : 0 < k, l[k - 1] < l[k]) : RiseQ q l (k + 1) := by
 intro i hi hik
 by_cases e : i = k
 ·subst e; exact ⟨hb, hp⟩
 ·exact h i hi (by omega)
end
section
open Go.RowKit Go.Maps
abbrev LRow := Option Nat × List Nat × List Nat
def lrow (ops : Array Oper) (o : Oper) : LRow := (o.dst, o.looksAt ops, (o.after.toList.filter (Region.binds .any)).map (·.on))
theorem lon_mem {ops : Array Oper} {o : Oper} {k : Nat} : k ∈ (lrow ops o).2.2 ↔ ∃ e ∈ o.after, Region.binds .any e = true /\ e.on = k := by
 unfold lrow
 simp only [List.mem_map, List.mem_filter, Array.mem_toList_iff]
 constructor
 ·rintro ⟨e, ⟨h1, h2⟩, h3⟩; exact ⟨e, h1, h2, h3⟩
 ·rintro ⟨e, h1, h2, h3⟩; exact ⟨e, ⟨h1, h2⟩, h3⟩
end
end Go.Proofs.YtfedhcnmdmhppaaGreat
