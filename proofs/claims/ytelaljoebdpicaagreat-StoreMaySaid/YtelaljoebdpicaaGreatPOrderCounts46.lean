/- Part 46 of what the proof of OrderCounts rests on. No condition. -/
import Derived.Test.YtelaljoebdpicaaGreatPOrderCounts03
import Derived.Test.YtelaljoebdpicaaGreatPOrderCounts14
import Derived.Test.YtelaljoebdpicaaGreatPOrderCounts45
namespace Go.Proofs.YtelaljoebdpicaaGreat
set_option maxRecDepth 100000
set_option maxHeartbeats 60000000
set_option linter.unusedVariables false
set_option linter.unusedSimpArgs false
set_option linter.unusedSectionVars false
section
open Go.RowKit Go.Maps
theorem rmay_any (s : StM) (hok : OkSt s) (v : Value) (w : World) (h : IsSt w v s) :
  Calls Tryz.prog 15 #[v] w fun e w' => e = .returned (.bool (mayM s)) /\ Tch No w w' := by
 have HAM0 := Lib.hid (fun t W (T : Tch No w W) => atms_any s t v W (h.keep T))
 have HAE0 := Lib.hid (fun t W (T : Tch No w W) => atends_any s t v W (h.keep T))
 have HSI0 := Lib.hid (fun (hs : strictB (s.ends.map (·.tid)) = true) W (T : Tch No w W) => rsides_any s hs v W (h.keep T))
 have HPE0 := Lib.hid (fun (l : List PendM) (hl : ∀ p ∈ l, I64 p.tid /\ ∀ x ∈ p.parts, I64 x) vl (hvl : IsPends w vl l) W (T : Tch No w W) => rpends_any s l hl v vl W (h.keep T) (hvl.keep T))
 obtain ⟨am, cm, aw, cw, ae, ce, ao, co, an, cn, nm, nw, ne, no, nn, hval, HMSL, HNM, hlnm, HWSL, HNW, hlnw, HESL, HNE, hlne, HOSL, HNO, hlno, HNSL, HNN, hlnn⟩ := st_pre h
 have HOK := Lib.hid hok
 have HBr := Lib.hid (fun W => rbroker_any s.broker W)
 obtain ⟨b0, hb0⟩ : ∃ x, brokerB s.broker = x := ⟨_, rfl⟩
 have HB0 := Lib.hid hb0
 rw [hb0] at HBr
 obtain ⟨res, hres⟩ : ∃ r, mayM s = r := ⟨_, rfl⟩
 have HRES := Lib.hid hres
 have HME := Lib.hid (rmay_eq s)
 rw [hres]
 clear h hok hb0 hres
 subst hval
 go_enter Tryz.func15, Tryz.ntmps15
 cases b0 with
 | false =>
  have HN : Hid (res = false) := HRES.out.symm.trans (by rw [HME.out]; unfold rheadB; rw [HB0.out]; simp)
  go_wp2_with (go_at_call 53; refine (HBr.out _).mono ?_; rintro e w' ⟨rfl, rfl⟩)
  go_ret
  exact ⟨ret_b HN.out.symm, Tch.alloc _ _⟩
 | true =>
 by_cases k0 : 1 <= s.nid
 case neg =>
  have HN : Hid (res = false) := HRES.out.symm.trans (by rw [HME.out]; simp [rheadB, k0, HNM.out, HNW.out, HNE.out, HNO.out, HNN.out])
  go_wp2_with (go_at_call 53; refine (HBr.out _).mono ?_; rintro e w' ⟨rfl, rfl⟩)
  go_ret
  exact ⟨ret_b HN.out.symm, Tch.alloc _ _⟩
 by_cases k1 : s.nid <= 4294967296
 case neg =>
  have HN : Hid (res = false) := HRES.out.symm.trans (by rw [HME.out]; simp [rheadB, k1, HNM.out, HNW.out, HNE.out, HNO.out, HNN.out])
  go_wp2_with (go_at_call 53; refine (HBr.out _).mono ?_; rintro e w' ⟨rfl, rfl⟩)
  go_ret
  exact ⟨ret_b HN.out.symm, Tch.alloc _ _⟩
 by_cases k2 : 1 <= s.nseq
 case neg =>
  have HN : Hid (res = false) := HRES.out.symm.trans (by rw [HME.out]; simp [rheadB, k2, HNM.out, HNW.out, HNE.out, HNO.out, HNN.out])
  go_wp2_with (go_at_call 53; refine (HBr.out _).mono ?_; rintro e w' ⟨rfl, rfl⟩)
  go_ret
  exact ⟨ret_b HN.out.symm, Tch.alloc _ _⟩
 by_cases k3 : s.nseq <= 1099511627776
 case neg =>
  have HN : Hid (res = false) := HRES.out.symm.trans (by rw [HME.out]; simp [rheadB, k3, HNM.out, HNW.out, HNE.out, HNO.out, HNN.out])
  go_wp2_with (go_at_call 53; refine (HBr.out _).mono ?_; rintro e w' ⟨rfl, rfl⟩)
  go_ret
  exact ⟨ret_b HN.out.symm, Tch.alloc _ _⟩
 by_cases k4 : 0 <= s.tx
 case neg =>
  have HN : Hid (res = false) := HRES.out.symm.trans (by rw [HME.out]; simp [rheadB, k4, HNM.out, HNW.out, HNE.out, HNO.out, HNN.out])
  go_wp2_with (go_at_call 53; refine (HBr.out _).mono ?_; rintro e w' ⟨rfl, rfl⟩)
  go_ret
  exact ⟨ret_b HN.out.symm, Tch.alloc _ _⟩
 by_cases k5 : s.tx <= 200
 case neg =>
  have HN : Hid (res = false) := HRES.out.symm.trans (by rw [HME.out]; simp [rheadB, k5, HNM.out, HNW.out, HNE.out, HNO.out, HNN.out])
  go_wp2_with (go_at_call 53; refine (HBr.out _).mono ?_; rintro e w' ⟨rfl, rfl⟩)
  go_ret
  exact ⟨ret_b HN.out.symm, Tch.alloc _ _⟩
 by_cases k6 : nm <= 72
 case neg =>
  have HN : Hid (res = false) := HRES.out.symm.trans (by rw [HME.out]; simp [rheadB, k6, HNM.out, HNW.out, HNE.out, HNO.out, HNN.out])
  go_wp2_with (go_at_call 53; refine (HBr.out _).mono ?_; rintro e w' ⟨rfl, rfl⟩)
  go_ret
  exact ⟨ret_b HN.out.symm, Tch.alloc _ _⟩
 by_cases k7 : nw <= 2000
 case neg =>
  have HN : Hid (res = false) := HRES.out.symm.trans (by rw [HME.out]; simp [rheadB, k7, HNM.out, HNW.out, HNE.out, HNO.out, HNN.out])
  go_wp2_with (go_at_call 53; refine (HBr.out _).mono ?_; rintro e w' ⟨rfl, rfl⟩)
  go_ret
  exact ⟨ret_b HN.out.symm, Tch.alloc _ _⟩
 by_cases k8 : ne <= 2000
 case neg =>
  have HN : Hid (res = false) := HRES.out.symm.trans (by rw [HME.out]; simp [rheadB, k8, HNM.out, HNW.out, HNE.out, HNO.out, HNN.out])
  go_wp2_with (go_at_call 53; refine (HBr.out _).mono ?_; rintro e w' ⟨rfl, rfl⟩)
  go_ret
  exact ⟨ret_b HN.out.symm, Tch.alloc _ _⟩
 by_cases k9 : no <= 2000
 case neg =>
  have HN : Hid (res = false) := HRES.out.symm.trans (by rw [HME.out]; simp [rheadB, k9, HNM.out, HNW.out, HNE.out, HNO.out, HNN.out])
  go_wp2_with (go_at_call 53; refine (HBr.out _).mono ?_; rintro e w' ⟨rfl, rfl⟩)
  go_ret
  exact ⟨ret_b HN.out.symm, Tch.alloc _ _⟩
 by_cases k10 : nn <= 2000
 case neg =>
  have HN : Hid (res = false) := HRES.out.symm.trans (by rw [HME.out]; simp [rheadB, k10, HNM.out, HNW.out, HNE.out, HNO.out, HNN.out])
  go_wp2_with (go_at_call 53; refine (HBr.out _).mono ?_; rintro e w' ⟨rfl, rfl⟩)
  go_ret
  exact ⟨ret_b HN.out.symm, Tch.alloc _ _⟩
 have HBRO : Hid (1 <= s.broker /\ s.broker <= 8) := by have := HB0.out; unfold brokerB at this; simpa [Hid] using this
 have HHD : Hid (rheadB s = true) := by rw [Hid, rheadB, HB0.out]; simp [k0, k1, k2, k3, k4, k5, k6, k7, k8, k9, k10, HNM.out, HNW.out, HNE.out, HNO.out, HNN.out]
 go_wp2_with (go_at_call 53; refine (HBr.out _).mono ?_; rintro e w' ⟨rfl, rfl⟩)
 clear HBr
 go_loopg [3] nm (fun kx s3 wr => ∃ k : Nat, s3 = .int .i64 k /\ k <= nm /\ nm - k <= kx /\ Hid (Tch No w wr) /\ Hid (BoxAt wr w.heap.size [.int .i64 s.broker, .int .i64 s.nid, .int .i64 s.nseq, .int .i64 s.tx, .slice am nm cm, .slice aw nw cw, .slice ae ne ce, .slice ao no co, .slice an nn cn]) /\ Hid (RMs s k))
 case atStart => exact ⟨0, rfl, Nat.zero_le _, by omega, Tch.alloc _ _, BoxAt.made _ _ _, fun i _ h => absurd h (Nat.not_lt_zero _)⟩
 case round =>
  obtain ⟨k, rfl, hk, hgk, TT, HB, I⟩ := hrel
  by_cases hlt : k < nm
  ·have hkl : k < s.ms.length := by have := HNM.out; omega
   have hb : ∃ b o, am = some ⟨b, o, none⟩ /\ ∀ i (hi : i < s.ms.length),
     wr.cell? ⟨b, o + i * 6, none⟩ = some (.int .i64 s.ms[i].id) /\ wr.cell? ⟨b, o + i * 6 + 1, none⟩ = some (strV s.ms[i].q) /\ wr.cell? ⟨b, o + i * 6 + 2, none⟩ = some (strV s.ms[i].b) /\
     wr.cell? ⟨b, o + i * 6 + 3, none⟩ = some (.int .i64 s.ms[i].seq) /\ wr.cell? ⟨b, o + i * 6 + 4, none⟩ = some (.int .i64 s.ms[i].cnt) /\ wr.cell? ⟨b, o + i * 6 + 5, none⟩ = some (.int .i64 s.ms[i].who) := by
    rcases msgs_cells HMSL.out with ⟨_, h0⟩ | ⟨b, o, cap2, h1, _, _, _, h5⟩
    ·rw [h0] at hkl; simp at hkl
    ·rw [HNM.out] at h1
     injection h1 with h1 _ _
     refine ⟨b, o, h1, fun i hi => ?_⟩
     obtain ⟨g0, g1, g2, g3, g4, g5⟩ := h5 i hi
     exact ⟨TT.out.cell g0 (fun h => h), TT.out.cell g1 (fun h => h), TT.out.cell g2 (fun h => h), TT.out.cell g3 (fun h => h), TT.out.cell g4 (fun h => h), TT.out.cell g5 (fun h => h)⟩
   obtain ⟨b, o, rfl, hc⟩ := hb
   obtain ⟨e0, e1, e2, e3, e4, e5⟩ := hc k hkl
   have HC0 := Lib.hid hc
   have hokm := HOK.out.ms _ (List.getElem_mem hkl)
   obtain ⟨jm, hjm⟩ : ∃ x, atI (·.id) s.ms s.ms[k].id = x := ⟨_, rfl⟩
   have HJM := Lib.hid hjm
   obtain ⟨mm, hmm⟩ : ∃ x, s.ms[k] = x := ⟨_, rfl⟩
   have HMM := Lib.hid hmm
   rw [hmm] at e0 e1 e2 e3 e4 e5 hokm
   have HRM : Hid (rmsg s s.ms[k] = rmsg s mm) := by rw [Hid, hmm]
   have hjm2 := hjm
   rw [hmm] at hjm2
   obtain ⟨id, q, bd, seq, cnt, who⟩ := mm
   simp only at e0 e1 e2 e3 e4 e5 hjm2
   obtain ⟨o1, o2, o3, o4, o5, o6⟩ := hokm
   simp only at o1 o2 o3 o4 o5 o6
   have HAMk : Hid (∀ W, Tch No w W -> Calls Tryz.prog 27 #[.agg #[.int .i64 s.broker, .int .i64 s.nid, .int .i64 s.nseq, .int .i64 s.tx, .slice (some ⟨b, o, none⟩) nm cm, .slice aw nw cw, .slice ae ne ce, .slice ao no co, .slice an nn cn], .int .i64 id] W fun e w' => e = .returned (.int .i64 jm) /\ Tch No W w') := fun W T => by
    have := HAM0.out id W T
    rw [hjm2] at this; exact this
   have HAEk : Hid (∀ W, Tch No w W -> Calls Tryz.prog 58 #[.agg #[.int .i64 s.broker, .int .i64 s.nid, .int .i64 s.nseq, .int .i64 s.tx, .slice (some ⟨b, o, none⟩) nm cm, .slice aw nw cw, .slice ae ne ce, .slice ao no co, .slice an nn cn], .int .i64 who] W fun e w' => e = .returned (.int .i64 (atI (·.tid) s.ends who)) /\ Tch No W w') := fun W T => HAE0.out who W T
   have q1 := atI_has (fun x : EndM => x.tid) s.ends who
   have HH := Lib.hid (fun W => rhome_any id o1 W)
   have HT := Lib.hid (fun W => rtid_any who o6 W)
   have HQ : Hid (∀ W, Calls Tryz.prog 55 #[strV q] W fun e w' => e = .returned (.bool (queueB q)) /\ W = w') := fun W => by
    have := rqueue_any ⟨q.toArray⟩ W o2.size; simpa [strV] using this
   have HBD : Hid (∀ W, Calls Tryz.prog 56 #[strV bd] W fun e w' => e = .returned (.bool (bodyB bd)) /\ W = w') := fun W => by
    have := rbody_any ⟨bd.toArray⟩ W o3.size; simpa [strV] using this
   obtain ⟨sq, hsq⟩ : ∃ z, strV q = .string z := ⟨_, rfl⟩
   obtain ⟨sb, hsb⟩ : ∃ z, strV bd = .string z := ⟨_, rfl⟩
   rw [hsq] at e1 HQ
   rw [hsb] at e2 HBD
   clear hsq hsb
   have HRM2 : Hid (rmsg s s.ms[k] = (decide (1 <= seq) && decide (seq < s.nseq) && decide (homeM id = s.broker) && decide (id - s.broker * 4294967296 < s.nid) && queueB q && bodyB bd && decide (0 <= cnt) && decide (cnt <= 1000) && (decide (who = 0) || (tidB who && !hasP (·.tid) s.ends who)))) := by rw [Hid, HRM.out]; rfl
   clear HRM
   obtain ⟨pb, hpb⟩ : ∃ x, s.broker * 4294967296 = x := ⟨_, rfl⟩
   have hpb1 : 4294967296 <= pb /\ pb <= 34359738368 := by have := HBRO.out; omega
   obtain ⟨hpb2, hpb3⟩ := hpb1
   rw [hpb] at HRM2
   obtain ⟨hm, hhm⟩ : ∃ x, homeM id = x := ⟨_, rfl⟩
   have HHM := Lib.hid hhm
   rw [hhm] at HRM2 HH
   generalize atI (fun x : EndM => x.tid) s.ends who = je at q1 HAEk
   generalize hasP (fun x : EndM => x.tid) s.ends who = bo at q1 HRM2
   generalize tidB who = bt at HT HRM2
   generalize queueB q = bq at HQ HRM2
   generalize bodyB bd = bb at HBD HRM2
   have HRM := HRM2
   clear HRM2 hmm hjm hjm2 hhm hc o1 o6
   obtain ⟨hs1, hs2⟩ := o4
   obtain ⟨hc1, hc2⟩ := o5
   have HO2 := Lib.hid o2
   have HO3 := Lib.hid o3
   clear o2 o3
   have f4 := HB.out 4 _ rfl
   go_upto_region 7 with fail
   refine wp_world (fun w4 => Hid (Tch No wr w4) /\ Hid (BoxAt w4 wr.heap.size [.int .i64 id, .string sq, .string sb, .int .i64 seq, .int .i64 cnt, .int .i64 who])) ⟨Tch.alloc _ _, BoxAt.made _ _ _⟩ ?_
   rintro w4 ⟨T4, HB6⟩
   obtain ⟨mk, hmk⟩ : ∃ x, wr.heap.size = x := ⟨_, rfl⟩
   rw [hmk] at HB6 ⊢
   have HAM : Hid (∀ W, Tch No w4 W -> Calls Tryz.prog 27 #[.agg #[.int .i64 s.broker, .int .i64 s.nid, .int .i64 s.nseq, .int .i64 s.tx, .slice (some ⟨b, o, none⟩) nm cm, .slice aw nw cw, .slice ae ne ce, .slice ao no co, .slice an nn cn], .int .i64 id] W fun e w' => e = .returned (.int .i64 jm) /\ Tch No W w') := fun W t => HAMk.out _ ((TT.out.trans0 T4.out).trans0 t)
   have HAE : Hid (∀ W, Tch No w4 W -> Calls Tryz.prog 58 #[.agg #[.int .i64 s.broker, .int .i64 s.nid, .int .i64 s.nseq, .int .i64 s.tx, .slice (some ⟨b, o, none⟩) nm cm, .slice aw nw cw, .slice ae ne ce, .slice ao no co, .slice an nn cn], .int .i64 who] W fun e w' => e = .returned (.int .i64 je) /\ Tch No W w') := fun W t => HAEk.out _ ((TT.out.trans0 T4.out).trans0 t)
   have HHt : Hid (∀ W, Tch No w4 W -> Calls Tryz.prog 54 #[.int .i64 id] W fun e w' => e = .returned (.int .i64 hm) /\ Tch No W w') := fun W t => (HH.out W).mono (by rintro e w' ⟨rfl, rfl⟩; exact ⟨rfl, Tch.refl _ _⟩)
   have HTt : Hid (∀ W, Tch No w4 W -> Calls Tryz.prog 57 #[.int .i64 who] W fun e w' => e = .returned (.bool bt) /\ Tch No W w') := fun W t => (HT.out W).mono (by rintro e w' ⟨rfl, rfl⟩; exact ⟨rfl, Tch.refl _ _⟩)
   have HQt : Hid (∀ W, Tch No w4 W -> Calls Tryz.prog 55 #[.string sq] W fun e w' => e = .returned (.bool bq) /\ Tch No W w') := fun W t => (HQ.out W).mono (by rintro e w' ⟨rfl, rfl⟩; exact ⟨rfl, Tch.refl _ _⟩)
   have HBt : Hid (∀ W, Tch No w4 W -> Calls Tryz.prog 56 #[.string sb] W fun e w' => e = .returned (.bool bb) /\ Tch No W w') := fun W t => (HBD.out W).mono (by rintro e w' ⟨rfl, rfl⟩; exact ⟨rfl, Tch.refl _ _⟩)
   have HBS : Hid (∀ W, Tch No w4 W -> BoxAt W w.heap.size [.int .i64 s.broker, .int .i64 s.nid, .int .i64 s.nseq, .int .i64 s.tx, .slice (some ⟨b, o, none⟩) nm cm, .slice aw nw cw, .slice ae ne ce, .slice ao no co, .slice an nn cn]) := fun W t => HB.out.keep (T4.out.trans0 t)
   have HBM : Hid (∀ W, Tch No w4 W -> BoxAt W mk [.int .i64 id, .string sq, .string sb, .int .i64 seq, .int .i64 cnt, .int .i64 who]) := fun W t => HB6.out.keep t
   have HPW : Hid (IntKind.i64.wrap (s.broker * 4294967296) = pb) := by rw [Hid, hpb]; exact IntWalk.i64_in _ (by omega)
   obtain ⟨s1, hs1⟩ : ∃ x, ((s.ms[k - 1]?).map (·.seq)).getD 0 = x := ⟨_, rfl⟩
   have HS1 : Hid (∀ _ : 0 < k, (s.ms[k - 1]'(Nat.lt_of_le_of_lt (Nat.sub_le k 1) hkl)).seq = s1) := fun _ => by
    rw [<- hs1, List.getElem?_eq_getElem (Nat.lt_of_le_of_lt (Nat.sub_le k 1) hkl)]; rfl
   have HE1 : Hid (0 < k -> ∀ W, Tch No w4 W -> W.cell? ⟨b, o + (k - 1) * 6 + 3, none⟩ = some (.int .i64 s1)) := fun h0 W t => by
    have := (HC0.out (k - 1) (Nat.lt_of_le_of_lt (Nat.sub_le k 1) hkl)).2.2.2.1
    rw [HS1.out h0] at this
    exact (T4.out.trans0 t).cell this (fun h => h)
   have HSK : Hid (s.ms[k].seq = seq) := by rw [Hid, HMM.out]
   have HSUB : Hid (0 < k -> IntKind.i64.wrap ((k : Nat) - 1 : Int) = ((k - 1 : Nat) : Int)) := fun h => by
    have e : ((k : Nat) : Int) - 1 = ((k - 1 : Nat) : Int) := by omega
    rw [e]; exact IntWalk.i64_in _ (by omega)
   clear HAMk HAEk e0 e1 e2 e3 e4 e5 f4 hmk hs1 hpb
   obtain ⟨p86, hp86⟩ : ∃ b : Bool, (decide (seq < (1))) = b := ⟨_, rfl⟩
   have HP86 := Lib.hid hp86
   clear hp86
   obtain ⟨p92, hp92⟩ : ∃ b : Bool, (decide (s.nseq <= seq)) = b := ⟨_, rfl⟩
   have HP92 := Lib.hid hp92
   clear hp92
   obtain ⟨p93, hp93⟩ : ∃ b : Bool, (p86 || p92) = b := ⟨_, rfl⟩
   have HP93 := Lib.hid hp93
   clear hp93
   obtain ⟨p96, hp96⟩ : ∃ b : Bool, (decide ((0) < ((k : Nat) : Int))) = b := ⟨_, rfl⟩
   have HP96 := Lib.hid hp96
   clear hp96
   obtain ⟨p107, hp107⟩ : ∃ b : Bool, (decide (seq <= s1)) = b := ⟨_, rfl⟩
   have HP107 := Lib.hid hp107
   clear hp107
   obtain ⟨p108, hp108⟩ : ∃ b : Bool, (p96 && p107) = b := ⟨_, rfl⟩
   have HP108 := Lib.hid hp108
   clear hp108
   obtain ⟨p109, hp109⟩ : ∃ b : Bool, (p93 || p108) = b := ⟨_, rfl⟩
   have HP109 := Lib.hid hp109
   clear hp109
   obtain ⟨p116, hp116⟩ : ∃ b : Bool, (jm != ((k : Nat) : Int)) = b := ⟨_, rfl⟩
   have HP116 := Lib.hid hp116
   clear hp116
   obtain ⟨p117, hp117⟩ : ∃ b : Bool, (p109 || p116) = b := ⟨_, rfl⟩
   have HP117 := Lib.hid hp117
   clear hp117
   obtain ⟨p124, hp124⟩ : ∃ b : Bool, (hm != s.broker) = b := ⟨_, rfl⟩
   have HP124 := Lib.hid hp124
   clear hp124
   obtain ⟨p125, hp125⟩ : ∃ b : Bool, (p117 || p124) = b := ⟨_, rfl⟩
   have HP125 := Lib.hid hp125
   clear hp125
   obtain ⟨p135, hp135⟩ : ∃ b : Bool, (decide (s.nid <= (IntKind.i64.wrap (id - pb)))) = b := ⟨_, rfl⟩
   have HP135 := Lib.hid hp135
   clear hp135
   obtain ⟨p136, hp136⟩ : ∃ b : Bool, (p125 || p135) = b := ⟨_, rfl⟩
   have HP136 := Lib.hid hp136
   clear hp136
   obtain ⟨p141, hp141⟩ : ∃ b : Bool, (!bq) = b := ⟨_, rfl⟩
   have HP141 := Lib.hid hp141
   clear hp141
   obtain ⟨p142, hp142⟩ : ∃ b : Bool, (p136 || p141) = b := ⟨_, rfl⟩
   have HP142 := Lib.hid hp142
   clear hp142
   obtain ⟨p147, hp147⟩ : ∃ b : Bool, (!bb) = b := ⟨_, rfl⟩
   have HP147 := Lib.hid hp147
   clear hp147
   obtain ⟨p148, hp148⟩ : ∃ b : Bool, (p142 || p147) = b := ⟨_, rfl⟩
   have HP148 := Lib.hid hp148
   clear hp148
   obtain ⟨p152, hp152⟩ : ∃ b : Bool, (decide (cnt < (0))) = b := ⟨_, rfl⟩
   have HP152 := Lib.hid hp152
   clear hp152
   obtain ⟨p153, hp153⟩ : ∃ b : Bool, (p148 || p152) = b := ⟨_, rfl⟩
   have HP153 := Lib.hid hp153
   clear hp153
   obtain ⟨p157, hp157⟩ : ∃ b : Bool, (decide ((1000) < cnt)) = b := ⟨_, rfl⟩
   have HP157 := Lib.hid hp157
   clear hp157
   obtain ⟨p158, hp158⟩ : ∃ b : Bool, (p153 || p157) = b := ⟨_, rfl⟩
   have HP158 := Lib.hid hp158
   clear hp158
   obtain ⟨p162, hp162⟩ : ∃ b : Bool, (who != (0)) = b := ⟨_, rfl⟩
   have HP162 := Lib.hid hp162
   clear hp162
   obtain ⟨p167, hp167⟩ : ∃ b : Bool, (!bt) = b := ⟨_, rfl⟩
   have HP167 := Lib.hid hp167
   clear hp167
   obtain ⟨p173, hp173⟩ : ∃ b : Bool, (decide ((0) <= je)) = b := ⟨_, rfl⟩
   have HP173 := Lib.hid hp173
   clear hp173
   obtain ⟨p174, hp174⟩ : ∃ b : Bool, (p167 || p173) = b := ⟨_, rfl⟩
   have HP174 := Lib.hid hp174
   clear hp174
   obtain ⟨p175, hp175⟩ : ∃ b : Bool, (p162 && p174) = b := ⟨_, rfl⟩
   have HP175 := Lib.hid hp175
   clear hp175
   obtain ⟨p176, hp176⟩ : ∃ b : Bool, (p158 || p175) = b := ⟨_, rfl⟩
   have HP176 := Lib.hid hp176
   clear hp176
   have HK0 : Hid (p96 = true -> 0 < k) := fun h => by have := HP96.out; rw [h] at this; simpa using this
   refine frame_var 271 rfl (fun fr hfr hsz => ?_)
   have h1 : fr.eval (.tmp 1) = .pointer (some ⟨w.heap.size, 0, none⟩) := by rw [hfr.out]; rfl
   have h3 : fr.eval (.tmp 3) = .int .i64 ((k : Nat) : Int) := by rw [hfr.out]; rfl
   have h4 : fr.eval (.tmp 4) = .pointer (some ⟨mk, 0, none⟩) := by rw [hfr.out]; rfl
   have hlist : ∀ f ∈ (((fun x _ => x = .pointer (some ⟨mk, 3, none⟩)) :: (fun x _ => x = .int .i64 seq) :: (fun x _ => x = .bool p86) :: (fun x _ => x = .bool p86) :: (fun x _ => x = gv (p86 == false) (.pointer (some ⟨mk, 3, none⟩))) :: (fun x _ => x = gv (p86 == false) (.int .i64 seq)) :: (fun x _ => x = gv (p86 == false) (.pointer (some ⟨w.heap.size, 2, none⟩))) :: (fun x _ => x = gv (p86 == false) (.int .i64 s.nseq)) :: (fun x _ => x = gv (p86 == false) (.bool p92)) :: (fun x _ => x = .bool p93) :: (fun x _ => x = .bool p93) :: (fun x _ => x = gv (p93 == false) (.int .i64 ((k : Nat) : Int))) :: (fun x _ => x = gv (p93 == false) (.bool p96)) :: (fun x _ => x = gv (p93 == false) (.bool p96)) :: (fun x _ => x = gv ((p93 == false) && (p96 == true)) (.pointer (some ⟨mk, 3, none⟩))) :: (fun x _ => x = gv ((p93 == false) && (p96 == true)) (.int .i64 seq)) :: (fun x _ => x = gv ((p93 == false) && (p96 == true)) (.pointer (some ⟨w.heap.size, 4, none⟩))) :: (fun x _ => x = gv ((p93 == false) && (p96 == true)) (.slice (some ⟨b, o, none⟩) nm cm)) :: (fun x _ => x = gv ((p93 == false) && (p96 == true)) (.int .i64 ((k : Nat) : Int))) :: (fun x _ => x = gv ((p93 == false) && (p96 == true)) (.int .i64 ((k - 1 : Nat) : Int))) :: (fun x _ => x = gv ((p93 == false) && (p96 == true)) (.pointer (some ⟨b, o + (k - 1) * 6, none⟩))) :: (fun x _ => x = gv ((p93 == false) && (p96 == true)) (.pointer (some ⟨b, o + (k - 1) * 6 + 3, none⟩))) :: (fun x _ => x = gv ((p93 == false) && (p96 == true)) (.int .i64 s1)) :: (fun x _ => x = gv ((p93 == false) && (p96 == true)) (.bool p107)) :: (fun x _ => x = gv (p93 == false) (.bool p108)) :: (fun x _ => x = .bool p109) :: (fun x _ => x = .bool p109) :: (fun x _ => x = gv (p109 == false) (.agg #[.int .i64 s.broker, .int .i64 s.nid, .int .i64 s.nseq, .int .i64 s.tx, .slice (some ⟨b, o, none⟩) nm cm, .slice aw nw cw, .slice ae ne ce, .slice ao no co, .slice an nn cn])) :: (fun x _ => x = gv (p109 == false) (.pointer (some ⟨mk, 0, none⟩))) :: (fun x _ => x = gv (p109 == false) (.int .i64 id)) :: (fun x _ => x = gv (p109 == false) (.int .i64 jm)) :: (fun x _ => x = gv (p109 == false) (.int .i64 ((k : Nat) : Int))) :: (fun x _ => x = gv (p109 == false) (.bool p116)) :: (fun x _ => x = .bool p117) :: (fun x _ => x = .bool p117) :: (fun x _ => x = gv (p117 == false) (.pointer (some ⟨mk, 0, none⟩))) :: (fun x _ => x = gv (p117 == false) (.int .i64 id)) :: (fun x _ => x = gv (p117 == false) (.int .i64 hm)) :: (fun x _ => x = gv (p117 == false) (.pointer (some ⟨w.heap.size, 0, none⟩))) :: (fun x _ => x = gv (p117 == false) (.int .i64 s.broker)) :: (fun x _ => x = gv (p117 == false) (.bool p124)) :: (fun x _ => x = .bool p125) :: (fun x _ => x = .bool p125) :: (fun x _ => x = gv (p125 == false) (.pointer (some ⟨mk, 0, none⟩))) :: (fun x _ => x = gv (p125 == false) (.int .i64 id)) :: (fun x _ => x = gv (p125 == false) (.pointer (some ⟨w.heap.size, 0, none⟩))) :: (fun x _ => x = gv (p125 == false) (.int .i64 s.broker)) :: (fun x _ => x = gv (p125 == false) (.int .i64 pb)) :: (fun x _ => x = gv (p125 == false) (.int .i64 (IntKind.i64.wrap (id - pb)))) :: (fun x _ => x = gv (p125 == false) (.pointer (some ⟨w.heap.size, 1, none⟩))) :: (fun x _ => x = gv (p125 == false) (.int .i64 s.nid)) :: (fun x _ => x = gv (p125 == false) (.bool p135)) :: (fun x _ => x = .bool p136) :: (fun x _ => x = .bool p136) :: (fun x _ => x = gv (p136 == false) (.pointer (some ⟨mk, 1, none⟩))) :: (fun x _ => x = gv (p136 == false) (.string sq)) :: (fun x _ => x = gv (p136 == false) (.bool bq)) :: (fun x _ => x = gv (p136 == false) (.bool p141)) :: (fun x _ => x = .bool p142) :: (fun x _ => x = .bool p142) :: (fun x _ => x = gv (p142 == false) (.pointer (some ⟨mk, 2, none⟩))) :: (fun x _ => x = gv (p142 == false) (.string sb)) :: (fun x _ => x = gv (p142 == false) (.bool bb)) :: (fun x _ => x = gv (p142 == false) (.bool p147)) :: (fun x _ => x = .bool p148) :: (fun x _ => x = .bool p148) :: (fun x _ => x = gv (p148 == false) (.pointer (some ⟨mk, 4, none⟩))) :: (fun x _ => x = gv (p148 == false) (.int .i64 cnt)) :: (fun x _ => x = gv (p148 == false) (.bool p152)) :: (fun x _ => x = .bool p153) :: (fun x _ => x = .bool p153) :: (fun x _ => x = gv (p153 == false) (.pointer (some ⟨mk, 4, none⟩))) :: (fun x _ => x = gv (p153 == false) (.int .i64 cnt)) :: (fun x _ => x = gv (p153 == false) (.bool p157)) :: (fun x _ => x = .bool p158) :: (fun x _ => x = .bool p158) :: (fun x _ => x = gv (p158 == false) (.pointer (some ⟨mk, 5, none⟩))) :: (fun x _ => x = gv (p158 == false) (.int .i64 who)) :: (fun x _ => x = gv (p158 == false) (.bool p162)) :: (fun x _ => x = gv (p158 == false) (.bool p162)) :: (fun x _ => x = gv ((p158 == false) && (p162 == true)) (.pointer (some ⟨mk, 5, none⟩))) :: (fun x _ => x = gv ((p158 == false) && (p162 == true)) (.int .i64 who)) :: (fun x _ => x = gv ((p158 == false) && (p162 == true)) (.bool bt)) :: (fun x _ => x = gv ((p158 == false) && (p162 == true)) (.bool p167)) :: (fun x _ => x = gv ((p158 == false) && (p162 == true)) (.bool p167)) :: (fun x _ => x = gv (((p158 == false) && (p162 == true)) && (p167 == false)) (.agg #[.int .i64 s.broker, .int .i64 s.nid, .int .i64 s.nseq, .int .i64 s.tx, .slice (some ⟨b, o, none⟩) nm cm, .slice aw nw cw, .slice ae ne ce, .slice ao no co, .slice an nn cn])) :: (fun x _ => x = gv (((p158 == false) && (p162 == true)) && (p167 == false)) (.pointer (some ⟨mk, 5, none⟩))) :: (fun x _ => x = gv (((p158 == false) && (p162 == true)) && (p167 == false)) (.int .i64 who)) :: (fun x _ => x = gv (((p158 == false) && (p162 == true)) && (p167 == false)) (.int .i64 je)) :: (fun x _ => x = gv (((p158 == false) && (p162 == true)) && (p167 == false)) (.bool p173)) :: (fun x _ => x = gv ((p158 == false) && (p162 == true)) (.bool p174)) :: (fun x _ => x = gv (p158 == false) (.bool p175)) :: (fun x _ => x = .bool p176) :: []) : List (Value -> World -> Prop)), Stb f :=
    all_mem1 ((pur_eq _).stb) (all_mem1 ((pur_eq _).stb) (all_mem1 ((pur_eq _).stb) (all_mem1 ((pur_eq _).stb) (all_mem1 ((pur_eq _).stb) (all_mem1 ((pur_eq _).stb) (all_mem1 ((pur_eq _).stb) (all_mem1 ((pur_eq _).stb) (all_mem1 ((pur_eq _).stb) (all_mem1 ((pur_eq _).stb) (all_mem1 ((pur_eq _).stb) (all_mem1 ((pur_eq _).stb) (all_mem1 ((pur_eq _).stb) (all_mem1 ((pur_eq _).stb) (all_mem1 ((pur_eq _).stb) (all_mem1 ((pur_eq _).stb) (all_mem1 ((pur_eq _).stb) (all_mem1 ((pur_eq _).stb) (all_mem1 ((pur_eq _).stb) (all_mem1 ((pur_eq _).stb) (all_mem1 ((pur_eq _).stb) (all_mem1 ((pur_eq _).stb) (all_mem1 ((pur_eq _).stb) (all_mem1 ((pur_eq _).stb) (all_mem1 ((pur_eq _).stb) (all_mem1 ((pur_eq _).stb) (all_mem1 ((pur_eq _).stb) (all_mem1 ((pur_eq _).stb) (all_mem1 ((pur_eq _).stb) (all_mem1 ((pur_eq _).stb) (all_mem1 ((pur_eq _).stb) (all_mem1 ((pur_eq _).stb) (all_mem1 ((pur_eq _).stb) (all_mem1 ((pur_eq _).stb) (all_mem1 ((pur_eq _).stb) (all_mem1 ((pur_eq _).stb) (all_mem1 ((pur_eq _).stb) (all_mem1 ((pur_eq _).stb) (all_mem1 ((pur_eq _).stb) (all_mem1 ((pur_eq _).stb) (all_mem1 ((pur_eq _).stb) (all_mem1 ((pur_eq _).stb) (all_mem1 ((pur_eq _).stb) (all_mem1 ((pur_eq _).stb) (all_mem1 ((pur_eq _).stb) (all_mem1 ((pur_eq _).stb) (all_mem1 ((pur_eq _).stb) (all_mem1 ((pur_eq _).stb) (all_mem1 ((pur_eq _).stb) (all_mem1 ((pur_eq _).stb) (all_mem1 ((pur_eq _).stb) (all_mem1 ((pur_eq _).stb) (all_mem1 ((pur_eq _).stb) (all_mem1 ((pur_eq _).stb) (all_mem1 ((pur_eq _).stb) (all_mem1 ((pur_eq _).stb) (all_mem1 ((pur_eq _).stb) (all_mem1 ((pur_eq _).stb) (all_mem1 ((pur_eq _).stb) (all_mem1 ((pur_eq _).stb) (all_mem1 ((pur_eq _).stb) (all_mem1 ((pur_eq _).stb) (all_mem1 ((pur_eq _).stb) (all_mem1 ((pur_eq _).stb) (all_mem1 ((pur_eq _).stb) (all_mem1 ((pur_eq _).stb) (all_mem1 ((pur_eq _).stb) (all_mem1 ((pur_eq _).stb) (all_mem1 ((pur_eq _).stb) (all_mem1 ((pur_eq _).stb) (all_mem1 ((pur_eq _).stb) (all_mem1 ((pur_eq _).stb) (all_mem1 ((pur_eq _).stb) (all_mem1 ((pur_eq _).stb) (all_mem1 ((pur_eq _).stb) (all_mem1 ((pur_eq _).stb) (all_mem1 ((pur_eq _).stb) (all_mem1 ((pur_eq _).stb) (all_mem1 ((pur_eq _).stb) (all_mem1 ((pur_eq _).stb) (all_mem1 ((pur_eq _).stb) (all_mem1 ((pur_eq _).stb) (all_mem1 ((pur_eq _).stb) (all_mem1 ((pur_eq _).stb) (all_mem1 ((pur_eq _).stb) (all_mem1 ((pur_eq _).stb) (all_mem1 ((pur_eq _).stb) (all_mem1 ((pur_eq _).stb) (all_mem1 ((pur_eq _).stb) (all_mem1 ((pur_eq _).stb) (all_mem1 ((pur_eq _).stb) (all_mem1 ((pur_eq _).stb) (all_mem1 ((pur_eq _).stb) (all_mem0)))))))))))))))))))))))))))))))))))))))))))))))))))))))))))))))))))))))))))))))))))))))))))))
   refine wp_region_inv (C := fun W => Tch No w4 W) (RL ((fun x _ => x = .pointer (some ⟨mk, 3, none⟩)) :: (fun x _ => x = .int .i64 seq) :: (fun x _ => x = .bool p86) :: (fun x _ => x = .bool p86) :: (fun x _ => x = gv (p86 == false) (.pointer (some ⟨mk, 3, none⟩))) :: (fun x _ => x = gv (p86 == false) (.int .i64 seq)) :: (fun x _ => x = gv (p86 == false) (.pointer (some ⟨w.heap.size, 2, none⟩))) :: (fun x _ => x = gv (p86 == false) (.int .i64 s.nseq)) :: (fun x _ => x = gv (p86 == false) (.bool p92)) :: (fun x _ => x = .bool p93) :: (fun x _ => x = .bool p93) :: (fun x _ => x = gv (p93 == false) (.int .i64 ((k : Nat) : Int))) :: (fun x _ => x = gv (p93 == false) (.bool p96)) :: (fun x _ => x = gv (p93 == false) (.bool p96)) :: (fun x _ => x = gv ((p93 == false) && (p96 == true)) (.pointer (some ⟨mk, 3, none⟩))) :: (fun x _ => x = gv ((p93 == false) && (p96 == true)) (.int .i64 seq)) :: (fun x _ => x = gv ((p93 == false) && (p96 == true)) (.pointer (some ⟨w.heap.size, 4, none⟩))) :: (fun x _ => x = gv ((p93 == false) && (p96 == true)) (.slice (some ⟨b, o, none⟩) nm cm)) :: (fun x _ => x = gv ((p93 == false) && (p96 == true)) (.int .i64 ((k : Nat) : Int))) :: (fun x _ => x = gv ((p93 == false) && (p96 == true)) (.int .i64 ((k - 1 : Nat) : Int))) :: (fun x _ => x = gv ((p93 == false) && (p96 == true)) (.pointer (some ⟨b, o + (k - 1) * 6, none⟩))) :: (fun x _ => x = gv ((p93 == false) && (p96 == true)) (.pointer (some ⟨b, o + (k - 1) * 6 + 3, none⟩))) :: (fun x _ => x = gv ((p93 == false) && (p96 == true)) (.int .i64 s1)) :: (fun x _ => x = gv ((p93 == false) && (p96 == true)) (.bool p107)) :: (fun x _ => x = gv (p93 == false) (.bool p108)) :: (fun x _ => x = .bool p109) :: (fun x _ => x = .bool p109) :: (fun x _ => x = gv (p109 == false) (.agg #[.int .i64 s.broker, .int .i64 s.nid, .int .i64 s.nseq, .int .i64 s.tx, .slice (some ⟨b, o, none⟩) nm cm, .slice aw nw cw, .slice ae ne ce, .slice ao no co, .slice an nn cn])) :: (fun x _ => x = gv (p109 == false) (.pointer (some ⟨mk, 0, none⟩))) :: (fun x _ => x = gv (p109 == false) (.int .i64 id)) :: (fun x _ => x = gv (p109 == false) (.int .i64 jm)) :: (fun x _ => x = gv (p109 == false) (.int .i64 ((k : Nat) : Int))) :: (fun x _ => x = gv (p109 == false) (.bool p116)) :: (fun x _ => x = .bool p117) :: (fun x _ => x = .bool p117) :: (fun x _ => x = gv (p117 == false) (.pointer (some ⟨mk, 0, none⟩))) :: (fun x _ => x = gv (p117 == false) (.int .i64 id)) :: (fun x _ => x = gv (p117 == false) (.int .i64 hm)) :: (fun x _ => x = gv (p117 == false) (.pointer (some ⟨w.heap.size, 0, none⟩))) :: (fun x _ => x = gv (p117 == false) (.int .i64 s.broker)) :: (fun x _ => x = gv (p117 == false) (.bool p124)) :: (fun x _ => x = .bool p125) :: (fun x _ => x = .bool p125) :: (fun x _ => x = gv (p125 == false) (.pointer (some ⟨mk, 0, none⟩))) :: (fun x _ => x = gv (p125 == false) (.int .i64 id)) :: (fun x _ => x = gv (p125 == false) (.pointer (some ⟨w.heap.size, 0, none⟩))) :: (fun x _ => x = gv (p125 == false) (.int .i64 s.broker)) :: (fun x _ => x = gv (p125 == false) (.int .i64 pb)) :: (fun x _ => x = gv (p125 == false) (.int .i64 (IntKind.i64.wrap (id - pb)))) :: (fun x _ => x = gv (p125 == false) (.pointer (some ⟨w.heap.size, 1, none⟩))) :: (fun x _ => x = gv (p125 == false) (.int .i64 s.nid)) :: (fun x _ => x = gv (p125 == false) (.bool p135)) :: (fun x _ => x = .bool p136) :: (fun x _ => x = .bool p136) :: (fun x _ => x = gv (p136 == false) (.pointer (some ⟨mk, 1, none⟩))) :: (fun x _ => x = gv (p136 == false) (.string sq)) :: (fun x _ => x = gv (p136 == false) (.bool bq)) :: (fun x _ => x = gv (p136 == false) (.bool p141)) :: (fun x _ => x = .bool p142) :: (fun x _ => x = .bool p142) :: (fun x _ => x = gv (p142 == false) (.pointer (some ⟨mk, 2, none⟩))) :: (fun x _ => x = gv (p142 == false) (.string sb)) :: (fun x _ => x = gv (p142 == false) (.bool bb)) :: (fun x _ => x = gv (p142 == false) (.bool p147)) :: (fun x _ => x = .bool p148) :: (fun x _ => x = .bool p148) :: (fun x _ => x = gv (p148 == false) (.pointer (some ⟨mk, 4, none⟩))) :: (fun x _ => x = gv (p148 == false) (.int .i64 cnt)) :: (fun x _ => x = gv (p148 == false) (.bool p152)) :: (fun x _ => x = .bool p153) :: (fun x _ => x = .bool p153) :: (fun x _ => x = gv (p153 == false) (.pointer (some ⟨mk, 4, none⟩))) :: (fun x _ => x = gv (p153 == false) (.int .i64 cnt)) :: (fun x _ => x = gv (p153 == false) (.bool p157)) :: (fun x _ => x = .bool p158) :: (fun x _ => x = .bool p158) :: (fun x _ => x = gv (p158 == false) (.pointer (some ⟨mk, 5, none⟩))) :: (fun x _ => x = gv (p158 == false) (.int .i64 who)) :: (fun x _ => x = gv (p158 == false) (.bool p162)) :: (fun x _ => x = gv (p158 == false) (.bool p162)) :: (fun x _ => x = gv ((p158 == false) && (p162 == true)) (.pointer (some ⟨mk, 5, none⟩))) :: (fun x _ => x = gv ((p158 == false) && (p162 == true)) (.int .i64 who)) :: (fun x _ => x = gv ((p158 == false) && (p162 == true)) (.bool bt)) :: (fun x _ => x = gv ((p158 == false) && (p162 == true)) (.bool p167)) :: (fun x _ => x = gv ((p158 == false) && (p162 == true)) (.bool p167)) :: (fun x _ => x = gv (((p158 == false) && (p162 == true)) && (p167 == false)) (.agg #[.int .i64 s.broker, .int .i64 s.nid, .int .i64 s.nseq, .int .i64 s.tx, .slice (some ⟨b, o, none⟩) nm cm, .slice aw nw cw, .slice ae ne ce, .slice ao no co, .slice an nn cn])) :: (fun x _ => x = gv (((p158 == false) && (p162 == true)) && (p167 == false)) (.pointer (some ⟨mk, 5, none⟩))) :: (fun x _ => x = gv (((p158 == false) && (p162 == true)) && (p167 == false)) (.int .i64 who)) :: (fun x _ => x = gv (((p158 == false) && (p162 == true)) && (p167 == false)) (.int .i64 je)) :: (fun x _ => x = gv (((p158 == false) && (p162 == true)) && (p167 == false)) (.bool p173)) :: (fun x _ => x = gv ((p158 == false) && (p162 == true)) (.bool p174)) :: (fun x _ => x = gv (p158 == false) (.bool p175)) :: (fun x _ => x = .bool p176) :: [])) [] (84 :: 85 :: 86 :: 87 :: 88 :: 89 :: 90 :: 91 :: 92 :: 93 :: 94 :: 95 :: 96 :: 97 :: 98 :: 99 :: 100 :: 101 :: 102 :: 103 :: 104 :: 105 :: 106 :: 107 :: 108 :: 109 :: 110 :: 111 :: 112 :: 113 :: 114 :: 115 :: 116 :: 117 :: 118 :: 119 :: 120 :: 121 :: 122 :: 123 :: 124 :: 125 :: 126 :: 127 :: 128 :: 129 :: 130 :: 131 :: 132 :: 133 :: 134 :: 135 :: 136 :: 137 :: 138 :: 139 :: 140 :: 141 :: 142 :: 143 :: 144 :: 145 :: 146 :: 147 :: 148 :: 149 :: 150 :: 151 :: 152 :: 153 :: 154 :: 155 :: 156 :: 157 :: 158 :: 159 :: 160 :: 161 :: 162 :: 163 :: 164 :: 165 :: 166 :: 167 :: 168 :: 169 :: 170 :: 171 :: 172 :: 173 :: 174 :: 175 :: 176 :: []) ((some 84, [4], []) :: (some 85, [84], [0]) :: (some 86, [85], [1]) :: (some 87, [86], [2]) :: (some 88, [4, 87], [3]) :: (some 89, [88, 87], [4, 3]) :: (some 90, [1, 87], [3]) :: (some 91, [90, 87], [6, 3]) :: (some 92, [89, 91, 87], [5, 7, 3]) :: (some 93, [87, 92], [3, 8]) :: (some 94, [93], [9, 3]) :: (some 95, [3, 94], [10]) :: (some 96, [95, 94], [11, 10]) :: (some 97, [96, 94], [12, 10, 10]) :: (some 98, [4, 97], [13]) :: (some 99, [98, 97], [14, 13]) :: (some 100, [1, 97], [13]) :: (some 101, [100, 97], [16, 13]) :: (some 102, [3, 97], [13]) :: (some 103, [102, 97], [18, 13]) :: (some 104, [101, 103, 97], [17, 19, 13]) :: (some 105, [104, 97], [20, 13]) :: (some 106, [105, 97], [21, 13]) :: (some 107, [99, 106, 97], [15, 22, 13]) :: (some 108, [97, 107, 94], [13, 23, 10]) :: (some 109, [94, 108], [10, 24]) :: (some 110, [109], [25, 13]) :: (some 111, [1, 110], [26]) :: (some 112, [4, 110], [26]) :: (some 113, [112, 110], [28, 26]) :: (some 114, [111, 113, 110], [27, 29, 26, 26]) :: (some 115, [3, 110], [26]) :: (some 116, [114, 115, 110], [30, 31, 26]) :: (some 117, [110, 116], [26, 32]) :: (some 118, [117], [33, 30]) :: (some 119, [4, 118], [34]) :: (some 120, [119, 118], [35, 34]) :: (some 121, [120, 118], [36, 34, 34]) :: (some 122, [1, 118], [34]) :: (some 123, [122, 118], [38, 34]) :: (some 124, [121, 123, 118], [37, 39, 34]) :: (some 125, [118, 124], [34, 40]) :: (some 126, [125], [41, 37]) :: (some 127, [4, 126], [42]) :: (some 128, [127, 126], [43, 42]) :: (some 129, [1, 126], [42]) :: (some 130, [129, 126], [45, 42]) :: (some 131, [130, 126], [46, 42]) :: (some 132, [128, 131, 126], [44, 47, 42]) :: (some 133, [1, 126], [42]) :: (some 134, [133, 126], [49, 42]) :: (some 135, [132, 134, 126], [48, 50, 42]) :: (some 136, [126, 135], [42, 51]) :: (some 137, [136], [52, 42]) :: (some 138, [4, 137], [53]) :: (some 139, [138, 137], [54, 53]) :: (some 140, [139, 137], [55, 53, 53]) :: (some 141, [140, 137], [56, 53]) :: (some 142, [137, 141], [53, 57]) :: (some 143, [142], [58, 56]) :: (some 144, [4, 143], [59]) :: (some 145, [144, 143], [60, 59]) :: (some 146, [145, 143], [61, 59, 59]) :: (some 147, [146, 143], [62, 59]) :: (some 148, [143, 147], [59, 63]) :: (some 149, [148], [64, 62]) :: (some 150, [4, 149], [65]) :: (some 151, [150, 149], [66, 65]) :: (some 152, [151, 149], [67, 65]) :: (some 153, [149, 152], [65, 68]) :: (some 154, [153], [69, 65]) :: (some 155, [4, 154], [70]) :: (some 156, [155, 154], [71, 70]) :: (some 157, [156, 154], [72, 70]) :: (some 158, [154, 157], [70, 73]) :: (some 159, [158], [74, 70]) :: (some 160, [4, 159], [75]) :: (some 161, [160, 159], [76, 75]) :: (some 162, [161, 159], [77, 75]) :: (some 163, [162, 159], [78, 75, 75]) :: (some 164, [4, 163], [79]) :: (some 165, [164, 163], [80, 79]) :: (some 166, [165, 163], [81, 79, 79]) :: (some 167, [166, 163], [82, 79]) :: (some 168, [167, 163], [83, 82, 79]) :: (some 169, [1, 168], [84]) :: (some 170, [4, 168], [84]) :: (some 171, [170, 168], [86, 84]) :: (some 172, [169, 171, 168], [85, 87, 84, 84]) :: (some 173, [172, 168], [88, 84]) :: (some 174, [168, 173, 163], [84, 89, 79]) :: (some 175, [163, 174, 159], [79, 90, 75]) :: (some 176, [159, 175], [75, 91]) :: []) (fun i => (([] :: [0] :: [0, 1] :: [0, 1, 2] :: [0, 1, 2, 3] :: [0, 1, 2, 3, 4] :: [0, 1, 2, 3] :: [0, 1, 2, 3, 6] :: [0, 1, 2, 3, 4, 5, 6, 7] :: [0, 1, 2, 3, 4, 5, 6, 7, 8] :: [0, 1, 2, 3, 4, 5, 6, 7, 8, 9] :: [0, 1, 2, 3, 4, 5, 6, 7, 8, 9, 10] :: [0, 1, 2, 3, 4, 5, 6, 7, 8, 9, 10, 11] :: [0, 1, 2, 3, 4, 5, 6, 7, 8, 9, 10, 11, 12] :: [0, 1, 2, 3, 4, 5, 6, 7, 8, 9, 10, 11, 12, 13] :: [0, 1, 2, 3, 4, 5, 6, 7, 8, 9, 10, 11, 12, 13, 14] :: [0, 1, 2, 3, 4, 5, 6, 7, 8, 9, 10, 11, 12, 13] :: [0, 1, 2, 3, 4, 5, 6, 7, 8, 9, 10, 11, 12, 13, 16] :: [0, 1, 2, 3, 4, 5, 6, 7, 8, 9, 10, 11, 12, 13] :: [0, 1, 2, 3, 4, 5, 6, 7, 8, 9, 10, 11, 12, 13, 18] :: [0, 1, 2, 3, 4, 5, 6, 7, 8, 9, 10, 11, 12, 13, 16, 17, 18, 19] :: [0, 1, 2, 3, 4, 5, 6, 7, 8, 9, 10, 11, 12, 13, 16, 17, 18, 19, 20] :: [0, 1, 2, 3, 4, 5, 6, 7, 8, 9, 10, 11, 12, 13, 16, 17, 18, 19, 20, 21] :: [0, 1, 2, 3, 4, 5, 6, 7, 8, 9, 10, 11, 12, 13, 14, 15, 16, 17, 18, 19, 20, 21, 22] :: [0, 1, 2, 3, 4, 5, 6, 7, 8, 9, 10, 11, 12, 13, 14, 15, 16, 17, 18, 19, 20, 21, 22, 23] :: [0, 1, 2, 3, 4, 5, 6, 7, 8, 9, 10, 11, 12, 13, 14, 15, 16, 17, 18, 19, 20, 21, 22, 23, 24] :: [0, 1, 2, 3, 4, 5, 6, 7, 8, 9, 10, 11, 12, 13, 14, 15, 16, 17, 18, 19, 20, 21, 22, 23, 24, 25] :: [0, 1, 2, 3, 4, 5, 6, 7, 8, 9, 10, 11, 12, 13, 14, 15, 16, 17, 18, 19, 20, 21, 22, 23, 24, 25, 26] :: [0, 1, 2, 3, 4, 5, 6, 7, 8, 9, 10, 11, 12, 13, 14, 15, 16, 17, 18, 19, 20, 21, 22, 23, 24, 25, 26] :: [0, 1, 2, 3, 4, 5, 6, 7, 8, 9, 10, 11, 12, 13, 14, 15, 16, 17, 18, 19, 20, 21, 22, 23, 24, 25, 26, 28] :: [0, 1, 2, 3, 4, 5, 6, 7, 8, 9, 10, 11, 12, 13, 14, 15, 16, 17, 18, 19, 20, 21, 22, 23, 24, 25, 26, 27, 28, 29] :: [0, 1, 2, 3, 4, 5, 6, 7, 8, 9, 10, 11, 12, 13, 14, 15, 16, 17, 18, 19, 20, 21, 22, 23, 24, 25, 26] :: [0, 1, 2, 3, 4, 5, 6, 7, 8, 9, 10, 11, 12, 13, 14, 15, 16, 17, 18, 19, 20, 21, 22, 23, 24, 25, 26, 27, 28, 29, 30, 31] :: [0, 1, 2, 3, 4, 5, 6, 7, 8, 9, 10, 11, 12, 13, 14, 15, 16, 17, 18, 19, 20, 21, 22, 23, 24, 25, 26, 27, 28, 29, 30, 31, 32] :: [0, 1, 2, 3, 4, 5, 6, 7, 8, 9, 10, 11, 12, 13, 14, 15, 16, 17, 18, 19, 20, 21, 22, 23, 24, 25, 26, 27, 28, 29, 30, 31, 32, 33] :: [0, 1, 2, 3, 4, 5, 6, 7, 8, 9, 10, 11, 12, 13, 14, 15, 16, 17, 18, 19, 20, 21, 22, 23, 24, 25, 26, 27, 28, 29, 30, 31, 32, 33, 34] :: [0, 1, 2, 3, 4, 5, 6, 7, 8, 9, 10, 11, 12, 13, 14, 15, 16, 17, 18, 19, 20, 21, 22, 23, 24, 25, 26, 27, 28, 29, 30, 31, 32, 33, 34, 35] :: [0, 1, 2, 3, 4, 5, 6, 7, 8, 9, 10, 11, 12, 13, 14, 15, 16, 17, 18, 19, 20, 21, 22, 23, 24, 25, 26, 27, 28, 29, 30, 31, 32, 33, 34, 35, 36] :: [0, 1, 2, 3, 4, 5, 6, 7, 8, 9, 10, 11, 12, 13, 14, 15, 16, 17, 18, 19, 20, 21, 22, 23, 24, 25, 26, 27, 28, 29, 30, 31, 32, 33, 34] :: [0, 1, 2, 3, 4, 5, 6, 7, 8, 9, 10, 11, 12, 13, 14, 15, 16, 17, 18, 19, 20, 21, 22, 23, 24, 25, 26, 27, 28, 29, 30, 31, 32, 33, 34, 38] :: [0, 1, 2, 3, 4, 5, 6, 7, 8, 9, 10, 11, 12, 13, 14, 15, 16, 17, 18, 19, 20, 21, 22, 23, 24, 25, 26, 27, 28, 29, 30, 31, 32, 33, 34, 35, 36, 37, 38, 39] :: (0 :: 1 :: 2 :: 3 :: 4 :: 5 :: 6 :: 7 :: 8 :: 9 :: 10 :: 11 :: 12 :: 13 :: 14 :: 15 :: 16 :: 17 :: 18 :: 19 :: 20 :: 21 :: 22 :: 23 :: 24 :: 25 :: 26 :: 27 :: 28 :: 29 :: 30 :: 31 :: 32 :: 33 :: 34 :: 35 :: 36 :: 37 :: 38 :: 39 :: 40 :: []) :: (0 :: 1 :: 2 :: 3 :: 4 :: 5 :: 6 :: 7 :: 8 :: 9 :: 10 :: 11 :: 12 :: 13 :: 14 :: 15 :: 16 :: 17 :: 18 :: 19 :: 20 :: 21 :: 22 :: 23 :: 24 :: 25 :: 26 :: 27 :: 28 :: 29 :: 30 :: 31 :: 32 :: 33 :: 34 :: 35 :: 36 :: 37 :: 38 :: 39 :: 40 :: 41 :: []) :: (0 :: 1 :: 2 :: 3 :: 4 :: 5 :: 6 :: 7 :: 8 :: 9 :: 10 :: 11 :: 12 :: 13 :: 14 :: 15 :: 16 :: 17 :: 18 :: 19 :: 20 :: 21 :: 22 :: 23 :: 24 :: 25 :: 26 :: 27 :: 28 :: 29 :: 30 :: 31 :: 32 :: 33 :: 34 :: 35 :: 36 :: 37 :: 38 :: 39 :: 40 :: 41 :: 42 :: []) :: (0 :: 1 :: 2 :: 3 :: 4 :: 5 :: 6 :: 7 :: 8 :: 9 :: 10 :: 11 :: 12 :: 13 :: 14 :: 15 :: 16 :: 17 :: 18 :: 19 :: 20 :: 21 :: 22 :: 23 :: 24 :: 25 :: 26 :: 27 :: 28 :: 29 :: 30 :: 31 :: 32 :: 33 :: 34 :: 35 :: 36 :: 37 :: 38 :: 39 :: 40 :: 41 :: 42 :: 43 :: []) :: (0 :: 1 :: 2 :: 3 :: 4 :: 5 :: 6 :: 7 :: 8 :: 9 :: 10 :: 11 :: 12 :: 13 :: 14 :: 15 :: 16 :: 17 :: 18 :: 19 :: 20 :: 21 :: 22 :: 23 :: 24 :: 25 :: 26 :: 27 :: 28 :: 29 :: 30 :: 31 :: 32 :: 33 :: 34 :: 35 :: 36 :: 37 :: 38 :: 39 :: 40 :: 41 :: 42 :: []) :: (0 :: 1 :: 2 :: 3 :: 4 :: 5 :: 6 :: 7 :: 8 :: 9 :: 10 :: 11 :: 12 :: 13 :: 14 :: 15 :: 16 :: 17 :: 18 :: 19 :: 20 :: 21 :: 22 :: 23 :: 24 :: 25 :: 26 :: 27 :: 28 :: 29 :: 30 :: 31 :: 32 :: 33 :: 34 :: 35 :: 36 :: 37 :: 38 :: 39 :: 40 :: 41 :: 42 :: 45 :: []) :: (0 :: 1 :: 2 :: 3 :: 4 :: 5 :: 6 :: 7 :: 8 :: 9 :: 10 :: 11 :: 12 :: 13 :: 14 :: 15 :: 16 :: 17 :: 18 :: 19 :: 20 :: 21 :: 22 :: 23 :: 24 :: 25 :: 26 :: 27 :: 28 :: 29 :: 30 :: 31 :: 32 :: 33 :: 34 :: 35 :: 36 :: 37 :: 38 :: 39 :: 40 :: 41 :: 42 :: 45 :: 46 :: []) :: (0 :: 1 :: 2 :: 3 :: 4 :: 5 :: 6 :: 7 :: 8 :: 9 :: 10 :: 11 :: 12 :: 13 :: 14 :: 15 :: 16 :: 17 :: 18 :: 19 :: 20 :: 21 :: 22 :: 23 :: 24 :: 25 :: 26 :: 27 :: 28 :: 29 :: 30 :: 31 :: 32 :: 33 :: 34 :: 35 :: 36 :: 37 :: 38 :: 39 :: 40 :: 41 :: 42 :: 43 :: 44 :: 45 :: 46 :: 47 :: []) :: (0 :: 1 :: 2 :: 3 :: 4 :: 5 :: 6 :: 7 :: 8 :: 9 :: 10 :: 11 :: 12 :: 13 :: 14 :: 15 :: 16 :: 17 :: 18 :: 19 :: 20 :: 21 :: 22 :: 23 :: 24 :: 25 :: 26 :: 27 :: 28 :: 29 :: 30 :: 31 :: 32 :: 33 :: 34 :: 35 :: 36 :: 37 :: 38 :: 39 :: 40 :: 41 :: 42 :: []) :: (0 :: 1 :: 2 :: 3 :: 4 :: 5 :: 6 :: 7 :: 8 :: 9 :: 10 :: 11 :: 12 :: 13 :: 14 :: 15 :: 16 :: 17 :: 18 :: 19 :: 20 :: 21 :: 22 :: 23 :: 24 :: 25 :: 26 :: 27 :: 28 :: 29 :: 30 :: 31 :: 32 :: 33 :: 34 :: 35 :: 36 :: 37 :: 38 :: 39 :: 40 :: 41 :: 42 :: 49 :: []) :: (0 :: 1 :: 2 :: 3 :: 4 :: 5 :: 6 :: 7 :: 8 :: 9 :: 10 :: 11 :: 12 :: 13 :: 14 :: 15 :: 16 :: 17 :: 18 :: 19 :: 20 :: 21 :: 22 :: 23 :: 24 :: 25 :: 26 :: 27 :: 28 :: 29 :: 30 :: 31 :: 32 :: 33 :: 34 :: 35 :: 36 :: 37 :: 38 :: 39 :: 40 :: 41 :: 42 :: 43 :: 44 :: 45 :: 46 :: 47 :: 48 :: 49 :: 50 :: []) :: (0 :: 1 :: 2 :: 3 :: 4 :: 5 :: 6 :: 7 :: 8 :: 9 :: 10 :: 11 :: 12 :: 13 :: 14 :: 15 :: 16 :: 17 :: 18 :: 19 :: 20 :: 21 :: 22 :: 23 :: 24 :: 25 :: 26 :: 27 :: 28 :: 29 :: 30 :: 31 :: 32 :: 33 :: 34 :: 35 :: 36 :: 37 :: 38 :: 39 :: 40 :: 41 :: 42 :: 43 :: 44 :: 45 :: 46 :: 47 :: 48 :: 49 :: 50 :: 51 :: []) :: (0 :: 1 :: 2 :: 3 :: 4 :: 5 :: 6 :: 7 :: 8 :: 9 :: 10 :: 11 :: 12 :: 13 :: 14 :: 15 :: 16 :: 17 :: 18 :: 19 :: 20 :: 21 :: 22 :: 23 :: 24 :: 25 :: 26 :: 27 :: 28 :: 29 :: 30 :: 31 :: 32 :: 33 :: 34 :: 35 :: 36 :: 37 :: 38 :: 39 :: 40 :: 41 :: 42 :: 43 :: 44 :: 45 :: 46 :: 47 :: 48 :: 49 :: 50 :: 51 :: 52 :: []) :: (0 :: 1 :: 2 :: 3 :: 4 :: 5 :: 6 :: 7 :: 8 :: 9 :: 10 :: 11 :: 12 :: 13 :: 14 :: 15 :: 16 :: 17 :: 18 :: 19 :: 20 :: 21 :: 22 :: 23 :: 24 :: 25 :: 26 :: 27 :: 28 :: 29 :: 30 :: 31 :: 32 :: 33 :: 34 :: 35 :: 36 :: 37 :: 38 :: 39 :: 40 :: 41 :: 42 :: 43 :: 44 :: 45 :: 46 :: 47 :: 48 :: 49 :: 50 :: 51 :: 52 :: 53 :: []) :: (0 :: 1 :: 2 :: 3 :: 4 :: 5 :: 6 :: 7 :: 8 :: 9 :: 10 :: 11 :: 12 :: 13 :: 14 :: 15 :: 16 :: 17 :: 18 :: 19 :: 20 :: 21 :: 22 :: 23 :: 24 :: 25 :: 26 :: 27 :: 28 :: 29 :: 30 :: 31 :: 32 :: 33 :: 34 :: 35 :: 36 :: 37 :: 38 :: 39 :: 40 :: 41 :: 42 :: 43 :: 44 :: 45 :: 46 :: 47 :: 48 :: 49 :: 50 :: 51 :: 52 :: 53 :: 54 :: []) :: (0 :: 1 :: 2 :: 3 :: 4 :: 5 :: 6 :: 7 :: 8 :: 9 :: 10 :: 11 :: 12 :: 13 :: 14 :: 15 :: 16 :: 17 :: 18 :: 19 :: 20 :: 21 :: 22 :: 23 :: 24 :: 25 :: 26 :: 27 :: 28 :: 29 :: 30 :: 31 :: 32 :: 33 :: 34 :: 35 :: 36 :: 37 :: 38 :: 39 :: 40 :: 41 :: 42 :: 43 :: 44 :: 45 :: 46 :: 47 :: 48 :: 49 :: 50 :: 51 :: 52 :: 53 :: 54 :: 55 :: []) :: (0 :: 1 :: 2 :: 3 :: 4 :: 5 :: 6 :: 7 :: 8 :: 9 :: 10 :: 11 :: 12 :: 13 :: 14 :: 15 :: 16 :: 17 :: 18 :: 19 :: 20 :: 21 :: 22 :: 23 :: 24 :: 25 :: 26 :: 27 :: 28 :: 29 :: 30 :: 31 :: 32 :: 33 :: 34 :: 35 :: 36 :: 37 :: 38 :: 39 :: 40 :: 41 :: 42 :: 43 :: 44 :: 45 :: 46 :: 47 :: 48 :: 49 :: 50 :: 51 :: 52 :: 53 :: 54 :: 55 :: 56 :: []) :: (0 :: 1 :: 2 :: 3 :: 4 :: 5 :: 6 :: 7 :: 8 :: 9 :: 10 :: 11 :: 12 :: 13 :: 14 :: 15 :: 16 :: 17 :: 18 :: 19 :: 20 :: 21 :: 22 :: 23 :: 24 :: 25 :: 26 :: 27 :: 28 :: 29 :: 30 :: 31 :: 32 :: 33 :: 34 :: 35 :: 36 :: 37 :: 38 :: 39 :: 40 :: 41 :: 42 :: 43 :: 44 :: 45 :: 46 :: 47 :: 48 :: 49 :: 50 :: 51 :: 52 :: 53 :: 54 :: 55 :: 56 :: 57 :: []) :: (0 :: 1 :: 2 :: 3 :: 4 :: 5 :: 6 :: 7 :: 8 :: 9 :: 10 :: 11 :: 12 :: 13 :: 14 :: 15 :: 16 :: 17 :: 18 :: 19 :: 20 :: 21 :: 22 :: 23 :: 24 :: 25 :: 26 :: 27 :: 28 :: 29 :: 30 :: 31 :: 32 :: 33 :: 34 :: 35 :: 36 :: 37 :: 38 :: 39 :: 40 :: 41 :: 42 :: 43 :: 44 :: 45 :: 46 :: 47 :: 48 :: 49 :: 50 :: 51 :: 52 :: 53 :: 54 :: 55 :: 56 :: 57 :: 58 :: []) :: (0 :: 1 :: 2 :: 3 :: 4 :: 5 :: 6 :: 7 :: 8 :: 9 :: 10 :: 11 :: 12 :: 13 :: 14 :: 15 :: 16 :: 17 :: 18 :: 19 :: 20 :: 21 :: 22 :: 23 :: 24 :: 25 :: 26 :: 27 :: 28 :: 29 :: 30 :: 31 :: 32 :: 33 :: 34 :: 35 :: 36 :: 37 :: 38 :: 39 :: 40 :: 41 :: 42 :: 43 :: 44 :: 45 :: 46 :: 47 :: 48 :: 49 :: 50 :: 51 :: 52 :: 53 :: 54 :: 55 :: 56 :: 57 :: 58 :: 59 :: []) :: (0 :: 1 :: 2 :: 3 :: 4 :: 5 :: 6 :: 7 :: 8 :: 9 :: 10 :: 11 :: 12 :: 13 :: 14 :: 15 :: 16 :: 17 :: 18 :: 19 :: 20 :: 21 :: 22 :: 23 :: 24 :: 25 :: 26 :: 27 :: 28 :: 29 :: 30 :: 31 :: 32 :: 33 :: 34 :: 35 :: 36 :: 37 :: 38 :: 39 :: 40 :: 41 :: 42 :: 43 :: 44 :: 45 :: 46 :: 47 :: 48 :: 49 :: 50 :: 51 :: 52 :: 53 :: 54 :: 55 :: 56 :: 57 :: 58 :: 59 :: 60 :: []) :: (0 :: 1 :: 2 :: 3 :: 4 :: 5 :: 6 :: 7 :: 8 :: 9 :: 10 :: 11 :: 12 :: 13 :: 14 :: 15 :: 16 :: 17 :: 18 :: 19 :: 20 :: 21 :: 22 :: 23 :: 24 :: 25 :: 26 :: 27 :: 28 :: 29 :: 30 :: 31 :: 32 :: 33 :: 34 :: 35 :: 36 :: 37 :: 38 :: 39 :: 40 :: 41 :: 42 :: 43 :: 44 :: 45 :: 46 :: 47 :: 48 :: 49 :: 50 :: 51 :: 52 :: 53 :: 54 :: 55 :: 56 :: 57 :: 58 :: 59 :: 60 :: 61 :: []) :: (0 :: 1 :: 2 :: 3 :: 4 :: 5 :: 6 :: 7 :: 8 :: 9 :: 10 :: 11 :: 12 :: 13 :: 14 :: 15 :: 16 :: 17 :: 18 :: 19 :: 20 :: 21 :: 22 :: 23 :: 24 :: 25 :: 26 :: 27 :: 28 :: 29 :: 30 :: 31 :: 32 :: 33 :: 34 :: 35 :: 36 :: 37 :: 38 :: 39 :: 40 :: 41 :: 42 :: 43 :: 44 :: 45 :: 46 :: 47 :: 48 :: 49 :: 50 :: 51 :: 52 :: 53 :: 54 :: 55 :: 56 :: 57 :: 58 :: 59 :: 60 :: 61 :: 62 :: []) :: (0 :: 1 :: 2 :: 3 :: 4 :: 5 :: 6 :: 7 :: 8 :: 9 :: 10 :: 11 :: 12 :: 13 :: 14 :: 15 :: 16 :: 17 :: 18 :: 19 :: 20 :: 21 :: 22 :: 23 :: 24 :: 25 :: 26 :: 27 :: 28 :: 29 :: 30 :: 31 :: 32 :: 33 :: 34 :: 35 :: 36 :: 37 :: 38 :: 39 :: 40 :: 41 :: 42 :: 43 :: 44 :: 45 :: 46 :: 47 :: 48 :: 49 :: 50 :: 51 :: 52 :: 53 :: 54 :: 55 :: 56 :: 57 :: 58 :: 59 :: 60 :: 61 :: 62 :: 63 :: []) :: (0 :: 1 :: 2 :: 3 :: 4 :: 5 :: 6 :: 7 :: 8 :: 9 :: 10 :: 11 :: 12 :: 13 :: 14 :: 15 :: 16 :: 17 :: 18 :: 19 :: 20 :: 21 :: 22 :: 23 :: 24 :: 25 :: 26 :: 27 :: 28 :: 29 :: 30 :: 31 :: 32 :: 33 :: 34 :: 35 :: 36 :: 37 :: 38 :: 39 :: 40 :: 41 :: 42 :: 43 :: 44 :: 45 :: 46 :: 47 :: 48 :: 49 :: 50 :: 51 :: 52 :: 53 :: 54 :: 55 :: 56 :: 57 :: 58 :: 59 :: 60 :: 61 :: 62 :: 63 :: 64 :: []) :: (0 :: 1 :: 2 :: 3 :: 4 :: 5 :: 6 :: 7 :: 8 :: 9 :: 10 :: 11 :: 12 :: 13 :: 14 :: 15 :: 16 :: 17 :: 18 :: 19 :: 20 :: 21 :: 22 :: 23 :: 24 :: 25 :: 26 :: 27 :: 28 :: 29 :: 30 :: 31 :: 32 :: 33 :: 34 :: 35 :: 36 :: 37 :: 38 :: 39 :: 40 :: 41 :: 42 :: 43 :: 44 :: 45 :: 46 :: 47 :: 48 :: 49 :: 50 :: 51 :: 52 :: 53 :: 54 :: 55 :: 56 :: 57 :: 58 :: 59 :: 60 :: 61 :: 62 :: 63 :: 64 :: 65 :: []) :: (0 :: 1 :: 2 :: 3 :: 4 :: 5 :: 6 :: 7 :: 8 :: 9 :: 10 :: 11 :: 12 :: 13 :: 14 :: 15 :: 16 :: 17 :: 18 :: 19 :: 20 :: 21 :: 22 :: 23 :: 24 :: 25 :: 26 :: 27 :: 28 :: 29 :: 30 :: 31 :: 32 :: 33 :: 34 :: 35 :: 36 :: 37 :: 38 :: 39 :: 40 :: 41 :: 42 :: 43 :: 44 :: 45 :: 46 :: 47 :: 48 :: 49 :: 50 :: 51 :: 52 :: 53 :: 54 :: 55 :: 56 :: 57 :: 58 :: 59 :: 60 :: 61 :: 62 :: 63 :: 64 :: 65 :: 66 :: []) :: (0 :: 1 :: 2 :: 3 :: 4 :: 5 :: 6 :: 7 :: 8 :: 9 :: 10 :: 11 :: 12 :: 13 :: 14 :: 15 :: 16 :: 17 :: 18 :: 19 :: 20 :: 21 :: 22 :: 23 :: 24 :: 25 :: 26 :: 27 :: 28 :: 29 :: 30 :: 31 :: 32 :: 33 :: 34 :: 35 :: 36 :: 37 :: 38 :: 39 :: 40 :: 41 :: 42 :: 43 :: 44 :: 45 :: 46 :: 47 :: 48 :: 49 :: 50 :: 51 :: 52 :: 53 :: 54 :: 55 :: 56 :: 57 :: 58 :: 59 :: 60 :: 61 :: 62 :: 63 :: 64 :: 65 :: 66 :: 67 :: []) :: (0 :: 1 :: 2 :: 3 :: 4 :: 5 :: 6 :: 7 :: 8 :: 9 :: 10 :: 11 :: 12 :: 13 :: 14 :: 15 :: 16 :: 17 :: 18 :: 19 :: 20 :: 21 :: 22 :: 23 :: 24 :: 25 :: 26 :: 27 :: 28 :: 29 :: 30 :: 31 :: 32 :: 33 :: 34 :: 35 :: 36 :: 37 :: 38 :: 39 :: 40 :: 41 :: 42 :: 43 :: 44 :: 45 :: 46 :: 47 :: 48 :: 49 :: 50 :: 51 :: 52 :: 53 :: 54 :: 55 :: 56 :: 57 :: 58 :: 59 :: 60 :: 61 :: 62 :: 63 :: 64 :: 65 :: 66 :: 67 :: 68 :: []) :: (0 :: 1 :: 2 :: 3 :: 4 :: 5 :: 6 :: 7 :: 8 :: 9 :: 10 :: 11 :: 12 :: 13 :: 14 :: 15 :: 16 :: 17 :: 18 :: 19 :: 20 :: 21 :: 22 :: 23 :: 24 :: 25 :: 26 :: 27 :: 28 :: 29 :: 30 :: 31 :: 32 :: 33 :: 34 :: 35 :: 36 :: 37 :: 38 :: 39 :: 40 :: 41 :: 42 :: 43 :: 44 :: 45 :: 46 :: 47 :: 48 :: 49 :: 50 :: 51 :: 52 :: 53 :: 54 :: 55 :: 56 :: 57 :: 58 :: 59 :: 60 :: 61 :: 62 :: 63 :: 64 :: 65 :: 66 :: 67 :: 68 :: 69 :: []) :: (0 :: 1 :: 2 :: 3 :: 4 :: 5 :: 6 :: 7 :: 8 :: 9 :: 10 :: 11 :: 12 :: 13 :: 14 :: 15 :: 16 :: 17 :: 18 :: 19 :: 20 :: 21 :: 22 :: 23 :: 24 :: 25 :: 26 :: 27 :: 28 :: 29 :: 30 :: 31 :: 32 :: 33 :: 34 :: 35 :: 36 :: 37 :: 38 :: 39 :: 40 :: 41 :: 42 :: 43 :: 44 :: 45 :: 46 :: 47 :: 48 :: 49 :: 50 :: 51 :: 52 :: 53 :: 54 :: 55 :: 56 :: 57 :: 58 :: 59 :: 60 :: 61 :: 62 :: 63 :: 64 :: 65 :: 66 :: 67 :: 68 :: 69 :: 70 :: []) :: (0 :: 1 :: 2 :: 3 :: 4 :: 5 :: 6 :: 7 :: 8 :: 9 :: 10 :: 11 :: 12 :: 13 :: 14 :: 15 :: 16 :: 17 :: 18 :: 19 :: 20 :: 21 :: 22 :: 23 :: 24 :: 25 :: 26 :: 27 :: 28 :: 29 :: 30 :: 31 :: 32 :: 33 :: 34 :: 35 :: 36 :: 37 :: 38 :: 39 :: 40 :: 41 :: 42 :: 43 :: 44 :: 45 :: 46 :: 47 :: 48 :: 49 :: 50 :: 51 :: 52 :: 53 :: 54 :: 55 :: 56 :: 57 :: 58 :: 59 :: 60 :: 61 :: 62 :: 63 :: 64 :: 65 :: 66 :: 67 :: 68 :: 69 :: 70 :: 71 :: []) :: (0 :: 1 :: 2 :: 3 :: 4 :: 5 :: 6 :: 7 :: 8 :: 9 :: 10 :: 11 :: 12 :: 13 :: 14 :: 15 :: 16 :: 17 :: 18 :: 19 :: 20 :: 21 :: 22 :: 23 :: 24 :: 25 :: 26 :: 27 :: 28 :: 29 :: 30 :: 31 :: 32 :: 33 :: 34 :: 35 :: 36 :: 37 :: 38 :: 39 :: 40 :: 41 :: 42 :: 43 :: 44 :: 45 :: 46 :: 47 :: 48 :: 49 :: 50 :: 51 :: 52 :: 53 :: 54 :: 55 :: 56 :: 57 :: 58 :: 59 :: 60 :: 61 :: 62 :: 63 :: 64 :: 65 :: 66 :: 67 :: 68 :: 69 :: 70 :: 71 :: 72 :: []) :: (0 :: 1 :: 2 :: 3 :: 4 :: 5 :: 6 :: 7 :: 8 :: 9 :: 10 :: 11 :: 12 :: 13 :: 14 :: 15 :: 16 :: 17 :: 18 :: 19 :: 20 :: 21 :: 22 :: 23 :: 24 :: 25 :: 26 :: 27 :: 28 :: 29 :: 30 :: 31 :: 32 :: 33 :: 34 :: 35 :: 36 :: 37 :: 38 :: 39 :: 40 :: 41 :: 42 :: 43 :: 44 :: 45 :: 46 :: 47 :: 48 :: 49 :: 50 :: 51 :: 52 :: 53 :: 54 :: 55 :: 56 :: 57 :: 58 :: 59 :: 60 :: 61 :: 62 :: 63 :: 64 :: 65 :: 66 :: 67 :: 68 :: 69 :: 70 :: 71 :: 72 :: 73 :: []) :: (0 :: 1 :: 2 :: 3 :: 4 :: 5 :: 6 :: 7 :: 8 :: 9 :: 10 :: 11 :: 12 :: 13 :: 14 :: 15 :: 16 :: 17 :: 18 :: 19 :: 20 :: 21 :: 22 :: 23 :: 24 :: 25 :: 26 :: 27 :: 28 :: 29 :: 30 :: 31 :: 32 :: 33 :: 34 :: 35 :: 36 :: 37 :: 38 :: 39 :: 40 :: 41 :: 42 :: 43 :: 44 :: 45 :: 46 :: 47 :: 48 :: 49 :: 50 :: 51 :: 52 :: 53 :: 54 :: 55 :: 56 :: 57 :: 58 :: 59 :: 60 :: 61 :: 62 :: 63 :: 64 :: 65 :: 66 :: 67 :: 68 :: 69 :: 70 :: 71 :: 72 :: 73 :: 74 :: []) :: (0 :: 1 :: 2 :: 3 :: 4 :: 5 :: 6 :: 7 :: 8 :: 9 :: 10 :: 11 :: 12 :: 13 :: 14 :: 15 :: 16 :: 17 :: 18 :: 19 :: 20 :: 21 :: 22 :: 23 :: 24 :: 25 :: 26 :: 27 :: 28 :: 29 :: 30 :: 31 :: 32 :: 33 :: 34 :: 35 :: 36 :: 37 :: 38 :: 39 :: 40 :: 41 :: 42 :: 43 :: 44 :: 45 :: 46 :: 47 :: 48 :: 49 :: 50 :: 51 :: 52 :: 53 :: 54 :: 55 :: 56 :: 57 :: 58 :: 59 :: 60 :: 61 :: 62 :: 63 :: 64 :: 65 :: 66 :: 67 :: 68 :: 69 :: 70 :: 71 :: 72 :: 73 :: 74 :: 75 :: []) :: (0 :: 1 :: 2 :: 3 :: 4 :: 5 :: 6 :: 7 :: 8 :: 9 :: 10 :: 11 :: 12 :: 13 :: 14 :: 15 :: 16 :: 17 :: 18 :: 19 :: 20 :: 21 :: 22 :: 23 :: 24 :: 25 :: 26 :: 27 :: 28 :: 29 :: 30 :: 31 :: 32 :: 33 :: 34 :: 35 :: 36 :: 37 :: 38 :: 39 :: 40 :: 41 :: 42 :: 43 :: 44 :: 45 :: 46 :: 47 :: 48 :: 49 :: 50 :: 51 :: 52 :: 53 :: 54 :: 55 :: 56 :: 57 :: 58 :: 59 :: 60 :: 61 :: 62 :: 63 :: 64 :: 65 :: 66 :: 67 :: 68 :: 69 :: 70 :: 71 :: 72 :: 73 :: 74 :: 75 :: 76 :: []) :: (0 :: 1 :: 2 :: 3 :: 4 :: 5 :: 6 :: 7 :: 8 :: 9 :: 10 :: 11 :: 12 :: 13 :: 14 :: 15 :: 16 :: 17 :: 18 :: 19 :: 20 :: 21 :: 22 :: 23 :: 24 :: 25 :: 26 :: 27 :: 28 :: 29 :: 30 :: 31 :: 32 :: 33 :: 34 :: 35 :: 36 :: 37 :: 38 :: 39 :: 40 :: 41 :: 42 :: 43 :: 44 :: 45 :: 46 :: 47 :: 48 :: 49 :: 50 :: 51 :: 52 :: 53 :: 54 :: 55 :: 56 :: 57 :: 58 :: 59 :: 60 :: 61 :: 62 :: 63 :: 64 :: 65 :: 66 :: 67 :: 68 :: 69 :: 70 :: 71 :: 72 :: 73 :: 74 :: 75 :: 76 :: 77 :: []) :: (0 :: 1 :: 2 :: 3 :: 4 :: 5 :: 6 :: 7 :: 8 :: 9 :: 10 :: 11 :: 12 :: 13 :: 14 :: 15 :: 16 :: 17 :: 18 :: 19 :: 20 :: 21 :: 22 :: 23 :: 24 :: 25 :: 26 :: 27 :: 28 :: 29 :: 30 :: 31 :: 32 :: 33 :: 34 :: 35 :: 36 :: 37 :: 38 :: 39 :: 40 :: 41 :: 42 :: 43 :: 44 :: 45 :: 46 :: 47 :: 48 :: 49 :: 50 :: 51 :: 52 :: 53 :: 54 :: 55 :: 56 :: 57 :: 58 :: 59 :: 60 :: 61 :: 62 :: 63 :: 64 :: 65 :: 66 :: 67 :: 68 :: 69 :: 70 :: 71 :: 72 :: 73 :: 74 :: 75 :: 76 :: 77 :: 78 :: []) :: (0 :: 1 :: 2 :: 3 :: 4 :: 5 :: 6 :: 7 :: 8 :: 9 :: 10 :: 11 :: 12 :: 13 :: 14 :: 15 :: 16 :: 17 :: 18 :: 19 :: 20 :: 21 :: 22 :: 23 :: 24 :: 25 :: 26 :: 27 :: 28 :: 29 :: 30 :: 31 :: 32 :: 33 :: 34 :: 35 :: 36 :: 37 :: 38 :: 39 :: 40 :: 41 :: 42 :: 43 :: 44 :: 45 :: 46 :: 47 :: 48 :: 49 :: 50 :: 51 :: 52 :: 53 :: 54 :: 55 :: 56 :: 57 :: 58 :: 59 :: 60 :: 61 :: 62 :: 63 :: 64 :: 65 :: 66 :: 67 :: 68 :: 69 :: 70 :: 71 :: 72 :: 73 :: 74 :: 75 :: 76 :: 77 :: 78 :: 79 :: []) :: (0 :: 1 :: 2 :: 3 :: 4 :: 5 :: 6 :: 7 :: 8 :: 9 :: 10 :: 11 :: 12 :: 13 :: 14 :: 15 :: 16 :: 17 :: 18 :: 19 :: 20 :: 21 :: 22 :: 23 :: 24 :: 25 :: 26 :: 27 :: 28 :: 29 :: 30 :: 31 :: 32 :: 33 :: 34 :: 35 :: 36 :: 37 :: 38 :: 39 :: 40 :: 41 :: 42 :: 43 :: 44 :: 45 :: 46 :: 47 :: 48 :: 49 :: 50 :: 51 :: 52 :: 53 :: 54 :: 55 :: 56 :: 57 :: 58 :: 59 :: 60 :: 61 :: 62 :: 63 :: 64 :: 65 :: 66 :: 67 :: 68 :: 69 :: 70 :: 71 :: 72 :: 73 :: 74 :: 75 :: 76 :: 77 :: 78 :: 79 :: 80 :: []) :: (0 :: 1 :: 2 :: 3 :: 4 :: 5 :: 6 :: 7 :: 8 :: 9 :: 10 :: 11 :: 12 :: 13 :: 14 :: 15 :: 16 :: 17 :: 18 :: 19 :: 20 :: 21 :: 22 :: 23 :: 24 :: 25 :: 26 :: 27 :: 28 :: 29 :: 30 :: 31 :: 32 :: 33 :: 34 :: 35 :: 36 :: 37 :: 38 :: 39 :: 40 :: 41 :: 42 :: 43 :: 44 :: 45 :: 46 :: 47 :: 48 :: 49 :: 50 :: 51 :: 52 :: 53 :: 54 :: 55 :: 56 :: 57 :: 58 :: 59 :: 60 :: 61 :: 62 :: 63 :: 64 :: 65 :: 66 :: 67 :: 68 :: 69 :: 70 :: 71 :: 72 :: 73 :: 74 :: 75 :: 76 :: 77 :: 78 :: 79 :: 80 :: 81 :: []) :: (0 :: 1 :: 2 :: 3 :: 4 :: 5 :: 6 :: 7 :: 8 :: 9 :: 10 :: 11 :: 12 :: 13 :: 14 :: 15 :: 16 :: 17 :: 18 :: 19 :: 20 :: 21 :: 22 :: 23 :: 24 :: 25 :: 26 :: 27 :: 28 :: 29 :: 30 :: 31 :: 32 :: 33 :: 34 :: 35 :: 36 :: 37 :: 38 :: 39 :: 40 :: 41 :: 42 :: 43 :: 44 :: 45 :: 46 :: 47 :: 48 :: 49 :: 50 :: 51 :: 52 :: 53 :: 54 :: 55 :: 56 :: 57 :: 58 :: 59 :: 60 :: 61 :: 62 :: 63 :: 64 :: 65 :: 66 :: 67 :: 68 :: 69 :: 70 :: 71 :: 72 :: 73 :: 74 :: 75 :: 76 :: 77 :: 78 :: 79 :: 80 :: 81 :: 82 :: []) :: (0 :: 1 :: 2 :: 3 :: 4 :: 5 :: 6 :: 7 :: 8 :: 9 :: 10 :: 11 :: 12 :: 13 :: 14 :: 15 :: 16 :: 17 :: 18 :: 19 :: 20 :: 21 :: 22 :: 23 :: 24 :: 25 :: 26 :: 27 :: 28 :: 29 :: 30 :: 31 :: 32 :: 33 :: 34 :: 35 :: 36 :: 37 :: 38 :: 39 :: 40 :: 41 :: 42 :: 43 :: 44 :: 45 :: 46 :: 47 :: 48 :: 49 :: 50 :: 51 :: 52 :: 53 :: 54 :: 55 :: 56 :: 57 :: 58 :: 59 :: 60 :: 61 :: 62 :: 63 :: 64 :: 65 :: 66 :: 67 :: 68 :: 69 :: 70 :: 71 :: 72 :: 73 :: 74 :: 75 :: 76 :: 77 :: 78 :: 79 :: 80 :: 81 :: 82 :: 83 :: []) :: (0 :: 1 :: 2 :: 3 :: 4 :: 5 :: 6 :: 7 :: 8 :: 9 :: 10 :: 11 :: 12 :: 13 :: 14 :: 15 :: 16 :: 17 :: 18 :: 19 :: 20 :: 21 :: 22 :: 23 :: 24 :: 25 :: 26 :: 27 :: 28 :: 29 :: 30 :: 31 :: 32 :: 33 :: 34 :: 35 :: 36 :: 37 :: 38 :: 39 :: 40 :: 41 :: 42 :: 43 :: 44 :: 45 :: 46 :: 47 :: 48 :: 49 :: 50 :: 51 :: 52 :: 53 :: 54 :: 55 :: 56 :: 57 :: 58 :: 59 :: 60 :: 61 :: 62 :: 63 :: 64 :: 65 :: 66 :: 67 :: 68 :: 69 :: 70 :: 71 :: 72 :: 73 :: 74 :: 75 :: 76 :: 77 :: 78 :: 79 :: 80 :: 81 :: 82 :: 83 :: 84 :: []) :: (0 :: 1 :: 2 :: 3 :: 4 :: 5 :: 6 :: 7 :: 8 :: 9 :: 10 :: 11 :: 12 :: 13 :: 14 :: 15 :: 16 :: 17 :: 18 :: 19 :: 20 :: 21 :: 22 :: 23 :: 24 :: 25 :: 26 :: 27 :: 28 :: 29 :: 30 :: 31 :: 32 :: 33 :: 34 :: 35 :: 36 :: 37 :: 38 :: 39 :: 40 :: 41 :: 42 :: 43 :: 44 :: 45 :: 46 :: 47 :: 48 :: 49 :: 50 :: 51 :: 52 :: 53 :: 54 :: 55 :: 56 :: 57 :: 58 :: 59 :: 60 :: 61 :: 62 :: 63 :: 64 :: 65 :: 66 :: 67 :: 68 :: 69 :: 70 :: 71 :: 72 :: 73 :: 74 :: 75 :: 76 :: 77 :: 78 :: 79 :: 80 :: 81 :: 82 :: 83 :: 84 :: []) :: (0 :: 1 :: 2 :: 3 :: 4 :: 5 :: 6 :: 7 :: 8 :: 9 :: 10 :: 11 :: 12 :: 13 :: 14 :: 15 :: 16 :: 17 :: 18 :: 19 :: 20 :: 21 :: 22 :: 23 :: 24 :: 25 :: 26 :: 27 :: 28 :: 29 :: 30 :: 31 :: 32 :: 33 :: 34 :: 35 :: 36 :: 37 :: 38 :: 39 :: 40 :: 41 :: 42 :: 43 :: 44 :: 45 :: 46 :: 47 :: 48 :: 49 :: 50 :: 51 :: 52 :: 53 :: 54 :: 55 :: 56 :: 57 :: 58 :: 59 :: 60 :: 61 :: 62 :: 63 :: 64 :: 65 :: 66 :: 67 :: 68 :: 69 :: 70 :: 71 :: 72 :: 73 :: 74 :: 75 :: 76 :: 77 :: 78 :: 79 :: 80 :: 81 :: 82 :: 83 :: 84 :: 86 :: []) :: (0 :: 1 :: 2 :: 3 :: 4 :: 5 :: 6 :: 7 :: 8 :: 9 :: 10 :: 11 :: 12 :: 13 :: 14 :: 15 :: 16 :: 17 :: 18 :: 19 :: 20 :: 21 :: 22 :: 23 :: 24 :: 25 :: 26 :: 27 :: 28 :: 29 :: 30 :: 31 :: 32 :: 33 :: 34 :: 35 :: 36 :: 37 :: 38 :: 39 :: 40 :: 41 :: 42 :: 43 :: 44 :: 45 :: 46 :: 47 :: 48 :: 49 :: 50 :: 51 :: 52 :: 53 :: 54 :: 55 :: 56 :: 57 :: 58 :: 59 :: 60 :: 61 :: 62 :: 63 :: 64 :: 65 :: 66 :: 67 :: 68 :: 69 :: 70 :: 71 :: 72 :: 73 :: 74 :: 75 :: 76 :: 77 :: 78 :: 79 :: 80 :: 81 :: 82 :: 83 :: 84 :: 85 :: 86 :: 87 :: []) :: (0 :: 1 :: 2 :: 3 :: 4 :: 5 :: 6 :: 7 :: 8 :: 9 :: 10 :: 11 :: 12 :: 13 :: 14 :: 15 :: 16 :: 17 :: 18 :: 19 :: 20 :: 21 :: 22 :: 23 :: 24 :: 25 :: 26 :: 27 :: 28 :: 29 :: 30 :: 31 :: 32 :: 33 :: 34 :: 35 :: 36 :: 37 :: 38 :: 39 :: 40 :: 41 :: 42 :: 43 :: 44 :: 45 :: 46 :: 47 :: 48 :: 49 :: 50 :: 51 :: 52 :: 53 :: 54 :: 55 :: 56 :: 57 :: 58 :: 59 :: 60 :: 61 :: 62 :: 63 :: 64 :: 65 :: 66 :: 67 :: 68 :: 69 :: 70 :: 71 :: 72 :: 73 :: 74 :: 75 :: 76 :: 77 :: 78 :: 79 :: 80 :: 81 :: 82 :: 83 :: 84 :: 85 :: 86 :: 87 :: 88 :: []) :: (0 :: 1 :: 2 :: 3 :: 4 :: 5 :: 6 :: 7 :: 8 :: 9 :: 10 :: 11 :: 12 :: 13 :: 14 :: 15 :: 16 :: 17 :: 18 :: 19 :: 20 :: 21 :: 22 :: 23 :: 24 :: 25 :: 26 :: 27 :: 28 :: 29 :: 30 :: 31 :: 32 :: 33 :: 34 :: 35 :: 36 :: 37 :: 38 :: 39 :: 40 :: 41 :: 42 :: 43 :: 44 :: 45 :: 46 :: 47 :: 48 :: 49 :: 50 :: 51 :: 52 :: 53 :: 54 :: 55 :: 56 :: 57 :: 58 :: 59 :: 60 :: 61 :: 62 :: 63 :: 64 :: 65 :: 66 :: 67 :: 68 :: 69 :: 70 :: 71 :: 72 :: 73 :: 74 :: 75 :: 76 :: 77 :: 78 :: 79 :: 80 :: 81 :: 82 :: 83 :: 84 :: 85 :: 86 :: 87 :: 88 :: 89 :: []) :: (0 :: 1 :: 2 :: 3 :: 4 :: 5 :: 6 :: 7 :: 8 :: 9 :: 10 :: 11 :: 12 :: 13 :: 14 :: 15 :: 16 :: 17 :: 18 :: 19 :: 20 :: 21 :: 22 :: 23 :: 24 :: 25 :: 26 :: 27 :: 28 :: 29 :: 30 :: 31 :: 32 :: 33 :: 34 :: 35 :: 36 :: 37 :: 38 :: 39 :: 40 :: 41 :: 42 :: 43 :: 44 :: 45 :: 46 :: 47 :: 48 :: 49 :: 50 :: 51 :: 52 :: 53 :: 54 :: 55 :: 56 :: 57 :: 58 :: 59 :: 60 :: 61 :: 62 :: 63 :: 64 :: 65 :: 66 :: 67 :: 68 :: 69 :: 70 :: 71 :: 72 :: 73 :: 74 :: 75 :: 76 :: 77 :: 78 :: 79 :: 80 :: 81 :: 82 :: 83 :: 84 :: 85 :: 86 :: 87 :: 88 :: 89 :: 90 :: []) :: (0 :: 1 :: 2 :: 3 :: 4 :: 5 :: 6 :: 7 :: 8 :: 9 :: 10 :: 11 :: 12 :: 13 :: 14 :: 15 :: 16 :: 17 :: 18 :: 19 :: 20 :: 21 :: 22 :: 23 :: 24 :: 25 :: 26 :: 27 :: 28 :: 29 :: 30 :: 31 :: 32 :: 33 :: 34 :: 35 :: 36 :: 37 :: 38 :: 39 :: 40 :: 41 :: 42 :: 43 :: 44 :: 45 :: 46 :: 47 :: 48 :: 49 :: 50 :: 51 :: 52 :: 53 :: 54 :: 55 :: 56 :: 57 :: 58 :: 59 :: 60 :: 61 :: 62 :: 63 :: 64 :: 65 :: 66 :: 67 :: 68 :: 69 :: 70 :: 71 :: 72 :: 73 :: 74 :: 75 :: 76 :: 77 :: 78 :: 79 :: 80 :: 81 :: 82 :: 83 :: 84 :: 85 :: 86 :: 87 :: 88 :: 89 :: 90 :: 91 :: []) :: [])[i]?).getD []) (fun i => (([] :: [0] :: [1] :: [2] :: [3] :: [3, 4] :: [3] :: [3, 6] :: [3, 5, 7] :: [3, 8] :: [9] :: [10] :: [10, 11] :: [10, 12] :: [13] :: [13, 14] :: [13] :: [13, 16] :: [13] :: [13, 18] :: [13, 17, 19] :: [13, 20] :: [13, 21] :: [13, 15, 22] :: [10, 13, 23] :: [10, 24] :: [25] :: [26] :: [26] :: [26, 28] :: [26, 27, 29] :: [26] :: [26, 30, 31] :: [26, 32] :: [33] :: [34] :: [34, 35] :: [34, 36] :: [34] :: [34, 38] :: [34, 37, 39] :: [34, 40] :: [41] :: [42] :: [42, 43] :: [42] :: [42, 45] :: [42, 46] :: [42, 44, 47] :: [42] :: [42, 49] :: [42, 48, 50] :: [42, 51] :: [52] :: [53] :: [53, 54] :: [53, 55] :: [53, 56] :: [53, 57] :: [58] :: [59] :: [59, 60] :: [59, 61] :: [59, 62] :: [59, 63] :: [64] :: [65] :: [65, 66] :: [65, 67] :: [65, 68] :: [69] :: [70] :: [70, 71] :: [70, 72] :: [70, 73] :: [74] :: [75] :: [75, 76] :: [75, 77] :: [75, 78] :: [79] :: [79, 80] :: [79, 81] :: [79, 82] :: [79, 83] :: [84] :: [84] :: [84, 86] :: [84, 85, 87] :: [84, 88] :: [79, 84, 89] :: [75, 79, 90] :: [75, 91] :: [])[i]?).getD []) (fun _ => []) (fun _ => []) (by kernel_rfl) (by kernel_rfl) (by kernel_rfl) (by rw [hsz]; kernel_rfl) ?_ (rl_pur ?_) ?_ ?_
   ·exact Tch.drew _
   ·refine all_lt1 (all_lt1 (all_lt1 (all_lt1 (all_lt1 (all_lt1 (all_lt1 (all_lt1 (all_lt1 (all_lt1 (all_lt1 (all_lt1 (all_lt1 (all_lt1 (all_lt1 (all_lt1 (all_lt1 (all_lt1 (all_lt1 (all_lt1 (all_lt1 (all_lt1 (all_lt1 (all_lt1 (all_lt1 (all_lt1 (all_lt1 (all_lt1 (all_lt1 (all_lt1 (all_lt1 (all_lt1 (all_lt1 (all_lt1 (all_lt1 (all_lt1 (all_lt1 (all_lt1 (all_lt1 (all_lt1 (all_lt1 (all_lt1 (all_lt1 (all_lt1 (all_lt1 (all_lt1 (all_lt1 (all_lt1 (all_lt1 (all_lt1 (all_lt1 (all_lt1 (all_lt1 (all_lt1 (all_lt1 (all_lt1 (all_lt1 (all_lt1 (all_lt1 (all_lt1 (all_lt1 (all_lt1 (all_lt1 (all_lt1 (all_lt1 (all_lt1 (all_lt1 (all_lt1 (all_lt1 (all_lt1 (all_lt1 (all_lt1 (all_lt1 (all_lt1 (all_lt1 (all_lt1 (all_lt1 (all_lt1 (all_lt1 (all_lt1 (all_lt1 (all_lt1 (all_lt1 (all_lt1 (all_lt1 (all_lt1 (all_lt1 (all_lt1 (all_lt1 (all_lt1 (all_lt1 (all_lt1 (all_lt1 (all_lt0) (Or.inr (pur_eq _))) (Or.inr (pur_eq _))) (Or.inr (pur_eq _))) (Or.inr (pur_eq _))) (Or.inr (pur_eq _))) (Or.inr (pur_eq _))) (Or.inr (pur_eq _))) (Or.inr (pur_eq _))) (Or.inr (pur_eq _))) (Or.inr (pur_eq _))) (Or.inr (pur_eq _))) (Or.inr (pur_eq _))) (Or.inr (pur_eq _))) (Or.inr (pur_eq _))) (Or.inr (pur_eq _))) (Or.inr (pur_eq _))) (Or.inr (pur_eq _))) (Or.inr (pur_eq _))) (Or.inr (pur_eq _))) (Or.inr (pur_eq _))) (Or.inr (pur_eq _))) (Or.inr (pur_eq _))) (Or.inr (pur_eq _))) (Or.inr (pur_eq _))) (Or.inr (pur_eq _))) (Or.inr (pur_eq _))) (Or.inr (pur_eq _))) (Or.inr (pur_eq _))) (Or.inr (pur_eq _))) (Or.inr (pur_eq _))) (Or.inr (pur_eq _))) (Or.inr (pur_eq _))) (Or.inr (pur_eq _))) (Or.inr (pur_eq _))) (Or.inr (pur_eq _))) (Or.inr (pur_eq _))) (Or.inr (pur_eq _))) (Or.inr (pur_eq _))) (Or.inr (pur_eq _))) (Or.inr (pur_eq _))) (Or.inr (pur_eq _))) (Or.inr (pur_eq _))) (Or.inr (pur_eq _))) (Or.inr (pur_eq _))) (Or.inr (pur_eq _))) (Or.inr (pur_eq _))) (Or.inr (pur_eq _))) (Or.inr (pur_eq _))) (Or.inr (pur_eq _))) (Or.inr (pur_eq _))) (Or.inr (pur_eq _))) (Or.inr (pur_eq _))) (Or.inr (pur_eq _))) (Or.inr (pur_eq _))) (Or.inr (pur_eq _))) (Or.inr (pur_eq _))) (Or.inr (pur_eq _))) (Or.inr (pur_eq _))) (Or.inr (pur_eq _))) (Or.inr (pur_eq _))) (Or.inr (pur_eq _))) (Or.inr (pur_eq _))) (Or.inr (pur_eq _))) (Or.inr (pur_eq _))) (Or.inr (pur_eq _))) (Or.inr (pur_eq _))) (Or.inr (pur_eq _))) (Or.inr (pur_eq _))) (Or.inr (pur_eq _))) (Or.inr (pur_eq _))) (Or.inr (pur_eq _))) (Or.inr (pur_eq _))) (Or.inr (pur_eq _))) (Or.inr (pur_eq _))) (Or.inr (pur_eq _))) (Or.inr (pur_eq _))) (Or.inr (pur_eq _))) (Or.inr (pur_eq _))) (Or.inr (pur_eq _))) (Or.inr (pur_eq _))) (Or.inr (pur_eq _))) (Or.inr (pur_eq _))) (Or.inr (pur_eq _))) (Or.inr (pur_eq _))) (Or.inr (pur_eq _))) (Or.inr (pur_eq _))) (Or.inr (pur_eq _))) (Or.inr (pur_eq _))) (Or.inr (pur_eq _))) (Or.inr (pur_eq _))) (Or.inr (pur_eq _))) (Or.inr (pur_eq _))) (Or.inr (pur_eq _))
   ·refine all_lt1 (all_lt1 (all_lt1 (all_lt1 (all_lt1 (all_lt1 (all_lt1 (all_lt1 (all_lt1 (all_lt1 (all_lt1 (all_lt1 (all_lt1 (all_lt1 (all_lt1 (all_lt1 (all_lt1 (all_lt1 (all_lt1 (all_lt1 (all_lt1 (all_lt1 (all_lt1 (all_lt1 (all_lt1 (all_lt1 (all_lt1 (all_lt1 (all_lt1 (all_lt1 (all_lt1 (all_lt1 (all_lt1 (all_lt1 (all_lt1 (all_lt1 (all_lt1 (all_lt1 (all_lt1 (all_lt1 (all_lt1 (all_lt1 (all_lt1 (all_lt1 (all_lt1 (all_lt1 (all_lt1 (all_lt1 (all_lt1 (all_lt1 (all_lt1 (all_lt1 (all_lt1 (all_lt1 (all_lt1 (all_lt1 (all_lt1 (all_lt1 (all_lt1 (all_lt1 (all_lt1 (all_lt1 (all_lt1 (all_lt1 (all_lt1 (all_lt1 (all_lt1 (all_lt1 (all_lt1 (all_lt1 (all_lt1 (all_lt1 (all_lt1 (all_lt1 (all_lt1 (all_lt1 (all_lt1 (all_lt1 (all_lt1 (all_lt1 (all_lt1 (all_lt1 (all_lt1 (all_lt1 (all_lt1 (all_lt1 (all_lt1 (all_lt1 (all_lt1 (all_lt1 (all_lt1 (all_lt1 (all_lt1 (all_lt0) ?c0) ?c1) ?c2) ?c3) ?c4) ?c5) ?c6) ?c7) ?c8) ?c9) ?c10) ?c11) ?c12) ?c13) ?c14) ?c15) ?c16) ?c17) ?c18) ?c19) ?c20) ?c21) ?c22) ?c23) ?c24) ?c25) ?c26) ?c27) ?c28) ?c29) ?c30) ?c31) ?c32) ?c33) ?c34) ?c35) ?c36) ?c37) ?c38) ?c39) ?c40) ?c41) ?c42) ?c43) ?c44) ?c45) ?c46) ?c47) ?c48) ?c49) ?c50) ?c51) ?c52) ?c53) ?c54) ?c55) ?c56) ?c57) ?c58) ?c59) ?c60) ?c61) ?c62) ?c63) ?c64) ?c65) ?c66) ?c67) ?c68) ?c69) ?c70) ?c71) ?c72) ?c73) ?c74) ?c75) ?c76) ?c77) ?c78) ?c79) ?c80) ?c81) ?c82) ?c83) ?c84) ?c85) ?c86) ?c87) ?c88) ?c89) ?c90) ?c91) ?c92
    case c0 =>
     exact iq (d := 84) (.pointer (some ⟨mk, 3, none⟩)) rfl (fun _ _ => rfl) (fun a W hf hC hn => y_faMessage3 (ρ := a.eval) (.tmp 4) (b := mk) (off := 0) rfl (hf.ev (by kernel_rfl) h4) W)
    case c1 =>
     exact iq (d := 85) (.int .i64 seq) rfl (fun _ _ => rfl) (fun a W hf hC hn => y_ldint64 (ρ := a.eval) (.tmp 84) (ad := ⟨mk, 3, none⟩) rfl (hn 0 (by decide)) W (HBM.out W hC 3 _ rfl))
    case c2 =>
     exact iq (d := 86) (.bool p86) rfl (fun _ _ => rfl) (fun a W hf hC hn => (by rw [<- HP86.out]; exact y_lss_int64 (ρ := a.eval) (.tmp 85) (.const (.int .i64 (1))) (x := seq) (y := (1)) rfl (hn 1 (by decide)) rfl W))
    case c3 =>
     exact iq (d := 87) (.bool p86) rfl (fun _ _ => rfl) (fun a W hf hC hn => y_move (ρ := a.eval) (.tmp 86) rfl (hn 2 (by decide)) W)
    case c4 =>
     exact istep_g0 (d := 88) (j := 3) (dj := 87) p86 false (.pointer (some ⟨mk, 3, none⟩)) ⟨some 88, _, _, _, _, some (3, false)⟩ ⟨some 87, _, _, _, _, none⟩ rfl rfl rfl rfl rfl (fun a w' hf hC hn => hn 3 (by decide)) (fun _ _ => rfl) (fun a W hf hC hn hG0 => y_faMessage3 (ρ := a.eval) (.tmp 4) (b := mk) (off := 0) rfl (hf.ev (by kernel_rfl) h4) W)
    case c5 =>
     exact istep_g0 (d := 89) (j := 3) (dj := 87) p86 false (.int .i64 seq) ⟨some 89, _, _, _, _, some (3, false)⟩ ⟨some 87, _, _, _, _, none⟩ rfl rfl rfl rfl rfl (fun a w' hf hC hn => hn 3 (by decide)) (fun _ _ => rfl) (fun a W hf hC hn hG0 => y_ldint64 (ρ := a.eval) (.tmp 88) (ad := ⟨mk, 3, none⟩) rfl (gv_of (hn 4 (by decide)) hG0) W (HBM.out W hC 3 _ rfl))
    case c6 =>
     exact istep_g0 (d := 90) (j := 3) (dj := 87) p86 false (.pointer (some ⟨w.heap.size, 2, none⟩)) ⟨some 90, _, _, _, _, some (3, false)⟩ ⟨some 87, _, _, _, _, none⟩ rfl rfl rfl rfl rfl (fun a w' hf hC hn => hn 3 (by decide)) (fun _ _ => rfl) (fun a W hf hC hn hG0 => y_faState2 (ρ := a.eval) (.tmp 1) (b := w.heap.size) (off := 0) rfl (hf.ev (by kernel_rfl) h1) W)
    case c7 =>
     exact istep_g0 (d := 91) (j := 3) (dj := 87) p86 false (.int .i64 s.nseq) ⟨some 91, _, _, _, _, some (3, false)⟩ ⟨some 87, _, _, _, _, none⟩ rfl rfl rfl rfl rfl (fun a w' hf hC hn => hn 3 (by decide)) (fun _ _ => rfl) (fun a W hf hC hn hG0 => y_ldint64 (ρ := a.eval) (.tmp 90) (ad := ⟨w.heap.size, 2, none⟩) rfl (gv_of (hn 6 (by decide)) hG0) W (HBS.out W hC 2 _ rfl))
    case c8 =>
     exact istep_g0 (d := 92) (j := 3) (dj := 87) p86 false (.bool p92) ⟨some 92, _, _, _, _, some (3, false)⟩ ⟨some 87, _, _, _, _, none⟩ rfl rfl rfl rfl rfl (fun a w' hf hC hn => hn 3 (by decide)) (fun _ _ => rfl) (fun a W hf hC hn hG0 => (by rw [<- HP92.out]; exact y_geq_int64 (ρ := a.eval) (.tmp 89) (.tmp 91) (x := seq) (y := s.nseq) rfl (gv_of (hn 5 (by decide)) hG0) (gv_of (hn 7 (by decide)) hG0) W))
    case c9 =>
     exact iq (d := 93) (.bool p93) rfl (fun _ _ => rfl) (fun a W hf hC hn => (by rw [<- HP93.out]; exact y_por (ρ := a.eval) (.tmp 87) (.tmp 92) (c := p86) (e := p92) rfl (hn 3 (by decide)) (fun hc => (gv_of (hn 8 (by decide)) (geqb hc))) rfl W))
    case c10 =>
     exact iq (d := 94) (.bool p93) rfl (fun _ _ => rfl) (fun a W hf hC hn => y_move (ρ := a.eval) (.tmp 93) rfl (hn 9 (by decide)) W)
    case c11 =>
     exact istep_g0 (d := 95) (j := 10) (dj := 94) p93 false (.int .i64 ((k : Nat) : Int)) ⟨some 95, _, _, _, _, some (10, false)⟩ ⟨some 94, _, _, _, _, none⟩ rfl rfl rfl rfl rfl (fun a w' hf hC hn => hn 10 (by decide)) (fun _ _ => rfl) (fun a W hf hC hn hG0 => y_move (ρ := a.eval) (.tmp 3) rfl (hf.ev (by kernel_rfl) h3) W)
    case c12 =>
     exact istep_g0 (d := 96) (j := 10) (dj := 94) p93 false (.bool p96) ⟨some 96, _, _, _, _, some (10, false)⟩ ⟨some 94, _, _, _, _, none⟩ rfl rfl rfl rfl rfl (fun a w' hf hC hn => hn 10 (by decide)) (fun _ _ => rfl) (fun a W hf hC hn hG0 => (by rw [<- HP96.out]; exact y_gtr_int (ρ := a.eval) (.tmp 95) (.const (.int .i64 (0))) (x := ((k : Nat) : Int)) (y := (0)) rfl (gv_of (hn 11 (by decide)) hG0) rfl W))
    case c13 =>
     exact istep_g0 (d := 97) (j := 10) (dj := 94) p93 false (.bool p96) ⟨some 97, _, _, _, _, some (10, false)⟩ ⟨some 94, _, _, _, _, none⟩ rfl rfl rfl rfl rfl (fun a w' hf hC hn => hn 10 (by decide)) (fun _ _ => rfl) (fun a W hf hC hn hG0 => y_move (ρ := a.eval) (.tmp 96) rfl (gv_of (hn 12 (by decide)) hG0) W)
    case c14 =>
     exact istep_g (d := 98) (j := 13) (dj := 97) (p93 == false) p96 true (.pointer (some ⟨mk, 3, none⟩)) ⟨some 98, _, _, _, _, some (13, true)⟩ ⟨some 97, _, _, _, _, some (10, false)⟩ rfl rfl rfl rfl rfl (fun a w' hf hC hn => hn 13 (by decide)) (fun _ _ => rfl) (fun a W hf hC hn hG0 => y_faMessage3 (ρ := a.eval) (.tmp 4) (b := mk) (off := 0) rfl (hf.ev (by kernel_rfl) h4) W)
    case c15 =>
     exact istep_g (d := 99) (j := 13) (dj := 97) (p93 == false) p96 true (.int .i64 seq) ⟨some 99, _, _, _, _, some (13, true)⟩ ⟨some 97, _, _, _, _, some (10, false)⟩ rfl rfl rfl rfl rfl (fun a w' hf hC hn => hn 13 (by decide)) (fun _ _ => rfl) (fun a W hf hC hn hG0 => y_ldint64 (ρ := a.eval) (.tmp 98) (ad := ⟨mk, 3, none⟩) rfl (gv_of (hn 14 (by decide)) hG0) W (HBM.out W hC 3 _ rfl))
    case c16 =>
     exact istep_g (d := 100) (j := 13) (dj := 97) (p93 == false) p96 true (.pointer (some ⟨w.heap.size, 4, none⟩)) ⟨some 100, _, _, _, _, some (13, true)⟩ ⟨some 97, _, _, _, _, some (10, false)⟩ rfl rfl rfl rfl rfl (fun a w' hf hC hn => hn 13 (by decide)) (fun _ _ => rfl) (fun a W hf hC hn hG0 => y_faState4 (ρ := a.eval) (.tmp 1) (b := w.heap.size) (off := 0) rfl (hf.ev (by kernel_rfl) h1) W)
    case c17 =>
     exact istep_g (d := 101) (j := 13) (dj := 97) (p93 == false) p96 true (.slice (some ⟨b, o, none⟩) nm cm) ⟨some 101, _, _, _, _, some (13, true)⟩ ⟨some 97, _, _, _, _, some (10, false)⟩ rfl rfl rfl rfl rfl (fun a w' hf hC hn => hn 13 (by decide)) (fun _ _ => rfl) (fun a W hf hC hn hG0 => y_ldSMessage (ρ := a.eval) (.tmp 100) (ad := ⟨w.heap.size, 4, none⟩) rfl (gv_of (hn 16 (by decide)) hG0) W (HBS.out W hC 4 _ rfl))
    case c18 =>
     exact istep_g (d := 102) (j := 13) (dj := 97) (p93 == false) p96 true (.int .i64 ((k : Nat) : Int)) ⟨some 102, _, _, _, _, some (13, true)⟩ ⟨some 97, _, _, _, _, some (10, false)⟩ rfl rfl rfl rfl rfl (fun a w' hf hC hn => hn 13 (by decide)) (fun _ _ => rfl) (fun a W hf hC hn hG0 => y_move (ρ := a.eval) (.tmp 3) rfl (hf.ev (by kernel_rfl) h3) W)
    case c19 =>
     exact istep_g (d := 103) (j := 13) (dj := 97) (p93 == false) p96 true (.int .i64 ((k - 1 : Nat) : Int)) ⟨some 103, _, _, _, _, some (13, true)⟩ ⟨some 97, _, _, _, _, some (10, false)⟩ rfl rfl rfl rfl rfl (fun a w' hf hC hn => hn 13 (by decide)) (fun _ _ => rfl) (fun a W hf hC hn hG0 => y_sub_int (ρ := a.eval) (.tmp 102) (.const (.int .i64 (1))) (x := ((k : Nat) : Int)) (y := (1)) rfl (gv_of (hn 18 (by decide)) hG0) rfl (HSUB.out (HK0.out (and_r hG0))) W)
    case c20 =>
     exact istep_g (d := 104) (j := 13) (dj := 97) (p93 == false) p96 true (.pointer (some ⟨b, o + (k - 1) * 6, none⟩)) ⟨some 104, _, _, _, _, some (13, true)⟩ ⟨some 97, _, _, _, _, some (10, false)⟩ rfl rfl rfl rfl rfl (fun a w' hf hC hn => hn 13 (by decide)) (fun _ _ => rfl) (fun a W hf hC hn hG0 => y_ixMessage (ρ := a.eval) (.tmp 101) (.tmp 103) (b := b) (off := o) (n := nm) (c := cm) (k := (k - 1)) rfl (gv_of (hn 17 (by decide)) hG0) (gv_of (hn 19 (by decide)) hG0) (by omega) W)
    case c21 =>
     exact istep_g (d := 105) (j := 13) (dj := 97) (p93 == false) p96 true (.pointer (some ⟨b, o + (k - 1) * 6 + 3, none⟩)) ⟨some 105, _, _, _, _, some (13, true)⟩ ⟨some 97, _, _, _, _, some (10, false)⟩ rfl rfl rfl rfl rfl (fun a w' hf hC hn => hn 13 (by decide)) (fun _ _ => rfl) (fun a W hf hC hn hG0 => y_faMessage3 (ρ := a.eval) (.tmp 104) (b := b) (off := o + (k - 1) * 6) rfl (gv_of (hn 20 (by decide)) hG0) W)
    case c22 =>
     exact istep_g (d := 106) (j := 13) (dj := 97) (p93 == false) p96 true (.int .i64 s1) ⟨some 106, _, _, _, _, some (13, true)⟩ ⟨some 97, _, _, _, _, some (10, false)⟩ rfl rfl rfl rfl rfl (fun a w' hf hC hn => hn 13 (by decide)) (fun _ _ => rfl) (fun a W hf hC hn hG0 => y_ldint64 (ρ := a.eval) (.tmp 105) (ad := ⟨b, o + (k - 1) * 6 + 3, none⟩) rfl (gv_of (hn 21 (by decide)) hG0) W (HE1.out (HK0.out (and_r hG0)) W hC))
    case c23 =>
     exact istep_g (d := 107) (j := 13) (dj := 97) (p93 == false) p96 true (.bool p107) ⟨some 107, _, _, _, _, some (13, true)⟩ ⟨some 97, _, _, _, _, some (10, false)⟩ rfl rfl rfl rfl rfl (fun a w' hf hC hn => hn 13 (by decide)) (fun _ _ => rfl) (fun a W hf hC hn hG0 => (by rw [<- HP107.out]; exact y_leq_int64 (ρ := a.eval) (.tmp 99) (.tmp 106) (x := seq) (y := s1) rfl (gv_of (hn 15 (by decide)) hG0) (gv_of (hn 22 (by decide)) hG0) W))
    case c24 =>
     exact istep_g0 (d := 108) (j := 10) (dj := 94) p93 false (.bool p108) ⟨some 108, _, _, _, _, some (10, false)⟩ ⟨some 94, _, _, _, _, none⟩ rfl rfl rfl rfl rfl (fun a w' hf hC hn => hn 10 (by decide)) (fun _ _ => rfl) (fun a W hf hC hn hG0 => (by rw [<- HP108.out]; exact y_pand (ρ := a.eval) (.tmp 97) (.tmp 107) (c := p96) (e := p107) rfl (gv_of (hn 13 (by decide)) hG0) (fun hc => (gv_of (hn 23 (by decide)) (gand hG0 hc))) rfl W))
    case c25 =>
     exact iq (d := 109) (.bool p109) rfl (fun _ _ => rfl) (fun a W hf hC hn => (by rw [<- HP109.out]; exact y_por (ρ := a.eval) (.tmp 94) (.tmp 108) (c := p93) (e := p108) rfl (hn 10 (by decide)) (fun hc => (gv_of (hn 24 (by decide)) (geqb hc))) rfl W))
    case c26 =>
     exact iq (d := 110) (.bool p109) rfl (fun _ _ => rfl) (fun a W hf hC hn => y_move (ρ := a.eval) (.tmp 109) rfl (hn 25 (by decide)) W)
    case c27 =>
     exact istep_g0 (d := 111) (j := 26) (dj := 110) p109 false (.agg #[.int .i64 s.broker, .int .i64 s.nid, .int .i64 s.nseq, .int .i64 s.tx, .slice (some ⟨b, o, none⟩) nm cm, .slice aw nw cw, .slice ae ne ce, .slice ao no co, .slice an nn cn]) ⟨some 111, _, _, _, _, some (26, false)⟩ ⟨some 110, _, _, _, _, none⟩ rfl rfl rfl rfl rfl (fun a w' hf hC hn => hn 26 (by decide)) (fun _ _ => rfl) (fun a W hf hC hn hG0 => y_ldState (ρ := a.eval) (.tmp 1) (b := w.heap.size) (off := 0) rfl (hf.ev (by kernel_rfl) h1) W (HBS.out W hC 0 _ rfl) (HBS.out W hC 1 _ rfl) (HBS.out W hC 2 _ rfl) (HBS.out W hC 3 _ rfl) (HBS.out W hC 4 _ rfl) (HBS.out W hC 5 _ rfl) (HBS.out W hC 6 _ rfl) (HBS.out W hC 7 _ rfl) (HBS.out W hC 8 _ rfl))
    case c28 =>
     exact istep_g0 (d := 112) (j := 26) (dj := 110) p109 false (.pointer (some ⟨mk, 0, none⟩)) ⟨some 112, _, _, _, _, some (26, false)⟩ ⟨some 110, _, _, _, _, none⟩ rfl rfl rfl rfl rfl (fun a w' hf hC hn => hn 26 (by decide)) (fun _ _ => rfl) (fun a W hf hC hn hG0 => y_faMessage0 (ρ := a.eval) (.tmp 4) (b := mk) (off := 0) rfl (hf.ev (by kernel_rfl) h4) W)
    case c29 =>
     exact istep_g0 (d := 113) (j := 26) (dj := 110) p109 false (.int .i64 id) ⟨some 113, _, _, _, _, some (26, false)⟩ ⟨some 110, _, _, _, _, none⟩ rfl rfl rfl rfl rfl (fun a w' hf hC hn => hn 26 (by decide)) (fun _ _ => rfl) (fun a W hf hC hn hG0 => y_ldint64 (ρ := a.eval) (.tmp 112) (ad := ⟨mk, 0, none⟩) rfl (gv_of (hn 28 (by decide)) hG0) W (HBM.out W hC 0 _ rfl))
    case c30 =>
     exact istep_gc0 (d := 114) (j := 26) (dj := 110) p109 false (.int .i64 jm) ⟨some 114, _, _, _, _, some (26, false)⟩ ⟨some 110, _, _, _, _, none⟩ rfl rfl rfl rfl rfl (fun a w' hf hC hn => hn 26 (by decide)) (hF := Tryz.func27) (by kernel_rfl) (by kernel_rfl) [(.tmp 111), (.tmp 113)] #[27, 2] rfl [.agg #[.int .i64 s.broker, .int .i64 s.nid, .int .i64 s.nseq, .int .i64 s.tx, .slice (some ⟨b, o, none⟩) nm cm, .slice aw nw cw, .slice ae ne ce, .slice ao no co, .slice an nn cn], .int .i64 id] (fun a W hf hC hn hG0 => map2 (gv_of (hn 27 (by decide)) hG0) (gv_of (hn 29 (by decide)) hG0)) (fun hG0 => HAM.out) (fun _ _ h t => h.trans0 t) (rl_stb hlist) (fun _ _ => rfl)
    case c31 =>
     exact istep_g0 (d := 115) (j := 26) (dj := 110) p109 false (.int .i64 ((k : Nat) : Int)) ⟨some 115, _, _, _, _, some (26, false)⟩ ⟨some 110, _, _, _, _, none⟩ rfl rfl rfl rfl rfl (fun a w' hf hC hn => hn 26 (by decide)) (fun _ _ => rfl) (fun a W hf hC hn hG0 => y_move (ρ := a.eval) (.tmp 3) rfl (hf.ev (by kernel_rfl) h3) W)
    case c32 =>
     exact istep_g0 (d := 116) (j := 26) (dj := 110) p109 false (.bool p116) ⟨some 116, _, _, _, _, some (26, false)⟩ ⟨some 110, _, _, _, _, none⟩ rfl rfl rfl rfl rfl (fun a w' hf hC hn => hn 26 (by decide)) (fun _ _ => rfl) (fun a W hf hC hn hG0 => (by rw [<- HP116.out]; exact y_neq_int (ρ := a.eval) (.tmp 114) (.tmp 115) (x := jm) (y := ((k : Nat) : Int)) rfl (gv_of (hn 30 (by decide)) hG0) (gv_of (hn 31 (by decide)) hG0) W))
    case c33 =>
     exact iq (d := 117) (.bool p117) rfl (fun _ _ => rfl) (fun a W hf hC hn => (by rw [<- HP117.out]; exact y_por (ρ := a.eval) (.tmp 110) (.tmp 116) (c := p109) (e := p116) rfl (hn 26 (by decide)) (fun hc => (gv_of (hn 32 (by decide)) (geqb hc))) rfl W))
    case c34 =>
     exact iq (d := 118) (.bool p117) rfl (fun _ _ => rfl) (fun a W hf hC hn => y_move (ρ := a.eval) (.tmp 117) rfl (hn 33 (by decide)) W)
    case c35 =>
     exact istep_g0 (d := 119) (j := 34) (dj := 118) p117 false (.pointer (some ⟨mk, 0, none⟩)) ⟨some 119, _, _, _, _, some (34, false)⟩ ⟨some 118, _, _, _, _, none⟩ rfl rfl rfl rfl rfl (fun a w' hf hC hn => hn 34 (by decide)) (fun _ _ => rfl) (fun a W hf hC hn hG0 => y_faMessage0 (ρ := a.eval) (.tmp 4) (b := mk) (off := 0) rfl (hf.ev (by kernel_rfl) h4) W)
    case c36 =>
     exact istep_g0 (d := 120) (j := 34) (dj := 118) p117 false (.int .i64 id) ⟨some 120, _, _, _, _, some (34, false)⟩ ⟨some 118, _, _, _, _, none⟩ rfl rfl rfl rfl rfl (fun a w' hf hC hn => hn 34 (by decide)) (fun _ _ => rfl) (fun a W hf hC hn hG0 => y_ldint64 (ρ := a.eval) (.tmp 119) (ad := ⟨mk, 0, none⟩) rfl (gv_of (hn 35 (by decide)) hG0) W (HBM.out W hC 0 _ rfl))
    case c37 =>
     exact istep_gc0 (d := 121) (j := 34) (dj := 118) p117 false (.int .i64 hm) ⟨some 121, _, _, _, _, some (34, false)⟩ ⟨some 118, _, _, _, _, none⟩ rfl rfl rfl rfl rfl (fun a w' hf hC hn => hn 34 (by decide)) (hF := Tryz.func54) (by kernel_rfl) (by kernel_rfl) [(.tmp 120)] #[2] rfl [.int .i64 id] (fun a W hf hC hn hG0 => map1 (gv_of (hn 36 (by decide)) hG0)) (fun hG0 => HHt.out) (fun _ _ h t => h.trans0 t) (rl_stb hlist) (fun _ _ => rfl)
    case c38 =>
     exact istep_g0 (d := 122) (j := 34) (dj := 118) p117 false (.pointer (some ⟨w.heap.size, 0, none⟩)) ⟨some 122, _, _, _, _, some (34, false)⟩ ⟨some 118, _, _, _, _, none⟩ rfl rfl rfl rfl rfl (fun a w' hf hC hn => hn 34 (by decide)) (fun _ _ => rfl) (fun a W hf hC hn hG0 => y_faState0 (ρ := a.eval) (.tmp 1) (b := w.heap.size) (off := 0) rfl (hf.ev (by kernel_rfl) h1) W)
    case c39 =>
     exact istep_g0 (d := 123) (j := 34) (dj := 118) p117 false (.int .i64 s.broker) ⟨some 123, _, _, _, _, some (34, false)⟩ ⟨some 118, _, _, _, _, none⟩ rfl rfl rfl rfl rfl (fun a w' hf hC hn => hn 34 (by decide)) (fun _ _ => rfl) (fun a W hf hC hn hG0 => y_ldint (ρ := a.eval) (.tmp 122) (ad := ⟨w.heap.size, 0, none⟩) rfl (gv_of (hn 38 (by decide)) hG0) W (HBS.out W hC 0 _ rfl))
    case c40 =>
     exact istep_g0 (d := 124) (j := 34) (dj := 118) p117 false (.bool p124) ⟨some 124, _, _, _, _, some (34, false)⟩ ⟨some 118, _, _, _, _, none⟩ rfl rfl rfl rfl rfl (fun a w' hf hC hn => hn 34 (by decide)) (fun _ _ => rfl) (fun a W hf hC hn hG0 => (by rw [<- HP124.out]; exact y_neq_int (ρ := a.eval) (.tmp 121) (.tmp 123) (x := hm) (y := s.broker) rfl (gv_of (hn 37 (by decide)) hG0) (gv_of (hn 39 (by decide)) hG0) W))
    case c41 =>
     exact iq (d := 125) (.bool p125) rfl (fun _ _ => rfl) (fun a W hf hC hn => (by rw [<- HP125.out]; exact y_por (ρ := a.eval) (.tmp 118) (.tmp 124) (c := p117) (e := p124) rfl (hn 34 (by decide)) (fun hc => (gv_of (hn 40 (by decide)) (geqb hc))) rfl W))
    case c42 =>
     exact iq (d := 126) (.bool p125) rfl (fun _ _ => rfl) (fun a W hf hC hn => y_move (ρ := a.eval) (.tmp 125) rfl (hn 41 (by decide)) W)
    case c43 =>
     exact istep_g0 (d := 127) (j := 42) (dj := 126) p125 false (.pointer (some ⟨mk, 0, none⟩)) ⟨some 127, _, _, _, _, some (42, false)⟩ ⟨some 126, _, _, _, _, none⟩ rfl rfl rfl rfl rfl (fun a w' hf hC hn => hn 42 (by decide)) (fun _ _ => rfl) (fun a W hf hC hn hG0 => y_faMessage0 (ρ := a.eval) (.tmp 4) (b := mk) (off := 0) rfl (hf.ev (by kernel_rfl) h4) W)
    case c44 =>
     exact istep_g0 (d := 128) (j := 42) (dj := 126) p125 false (.int .i64 id) ⟨some 128, _, _, _, _, some (42, false)⟩ ⟨some 126, _, _, _, _, none⟩ rfl rfl rfl rfl rfl (fun a w' hf hC hn => hn 42 (by decide)) (fun _ _ => rfl) (fun a W hf hC hn hG0 => y_ldint64 (ρ := a.eval) (.tmp 127) (ad := ⟨mk, 0, none⟩) rfl (gv_of (hn 43 (by decide)) hG0) W (HBM.out W hC 0 _ rfl))
    case c45 =>
     exact istep_g0 (d := 129) (j := 42) (dj := 126) p125 false (.pointer (some ⟨w.heap.size, 0, none⟩)) ⟨some 129, _, _, _, _, some (42, false)⟩ ⟨some 126, _, _, _, _, none⟩ rfl rfl rfl rfl rfl (fun a w' hf hC hn => hn 42 (by decide)) (fun _ _ => rfl) (fun a W hf hC hn hG0 => y_faState0 (ρ := a.eval) (.tmp 1) (b := w.heap.size) (off := 0) rfl (hf.ev (by kernel_rfl) h1) W)
    case c46 =>
     exact istep_g0 (d := 130) (j := 42) (dj := 126) p125 false (.int .i64 s.broker) ⟨some 130, _, _, _, _, some (42, false)⟩ ⟨some 126, _, _, _, _, none⟩ rfl rfl rfl rfl rfl (fun a w' hf hC hn => hn 42 (by decide)) (fun _ _ => rfl) (fun a W hf hC hn hG0 => y_ldint (ρ := a.eval) (.tmp 129) (ad := ⟨w.heap.size, 0, none⟩) rfl (gv_of (hn 45 (by decide)) hG0) W (HBS.out W hC 0 _ rfl))
    case c47 =>
     exact istep_g0 (d := 131) (j := 42) (dj := 126) p125 false (.int .i64 pb) ⟨some 131, _, _, _, _, some (42, false)⟩ ⟨some 126, _, _, _, _, none⟩ rfl rfl rfl rfl rfl (fun a w' hf hC hn => hn 42 (by decide)) (fun _ _ => rfl) (fun a W hf hC hn hG0 => y_mul_int64 (ρ := a.eval) (.tmp 130) (.const (.int .i64 (4294967296))) (x := s.broker) (y := (4294967296)) rfl (gv_of (hn 46 (by decide)) hG0) rfl HPW.out W)
    case c48 =>
     exact istep_g0 (d := 132) (j := 42) (dj := 126) p125 false (.int .i64 (IntKind.i64.wrap (id - pb))) ⟨some 132, _, _, _, _, some (42, false)⟩ ⟨some 126, _, _, _, _, none⟩ rfl rfl rfl rfl rfl (fun a w' hf hC hn => hn 42 (by decide)) (fun _ _ => rfl) (fun a W hf hC hn hG0 => y_sub_int64 (ρ := a.eval) (.tmp 128) (.tmp 131) (x := id) (y := pb) rfl (gv_of (hn 44 (by decide)) hG0) (gv_of (hn 47 (by decide)) hG0) rfl W)
    case c49 =>
     exact istep_g0 (d := 133) (j := 42) (dj := 126) p125 false (.pointer (some ⟨w.heap.size, 1, none⟩)) ⟨some 133, _, _, _, _, some (42, false)⟩ ⟨some 126, _, _, _, _, none⟩ rfl rfl rfl rfl rfl (fun a w' hf hC hn => hn 42 (by decide)) (fun _ _ => rfl) (fun a W hf hC hn hG0 => y_faState1 (ρ := a.eval) (.tmp 1) (b := w.heap.size) (off := 0) rfl (hf.ev (by kernel_rfl) h1) W)
    case c50 =>
     exact istep_g0 (d := 134) (j := 42) (dj := 126) p125 false (.int .i64 s.nid) ⟨some 134, _, _, _, _, some (42, false)⟩ ⟨some 126, _, _, _, _, none⟩ rfl rfl rfl rfl rfl (fun a w' hf hC hn => hn 42 (by decide)) (fun _ _ => rfl) (fun a W hf hC hn hG0 => y_ldint64 (ρ := a.eval) (.tmp 133) (ad := ⟨w.heap.size, 1, none⟩) rfl (gv_of (hn 49 (by decide)) hG0) W (HBS.out W hC 1 _ rfl))
    case c51 =>
     exact istep_g0 (d := 135) (j := 42) (dj := 126) p125 false (.bool p135) ⟨some 135, _, _, _, _, some (42, false)⟩ ⟨some 126, _, _, _, _, none⟩ rfl rfl rfl rfl rfl (fun a w' hf hC hn => hn 42 (by decide)) (fun _ _ => rfl) (fun a W hf hC hn hG0 => (by rw [<- HP135.out]; exact y_geq_int64 (ρ := a.eval) (.tmp 132) (.tmp 134) (x := (IntKind.i64.wrap (id - pb))) (y := s.nid) rfl (gv_of (hn 48 (by decide)) hG0) (gv_of (hn 50 (by decide)) hG0) W))
    case c52 =>
     exact iq (d := 136) (.bool p136) rfl (fun _ _ => rfl) (fun a W hf hC hn => (by rw [<- HP136.out]; exact y_por (ρ := a.eval) (.tmp 126) (.tmp 135) (c := p125) (e := p135) rfl (hn 42 (by decide)) (fun hc => (gv_of (hn 51 (by decide)) (geqb hc))) rfl W))
    case c53 =>
     exact iq (d := 137) (.bool p136) rfl (fun _ _ => rfl) (fun a W hf hC hn => y_move (ρ := a.eval) (.tmp 136) rfl (hn 52 (by decide)) W)
    case c54 =>
     exact istep_g0 (d := 138) (j := 53) (dj := 137) p136 false (.pointer (some ⟨mk, 1, none⟩)) ⟨some 138, _, _, _, _, some (53, false)⟩ ⟨some 137, _, _, _, _, none⟩ rfl rfl rfl rfl rfl (fun a w' hf hC hn => hn 53 (by decide)) (fun _ _ => rfl) (fun a W hf hC hn hG0 => y_faMessage1 (ρ := a.eval) (.tmp 4) (b := mk) (off := 0) rfl (hf.ev (by kernel_rfl) h4) W)
    case c55 =>
     exact istep_g0 (d := 139) (j := 53) (dj := 137) p136 false (.string sq) ⟨some 139, _, _, _, _, some (53, false)⟩ ⟨some 137, _, _, _, _, none⟩ rfl rfl rfl rfl rfl (fun a w' hf hC hn => hn 53 (by decide)) (fun _ _ => rfl) (fun a W hf hC hn hG0 => y_ldstring (ρ := a.eval) (.tmp 138) (ad := ⟨mk, 1, none⟩) rfl (gv_of (hn 54 (by decide)) hG0) W (HBM.out W hC 1 _ rfl))
    case c56 =>
     exact istep_gc0 (d := 140) (j := 53) (dj := 137) p136 false (.bool bq) ⟨some 140, _, _, _, _, some (53, false)⟩ ⟨some 137, _, _, _, _, none⟩ rfl rfl rfl rfl rfl (fun a w' hf hC hn => hn 53 (by decide)) (hF := Tryz.func55) (by kernel_rfl) (by kernel_rfl) [(.tmp 139)] #[9] rfl [.string sq] (fun a W hf hC hn hG0 => map1 (gv_of (hn 55 (by decide)) hG0)) (fun hG0 => HQt.out) (fun _ _ h t => h.trans0 t) (rl_stb hlist) (fun _ _ => rfl)
    case c57 =>
     exact istep_g0 (d := 141) (j := 53) (dj := 137) p136 false (.bool p141) ⟨some 141, _, _, _, _, some (53, false)⟩ ⟨some 137, _, _, _, _, none⟩ rfl rfl rfl rfl rfl (fun a w' hf hC hn => hn 53 (by decide)) (fun _ _ => rfl) (fun a W hf hC hn hG0 => (by rw [<- HP141.out]; exact y_not (ρ := a.eval) (.tmp 140) (b := bq) rfl (gv_of (hn 56 (by decide)) hG0) W))
    case c58 =>
     exact iq (d := 142) (.bool p142) rfl (fun _ _ => rfl) (fun a W hf hC hn => (by rw [<- HP142.out]; exact y_por (ρ := a.eval) (.tmp 137) (.tmp 141) (c := p136) (e := p141) rfl (hn 53 (by decide)) (fun hc => (gv_of (hn 57 (by decide)) (geqb hc))) rfl W))
    case c59 =>
     exact iq (d := 143) (.bool p142) rfl (fun _ _ => rfl) (fun a W hf hC hn => y_move (ρ := a.eval) (.tmp 142) rfl (hn 58 (by decide)) W)
    case c60 =>
     exact istep_g0 (d := 144) (j := 59) (dj := 143) p142 false (.pointer (some ⟨mk, 2, none⟩)) ⟨some 144, _, _, _, _, some (59, false)⟩ ⟨some 143, _, _, _, _, none⟩ rfl rfl rfl rfl rfl (fun a w' hf hC hn => hn 59 (by decide)) (fun _ _ => rfl) (fun a W hf hC hn hG0 => y_faMessage2 (ρ := a.eval) (.tmp 4) (b := mk) (off := 0) rfl (hf.ev (by kernel_rfl) h4) W)
    case c61 =>
     exact istep_g0 (d := 145) (j := 59) (dj := 143) p142 false (.string sb) ⟨some 145, _, _, _, _, some (59, false)⟩ ⟨some 143, _, _, _, _, none⟩ rfl rfl rfl rfl rfl (fun a w' hf hC hn => hn 59 (by decide)) (fun _ _ => rfl) (fun a W hf hC hn hG0 => y_ldstring (ρ := a.eval) (.tmp 144) (ad := ⟨mk, 2, none⟩) rfl (gv_of (hn 60 (by decide)) hG0) W (HBM.out W hC 2 _ rfl))
    case c62 =>
     exact istep_gc0 (d := 146) (j := 59) (dj := 143) p142 false (.bool bb) ⟨some 146, _, _, _, _, some (59, false)⟩ ⟨some 143, _, _, _, _, none⟩ rfl rfl rfl rfl rfl (fun a w' hf hC hn => hn 59 (by decide)) (hF := Tryz.func56) (by kernel_rfl) (by kernel_rfl) [(.tmp 145)] #[9] rfl [.string sb] (fun a W hf hC hn hG0 => map1 (gv_of (hn 61 (by decide)) hG0)) (fun hG0 => HBt.out) (fun _ _ h t => h.trans0 t) (rl_stb hlist) (fun _ _ => rfl)
    case c63 =>
     exact istep_g0 (d := 147) (j := 59) (dj := 143) p142 false (.bool p147) ⟨some 147, _, _, _, _, some (59, false)⟩ ⟨some 143, _, _, _, _, none⟩ rfl rfl rfl rfl rfl (fun a w' hf hC hn => hn 59 (by decide)) (fun _ _ => rfl) (fun a W hf hC hn hG0 => (by rw [<- HP147.out]; exact y_not (ρ := a.eval) (.tmp 146) (b := bb) rfl (gv_of (hn 62 (by decide)) hG0) W))
    case c64 =>
     exact iq (d := 148) (.bool p148) rfl (fun _ _ => rfl) (fun a W hf hC hn => (by rw [<- HP148.out]; exact y_por (ρ := a.eval) (.tmp 143) (.tmp 147) (c := p142) (e := p147) rfl (hn 59 (by decide)) (fun hc => (gv_of (hn 63 (by decide)) (geqb hc))) rfl W))
    case c65 =>
     exact iq (d := 149) (.bool p148) rfl (fun _ _ => rfl) (fun a W hf hC hn => y_move (ρ := a.eval) (.tmp 148) rfl (hn 64 (by decide)) W)
    case c66 =>
     exact istep_g0 (d := 150) (j := 65) (dj := 149) p148 false (.pointer (some ⟨mk, 4, none⟩)) ⟨some 150, _, _, _, _, some (65, false)⟩ ⟨some 149, _, _, _, _, none⟩ rfl rfl rfl rfl rfl (fun a w' hf hC hn => hn 65 (by decide)) (fun _ _ => rfl) (fun a W hf hC hn hG0 => y_faMessage4 (ρ := a.eval) (.tmp 4) (b := mk) (off := 0) rfl (hf.ev (by kernel_rfl) h4) W)
    case c67 =>
     exact istep_g0 (d := 151) (j := 65) (dj := 149) p148 false (.int .i64 cnt) ⟨some 151, _, _, _, _, some (65, false)⟩ ⟨some 149, _, _, _, _, none⟩ rfl rfl rfl rfl rfl (fun a w' hf hC hn => hn 65 (by decide)) (fun _ _ => rfl) (fun a W hf hC hn hG0 => y_ldint (ρ := a.eval) (.tmp 150) (ad := ⟨mk, 4, none⟩) rfl (gv_of (hn 66 (by decide)) hG0) W (HBM.out W hC 4 _ rfl))
    case c68 =>
     exact istep_g0 (d := 152) (j := 65) (dj := 149) p148 false (.bool p152) ⟨some 152, _, _, _, _, some (65, false)⟩ ⟨some 149, _, _, _, _, none⟩ rfl rfl rfl rfl rfl (fun a w' hf hC hn => hn 65 (by decide)) (fun _ _ => rfl) (fun a W hf hC hn hG0 => (by rw [<- HP152.out]; exact y_lss_int (ρ := a.eval) (.tmp 151) (.const (.int .i64 (0))) (x := cnt) (y := (0)) rfl (gv_of (hn 67 (by decide)) hG0) rfl W))
    case c69 =>
     exact iq (d := 153) (.bool p153) rfl (fun _ _ => rfl) (fun a W hf hC hn => (by rw [<- HP153.out]; exact y_por (ρ := a.eval) (.tmp 149) (.tmp 152) (c := p148) (e := p152) rfl (hn 65 (by decide)) (fun hc => (gv_of (hn 68 (by decide)) (geqb hc))) rfl W))
    case c70 =>
     exact iq (d := 154) (.bool p153) rfl (fun _ _ => rfl) (fun a W hf hC hn => y_move (ρ := a.eval) (.tmp 153) rfl (hn 69 (by decide)) W)
    case c71 =>
     exact istep_g0 (d := 155) (j := 70) (dj := 154) p153 false (.pointer (some ⟨mk, 4, none⟩)) ⟨some 155, _, _, _, _, some (70, false)⟩ ⟨some 154, _, _, _, _, none⟩ rfl rfl rfl rfl rfl (fun a w' hf hC hn => hn 70 (by decide)) (fun _ _ => rfl) (fun a W hf hC hn hG0 => y_faMessage4 (ρ := a.eval) (.tmp 4) (b := mk) (off := 0) rfl (hf.ev (by kernel_rfl) h4) W)
    case c72 =>
     exact istep_g0 (d := 156) (j := 70) (dj := 154) p153 false (.int .i64 cnt) ⟨some 156, _, _, _, _, some (70, false)⟩ ⟨some 154, _, _, _, _, none⟩ rfl rfl rfl rfl rfl (fun a w' hf hC hn => hn 70 (by decide)) (fun _ _ => rfl) (fun a W hf hC hn hG0 => y_ldint (ρ := a.eval) (.tmp 155) (ad := ⟨mk, 4, none⟩) rfl (gv_of (hn 71 (by decide)) hG0) W (HBM.out W hC 4 _ rfl))
    case c73 =>
     exact istep_g0 (d := 157) (j := 70) (dj := 154) p153 false (.bool p157) ⟨some 157, _, _, _, _, some (70, false)⟩ ⟨some 154, _, _, _, _, none⟩ rfl rfl rfl rfl rfl (fun a w' hf hC hn => hn 70 (by decide)) (fun _ _ => rfl) (fun a W hf hC hn hG0 => (by rw [<- HP157.out]; exact y_gtr_int (ρ := a.eval) (.tmp 156) (.const (.int .i64 (1000))) (x := cnt) (y := (1000)) rfl (gv_of (hn 72 (by decide)) hG0) rfl W))
    case c74 =>
     exact iq (d := 158) (.bool p158) rfl (fun _ _ => rfl) (fun a W hf hC hn => (by rw [<- HP158.out]; exact y_por (ρ := a.eval) (.tmp 154) (.tmp 157) (c := p153) (e := p157) rfl (hn 70 (by decide)) (fun hc => (gv_of (hn 73 (by decide)) (geqb hc))) rfl W))
    case c75 =>
     exact iq (d := 159) (.bool p158) rfl (fun _ _ => rfl) (fun a W hf hC hn => y_move (ρ := a.eval) (.tmp 158) rfl (hn 74 (by decide)) W)
    case c76 =>
     exact istep_g0 (d := 160) (j := 75) (dj := 159) p158 false (.pointer (some ⟨mk, 5, none⟩)) ⟨some 160, _, _, _, _, some (75, false)⟩ ⟨some 159, _, _, _, _, none⟩ rfl rfl rfl rfl rfl (fun a w' hf hC hn => hn 75 (by decide)) (fun _ _ => rfl) (fun a W hf hC hn hG0 => y_faMessage5 (ρ := a.eval) (.tmp 4) (b := mk) (off := 0) rfl (hf.ev (by kernel_rfl) h4) W)
    case c77 =>
     exact istep_g0 (d := 161) (j := 75) (dj := 159) p158 false (.int .i64 who) ⟨some 161, _, _, _, _, some (75, false)⟩ ⟨some 159, _, _, _, _, none⟩ rfl rfl rfl rfl rfl (fun a w' hf hC hn => hn 75 (by decide)) (fun _ _ => rfl) (fun a W hf hC hn hG0 => y_ldint64 (ρ := a.eval) (.tmp 160) (ad := ⟨mk, 5, none⟩) rfl (gv_of (hn 76 (by decide)) hG0) W (HBM.out W hC 5 _ rfl))
    case c78 =>
     exact istep_g0 (d := 162) (j := 75) (dj := 159) p158 false (.bool p162) ⟨some 162, _, _, _, _, some (75, false)⟩ ⟨some 159, _, _, _, _, none⟩ rfl rfl rfl rfl rfl (fun a w' hf hC hn => hn 75 (by decide)) (fun _ _ => rfl) (fun a W hf hC hn hG0 => (by rw [<- HP162.out]; exact y_neq_int64 (ρ := a.eval) (.tmp 161) (.const (.int .i64 (0))) (x := who) (y := (0)) rfl (gv_of (hn 77 (by decide)) hG0) rfl W))
    case c79 =>
     exact istep_g0 (d := 163) (j := 75) (dj := 159) p158 false (.bool p162) ⟨some 163, _, _, _, _, some (75, false)⟩ ⟨some 159, _, _, _, _, none⟩ rfl rfl rfl rfl rfl (fun a w' hf hC hn => hn 75 (by decide)) (fun _ _ => rfl) (fun a W hf hC hn hG0 => y_move (ρ := a.eval) (.tmp 162) rfl (gv_of (hn 78 (by decide)) hG0) W)
    case c80 =>
     exact istep_g (d := 164) (j := 79) (dj := 163) (p158 == false) p162 true (.pointer (some ⟨mk, 5, none⟩)) ⟨some 164, _, _, _, _, some (79, true)⟩ ⟨some 163, _, _, _, _, some (75, false)⟩ rfl rfl rfl rfl rfl (fun a w' hf hC hn => hn 79 (by decide)) (fun _ _ => rfl) (fun a W hf hC hn hG0 => y_faMessage5 (ρ := a.eval) (.tmp 4) (b := mk) (off := 0) rfl (hf.ev (by kernel_rfl) h4) W)
    case c81 =>
     exact istep_g (d := 165) (j := 79) (dj := 163) (p158 == false) p162 true (.int .i64 who) ⟨some 165, _, _, _, _, some (79, true)⟩ ⟨some 163, _, _, _, _, some (75, false)⟩ rfl rfl rfl rfl rfl (fun a w' hf hC hn => hn 79 (by decide)) (fun _ _ => rfl) (fun a W hf hC hn hG0 => y_ldint64 (ρ := a.eval) (.tmp 164) (ad := ⟨mk, 5, none⟩) rfl (gv_of (hn 80 (by decide)) hG0) W (HBM.out W hC 5 _ rfl))
    case c82 =>
     exact istep_gc (d := 166) (j := 79) (dj := 163) (p158 == false) p162 true (.bool bt) ⟨some 166, _, _, _, _, some (79, true)⟩ ⟨some 163, _, _, _, _, some (75, false)⟩ rfl rfl rfl rfl rfl (fun a w' hf hC hn => hn 79 (by decide)) (hF := Tryz.func57) (by kernel_rfl) (by kernel_rfl) [(.tmp 165)] #[2] rfl [.int .i64 who] (fun a W hf hC hn hG0 => map1 (gv_of (hn 81 (by decide)) hG0)) (fun hG0 => HTt.out) (fun _ _ h t => h.trans0 t) (rl_stb hlist) (fun _ _ => rfl)
    case c83 =>
     exact istep_g (d := 167) (j := 79) (dj := 163) (p158 == false) p162 true (.bool p167) ⟨some 167, _, _, _, _, some (79, true)⟩ ⟨some 163, _, _, _, _, some (75, false)⟩ rfl rfl rfl rfl rfl (fun a w' hf hC hn => hn 79 (by decide)) (fun _ _ => rfl) (fun a W hf hC hn hG0 => (by rw [<- HP167.out]; exact y_not (ρ := a.eval) (.tmp 166) (b := bt) rfl (gv_of (hn 82 (by decide)) hG0) W))
    case c84 =>
     exact istep_g (d := 168) (j := 79) (dj := 163) (p158 == false) p162 true (.bool p167) ⟨some 168, _, _, _, _, some (79, true)⟩ ⟨some 163, _, _, _, _, some (75, false)⟩ rfl rfl rfl rfl rfl (fun a w' hf hC hn => hn 79 (by decide)) (fun _ _ => rfl) (fun a W hf hC hn hG0 => y_move (ρ := a.eval) (.tmp 167) rfl (gv_of (hn 83 (by decide)) hG0) W)
    case c85 =>
     exact istep_g (d := 169) (j := 84) (dj := 168) ((p158 == false) && (p162 == true)) p167 false (.agg #[.int .i64 s.broker, .int .i64 s.nid, .int .i64 s.nseq, .int .i64 s.tx, .slice (some ⟨b, o, none⟩) nm cm, .slice aw nw cw, .slice ae ne ce, .slice ao no co, .slice an nn cn]) ⟨some 169, _, _, _, _, some (84, false)⟩ ⟨some 168, _, _, _, _, some (79, true)⟩ rfl rfl rfl rfl rfl (fun a w' hf hC hn => hn 84 (by decide)) (fun _ _ => rfl) (fun a W hf hC hn hG0 => y_ldState (ρ := a.eval) (.tmp 1) (b := w.heap.size) (off := 0) rfl (hf.ev (by kernel_rfl) h1) W (HBS.out W hC 0 _ rfl) (HBS.out W hC 1 _ rfl) (HBS.out W hC 2 _ rfl) (HBS.out W hC 3 _ rfl) (HBS.out W hC 4 _ rfl) (HBS.out W hC 5 _ rfl) (HBS.out W hC 6 _ rfl) (HBS.out W hC 7 _ rfl) (HBS.out W hC 8 _ rfl))
    case c86 =>
     exact istep_g (d := 170) (j := 84) (dj := 168) ((p158 == false) && (p162 == true)) p167 false (.pointer (some ⟨mk, 5, none⟩)) ⟨some 170, _, _, _, _, some (84, false)⟩ ⟨some 168, _, _, _, _, some (79, true)⟩ rfl rfl rfl rfl rfl (fun a w' hf hC hn => hn 84 (by decide)) (fun _ _ => rfl) (fun a W hf hC hn hG0 => y_faMessage5 (ρ := a.eval) (.tmp 4) (b := mk) (off := 0) rfl (hf.ev (by kernel_rfl) h4) W)
    case c87 =>
     exact istep_g (d := 171) (j := 84) (dj := 168) ((p158 == false) && (p162 == true)) p167 false (.int .i64 who) ⟨some 171, _, _, _, _, some (84, false)⟩ ⟨some 168, _, _, _, _, some (79, true)⟩ rfl rfl rfl rfl rfl (fun a w' hf hC hn => hn 84 (by decide)) (fun _ _ => rfl) (fun a W hf hC hn hG0 => y_ldint64 (ρ := a.eval) (.tmp 170) (ad := ⟨mk, 5, none⟩) rfl (gv_of (hn 86 (by decide)) hG0) W (HBM.out W hC 5 _ rfl))
    case c88 =>
     exact istep_gc (d := 172) (j := 84) (dj := 168) ((p158 == false) && (p162 == true)) p167 false (.int .i64 je) ⟨some 172, _, _, _, _, some (84, false)⟩ ⟨some 168, _, _, _, _, some (79, true)⟩ rfl rfl rfl rfl rfl (fun a w' hf hC hn => hn 84 (by decide)) (hF := Tryz.func58) (by kernel_rfl) (by kernel_rfl) [(.tmp 169), (.tmp 171)] #[27, 2] rfl [.agg #[.int .i64 s.broker, .int .i64 s.nid, .int .i64 s.nseq, .int .i64 s.tx, .slice (some ⟨b, o, none⟩) nm cm, .slice aw nw cw, .slice ae ne ce, .slice ao no co, .slice an nn cn], .int .i64 who] (fun a W hf hC hn hG0 => map2 (gv_of (hn 85 (by decide)) hG0) (gv_of (hn 87 (by decide)) hG0)) (fun hG0 => HAE.out) (fun _ _ h t => h.trans0 t) (rl_stb hlist) (fun _ _ => rfl)
    case c89 =>
     exact istep_g (d := 173) (j := 84) (dj := 168) ((p158 == false) && (p162 == true)) p167 false (.bool p173) ⟨some 173, _, _, _, _, some (84, false)⟩ ⟨some 168, _, _, _, _, some (79, true)⟩ rfl rfl rfl rfl rfl (fun a w' hf hC hn => hn 84 (by decide)) (fun _ _ => rfl) (fun a W hf hC hn hG0 => (by rw [<- HP173.out]; exact y_geq_int (ρ := a.eval) (.tmp 172) (.const (.int .i64 (0))) (x := je) (y := (0)) rfl (gv_of (hn 88 (by decide)) hG0) rfl W))
    case c90 =>
     exact istep_g (d := 174) (j := 79) (dj := 163) (p158 == false) p162 true (.bool p174) ⟨some 174, _, _, _, _, some (79, true)⟩ ⟨some 163, _, _, _, _, some (75, false)⟩ rfl rfl rfl rfl rfl (fun a w' hf hC hn => hn 79 (by decide)) (fun _ _ => rfl) (fun a W hf hC hn hG0 => (by rw [<- HP174.out]; exact y_por (ρ := a.eval) (.tmp 168) (.tmp 173) (c := p167) (e := p173) rfl (gv_of (hn 84 (by decide)) hG0) (fun hc => (gv_of (hn 89 (by decide)) (gand hG0 hc))) rfl W))
    case c91 =>
     exact istep_g0 (d := 175) (j := 75) (dj := 159) p158 false (.bool p175) ⟨some 175, _, _, _, _, some (75, false)⟩ ⟨some 159, _, _, _, _, none⟩ rfl rfl rfl rfl rfl (fun a w' hf hC hn => hn 75 (by decide)) (fun _ _ => rfl) (fun a W hf hC hn hG0 => (by rw [<- HP175.out]; exact y_pand (ρ := a.eval) (.tmp 163) (.tmp 174) (c := p162) (e := p174) rfl (gv_of (hn 79 (by decide)) hG0) (fun hc => (gv_of (hn 90 (by decide)) (gand hG0 hc))) rfl W))
    case c92 =>
     exact iq (d := 176) (.bool p176) rfl (fun _ _ => rfl) (fun a W hf hC hn => (by rw [<- HP176.out]; exact y_por (ρ := a.eval) (.tmp 159) (.tmp 175) (c := p158) (e := p175) rfl (hn 75 (by decide)) (fun hc => (gv_of (hn 91 (by decide)) (geqb hc))) rfl W))
   ·intro af wf hf hC hR
    obtain ⟨vs, hl, rfl⟩ := hf
    have hl : vs.length = 93 := hl
    obtain ⟨u0, vs0, hv0, hl⟩ := vs_cons hl
    obtain ⟨u1, vs1, hv1, hl⟩ := vs_cons hl
    obtain ⟨u2, vs2, hv2, hl⟩ := vs_cons hl
    obtain ⟨u3, vs3, hv3, hl⟩ := vs_cons hl
    obtain ⟨u4, vs4, hv4, hl⟩ := vs_cons hl
    obtain ⟨u5, vs5, hv5, hl⟩ := vs_cons hl
    obtain ⟨u6, vs6, hv6, hl⟩ := vs_cons hl
    obtain ⟨u7, vs7, hv7, hl⟩ := vs_cons hl
    obtain ⟨u8, vs8, hv8, hl⟩ := vs_cons hl
    obtain ⟨u9, vs9, hv9, hl⟩ := vs_cons hl
    obtain ⟨u10, vs10, hv10, hl⟩ := vs_cons hl
    obtain ⟨u11, vs11, hv11, hl⟩ := vs_cons hl
    obtain ⟨u12, vs12, hv12, hl⟩ := vs_cons hl
    obtain ⟨u13, vs13, hv13, hl⟩ := vs_cons hl
    obtain ⟨u14, vs14, hv14, hl⟩ := vs_cons hl
    obtain ⟨u15, vs15, hv15, hl⟩ := vs_cons hl
    obtain ⟨u16, vs16, hv16, hl⟩ := vs_cons hl
    obtain ⟨u17, vs17, hv17, hl⟩ := vs_cons hl
    obtain ⟨u18, vs18, hv18, hl⟩ := vs_cons hl
    obtain ⟨u19, vs19, hv19, hl⟩ := vs_cons hl
    obtain ⟨u20, vs20, hv20, hl⟩ := vs_cons hl
    obtain ⟨u21, vs21, hv21, hl⟩ := vs_cons hl
    obtain ⟨u22, vs22, hv22, hl⟩ := vs_cons hl
    obtain ⟨u23, vs23, hv23, hl⟩ := vs_cons hl
    obtain ⟨u24, vs24, hv24, hl⟩ := vs_cons hl
    obtain ⟨u25, vs25, hv25, hl⟩ := vs_cons hl
    obtain ⟨u26, vs26, hv26, hl⟩ := vs_cons hl
    obtain ⟨u27, vs27, hv27, hl⟩ := vs_cons hl
    obtain ⟨u28, vs28, hv28, hl⟩ := vs_cons hl
    obtain ⟨u29, vs29, hv29, hl⟩ := vs_cons hl
    obtain ⟨u30, vs30, hv30, hl⟩ := vs_cons hl
    obtain ⟨u31, vs31, hv31, hl⟩ := vs_cons hl
    obtain ⟨u32, vs32, hv32, hl⟩ := vs_cons hl
    obtain ⟨u33, vs33, hv33, hl⟩ := vs_cons hl
    obtain ⟨u34, vs34, hv34, hl⟩ := vs_cons hl
    obtain ⟨u35, vs35, hv35, hl⟩ := vs_cons hl
    obtain ⟨u36, vs36, hv36, hl⟩ := vs_cons hl
    obtain ⟨u37, vs37, hv37, hl⟩ := vs_cons hl
    obtain ⟨u38, vs38, hv38, hl⟩ := vs_cons hl
    obtain ⟨u39, vs39, hv39, hl⟩ := vs_cons hl
    obtain ⟨u40, vs40, hv40, hl⟩ := vs_cons hl
    obtain ⟨u41, vs41, hv41, hl⟩ := vs_cons hl
    obtain ⟨u42, vs42, hv42, hl⟩ := vs_cons hl
    obtain ⟨u43, vs43, hv43, hl⟩ := vs_cons hl
    obtain ⟨u44, vs44, hv44, hl⟩ := vs_cons hl
    obtain ⟨u45, vs45, hv45, hl⟩ := vs_cons hl
    obtain ⟨u46, vs46, hv46, hl⟩ := vs_cons hl
    obtain ⟨u47, vs47, hv47, hl⟩ := vs_cons hl
    obtain ⟨u48, vs48, hv48, hl⟩ := vs_cons hl
    obtain ⟨u49, vs49, hv49, hl⟩ := vs_cons hl
    obtain ⟨u50, vs50, hv50, hl⟩ := vs_cons hl
    obtain ⟨u51, vs51, hv51, hl⟩ := vs_cons hl
    obtain ⟨u52, vs52, hv52, hl⟩ := vs_cons hl
    obtain ⟨u53, vs53, hv53, hl⟩ := vs_cons hl
    obtain ⟨u54, vs54, hv54, hl⟩ := vs_cons hl
    obtain ⟨u55, vs55, hv55, hl⟩ := vs_cons hl
    obtain ⟨u56, vs56, hv56, hl⟩ := vs_cons hl
    obtain ⟨u57, vs57, hv57, hl⟩ := vs_cons hl
    obtain ⟨u58, vs58, hv58, hl⟩ := vs_cons hl
    obtain ⟨u59, vs59, hv59, hl⟩ := vs_cons hl
    obtain ⟨u60, vs60, hv60, hl⟩ := vs_cons hl
    obtain ⟨u61, vs61, hv61, hl⟩ := vs_cons hl
    obtain ⟨u62, vs62, hv62, hl⟩ := vs_cons hl
    obtain ⟨u63, vs63, hv63, hl⟩ := vs_cons hl
    obtain ⟨u64, vs64, hv64, hl⟩ := vs_cons hl
    obtain ⟨u65, vs65, hv65, hl⟩ := vs_cons hl
    obtain ⟨u66, vs66, hv66, hl⟩ := vs_cons hl
    obtain ⟨u67, vs67, hv67, hl⟩ := vs_cons hl
    obtain ⟨u68, vs68, hv68, hl⟩ := vs_cons hl
    obtain ⟨u69, vs69, hv69, hl⟩ := vs_cons hl
    obtain ⟨u70, vs70, hv70, hl⟩ := vs_cons hl
    obtain ⟨u71, vs71, hv71, hl⟩ := vs_cons hl
    obtain ⟨u72, vs72, hv72, hl⟩ := vs_cons hl
    obtain ⟨u73, vs73, hv73, hl⟩ := vs_cons hl
    obtain ⟨u74, vs74, hv74, hl⟩ := vs_cons hl
    obtain ⟨u75, vs75, hv75, hl⟩ := vs_cons hl
    obtain ⟨u76, vs76, hv76, hl⟩ := vs_cons hl
    obtain ⟨u77, vs77, hv77, hl⟩ := vs_cons hl
    obtain ⟨u78, vs78, hv78, hl⟩ := vs_cons hl
    obtain ⟨u79, vs79, hv79, hl⟩ := vs_cons hl
    obtain ⟨u80, vs80, hv80, hl⟩ := vs_cons hl
    obtain ⟨u81, vs81, hv81, hl⟩ := vs_cons hl
    obtain ⟨u82, vs82, hv82, hl⟩ := vs_cons hl
    obtain ⟨u83, vs83, hv83, hl⟩ := vs_cons hl
    obtain ⟨u84, vs84, hv84, hl⟩ := vs_cons hl
    obtain ⟨u85, vs85, hv85, hl⟩ := vs_cons hl
    obtain ⟨u86, vs86, hv86, hl⟩ := vs_cons hl
    obtain ⟨u87, vs87, hv87, hl⟩ := vs_cons hl
    obtain ⟨u88, vs88, hv88, hl⟩ := vs_cons hl
    obtain ⟨u89, vs89, hv89, hl⟩ := vs_cons hl
    obtain ⟨u90, vs90, hv90, hl⟩ := vs_cons hl
    obtain ⟨u91, vs91, hv91, hl⟩ := vs_cons hl
    obtain ⟨u92, vs92, hv92, hl⟩ := vs_cons hl
    have hvn := vs_nil hl
    subst hvn
    subst hv92
    subst hv91
    subst hv90
    subst hv89
    subst hv88
    subst hv87
    subst hv86
    subst hv85
    subst hv84
    subst hv83
    subst hv82
    subst hv81
    subst hv80
    subst hv79
    subst hv78
    subst hv77
    subst hv76
    subst hv75
    subst hv74
    subst hv73
    subst hv72
    subst hv71
    subst hv70
    subst hv69
    subst hv68
    subst hv67
    subst hv66
    subst hv65
    subst hv64
    subst hv63
    subst hv62
    subst hv61
    subst hv60
    subst hv59
    subst hv58
    subst hv57
    subst hv56
    subst hv55
    subst hv54
    subst hv53
    subst hv52
    subst hv51
    subst hv50
    subst hv49
    subst hv48
    subst hv47
    subst hv46
    subst hv45
    subst hv44
    subst hv43
    subst hv42
    subst hv41
    subst hv40
    subst hv39
    subst hv38
    subst hv37
    subst hv36
    subst hv35
    subst hv34
    subst hv33
    subst hv32
    subst hv31
    subst hv30
    subst hv29
    subst hv28
    subst hv27
    subst hv26
    subst hv25
    subst hv24
    subst hv23
    subst hv22
    subst hv21
    subst hv20
    subst hv19
    subst hv18
    subst hv17
    subst hv16
    subst hv15
    subst hv14
    subst hv13
    subst hv12
    subst hv11
    subst hv10
    subst hv9
    subst hv8
    subst hv7
    subst hv6
    subst hv5
    subst hv4
    subst hv3
    subst hv2
    subst hv1
    subst hv0
    have r92 : u92 = .bool p176 := by
     have e : (putAll fr (84 :: 85 :: 86 :: 87 :: 88 :: 89 :: 90 :: 91 :: 92 :: 93 :: 94 :: 95 :: 96 :: 97 :: 98 :: 99 :: 100 :: 101 :: 102 :: 103 :: 104 :: 105 :: 106 :: 107 :: 108 :: 109 :: 110 :: 111 :: 112 :: 113 :: 114 :: 115 :: 116 :: 117 :: 118 :: 119 :: 120 :: 121 :: 122 :: 123 :: 124 :: 125 :: 126 :: 127 :: 128 :: 129 :: 130 :: 131 :: 132 :: 133 :: 134 :: 135 :: 136 :: 137 :: 138 :: 139 :: 140 :: 141 :: 142 :: 143 :: 144 :: 145 :: 146 :: 147 :: 148 :: 149 :: 150 :: 151 :: 152 :: 153 :: 154 :: 155 :: 156 :: 157 :: 158 :: 159 :: 160 :: 161 :: 162 :: 163 :: 164 :: 165 :: 166 :: 167 :: 168 :: 169 :: 170 :: 171 :: 172 :: 173 :: 174 :: 175 :: 176 :: []) (u0 :: u1 :: u2 :: u3 :: u4 :: u5 :: u6 :: u7 :: u8 :: u9 :: u10 :: u11 :: u12 :: u13 :: u14 :: u15 :: u16 :: u17 :: u18 :: u19 :: u20 :: u21 :: u22 :: u23 :: u24 :: u25 :: u26 :: u27 :: u28 :: u29 :: u30 :: u31 :: u32 :: u33 :: u34 :: u35 :: u36 :: u37 :: u38 :: u39 :: u40 :: u41 :: u42 :: u43 :: u44 :: u45 :: u46 :: u47 :: u48 :: u49 :: u50 :: u51 :: u52 :: u53 :: u54 :: u55 :: u56 :: u57 :: u58 :: u59 :: u60 :: u61 :: u62 :: u63 :: u64 :: u65 :: u66 :: u67 :: u68 :: u69 :: u70 :: u71 :: u72 :: u73 :: u74 :: u75 :: u76 :: u77 :: u78 :: u79 :: u80 :: u81 :: u82 :: u83 :: u84 :: u85 :: u86 :: u87 :: u88 :: u89 :: u90 :: u91 :: u92 :: [])).eval (.tmp 176) = u92 := putAll_get 92 (by decide) rfl rfl rfl (by rw [hsz]; decide)
     have h : (fun x _ => x = .bool p176) ((putAll fr (84 :: 85 :: 86 :: 87 :: 88 :: 89 :: 90 :: 91 :: 92 :: 93 :: 94 :: 95 :: 96 :: 97 :: 98 :: 99 :: 100 :: 101 :: 102 :: 103 :: 104 :: 105 :: 106 :: 107 :: 108 :: 109 :: 110 :: 111 :: 112 :: 113 :: 114 :: 115 :: 116 :: 117 :: 118 :: 119 :: 120 :: 121 :: 122 :: 123 :: 124 :: 125 :: 126 :: 127 :: 128 :: 129 :: 130 :: 131 :: 132 :: 133 :: 134 :: 135 :: 136 :: 137 :: 138 :: 139 :: 140 :: 141 :: 142 :: 143 :: 144 :: 145 :: 146 :: 147 :: 148 :: 149 :: 150 :: 151 :: 152 :: 153 :: 154 :: 155 :: 156 :: 157 :: 158 :: 159 :: 160 :: 161 :: 162 :: 163 :: 164 :: 165 :: 166 :: 167 :: 168 :: 169 :: 170 :: 171 :: 172 :: 173 :: 174 :: 175 :: 176 :: []) (u0 :: u1 :: u2 :: u3 :: u4 :: u5 :: u6 :: u7 :: u8 :: u9 :: u10 :: u11 :: u12 :: u13 :: u14 :: u15 :: u16 :: u17 :: u18 :: u19 :: u20 :: u21 :: u22 :: u23 :: u24 :: u25 :: u26 :: u27 :: u28 :: u29 :: u30 :: u31 :: u32 :: u33 :: u34 :: u35 :: u36 :: u37 :: u38 :: u39 :: u40 :: u41 :: u42 :: u43 :: u44 :: u45 :: u46 :: u47 :: u48 :: u49 :: u50 :: u51 :: u52 :: u53 :: u54 :: u55 :: u56 :: u57 :: u58 :: u59 :: u60 :: u61 :: u62 :: u63 :: u64 :: u65 :: u66 :: u67 :: u68 :: u69 :: u70 :: u71 :: u72 :: u73 :: u74 :: u75 :: u76 :: u77 :: u78 :: u79 :: u80 :: u81 :: u82 :: u83 :: u84 :: u85 :: u86 :: u87 :: u88 :: u89 :: u90 :: u91 :: u92 :: [])).eval (.tmp 176)) wf := hR 92 (by decide) (by decide)
     rw [e] at h
     exact h
    have hfr2 := hfr.out
    subst hfr2
    simp only [putAll, Act.put, List.setIfInBounds_toArray, List.set_cons_succ, List.set_cons_zero]
    obtain rfl := r92
    have HOR : Hid (p176 = ((((((((((((decide (seq < (1))) || (decide (s.nseq <= seq))) || ((decide ((0) < ((k : Nat) : Int))) && (decide (seq <= s1)))) || (jm != ((k : Nat) : Int))) || (hm != s.broker)) || (decide (s.nid <= (IntKind.i64.wrap (id - pb))))) || (!bq)) || (!bb)) || (decide (cnt < (0)))) || (decide ((1000) < cnt))) || ((who != (0)) && ((!bt) || (decide ((0) <= je))))))) := by rw [Hid, <- HP176.out, <- HP175.out, <- HP174.out, <- HP173.out, <- HP167.out, <- HP162.out, <- HP158.out, <- HP157.out, <- HP153.out, <- HP152.out, <- HP148.out, <- HP147.out, <- HP142.out, <- HP141.out, <- HP136.out, <- HP135.out, <- HP125.out, <- HP124.out, <- HP117.out, <- HP116.out, <- HP109.out, <- HP108.out, <- HP107.out, <- HP96.out, <- HP93.out, <- HP92.out, <- HP86.out]
    clear hR hlist hl hsz HP86 HP92 HP93 HP96 HP107 HP108 HP109 HP116 HP117 HP124 HP125 HP135 HP136 HP141 HP142 HP147 HP148 HP152 HP153 HP157 HP158 HP162 HP167 HP173 HP174 HP175 HP176 HBS HBM HE1
    have TF := Lib.hid hC
    clear hC
    have HKEY : Hid (p176 = false ↔ (rmsg s s.ms[k] = true /\ (∀ h0 : 0 < k, (s.ms[k - 1]'(Nat.lt_of_le_of_lt (Nat.sub_le k 1) hkl)).seq < s.ms[k].seq) /\ atI (·.id) s.ms s.ms[k].id = (k : Int))) := by
     rw [Hid, HOR.out, HRM.out, HJM.out, HSK.out]
     simp only [Bool.or_eq_false_iff, decide_eq_false_iff_not, Bool.and_eq_true, decide_eq_true_eq, Bool.not_eq_false', Bool.and_eq_false_imp, bne_eq_false_iff_eq, Bool.or_eq_true, Bool.not_eq_true', Bool.not_eq_false, bne_iff_ne, ne_eq]
     rw [<- q1]
     constructor
     ·intro h
      obtain ⟨⟨⟨⟨⟨⟨⟨⟨⟨⟨h1, h2⟩, h3⟩, h4⟩, h5⟩, h6⟩, h7⟩, h8⟩, h9⟩, h10⟩, h11⟩ := h
      have hid : 4294967296 <= id /\ id <= 38654705664 := by
       have := HHM.out; have := HBRO.out; unfold homeM at *; split at * <;> omega
      rw [IntWalk.i64_in _ (by omega)] at h6
      refine ⟨⟨⟨⟨⟨⟨⟨⟨⟨by omega, by omega⟩, h5⟩, by omega⟩, h7⟩, h8⟩, by omega⟩, by omega⟩, ?_⟩, fun h0 => ?_, h4⟩
      ·by_cases hw : who = 0
       ·exact .inl hw
       ·exact .inr (by have := h11 hw; simpa using this)
      ·rw [HS1.out h0]
       have := h3 (by omega)
       omega
     ·rintro ⟨⟨⟨⟨⟨⟨⟨⟨⟨h1, h2⟩, h5⟩, h6⟩, h7⟩, h8⟩, h9⟩, h10⟩, h11⟩, h3, h4⟩
      have hid : 4294967296 <= id /\ id <= 38654705664 := by
       have := HHM.out; have := HBRO.out; unfold homeM at *; split at * <;> omega
      rw [IntWalk.i64_in _ (by omega)]
      refine ⟨⟨⟨⟨⟨⟨⟨⟨⟨⟨by omega, by omega⟩, fun h0 => ?_⟩, h4⟩, h5⟩, by omega⟩, h7⟩, h8⟩, by omega⟩, by omega⟩, fun hw => ?_⟩
      ·have hk0 : 0 < k := by omega
       have := h3 hk0
       rw [HS1.out hk0] at this
       omega
      ·rcases h11 with h | h
       ·exact absurd h hw
       ·simpa using h
    clear HOR HRM q1
    cases p176 with
    | true =>
     have HN : Hid (res = false) := HRES.out.symm.trans (by
      rw [HME.out]
      have : msB s = false := by
       cases e : msB s with
       | false => rfl
       | true => have := HKEY.out.2 ((rms_all HBRO.out.1).2 e k hkl hkl); cases this
      rw [this]; simp)
     go_wp2_with fail
     go_ret
     exact ⟨ret_b HN.out.symm, (TT.out.trans0 T4.out).trans0 TF.out⟩
    | false =>
     have HI : Hid (RMs s (k + 1)) := by
      obtain ⟨g1, g2, g3⟩ := HKEY.out.1 rfl
      exact rms_step I.out hkl g1 g2 g3
     go_wp2_with fail
     go_roundg (nm - (k + 1))
     case measure => omega
     case rel => exact ⟨k + 1, by go_num, by omega, by omega, (TT.out.trans0 T4.out).trans0 TF.out, HB.out.keep (T4.out.trans0 TF.out), HI⟩
  ·have HMSB : Hid (msB s = true) := (rms_all HBRO.out.1).1 (by rw [HNM.out, show nm = k by omega]; exact I.out)
   have c4 := HB.out 4 _ rfl
   clear I HAM0
   obtain rfl : nm = k := by omega
   clear hgk hk hlt
   go_wp2_with fail
   have TT0 := TT
   have HB0' := HB
   clear TT HB
   go_loopg [5] ne (fun kx s5 wr => ∃ k2 : Nat, s5 = .int .i64 k2 /\ k2 <= ne /\ ne - k2 <= kx /\ Hid (Tch No w wr) /\ Hid (BoxAt wr w.heap.size [.int .i64 s.broker, .int .i64 s.nid, .int .i64 s.nseq, .int .i64 s.tx, .slice am nm cm, .slice aw nw cw, .slice ae ne ce, .slice ao no co, .slice an nn cn]) /\ Hid (RiseE (fun e : EndM => tidB e.tid) (·.tid) s.ends k2))
   case atStart => exact ⟨0, rfl, Nat.zero_le _, by omega, TT0.out, HB0'.out, fun i _ h => absurd h (Nat.not_lt_zero _)⟩
   case round =>
    clear c4 TT0 HB0'
    obtain ⟨k2, rfl, hk2, hgk2, TT, HB, I⟩ := hrel
    by_cases hlt2 : k2 < ne
    ·have hkl : k2 < s.ends.length := by have := HNE.out; omega
     have hb : ∃ b o, ae = some ⟨b, o, none⟩ /\ ∀ i (hi : i < s.ends.length), wr.cell? ⟨b, o + i * 2, none⟩ = some (.int .i64 s.ends[i].tid) := by
      rcases ends_cells HESL.out with ⟨_, h0⟩ | ⟨b, o, cap2, h1, _, _, _, h5⟩
      ·rw [h0] at hkl; simp at hkl
      ·rw [HNE.out] at h1
       injection h1 with h1 _ _
       exact ⟨b, o, h1, fun i hi => TT.out.cell (h5 i hi).1 (fun h => h)⟩
     obtain ⟨b, o, rfl, hc⟩ := hb
     have e0 := hc k2 hkl
     have HC0 := Lib.hid hc
     have hokt := HOK.out.ends _ (List.getElem_mem hkl)
     obtain ⟨t, htt⟩ : ∃ x, s.ends[k2].tid = x := ⟨_, rfl⟩
     have HTT := Lib.hid htt
     rw [htt] at e0 hokt
     have e0' : ∀ p : TchW wr, p.wo.cell? ⟨b, o + k2 * 2, none⟩ = some (.int .i64 t) := fun p => p.cell e0
     have c6' := fun (p : TchW wr) => (HB.out.keep p.t) 6 _ rfl
     have c6 := HB.out 6 _ rfl
     have HT := Lib.hid (fun W => rtid_any t hokt W)
     obtain ⟨bt, hbt⟩ : ∃ x, tidB t = x := ⟨_, rfl⟩
     have HBT := Lib.hid hbt
     rw [hbt] at HT
     clear hc htt hokt e0 hbt
     go_upto_region 12 with fail
     cases bt with
     | false =>
      have HN : Hid (res = false) := HRES.out.symm.trans (by rw [HME.out, show rendsB s = false from riseE_bad hkl (.inl (by rw [HTT.out]; exact HBT.out))]; simp)
      refine wp_region_qt (by kernel_rfl) (by kernel_rfl) ?_
      repeat (go_big_quiet_step (first | (go_at_call 57; exact qt_s (HT.out _)) | (go_at_call 58; exact qt_t (HAE.out _)) | (go_at_call 59; exact qt_t (HPU.out _))))
      with_reducible refine wpQuiet_nil ?_
      rintro _ ⟨pq, rfl⟩
      go_wp2_with fail
      go_ret
      exact ⟨ret_b HN.out.symm, TT.out.trans0 pq.t⟩
     | true =>
     by_cases h0 : k2 = 0
     ·have HPV : Hid (∀ _ : 0 < k2, (s.ends[k2 - 1]'(Nat.lt_of_le_of_lt (Nat.sub_le k2 1) hkl)).tid < s.ends[k2].tid) := fun h => by omega
      have hk0d : decide ((0 : Int) < (k2 : Int)) = false := by simp; omega
      have hk0e : decide (0 < k2) = false := by simp; omega
      clear h0
      have HI : Hid (RiseE (fun e : EndM => tidB e.tid) (·.tid) s.ends (k2 + 1)) := riseE_step I.out hkl (by rw [HTT.out]; exact HBT.out) HPV.out
      refine wp_region_qt (by kernel_rfl) (by kernel_rfl) ?_
      repeat (go_big_quiet_step (first | (go_at_call 57; exact qt_s (HT.out _)) | (go_at_call 58; exact qt_t (HAE.out _)) | (go_at_call 59; exact qt_t (HPU.out _))))
      with_reducible refine wpQuiet_nil ?_
      rintro _ ⟨pq, rfl⟩
      go_wp2_with fail
      go_roundg (ne - (k2 + 1))
      case measure => omega
      case rel => exact ⟨k2 + 1, by go_num, by omega, by omega, TT.out.trans0 pq.t, HB.out.keep pq.t, HI⟩
     ·have hk0 : 0 < k2 := by omega
      have hk1' : k2 - 1 < s.ends.length := by omega
      have hk3 : k2 - 1 < ne := by omega
      have hk1 : (k2 : Int) - 1 = ((k2 - 1 : Nat) : Int) := by omega
      have he1 := fun (p : TchW wr) => p.cell (HC0.out (k2 - 1) hk1')
      obtain ⟨t1, ht1'⟩ : ∃ x, (s.ends[k2 - 1]'hk1').tid = x := ⟨_, rfl⟩
      rw [ht1'] at he1
      have HT1 := Lib.hid ht1'
      have hk4 : IntKind.i64.wrap ((k2 - 1 : Nat) : Int) = ((k2 - 1 : Nat) : Int) := IntWalk.i64_in _ (by omega)
      have hd0 : decide ((0 : Int) < (k2 : Int)) = true := decide_eq_true (by omega)
      have hd0' : decide (0 < k2) = true := decide_eq_true (by omega)
      clear ht1' h0
      by_cases l3 : t1 < t
      case neg =>
       have m3 : decide (t <= t1) = true := decide_eq_true (by omega)
       have HN : Hid (res = false) := HRES.out.symm.trans (by rw [HME.out, show rendsB s = false from riseE_bad hkl (.inr ⟨hk0, by rw [HT1.out, HTT.out]; exact l3⟩)]; simp)
       refine wp_region_qt (by kernel_rfl) (by kernel_rfl) ?_
       repeat (go_big_quiet_step (first | (go_at_call 57; exact qt_s (HT.out _)) | (go_at_call 58; exact qt_t (HAE.out _)) | (go_at_call 59; exact qt_t (HPU.out _))))
       with_reducible refine wpQuiet_nil ?_
       rintro _ ⟨pq, rfl⟩
       go_wp2_with fail
       go_ret
       exact ⟨ret_b HN.out.symm, TT.out.trans0 pq.t⟩
      have m3 : decide (t <= t1) = false := decide_eq_false (by omega)
      have HPV : Hid (∀ _ : 0 < k2, (s.ends[k2 - 1]'hk1').tid < s.ends[k2].tid) := fun h => by rw [HT1.out, HTT.out]; exact l3
      have HI : Hid (RiseE (fun e : EndM => tidB e.tid) (·.tid) s.ends (k2 + 1)) := riseE_step I.out hkl (by rw [HTT.out]; exact HBT.out) HPV.out
      refine wp_region_qt (by kernel_rfl) (by kernel_rfl) ?_
      repeat (go_big_quiet_step (first | (go_at_call 57; exact qt_s (HT.out _)) | (go_at_call 58; exact qt_t (HAE.out _)) | (go_at_call 59; exact qt_t (HPU.out _))))
      with_reducible refine wpQuiet_nil ?_
      rintro _ ⟨pq, rfl⟩
      go_wp2_with fail
      go_roundg (ne - (k2 + 1))
      case measure => omega
      case rel => exact ⟨k2 + 1, by go_num, by omega, by omega, TT.out.trans0 pq.t, HB.out.keep pq.t, HI⟩
    ·have HEB : Hid (rendsB s = true) := riseE_all.1 (by rw [HNE.out, show ne = k2 by omega]; exact I.out)
     have c6 := HB.out 6 _ rfl
     clear I
     obtain rfl : ne = k2 := by omega
     clear hgk2 hk2 hlt2
     go_wp2_with fail
     have TT0 := TT
     have HB0' := HB
     clear TT HB
     go_loopg [6] nw (fun kx s6 wr => ∃ k3 : Nat, s6 = .int .i64 k3 /\ k3 <= nw /\ nw - k3 <= kx /\ Hid (Tch No w wr) /\ Hid (BoxAt wr w.heap.size [.int .i64 s.broker, .int .i64 s.nid, .int .i64 s.nseq, .int .i64 s.tx, .slice am nm cm, .slice aw nw cw, .slice ae ne ce, .slice ao no co, .slice an nn cn]) /\ Hid (RiseE (wOk s) (·.tid) s.waits k3))
     case atStart => exact ⟨0, rfl, Nat.zero_le _, by omega, TT0.out, HB0'.out, fun i _ h => absurd h (Nat.not_lt_zero _)⟩
     case round =>
      clear c6 TT0 HB0'
      obtain ⟨k3, rfl, hk3', hgk3, TT, HB, I⟩ := hrel
      by_cases hlt3 : k3 < nw
      ·have hkl : k3 < s.waits.length := by have := HNW.out; omega
       have hb : ∃ b o, aw = some ⟨b, o, none⟩ /\ ∀ i (hi : i < s.waits.length), wr.cell? ⟨b, o + i * 2, none⟩ = some (.int .i64 s.waits[i].tid) /\ ∃ a n c, wr.cell? ⟨b, o + i * 2 + 1, none⟩ = some (.slice a n c) /\ IsPuts w (.slice a n c) s.waits[i].puts := by
        rcases brs_cells HWSL.out with ⟨_, h0⟩ | ⟨b, o, cap2, h1, _, _, _, h5⟩
        ·rw [h0] at hkl; simp at hkl
        ·rw [HNW.out] at h1
         injection h1 with h1 _ _
         refine ⟨b, o, h1, fun i hi => ?_⟩
         obtain ⟨g1, a, c, g2, g3⟩ := h5 i hi
         exact ⟨TT.out.cell g1 (fun h => h), a, _, c, TT.out.cell g2 (fun h => h), g3⟩
       obtain ⟨b, o, rfl, hc⟩ := hb
       obtain ⟨e0, pa, np, pc, e1, hpu⟩ := hc k3 hkl
       have HC0 := Lib.hid hc
       obtain ⟨o1, o2⟩ := HOK.out.waits _ (List.getElem_mem hkl)
       have HWK0 : Hid (wOk s s.waits[k3] = (tidB s.waits[k3].tid && !hasP (·.tid) s.ends s.waits[k3].tid && (s.waits[k3].puts.all putB && decide ((s.waits[k3].puts.length : Int) <= 10)))) := rfl
       obtain ⟨t, htt⟩ : ∃ x, s.waits[k3].tid = x := ⟨_, rfl⟩
       obtain ⟨ps, hps⟩ : ∃ x, s.waits[k3].puts = x := ⟨_, rfl⟩
       have HTT := Lib.hid htt
       rw [htt, hps] at HWK0
       rw [htt] at e0 o1
       rw [hps] at hpu o2
       have HT := Lib.hid (fun W => rtid_any t o1 W)
       have HPUk : Hid (∀ W, Tch No w W -> Calls Tryz.prog 59 #[.slice pa np pc] W fun e w' => e = .returned (.bool (ps.all putB && decide ((ps.length : Int) <= 10))) /\ Tch No W w') := fun W T => rputs_any ps o2 _ W (hpu.keep T)
       have HAEk : Hid (∀ W, Tch No w W -> Calls Tryz.prog 58 #[.agg #[.int .i64 s.broker, .int .i64 s.nid, .int .i64 s.nseq, .int .i64 s.tx, .slice am nm cm, .slice (some ⟨b, o, none⟩) nw cw, .slice ae ne ce, .slice ao no co, .slice an nn cn], .int .i64 t] W fun e w' => e = .returned (.int .i64 (atI (·.tid) s.ends t)) /\ Tch No W w') := fun W T => HAE0.out t W T
       have q1 := atI_has (fun x : EndM => x.tid) s.ends t
       generalize atI (fun x : EndM => x.tid) s.ends t = je at q1 HAEk
       generalize hasP (fun x : EndM => x.tid) s.ends t = bo at q1 HWK0
       generalize tidB t = bt at HT HWK0
       generalize (ps.all putB && decide ((ps.length : Int) <= 10)) = bp at HPUk HWK0
       have HWK := HWK0
       have c5 := HB.out 5 _ rfl
       clear hc htt hps o1 o2 HWK0 hpu
       go_upto_region 18 with fail
       refine wp_world (fun w4 => Hid (Tch No wr w4) /\ Hid (BoxAt w4 wr.heap.size [.int .i64 t, .slice pa np pc])) ⟨Tch.alloc _ _, BoxAt.made _ _ _⟩ ?_
       rintro w4 ⟨T4, HB6⟩
       obtain ⟨mk, hmk⟩ : ∃ x, wr.heap.size = x := ⟨_, rfl⟩
       rw [hmk] at HB6 ⊢
       have HAE : Hid (∀ p : TchW w4, Calls Tryz.prog 58 #[.agg #[.int .i64 s.broker, .int .i64 s.nid, .int .i64 s.nseq, .int .i64 s.tx, .slice am nm cm, .slice (some ⟨b, o, none⟩) nw cw, .slice ae ne ce, .slice ao no co, .slice an nn cn], .int .i64 t] p.wo fun e w' => e = .returned (.int .i64 je) /\ Tch No p.wo w') := fun p => HAEk.out _ ((TT.out.trans0 T4.out).trans0 p.t)
       have HPU : Hid (∀ p : TchW w4, Calls Tryz.prog 59 #[.slice pa np pc] p.wo fun e w' => e = .returned (.bool bp) /\ Tch No p.wo w') := fun p => HPUk.out _ ((TT.out.trans0 T4.out).trans0 p.t)
       have HBS : Hid (∀ p : TchW w4, BoxAt p.wo w.heap.size [.int .i64 s.broker, .int .i64 s.nid, .int .i64 s.nseq, .int .i64 s.tx, .slice am nm cm, .slice (some ⟨b, o, none⟩) nw cw, .slice ae ne ce, .slice ao no co, .slice an nn cn]) := fun p => HB.out.keep (T4.out.trans0 p.t)
       have HBM : Hid (∀ p : TchW w4, BoxAt p.wo mk [.int .i64 t, .slice pa np pc]) := fun p => HB6.out.keep p.t
       have c0' := fun p => HBS.out p 0 _ rfl
       have c1' := fun p => HBS.out p 1 _ rfl
       have c2' := fun p => HBS.out p 2 _ rfl
       have c3' := fun p => HBS.out p 3 _ rfl
       have c4' := fun p => HBS.out p 4 _ rfl
       have c5' := fun p => HBS.out p 5 _ rfl
       have c6' := fun p => HBS.out p 6 _ rfl
       have c7' := fun p => HBS.out p 7 _ rfl
       have c8' := fun p => HBS.out p 8 _ rfl
       have g0 := fun p => HBM.out p 0 _ rfl
       have g1 := fun p => HBM.out p 1 _ rfl
       clear HAEk HPUk e0 e1 c5 hmk
       cases bt with
       | false =>
        have HN : Hid (res = false) := HRES.out.symm.trans (by rw [HME.out, show rwaitsB s = false from riseE_bad hkl (.inl (by rw [HWK.out]; simp))]; simp)
        refine wp_region_qt (by kernel_rfl) (by kernel_rfl) ?_
        repeat (go_big_quiet_step (first | (go_at_call 57; exact qt_s (HT.out _)) | (go_at_call 58; exact qt_t (HAE.out _)) | (go_at_call 59; exact qt_t (HPU.out _))))
        with_reducible refine wpQuiet_nil ?_
        rintro _ ⟨pq, rfl⟩
        go_wp2_with fail
        go_ret
        exact ⟨ret_b HN.out.symm, (TT.out.trans0 T4.out).trans0 pq.t⟩
       | true =>
       by_cases h0 : k3 = 0
       ·have HPV : Hid (∀ _ : 0 < k3, (s.waits[k3 - 1]'(Nat.lt_of_le_of_lt (Nat.sub_le k3 1) hkl)).tid < s.waits[k3].tid) := fun h => by omega
        have hk0d : decide ((0 : Int) < (k3 : Int)) = false := by simp; omega
        have hk0e : decide (0 < k3) = false := by simp; omega
        clear h0
        cases bo with
        | true =>
         have HN : Hid (res = false) := HRES.out.symm.trans (by rw [HME.out, show rwaitsB s = false from riseE_bad hkl (.inl (by rw [HWK.out]; simp))]; simp)
         refine wp_region_qt (by kernel_rfl) (by kernel_rfl) ?_
         repeat (go_big_quiet_step (first | (go_at_call 57; exact qt_s (HT.out _)) | (go_at_call 58; exact qt_t (HAE.out _)) | (go_at_call 59; exact qt_t (HPU.out _))))
         with_reducible refine wpQuiet_nil ?_
         rintro _ ⟨pq, rfl⟩
         go_wp2_with fail
         go_ret
         exact ⟨ret_b HN.out.symm, (TT.out.trans0 T4.out).trans0 pq.t⟩
        | false =>
        cases bp with
        | false =>
         have HN : Hid (res = false) := HRES.out.symm.trans (by rw [HME.out, show rwaitsB s = false from riseE_bad hkl (.inl (by rw [HWK.out]; simp))]; simp)
         refine wp_region_qt (by kernel_rfl) (by kernel_rfl) ?_
         repeat (go_big_quiet_step (first | (go_at_call 57; exact qt_s (HT.out _)) | (go_at_call 58; exact qt_t (HAE.out _)) | (go_at_call 59; exact qt_t (HPU.out _))))
         with_reducible refine wpQuiet_nil ?_
         rintro _ ⟨pq, rfl⟩
         go_wp2_with fail
         go_ret
         exact ⟨ret_b HN.out.symm, (TT.out.trans0 T4.out).trans0 pq.t⟩
        | true =>
        have HI : Hid (RiseE (wOk s) (·.tid) s.waits (k3 + 1)) := riseE_step I.out hkl (by rw [HWK.out]; rfl) HPV.out
        refine wp_region_qt (by kernel_rfl) (by kernel_rfl) ?_
        repeat (go_big_quiet_step (first | (go_at_call 57; exact qt_s (HT.out _)) | (go_at_call 58; exact qt_t (HAE.out _)) | (go_at_call 59; exact qt_t (HPU.out _))))
        with_reducible refine wpQuiet_nil ?_
        rintro _ ⟨pq, rfl⟩
        go_wp2_with fail
        go_roundg (nw - (k3 + 1))
        case measure => omega
        case rel => exact ⟨k3 + 1, by go_num, by omega, by omega, (TT.out.trans0 T4.out).trans0 pq.t, HB.out.keep (T4.out.trans0 pq.t), HI⟩
       ·have hk0 : 0 < k3 := by omega
        have hk1' : k3 - 1 < s.waits.length := by omega
        have hk3 : k3 - 1 < nw := by omega
        have hk1 : (k3 : Int) - 1 = ((k3 - 1 : Nat) : Int) := by omega
        have he1 := fun (p : TchW w4) => p.cell (T4.out.cell (HC0.out (k3 - 1) hk1').1 (fun h => h))
        obtain ⟨t1, ht1'⟩ : ∃ x, (s.waits[k3 - 1]'hk1').tid = x := ⟨_, rfl⟩
        rw [ht1'] at he1
        have HT1 := Lib.hid ht1'
        have hk4 : IntKind.i64.wrap ((k3 - 1 : Nat) : Int) = ((k3 - 1 : Nat) : Int) := IntWalk.i64_in _ (by omega)
        have hd0 : decide ((0 : Int) < (k3 : Int)) = true := decide_eq_true (by omega)
        have hd0' : decide (0 < k3) = true := decide_eq_true (by omega)
        clear ht1' h0
        by_cases l3 : t1 < t
        case neg =>
         have m3 : decide (t <= t1) = true := decide_eq_true (by omega)
         have HN : Hid (res = false) := HRES.out.symm.trans (by rw [HME.out, show rwaitsB s = false from riseE_bad hkl (.inr ⟨hk0, by rw [HT1.out, HTT.out]; exact l3⟩)]; simp)
         refine wp_region_qt (by kernel_rfl) (by kernel_rfl) ?_
         repeat (go_big_quiet_step (first | (go_at_call 57; exact qt_s (HT.out _)) | (go_at_call 58; exact qt_t (HAE.out _)) | (go_at_call 59; exact qt_t (HPU.out _))))
         with_reducible refine wpQuiet_nil ?_
         rintro _ ⟨pq, rfl⟩
         go_wp2_with fail
         go_ret
         exact ⟨ret_b HN.out.symm, (TT.out.trans0 T4.out).trans0 pq.t⟩
        have m3 : decide (t <= t1) = false := decide_eq_false (by omega)
        have HPV : Hid (∀ _ : 0 < k3, (s.waits[k3 - 1]'hk1').tid < s.waits[k3].tid) := fun h => by rw [HT1.out, HTT.out]; exact l3
        cases bo with
        | true =>
         have HN : Hid (res = false) := HRES.out.symm.trans (by rw [HME.out, show rwaitsB s = false from riseE_bad hkl (.inl (by rw [HWK.out]; simp))]; simp)
         refine wp_region_qt (by kernel_rfl) (by kernel_rfl) ?_
         repeat (go_big_quiet_step (first | (go_at_call 57; exact qt_s (HT.out _)) | (go_at_call 58; exact qt_t (HAE.out _)) | (go_at_call 59; exact qt_t (HPU.out _))))
         with_reducible refine wpQuiet_nil ?_
         rintro _ ⟨pq, rfl⟩
         go_wp2_with fail
         go_ret
         exact ⟨ret_b HN.out.symm, (TT.out.trans0 T4.out).trans0 pq.t⟩
        | false =>
        cases bp with
        | false =>
         have HN : Hid (res = false) := HRES.out.symm.trans (by rw [HME.out, show rwaitsB s = false from riseE_bad hkl (.inl (by rw [HWK.out]; simp))]; simp)
         refine wp_region_qt (by kernel_rfl) (by kernel_rfl) ?_
         repeat (go_big_quiet_step (first | (go_at_call 57; exact qt_s (HT.out _)) | (go_at_call 58; exact qt_t (HAE.out _)) | (go_at_call 59; exact qt_t (HPU.out _))))
         with_reducible refine wpQuiet_nil ?_
         rintro _ ⟨pq, rfl⟩
         go_wp2_with fail
         go_ret
         exact ⟨ret_b HN.out.symm, (TT.out.trans0 T4.out).trans0 pq.t⟩
        | true =>
        have HI : Hid (RiseE (wOk s) (·.tid) s.waits (k3 + 1)) := riseE_step I.out hkl (by rw [HWK.out]; rfl) HPV.out
        refine wp_region_qt (by kernel_rfl) (by kernel_rfl) ?_
        repeat (go_big_quiet_step (first | (go_at_call 57; exact qt_s (HT.out _)) | (go_at_call 58; exact qt_t (HAE.out _)) | (go_at_call 59; exact qt_t (HPU.out _))))
        with_reducible refine wpQuiet_nil ?_
        rintro _ ⟨pq, rfl⟩
        go_wp2_with fail
        go_roundg (nw - (k3 + 1))
        case measure => omega
        case rel => exact ⟨k3 + 1, by go_num, by omega, by omega, (TT.out.trans0 T4.out).trans0 pq.t, HB.out.keep (T4.out.trans0 pq.t), HI⟩
      ·have HWB : Hid (rwaitsB s = true) := riseE_all.1 (by rw [HNW.out, show nw = k3 by omega]; exact I.out)
       have c5 := HB.out 5 _ rfl
       clear I
       obtain rfl : nw = k3 := by omega
       clear hgk3 hk3' hlt3
       have HPO : Hid (∀ W, Tch No w W -> Calls Tryz.prog 60 #[.agg #[.int .i64 s.broker, .int .i64 s.nid, .int .i64 s.nseq, .int .i64 s.tx, .slice am nm cm, .slice aw nw cw, .slice ae ne ce, .slice ao no co, .slice an nn cn], .slice ao no co] W fun e w' => e = .returned (.bool (rpendsB s s.opens)) /\ Tch No W w') := fun W T => HPE0.out s.opens HOK.out.opens _ HOSL.out W T
       have HPN : Hid (∀ W, Tch No w W -> Calls Tryz.prog 60 #[.agg #[.int .i64 s.broker, .int .i64 s.nid, .int .i64 s.nseq, .int .i64 s.tx, .slice am nm cm, .slice aw nw cw, .slice ae ne ce, .slice ao no co, .slice an nn cn], .slice an nn cn] W fun e w' => e = .returned (.bool (rpendsB s s.noes)) /\ Tch No W w') := fun W T => HPE0.out s.noes HOK.out.noes _ HNSL.out W T
       have HSI : Hid (∀ W, Tch No w W -> Calls Tryz.prog 61 #[.agg #[.int .i64 s.broker, .int .i64 s.nid, .int .i64 s.nseq, .int .i64 s.tx, .slice am nm cm, .slice aw nw cw, .slice ae ne ce, .slice ao no co, .slice an nn cn]] W fun e w' => e = .returned (.bool (rsidesB s)) /\ Tch No W w') := fun W T => HSI0.out (by have := HEB.out; unfold rendsB at this; rw [Bool.and_eq_true] at this; exact this.2) W T
       have HFIN : Hid (res = ((rpendsB s s.opens && rpendsB s s.noes) && rsidesB s)) := by rw [Hid, <- HRES.out, HME.out, HHD.out, HMSB.out, HEB.out, HWB.out]; simp
       generalize rpendsB s s.opens = po at HPO HFIN
       generalize rpendsB s s.noes = pn at HPN HFIN
       generalize rsidesB s = si at HSI HFIN
       clear HPE0 HSI0 HAE0
       go_upto_region 20 with fail
       refine wp_world (fun w4 => ∃ p : TchW wr, w4 = p.wo) ⟨⟨wr, Tch.refl _ _⟩, rfl⟩ ?_
       rintro _ ⟨p0, rfl⟩
       have HBS : Hid (∀ p : TchW wr, BoxAt p.wo w.heap.size [.int .i64 s.broker, .int .i64 s.nid, .int .i64 s.nseq, .int .i64 s.tx, .slice am nm cm, .slice aw nw cw, .slice ae ne ce, .slice ao no co, .slice an nn cn]) := fun p => HB.out.keep p.t
       have c0' := fun p => HBS.out p 0 _ rfl
       have c1' := fun p => HBS.out p 1 _ rfl
       have c2' := fun p => HBS.out p 2 _ rfl
       have c3' := fun p => HBS.out p 3 _ rfl
       have c4' := fun p => HBS.out p 4 _ rfl
       have c5' := fun p => HBS.out p 5 _ rfl
       have c6' := fun p => HBS.out p 6 _ rfl
       have c7' := fun p => HBS.out p 7 _ rfl
       have c8' := fun p => HBS.out p 8 _ rfl
       cases po with
       | false =>
        have HN : Hid (res = false) := by rw [Hid, HFIN.out]; rfl
        go_wp2_with (first
         | (go_at_call 60; with_reducible refine cz HPO.out TT fun q' => ?_)
         | (go_at_call 60; with_reducible refine cz HPN.out TT fun q' => ?_)
         | (go_at_call 61; refine cz HSI.out TT fun q' => ?_))
        go_ret
        exact ⟨ret_b HN.out.symm, TT.out.trans0 (TchW.t _)⟩
       | true =>
       cases pn with
       | false =>
        have HN : Hid (res = false) := by rw [Hid, HFIN.out]; rfl
        go_wp2_with (first
         | (go_at_call 60; with_reducible refine cz HPO.out TT fun q' => ?_)
         | (go_at_call 60; with_reducible refine cz HPN.out TT fun q' => ?_)
         | (go_at_call 61; refine cz HSI.out TT fun q' => ?_))
        go_ret
        exact ⟨ret_b HN.out.symm, TT.out.trans0 (TchW.t _)⟩
       | true =>
        have HN : Hid (res = si) := by rw [Hid, HFIN.out]; rfl
        go_wp2_with (first
         | (go_at_call 60; with_reducible refine cz HPO.out TT fun q' => ?_)
         | (go_at_call 60; with_reducible refine cz HPN.out TT fun q' => ?_)
         | (go_at_call 61; refine cz HSI.out TT fun q' => ?_))
        go_ret
        exact ⟨ret_b HN.out.symm, TT.out.trans0 (TchW.t _)⟩
end
end Go.Proofs.YtelaljoebdpicaaGreat
