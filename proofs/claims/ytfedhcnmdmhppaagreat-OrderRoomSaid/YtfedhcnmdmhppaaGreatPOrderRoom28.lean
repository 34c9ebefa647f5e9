/- Part 28 of what the proof of OrderRoom rests on. No condition. -/
import Derived.Test.YtfedhcnmdmhppaaGreatPOrderRoom24
import Derived.Test.YtfedhcnmdmhppaaGreatPOrderRoom27
namespace Go.Proofs.YtfedhcnmdmhppaaGreat
set_option maxRecDepth 100000
set_option maxHeartbeats 60000000
set_option linter.unusedVariables false
set_option linter.unusedSimpArgs false
section
open Go.RowKit Go.Maps
theorem some_msg (w : World) (ib pb gb fb : Nat) (g : FuncId) (lb : Array Value) (eg : ∀ args w, (callFunc g args).run Tryz.prog w = .ok (.enter g args) w) (l : List MsgM) (n : Nat) (hn : l.length = n) (hn2 : n < 65536) (bsf : Nat -> List UInt8)
  (hp : ∀ k (hk : k < l.length) W, SDec w ib pb gb fb (bsf k) W -> Calls Tryz.prog g lb W fun e w' => e = .returned (.agg #[.int .i64 l[k].id, strV l[k].q, strV l[k].b, .int .i64 l[k].seq, .int .i64 l[k].cnt, .int .i64 l[k].who]) /\ SDec w ib pb gb fb (bsf (k + 1)) w' /\ Tch (FF ib gb) W w')
  (W0 : World) (h : SDec w ib pb gb fb (leBytes 2 n ++ bsf 0) W0) :
  Calls Tryz.prog 115 #[.pointer (some ⟨ib, 0, none⟩), .func (.func g) #[] lb] W0 fun e w' => ∃ a c, e = .returned (.slice a n c) /\ OwnN W0 50 6 n (l.flatMap encMsg) (.slice a n c) w' /\ SDec w ib pb gb fb (bsf n) w' /\ Tch (FF ib gb) W0 w' := by
 have HP := Lib.hid hp
 have HN := Lib.hid hn
 have HLT := Lib.hid h.lt
 have HS : Hid (Calls Tryz.prog 113 #[.pointer (some ⟨ib, 0, none⟩)] W0 fun e w' => e = .returned (.int .i64 n) /\ SDec w ib pb gb fb (bsf 0) w' /\ Tch (FF ib gb) W0 w') :=
  (InS.small n _ h.inn (by omega)).mono (fun e w' hh => ⟨hh.1, h.read hh.2.1 hh.2.2, inF_FF hh.2.2⟩)
 clear hp hn h
 go_enter Tryz.func115, Tryz.ntmps115
 go_wp2_with fail
 refine HS.out.mono ?_
 rintro e w1 ⟨rfl, s1, t1⟩
 have S1 := Lib.hid s1
 have T1 := Lib.hid t1
 clear s1 t1 HS
 go_wp2_with fail
 go_loopg [5, 6] n (fun kx s5 s6 wr => ∃ k md : Nat, s6 = .int .i64 ((md : Nat) : Int) /\ k + md = n /\ md <= kx /\ ∃ va vc, s5 = .slice va k vc /\ Hid (OwnN W0 50 6 k ((l.take k).flatMap encMsg) (.slice va k vc) wr) /\ Hid (SDec w ib pb gb fb (bsf k) wr) /\ Hid (Tch (FF ib gb) W0 wr))
 case atStart => exact ⟨0, n, rfl, by omega, by omega, none, 0, rfl, ⟨own_nil _ _ _, fun b hb => by simp [Value.ownBlock] at hb⟩, S1.out, T1.out⟩
 case round =>
  obtain ⟨k, md, rfl, hkm, hgk, va, vc, rfl, OW, SS, TT⟩ := hrel
  have HIB := Lib.hid SS.out.inn.bad
  cases md with
  | zero =>
   obtain rfl : k = n := by omega
   have htk : l.take k = l := by rw [<- HN.out, List.take_length]
   rw [htk] at OW
   go_wp2_with fail
   go_ret
   exact ⟨_, _, rfl, OW.out, SS.out, TT.out⟩
  | succ md =>
   have hlt : k < l.length := by rw [HN.out]; omega
   have hpos : (0 : Int) < ((md + 1 : Nat) : Int) := by omega
   have HC := Lib.hid (HP.out k hlt wr SS.out)
   have HXS : Hid ((l.take (k + 1)).flatMap encMsg = (l.take k).flatMap encMsg ++ encMsg l[k]) := by rw [Hid, List.take_succ_eq_append_getElem hlt, List.flatMap_append]; simp
   obtain ⟨x, hx⟩ : ∃ x, l[k] = x := ⟨_, rfl⟩
   rw [hx] at HC HXS
   obtain ⟨x0, x1, x2, x3, x4, x5⟩ := x
   simp only [strV, encMsg] at HC HXS
   obtain ⟨q1, hq1⟩ : ∃ q : ByteArray, (⟨x1.toArray⟩ : ByteArray) = q := ⟨_, rfl⟩
   obtain ⟨q2, hq2⟩ : ∃ q : ByteArray, (⟨x2.toArray⟩ : ByteArray) = q := ⟨_, rfl⟩
   rw [hq1, hq2] at HC HXS
   clear hq1 hq2 hx HP
   have HPR := Lib.hid hpos
   clear hpos
   have hpos := HPR.out
   go_wp2_with fail
   refine HIB.out.mono ?_
   rintro e wy ⟨rfl, rfl⟩
   go_wp2_with fail
   refine HC.out.mono ?_
   rintro e w4 ⟨rfl, s4, t4⟩
   have S4 := Lib.hid s4
   have T4 := Lib.hid t4
   clear s4 t4 HC 
   have OW4 : Hid (OwnN W0 50 6 k ((l.take k).flatMap encMsg) (.slice va k vc) w4) := ⟨own_tch OW.out.1 T4.out (fun b hb e => by have h1 := OW.out.2 b hb; have h2 := HLT.out; rcases e with e | e <;> omega), OW.out.2⟩
   obtain ⟨XS, hXS⟩ : ∃ x, ((l.take k).flatMap encMsg) = x := ⟨_, rfl⟩
   rw [hXS] at OW4
   obtain ⟨vk, hvk⟩ : ∃ x, Value.slice va k vc = x := ⟨_, rfl⟩
   have HAP : Hid (∀ W, Tch No w4 W -> OwnN W0 50 6 k XS vk W) := fun W t => by rw [<- hvk]; exact stb_own _ _ _ t OW4.out
   have HON : Hid (Ones ([.int .i64 x0, .string q1, .string q2, .int .i64 x3, .int .i64 x4, .int .i64 x5] : List Value)) := fun u hu => by
    simp only [List.mem_cons, List.not_mem_nil, or_false] at hu
    rcases hu with rfl | rfl | rfl | rfl | rfl | rfl <;> rfl
   have HVK := Lib.hid hvk
   have HXX := Lib.hid hXS
   have hk9 : k < 65536 := by omega
   clear hXS OW OW4
   rw [hvk]
   clear hvk
   go_wp2_with (at_builtin; refine wpList_appE eltMsg _ rfl _ _ rfl _ _ _ rfl (HAP.out _ (Tch.alloc _ _)).1 _ 1 [.int .i64 x0, .string q1, .string q2, .int .i64 x3, .int .i64 x4, .int .i64 x5] rfl (cells_lit2 (by simp) _ _ 6 _ rfl rfl) HON.out (by omega) ?_; rintro a' n' cap' w' HA hn')
   go_roundg md
   case measure => omega
   case rel =>
    have hnn : n' = k + 1 := hn'
    subst hnn
    have hT5 : Tch (fun b => vk.ownBlock = some b) w4 w' := (Tch.alloc _ _).no.trans (Tch.grown HA.grow (F := fun b => vk.ownBlock = some b) (fun b hb _ => hb)) (fun _ _ e => e)
    have hge : ∀ b, vk.ownBlock = some b -> W0.heap.size <= b := (HAP.out _ (Tch.refl _ _)).2
    have hlc : ∀ b, Value.ownBlock (.slice a' (k + 1) cap') = some b -> vk.ownBlock = some b ∨ w4.heap.size <= b := fun b hb => by
     rcases HA.loc with e | e
     ·rw [e] at hb; exact .inl hb
     ·rw [e] at hb; simp at hb; exact .inr (by omega)
    have hO : OwnN W0 50 6 (k + 1) (XS ++ [.int .i64 x0, .string q1, .string q2, .int .i64 x3, .int .i64 x4, .int .i64 x5]) (.slice a' (k + 1) cap') w' := ⟨HA.own, fun b hb => by
     rcases hlc b hb with e | e
     ·exact hge b e
     ·have h2 := T4.out.size; have h3 := TT.out.size; omega⟩
    have hSS : SDec w ib pb gb fb (bsf (k + 1)) w' := S4.out.keepF hT5 (fun b e => by have h1 := hge b e; have h2 := HLT.out; omega)
    have hTT : Tch (FF ib gb) W0 w' := (TT.out.trans T4.out (fun _ _ e => e)).trans hT5 (fun b hb e => by have h1 := hge b e; omega)
    exact ⟨k + 1, md, by go_num, by omega, by omega, a', cap', rfl, by rw [HXS.out, HXX.out]; exact hO, hSS, hTT⟩
theorem some_br (w : World) (ib pb gb fb : Nat) (g : FuncId) (lb : Array Value) (eg : ∀ args w, (callFunc g args).run Tryz.prog w = .ok (.enter g args) w) (l : List BrM) (n : Nat) (hn : l.length = n) (hn2 : n < 65536) (bsf : Nat -> List UInt8)
  (hp : ∀ k (hk : k < l.length) W, SDec w ib pb gb fb (bsf k) W -> Calls Tryz.prog g lb W fun e w' => ∃ a n c, e = .returned (.agg #[.int .i64 l[k].tid, .slice a n c]) /\ (∀ W2, Tch (fun k => k < W.heap.size) w' W2 -> IsPuts W2 (.slice a n c) l[k].puts) /\ SDec w ib pb gb fb (bsf (k + 1)) w' /\ Tch (FF ib gb) W w')
  (W0 : World) (h : SDec w ib pb gb fb (leBytes 2 n ++ bsf 0) W0) :
  Calls Tryz.prog 117 #[.pointer (some ⟨ib, 0, none⟩), .func (.func g) #[] lb] W0 fun e w' => ∃ a c, ∃ pr : List (BrM × Value), e = .returned (.slice a n c) /\ pr.map Prod.fst = l /\ OwnN W0 81 2 n (pr.flatMap (encPr (fun q : BrM => q.tid))) (.slice a n c) w' /\ (∀ x ∈ pr, ∀ W2, Tch (fun k => k < W0.heap.size) w' W2 -> IsPuts W2 x.2 x.1.puts) /\ SDec w ib pb gb fb (bsf n) w' /\ Tch (FF ib gb) W0 w' := by
 have HP := Lib.hid hp
 have HN := Lib.hid hn
 have HLT := Lib.hid h.lt
 have HS : Hid (Calls Tryz.prog 113 #[.pointer (some ⟨ib, 0, none⟩)] W0 fun e w' => e = .returned (.int .i64 n) /\ SDec w ib pb gb fb (bsf 0) w' /\ Tch (FF ib gb) W0 w') :=
  (InS.small n _ h.inn (by omega)).mono (fun e w' hh => ⟨hh.1, h.read hh.2.1 hh.2.2, inF_FF hh.2.2⟩)
 clear hp hn h
 go_enter Tryz.func117, Tryz.ntmps117
 go_wp2_with fail
 refine HS.out.mono ?_
 rintro e w1 ⟨rfl, s1, t1⟩
 have S1 := Lib.hid s1
 have T1 := Lib.hid t1
 clear s1 t1 HS
 go_wp2_with fail
 go_loopg [5, 6] n (fun kx s5 s6 wr => ∃ k md : Nat, s6 = .int .i64 ((md : Nat) : Int) /\ k + md = n /\ md <= kx /\ ∃ va vc, s5 = .slice va k vc /\ ∃ pr : List (BrM × Value), pr.map Prod.fst = l.take k /\ Hid (OwnN W0 81 2 k (pr.flatMap (encPr (fun q : BrM => q.tid))) (.slice va k vc) wr) /\ Hid (∀ x ∈ pr, ∃ lo hi, W0.heap.size <= lo /\ lo <= hi /\ hi <= wr.heap.size /\ (∀ b, Value.ownBlock (.slice va k vc) = some b -> b < lo ∨ hi <= b) /\ ∀ W2, Tch (fun j => j < lo ∨ hi <= j) wr W2 -> IsPuts W2 x.2 x.1.puts) /\ Hid (SDec w ib pb gb fb (bsf k) wr) /\ Hid (Tch (FF ib gb) W0 wr))
 case atStart => exact ⟨0, n, rfl, by omega, by omega, none, 0, rfl, [], rfl, ⟨own_nil _ _ _, fun b hb => by simp [Value.ownBlock] at hb⟩, (fun x hx => by cases hx), S1.out, T1.out⟩
 case round =>
  obtain ⟨k, md, rfl, hkm, hgk, va, vc, rfl, pr, hpr, OW, IT, SS, TT⟩ := hrel
  have HIB := Lib.hid SS.out.inn.bad
  cases md with
  | zero =>
   obtain rfl : k = n := by omega
   have htk : l.take k = l := by rw [<- HN.out, List.take_length]
   rw [htk] at hpr
   go_wp2_with fail
   go_ret
   exact ⟨_, _, pr, rfl, hpr, OW.out, fun x hx W2 t => by
    obtain ⟨lo, hi, h1, h2, h3, h4, h5⟩ := IT.out x hx
    exact h5 W2 (t.mono (fun j _ e => .inl (Nat.lt_of_lt_of_le e h1))), SS.out, TT.out⟩
  | succ md =>
   have hlt : k < l.length := by rw [HN.out]; omega
   have hpos : (0 : Int) < ((md + 1 : Nat) : Int) := by omega
   have HC := Lib.hid (HP.out k hlt wr SS.out)
   have HTK : Hid (l.take (k + 1) = l.take k ++ [l[k]]) := by rw [Hid, List.take_succ_eq_append_getElem hlt]
   obtain ⟨x, hx⟩ : ∃ x, l[k] = x := ⟨_, rfl⟩
   rw [hx] at HC HTK
   obtain ⟨x0, x1⟩ := x
   simp only at HC
   clear hx HP
   have HPR := Lib.hid hpos
   clear hpos
   have hpos := HPR.out
   go_wp2_with fail
   refine HIB.out.mono ?_
   rintro e wy ⟨rfl, rfl⟩
   go_wp2_with fail
   refine HC.out.mono ?_
   rintro e w4 ⟨ca, cn, cc, rfl, q4, s4, t4⟩
   have S4 := Lib.hid s4
   have T4 := Lib.hid t4
   have Q4 := Lib.hid q4
   clear s4 t4 HC q4
   have OW4 : Hid (OwnN W0 81 2 k (pr.flatMap (encPr (fun q : BrM => q.tid))) (.slice va k vc) w4) := ⟨own_tch OW.out.1 T4.out (fun b hb e => by have h1 := OW.out.2 b hb; have h2 := HLT.out; rcases e with e | e <;> omega), OW.out.2⟩
   obtain ⟨XS, hXS⟩ : ∃ x, (pr.flatMap (encPr (fun q : BrM => q.tid))) = x := ⟨_, rfl⟩
   rw [hXS] at OW4
   obtain ⟨vk, hvk⟩ : ∃ x, Value.slice va k vc = x := ⟨_, rfl⟩
   have HAP : Hid (∀ W, Tch No w4 W -> OwnN W0 81 2 k XS vk W) := fun W t => by rw [<- hvk]; exact stb_own _ _ _ t OW4.out
   have HON : Hid (Ones ([.int .i64 x0, .slice ca cn cc] : List Value)) := fun u hu => by
    simp only [List.mem_cons, List.not_mem_nil, or_false] at hu
    rcases hu with rfl | rfl <;> rfl
   have HVK := Lib.hid hvk
   have HXX := Lib.hid hXS
   have hk9 : k < 65536 := by omega
   have HBL : Hid (∀ b, Value.ownBlock (.slice va k vc) = some b -> b < wr.heap.size) := fun b hb => own_loc OW.out.1 b hb
   clear hXS OW OW4
   rw [hvk]
   clear hvk
   go_wp2_with (at_builtin; refine wpList_appE eltBr _ rfl _ _ rfl _ _ _ rfl (HAP.out _ (Tch.alloc _ _)).1 _ 1 [.int .i64 x0, .slice ca cn cc] rfl (cells_lit2 (by simp) _ _ 2 _ rfl rfl) HON.out (by omega) ?_; rintro a' n' cap' w' HA hn')
   go_roundg md
   case measure => omega
   case rel =>
    have hnn : n' = k + 1 := hn'
    subst hnn
    have hT5 : Tch (fun b => vk.ownBlock = some b) w4 w' := (Tch.alloc _ _).no.trans (Tch.grown HA.grow (F := fun b => vk.ownBlock = some b) (fun b hb _ => hb)) (fun _ _ e => e)
    have hge : ∀ b, vk.ownBlock = some b -> W0.heap.size <= b := (HAP.out _ (Tch.refl _ _)).2
    have hlc : ∀ b, Value.ownBlock (.slice a' (k + 1) cap') = some b -> vk.ownBlock = some b ∨ w4.heap.size <= b := fun b hb => by
     rcases HA.loc with e | e
     ·rw [e] at hb; exact .inl hb
     ·rw [e] at hb; simp at hb; exact .inr (by omega)
    have hO : OwnN W0 81 2 (k + 1) (XS ++ [.int .i64 x0, .slice ca cn cc]) (.slice a' (k + 1) cap') w' := ⟨HA.own, fun b hb => by
     rcases hlc b hb with e | e
     ·exact hge b e
     ·have h2 := T4.out.size; have h3 := TT.out.size; omega⟩
    have hSS : SDec w ib pb gb fb (bsf (k + 1)) w' := S4.out.keepF hT5 (fun b e => by have h1 := hge b e; have h2 := HLT.out; omega)
    have hTT : Tch (FF ib gb) W0 w' := (TT.out.trans T4.out (fun _ _ e => e)).trans hT5 (fun b hb e => by have h1 := hge b e; omega)
    refine ⟨k + 1, md, by go_num, by omega, by omega, a', cap', rfl, pr ++ [(⟨x0, x1⟩, .slice ca cn cc)], by rw [List.map_append, hpr, HTK.out]; rfl, by rw [Hid, List.flatMap_append, HXX.out]; simpa [encPr] using hO, fun x hx => ?_, hSS, hTT⟩
    rcases List.mem_append.1 hx with hx | hx
    ·obtain ⟨lo, hi, h1, h2, h3, h4, h5⟩ := IT.out x hx
     have h4' : ∀ b, vk.ownBlock = some b -> b < lo ∨ hi <= b := fun b hb => h4 b (by rw [HVK.out]; exact hb)
     have hz := T4.out.size
     have hz2 := hT5.size
     refine ⟨lo, hi, h1, h2, by omega, fun b hb => ?_, fun W2 t => h5 W2 (((T4.out.mono (G := fun j => j < lo ∨ hi <= j) (fun j _ e => .inl (by have h9 := HLT.out; rcases e with e | e <;> omega))).trans hT5 (fun b _ e => h4' b e)).trans t (fun _ _ e => e))⟩
     rcases hlc b hb with e | e
     ·exact h4' b e
     ·exact .inr (by omega)
    ·obtain rfl : x = (⟨x0, x1⟩, .slice ca cn cc) := by simpa using hx
     have hz := T4.out.size
     have hz2 := hT5.size
     have hz3 := TT.out.size
     have hb9 : ∀ b, vk.ownBlock = some b -> b < wr.heap.size := fun b hb => by
      exact HBL.out b (by rw [HVK.out]; exact hb)
     refine ⟨wr.heap.size, w4.heap.size, hz3, hz, hz2, fun b hb => ?_, fun W2 t => Q4.out W2 ?_⟩
     ·rcases hlc b hb with e | e
      ·exact .inl (hb9 b e)
      ·exact .inr e
     ·refine (hT5.mono (G := fun j => j < wr.heap.size) (fun b _ e => hb9 b e)).trans t (fun j hj e => ?_)
      rcases e with e | e
      ·exact e
      ·omega
theorem some_end (w : World) (ib pb gb fb : Nat) (g : FuncId) (lb : Array Value) (eg : ∀ args w, (callFunc g args).run Tryz.prog w = .ok (.enter g args) w) (l : List EndM) (n : Nat) (hn : l.length = n) (hn2 : n < 65536) (bsf : Nat -> List UInt8)
  (hp : ∀ k (hk : k < l.length) W, SDec w ib pb gb fb (bsf k) W -> Calls Tryz.prog g lb W fun e w' => e = .returned (.agg #[.int .i64 l[k].tid, .bool l[k].yes]) /\ SDec w ib pb gb fb (bsf (k + 1)) w' /\ Tch (FF ib gb) W w')
  (W0 : World) (h : SDec w ib pb gb fb (leBytes 2 n ++ bsf 0) W0) :
  Calls Tryz.prog 119 #[.pointer (some ⟨ib, 0, none⟩), .func (.func g) #[] lb] W0 fun e w' => ∃ a c, e = .returned (.slice a n c) /\ OwnN W0 59 2 n (l.flatMap encEnd) (.slice a n c) w' /\ SDec w ib pb gb fb (bsf n) w' /\ Tch (FF ib gb) W0 w' := by
 have HP := Lib.hid hp
 have HN := Lib.hid hn
 have HLT := Lib.hid h.lt
 have HS : Hid (Calls Tryz.prog 113 #[.pointer (some ⟨ib, 0, none⟩)] W0 fun e w' => e = .returned (.int .i64 n) /\ SDec w ib pb gb fb (bsf 0) w' /\ Tch (FF ib gb) W0 w') :=
  (InS.small n _ h.inn (by omega)).mono (fun e w' hh => ⟨hh.1, h.read hh.2.1 hh.2.2, inF_FF hh.2.2⟩)
 clear hp hn h
 go_enter Tryz.func119, Tryz.ntmps119
 go_wp2_with fail
 refine HS.out.mono ?_
 rintro e w1 ⟨rfl, s1, t1⟩
 have S1 := Lib.hid s1
 have T1 := Lib.hid t1
 clear s1 t1 HS
 go_wp2_with fail
 go_loopg [5, 6] n (fun kx s5 s6 wr => ∃ k md : Nat, s6 = .int .i64 ((md : Nat) : Int) /\ k + md = n /\ md <= kx /\ ∃ va vc, s5 = .slice va k vc /\ Hid (OwnN W0 59 2 k ((l.take k).flatMap encEnd) (.slice va k vc) wr) /\ Hid (SDec w ib pb gb fb (bsf k) wr) /\ Hid (Tch (FF ib gb) W0 wr))
 case atStart => exact ⟨0, n, rfl, by omega, by omega, none, 0, rfl, ⟨own_nil _ _ _, fun b hb => by simp [Value.ownBlock] at hb⟩, S1.out, T1.out⟩
 case round =>
  obtain ⟨k, md, rfl, hkm, hgk, va, vc, rfl, OW, SS, TT⟩ := hrel
  have HIB := Lib.hid SS.out.inn.bad
  cases md with
  | zero =>
   obtain rfl : k = n := by omega
   have htk : l.take k = l := by rw [<- HN.out, List.take_length]
   rw [htk] at OW
   go_wp2_with fail
   go_ret
   exact ⟨_, _, rfl, OW.out, SS.out, TT.out⟩
  | succ md =>
   have hlt : k < l.length := by rw [HN.out]; omega
   have hpos : (0 : Int) < ((md + 1 : Nat) : Int) := by omega
   have HC := Lib.hid (HP.out k hlt wr SS.out)
   have HXS : Hid ((l.take (k + 1)).flatMap encEnd = (l.take k).flatMap encEnd ++ encEnd l[k]) := by rw [Hid, List.take_succ_eq_append_getElem hlt, List.flatMap_append]; simp
   obtain ⟨x, hx⟩ : ∃ x, l[k] = x := ⟨_, rfl⟩
   rw [hx] at HC HXS
   obtain ⟨x0, x1⟩ := x
   simp only [encEnd] at HC HXS
   clear hx HP
   have HPR := Lib.hid hpos
   clear hpos
   have hpos := HPR.out
   go_wp2_with fail
   refine HIB.out.mono ?_
   rintro e wy ⟨rfl, rfl⟩
   go_wp2_with fail
   refine HC.out.mono ?_
   rintro e w4 ⟨rfl, s4, t4⟩
   have S4 := Lib.hid s4
   have T4 := Lib.hid t4
   clear s4 t4 HC 
   have OW4 : Hid (OwnN W0 59 2 k ((l.take k).flatMap encEnd) (.slice va k vc) w4) := ⟨own_tch OW.out.1 T4.out (fun b hb e => by have h1 := OW.out.2 b hb; have h2 := HLT.out; rcases e with e | e <;> omega), OW.out.2⟩
   obtain ⟨XS, hXS⟩ : ∃ x, ((l.take k).flatMap encEnd) = x := ⟨_, rfl⟩
   rw [hXS] at OW4
   obtain ⟨vk, hvk⟩ : ∃ x, Value.slice va k vc = x := ⟨_, rfl⟩
   have HAP : Hid (∀ W, Tch No w4 W -> OwnN W0 59 2 k XS vk W) := fun W t => by rw [<- hvk]; exact stb_own _ _ _ t OW4.out
   have HON : Hid (Ones ([.int .i64 x0, .bool x1] : List Value)) := fun u hu => by
    simp only [List.mem_cons, List.not_mem_nil, or_false] at hu
    rcases hu with rfl | rfl <;> rfl
   have HVK := Lib.hid hvk
   have HXX := Lib.hid hXS
   have hk9 : k < 65536 := by omega
   clear hXS OW OW4
   rw [hvk]
   clear hvk
   go_wp2_with (at_builtin; refine wpList_appE eltEnd _ rfl _ _ rfl _ _ _ rfl (HAP.out _ (Tch.alloc _ _)).1 _ 1 [.int .i64 x0, .bool x1] rfl (cells_lit2 (by simp) _ _ 2 _ rfl rfl) HON.out (by omega) ?_; rintro a' n' cap' w' HA hn')
   go_roundg md
   case measure => omega
   case rel =>
    have hnn : n' = k + 1 := hn'
    subst hnn
    have hT5 : Tch (fun b => vk.ownBlock = some b) w4 w' := (Tch.alloc _ _).no.trans (Tch.grown HA.grow (F := fun b => vk.ownBlock = some b) (fun b hb _ => hb)) (fun _ _ e => e)
    have hge : ∀ b, vk.ownBlock = some b -> W0.heap.size <= b := (HAP.out _ (Tch.refl _ _)).2
    have hlc : ∀ b, Value.ownBlock (.slice a' (k + 1) cap') = some b -> vk.ownBlock = some b ∨ w4.heap.size <= b := fun b hb => by
     rcases HA.loc with e | e
     ·rw [e] at hb; exact .inl hb
     ·rw [e] at hb; simp at hb; exact .inr (by omega)
    have hO : OwnN W0 59 2 (k + 1) (XS ++ [.int .i64 x0, .bool x1]) (.slice a' (k + 1) cap') w' := ⟨HA.own, fun b hb => by
     rcases hlc b hb with e | e
     ·exact hge b e
     ·have h2 := T4.out.size; have h3 := TT.out.size; omega⟩
    have hSS : SDec w ib pb gb fb (bsf (k + 1)) w' := S4.out.keepF hT5 (fun b e => by have h1 := hge b e; have h2 := HLT.out; omega)
    have hTT : Tch (FF ib gb) W0 w' := (TT.out.trans T4.out (fun _ _ e => e)).trans hT5 (fun b hb e => by have h1 := hge b e; omega)
    exact ⟨k + 1, md, by go_num, by omega, by omega, a', cap', rfl, by rw [HXS.out, HXX.out]; exact hO, hSS, hTT⟩
theorem some_pend (w : World) (ib pb gb fb : Nat) (g : FuncId) (lb : Array Value) (eg : ∀ args w, (callFunc g args).run Tryz.prog w = .ok (.enter g args) w) (l : List PendM) (n : Nat) (hn : l.length = n) (hn2 : n < 65536) (bsf : Nat -> List UInt8)
  (hp : ∀ k (hk : k < l.length) W, SDec w ib pb gb fb (bsf k) W -> Calls Tryz.prog g lb W fun e w' => ∃ a n c, e = .returned (.agg #[.int .i64 l[k].tid, .slice a n c]) /\ (∀ W2, Tch (fun k => k < W.heap.size) w' W2 -> IsInts W2 (.slice a n c) l[k].parts) /\ SDec w ib pb gb fb (bsf (k + 1)) w' /\ Tch (FF ib gb) W w')
  (W0 : World) (h : SDec w ib pb gb fb (leBytes 2 n ++ bsf 0) W0) :
  Calls Tryz.prog 122 #[.pointer (some ⟨ib, 0, none⟩), .func (.func g) #[] lb] W0 fun e w' => ∃ a c, ∃ pr : List (PendM × Value), e = .returned (.slice a n c) /\ pr.map Prod.fst = l /\ OwnN W0 63 2 n (pr.flatMap (encPr (fun q : PendM => q.tid))) (.slice a n c) w' /\ (∀ x ∈ pr, ∀ W2, Tch (fun k => k < W0.heap.size) w' W2 -> IsInts W2 x.2 x.1.parts) /\ SDec w ib pb gb fb (bsf n) w' /\ Tch (FF ib gb) W0 w' := by
 have HP := Lib.hid hp
 have HN := Lib.hid hn
 have HLT := Lib.hid h.lt
 have HS : Hid (Calls Tryz.prog 113 #[.pointer (some ⟨ib, 0, none⟩)] W0 fun e w' => e = .returned (.int .i64 n) /\ SDec w ib pb gb fb (bsf 0) w' /\ Tch (FF ib gb) W0 w') :=
  (InS.small n _ h.inn (by omega)).mono (fun e w' hh => ⟨hh.1, h.read hh.2.1 hh.2.2, inF_FF hh.2.2⟩)
 clear hp hn h
 go_enter Tryz.func122, Tryz.ntmps122
 go_wp2_with fail
 refine HS.out.mono ?_
 rintro e w1 ⟨rfl, s1, t1⟩
 have S1 := Lib.hid s1
 have T1 := Lib.hid t1
 clear s1 t1 HS
 go_wp2_with fail
 go_loopg [5, 6] n (fun kx s5 s6 wr => ∃ k md : Nat, s6 = .int .i64 ((md : Nat) : Int) /\ k + md = n /\ md <= kx /\ ∃ va vc, s5 = .slice va k vc /\ ∃ pr : List (PendM × Value), pr.map Prod.fst = l.take k /\ Hid (OwnN W0 63 2 k (pr.flatMap (encPr (fun q : PendM => q.tid))) (.slice va k vc) wr) /\ Hid (∀ x ∈ pr, ∃ lo hi, W0.heap.size <= lo /\ lo <= hi /\ hi <= wr.heap.size /\ (∀ b, Value.ownBlock (.slice va k vc) = some b -> b < lo ∨ hi <= b) /\ ∀ W2, Tch (fun j => j < lo ∨ hi <= j) wr W2 -> IsInts W2 x.2 x.1.parts) /\ Hid (SDec w ib pb gb fb (bsf k) wr) /\ Hid (Tch (FF ib gb) W0 wr))
 case atStart => exact ⟨0, n, rfl, by omega, by omega, none, 0, rfl, [], rfl, ⟨own_nil _ _ _, fun b hb => by simp [Value.ownBlock] at hb⟩, (fun x hx => by cases hx), S1.out, T1.out⟩
 case round =>
  obtain ⟨k, md, rfl, hkm, hgk, va, vc, rfl, pr, hpr, OW, IT, SS, TT⟩ := hrel
  have HIB := Lib.hid SS.out.inn.bad
  cases md with
  | zero =>
   obtain rfl : k = n := by omega
   have htk : l.take k = l := by rw [<- HN.out, List.take_length]
   rw [htk] at hpr
   go_wp2_with fail
   go_ret
   exact ⟨_, _, pr, rfl, hpr, OW.out, fun x hx W2 t => by
    obtain ⟨lo, hi, h1, h2, h3, h4, h5⟩ := IT.out x hx
    exact h5 W2 (t.mono (fun j _ e => .inl (Nat.lt_of_lt_of_le e h1))), SS.out, TT.out⟩
  | succ md =>
   have hlt : k < l.length := by rw [HN.out]; omega
   have hpos : (0 : Int) < ((md + 1 : Nat) : Int) := by omega
   have HC := Lib.hid (HP.out k hlt wr SS.out)
   have HTK : Hid (l.take (k + 1) = l.take k ++ [l[k]]) := by rw [Hid, List.take_succ_eq_append_getElem hlt]
   obtain ⟨x, hx⟩ : ∃ x, l[k] = x := ⟨_, rfl⟩
   rw [hx] at HC HTK
   obtain ⟨x0, x1⟩ := x
   simp only at HC
   clear hx HP
   have HPR := Lib.hid hpos
   clear hpos
   have hpos := HPR.out
   go_wp2_with fail
   refine HIB.out.mono ?_
   rintro e wy ⟨rfl, rfl⟩
   go_wp2_with fail
   refine HC.out.mono ?_
   rintro e w4 ⟨ca, cn, cc, rfl, q4, s4, t4⟩
   have S4 := Lib.hid s4
   have T4 := Lib.hid t4
   have Q4 := Lib.hid q4
   clear s4 t4 HC q4
   have OW4 : Hid (OwnN W0 63 2 k (pr.flatMap (encPr (fun q : PendM => q.tid))) (.slice va k vc) w4) := ⟨own_tch OW.out.1 T4.out (fun b hb e => by have h1 := OW.out.2 b hb; have h2 := HLT.out; rcases e with e | e <;> omega), OW.out.2⟩
   obtain ⟨XS, hXS⟩ : ∃ x, (pr.flatMap (encPr (fun q : PendM => q.tid))) = x := ⟨_, rfl⟩
   rw [hXS] at OW4
   obtain ⟨vk, hvk⟩ : ∃ x, Value.slice va k vc = x := ⟨_, rfl⟩
   have HAP : Hid (∀ W, Tch No w4 W -> OwnN W0 63 2 k XS vk W) := fun W t => by rw [<- hvk]; exact stb_own _ _ _ t OW4.out
   have HON : Hid (Ones ([.int .i64 x0, .slice ca cn cc] : List Value)) := fun u hu => by
    simp only [List.mem_cons, List.not_mem_nil, or_false] at hu
    rcases hu with rfl | rfl <;> rfl
   have HVK := Lib.hid hvk
   have HXX := Lib.hid hXS
   have hk9 : k < 65536 := by omega
   have HBL : Hid (∀ b, Value.ownBlock (.slice va k vc) = some b -> b < wr.heap.size) := fun b hb => own_loc OW.out.1 b hb
   clear hXS OW OW4
   rw [hvk]
   clear hvk
   go_wp2_with (at_builtin; refine wpList_appE eltPend _ rfl _ _ rfl _ _ _ rfl (HAP.out _ (Tch.alloc _ _)).1 _ 1 [.int .i64 x0, .slice ca cn cc] rfl (cells_lit2 (by simp) _ _ 2 _ rfl rfl) HON.out (by omega) ?_; rintro a' n' cap' w' HA hn')
   go_roundg md
   case measure => omega
   case rel =>
    have hnn : n' = k + 1 := hn'
    subst hnn
    have hT5 : Tch (fun b => vk.ownBlock = some b) w4 w' := (Tch.alloc _ _).no.trans (Tch.grown HA.grow (F := fun b => vk.ownBlock = some b) (fun b hb _ => hb)) (fun _ _ e => e)
    have hge : ∀ b, vk.ownBlock = some b -> W0.heap.size <= b := (HAP.out _ (Tch.refl _ _)).2
    have hlc : ∀ b, Value.ownBlock (.slice a' (k + 1) cap') = some b -> vk.ownBlock = some b ∨ w4.heap.size <= b := fun b hb => by
     rcases HA.loc with e | e
     ·rw [e] at hb; exact .inl hb
     ·rw [e] at hb; simp at hb; exact .inr (by omega)
    have hO : OwnN W0 63 2 (k + 1) (XS ++ [.int .i64 x0, .slice ca cn cc]) (.slice a' (k + 1) cap') w' := ⟨HA.own, fun b hb => by
     rcases hlc b hb with e | e
     ·exact hge b e
     ·have h2 := T4.out.size; have h3 := TT.out.size; omega⟩
    have hSS : SDec w ib pb gb fb (bsf (k + 1)) w' := S4.out.keepF hT5 (fun b e => by have h1 := hge b e; have h2 := HLT.out; omega)
    have hTT : Tch (FF ib gb) W0 w' := (TT.out.trans T4.out (fun _ _ e => e)).trans hT5 (fun b hb e => by have h1 := hge b e; omega)
    refine ⟨k + 1, md, by go_num, by omega, by omega, a', cap', rfl, pr ++ [(⟨x0, x1⟩, .slice ca cn cc)], by rw [List.map_append, hpr, HTK.out]; rfl, by rw [Hid, List.flatMap_append, HXX.out]; simpa [encPr] using hO, fun x hx => ?_, hSS, hTT⟩
    rcases List.mem_append.1 hx with hx | hx
    ·obtain ⟨lo, hi, h1, h2, h3, h4, h5⟩ := IT.out x hx
     have h4' : ∀ b, vk.ownBlock = some b -> b < lo ∨ hi <= b := fun b hb => h4 b (by rw [HVK.out]; exact hb)
     have hz := T4.out.size
     have hz2 := hT5.size
     refine ⟨lo, hi, h1, h2, by omega, fun b hb => ?_, fun W2 t => h5 W2 (((T4.out.mono (G := fun j => j < lo ∨ hi <= j) (fun j _ e => .inl (by have h9 := HLT.out; rcases e with e | e <;> omega))).trans hT5 (fun b _ e => h4' b e)).trans t (fun _ _ e => e))⟩
     rcases hlc b hb with e | e
     ·exact h4' b e
     ·exact .inr (by omega)
    ·obtain rfl : x = (⟨x0, x1⟩, .slice ca cn cc) := by simpa using hx
     have hz := T4.out.size
     have hz2 := hT5.size
     have hz3 := TT.out.size
     have hb9 : ∀ b, vk.ownBlock = some b -> b < wr.heap.size := fun b hb => by
      exact HBL.out b (by rw [HVK.out]; exact hb)
     refine ⟨wr.heap.size, w4.heap.size, hz3, hz, hz2, fun b hb => ?_, fun W2 t => Q4.out W2 ?_⟩
     ·rcases hlc b hb with e | e
      ·exact .inl (hb9 b e)
      ·exact .inr e
     ·refine (hT5.mono (G := fun j => j < wr.heap.size) (fun b _ e => hb9 b e)).trans t (fun j hj e => ?_)
      rcases e with e | e
      ·exact e
      ·omega
end
end Go.Proofs.YtfedhcnmdmhppaaGreat
