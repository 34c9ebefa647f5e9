/- A front of a log's bytes, opened: in plain lists. No condition. -/
import Derived.Test.YtcjlgdldhcbcjaaSegS
namespace Go.Proofs.Ytcjlgdldhcbcjaa
open Go.RowKit Go.Maps
set_option linter.unusedVariables false
set_option linter.unusedSimpArgs false

theorem front_cut (A : List (List UInt8)) (hA : ∀ b ∈ A, fits b) (k n : Nat) (hn : n ≤ A.length) (h1 : (framed (A.take n)).length ≤ k) (h2 : (n = A.length ∧ k = (framed A).length) ∨ (n < A.length ∧ k < (framed (A.take (n + 1))).length)) :
    ∃ t, framesM ((framed A).take k) = ⟨A.take n, (framed (A.take n)).length, t, 0⟩ ∧ ((framed A).take k).take ((framed (A.take n)).length) = framed (A.take n) ∧ (t = false → (framed A).take k = framed (A.take n)) := by
  have hsub : ∀ b ∈ A.take n, fits b := fun b hb => hA b (List.mem_of_mem_take hb)
  have hcut : ((framed A).take k).take ((framed (A.take n)).length) = framed (A.take n) := by
    rw [List.take_take, Nat.min_eq_left h1]
    have e : framed A = framed (A.take n) ++ framed (A.drop n) := by rw [← framed_append, List.take_append_drop]
    rw [e, List.take_left]
  rcases h2 with ⟨e1, e2⟩ | ⟨e1, e2⟩
  · have h3 : A.take n = A := by rw [e1, List.take_length]
    have h4 : (framed A).take k = framed A := by rw [e2, List.take_length]
    rw [h3] at hcut ⊢
    rw [h4] at hcut ⊢
    exact ⟨false, framesM_framed A hA, hcut, fun _ => rfl⟩
  · have hs : A.take (n + 1) = A.take n ++ [A[n]] := by rw [List.take_add_one, List.getElem?_eq_getElem e1]; rfl
    have hfb : fits A[n] := hA _ (List.getElem_mem e1)
    have hlen : k < (framed (A.take n)).length + (6 + A[n].length) := by
      rw [hs, framed_append, List.length_append, framed_one, frameM_length] at e2; exact e2
    have e : framed A = framed (A.take n) ++ (frameM A[n] ++ framed (A.drop (n + 1))) := by
      rw [← framed_cons, ← List.drop_eq_getElem_cons e1, ← framed_append, List.take_append_drop]
    obtain ⟨j, hj⟩ : ∃ j, k = (framed (A.take n)).length + j := ⟨k - (framed (A.take n)).length, by omega⟩
    have hk : (framed A).take k = framed (A.take n) ++ (frameM A[n]).take j := by
      rw [e, hj, List.take_append, List.take_of_length_le (by omega), Nat.add_sub_cancel_left, List.take_append_of_le_length (by rw [frameM_length]; omega)]
    by_cases hz : j = 0
    · subst hz
      rw [List.take_zero, List.append_nil] at hk
      exact ⟨false, by rw [hk]; exact framesM_framed _ hsub, hcut, fun _ => hk⟩
    · exact ⟨true, by rw [hk]; exact framesM_part _ hsub _ hfb j (by omega) (by omega), hcut, fun h => by cases h⟩
/-- A disk of one file, the first segment. -/
def segM (p : List UInt8) (su : Nat) (nm : Bool) : List FE := [⟨segNm 0, p, su, nm⟩]
theorem segM_get (p : List UInt8) (su : Nat) (nm : Bool) : mGet (segM p su nm) (segNm 0) = some ⟨segNm 0, p, su, nm⟩ := by simp [segM, mGet]
theorem segM_del (p : List UInt8) (su : Nat) (nm : Bool) : mDel (segM p su nm) newK = segM p su nm := by
  unfold mDel
  rw [List.filter_eq_self]
  intro y hy
  simp [segM] at hy
  subst hy
  simpa using seg_ne_new 0
theorem segM_top (p : List UInt8) (su : Nat) (nm : Bool) : topF (segM p su nm) 0 999 = 0 := topF_none (fun n h1 h2 => by
  have e0 : ¬ segNm 0 = segNm n := fun e => by have := segNm_inj (by omega) h2 e; omega
  simp [mGet, segM, e0]) 999 (by omega) (by omega)
theorem segM_b (p : List UInt8) (su : Nat) (nm : Bool) : segB (segM p su nm) 0 = p := by unfold segB; rw [segM_get]; rfl
theorem mend_one (p q : List UInt8) (su : Nat) (nm : Bool) (h : p.length + q.length ≤ 1048576) : mendM (segM p su nm) 1048576 0 q = (0, segM q q.length true) := by
  have hne : ¬ segNm 0 = newK := seg_ne_new 0
  have hne' : ¬ newK = segNm 0 := fun e => hne e.symm
  have hg : goodB newK = true := by kernel_rfl
  have hg0 := good_seg 0 (by omega)
  have ha : mAppend (segM p su nm) 1048576 newK q = (0, [⟨segNm 0, p, su, nm⟩, ⟨newK, q, 0, false⟩]) := by
    unfold mAppend
    rw [hg, if_neg (by simp), if_neg (by simp [mUsed, segM]; omega)]
    simp [mAppL, mGet, segM, hne]
  unfold mendM
  rw [ha]
  simp [mGet, mSync, mRename, mRen, mDel, segM, hne, hne', hg0]
theorem openM_one (M0 : List FE) (p q : List UInt8) (B : List (List UInt8)) (t : Bool) (hd : mDel M0 newK = segM p 0 false) (hp : p.length ≤ 500000) (hf : framesM p = ⟨B, q.length, t, 0⟩) (hq : p.take q.length = q) (ht : t = false → p = q) : ∃ su nm, openM 1048576 M0 0 = ⟨0, segM q su nm, 0, B⟩ := by
  have hql : q.length ≤ p.length := by have := congrArg List.length hq; simp at this; omega
  unfold openM
  rw [hd, segM_top]
  show ∃ su nm, openF 1048576 0 1 (segM p 0 false) 0 [] = _
  unfold openF
  rw [segM_b, hf, if_neg (by simp), if_neg (by simp)]
  cases t with
  | false =>
    refine ⟨0, false, ?_⟩
    rw [if_pos rfl, ht rfl]; rfl
  | true =>
    refine ⟨q.length, true, ?_⟩
    rw [if_neg (by simp)]
    simp only [hq]
    rw [mend_one p q 0 false (by omega), if_neg (by simp)]
    rfl
theorem add_segM (B : List (List UInt8)) (su : Nat) (nm : Bool) (b : List UInt8) (hb : fits b) (h : (framed B).length < 2000) : addM 1048576 (segM (framed B) su nm) 0 B b = ⟨0, segM (framed (B ++ [b])) su nm, 0, B ++ [b]⟩ := by
  have hl : (frameM b).length = 6 + b.length := frameM_length b
  unfold fits at hb
  unfold addM
  rw [if_neg (fun q => q hb), segM_get, if_neg (by simp; omega)]
  unfold putM
  have ha : mAppend (segM (framed B) su nm) 1048576 (segNm 0) (frameM b) = (0, segM (framed (B ++ [b])) su nm) := by
    unfold mAppend
    rw [good_seg 0 (by omega), if_neg (by simp), if_neg (by simp [mUsed, segM, hl]; omega), framed_append, framed_one]
    simp [mAppL, mGet, segM]
  rw [ha]; rfl
theorem sync_segM (p : List UInt8) (su : Nat) (nm : Bool) : mSync (segM p su nm) (segNm 0) = segM p p.length true := by simp [mSync, segM]
theorem fall_segM (p : List UInt8) (n : Int) : mFall n (segM p p.length true) = segM p p.length true := fall_sure (fun x hx => by simp [segM] at hx; subst hx; exact ⟨rfl, rfl⟩) n
theorem open_segM (B : List (List UInt8)) (hB : ∀ b ∈ B, fits b) (su : Nat) (nm : Bool) : openM 1048576 (segM (framed B) su nm) 0 = ⟨0, segM (framed B) su nm, 0, B⟩ := by
  unfold openM
  rw [segM_del, segM_top]
  show openF 1048576 0 1 (segM (framed B) su nm) 0 [] = _
  unfold openF
  rw [segM_b, framesM_framed B hB, if_neg (by simp), if_neg (by simp), if_pos rfl]
  rfl
theorem app_left (p : List UInt8) (h : p.length ≤ 500000) : mAppend [] 1048576 (segNm 0) p = (0, segM p 0 false) ∧ mAppend (segM p 0 false) 1048576 newK [104, 97, 108, 102] = (0, segM p 0 false ++ [⟨newK, [104, 97, 108, 102], 0, false⟩]) := by
  have hne : ¬ segNm 0 = newK := seg_ne_new 0
  have hg : goodB newK = true := by kernel_rfl
  constructor
  · unfold mAppend
    rw [good_seg 0 (by omega), if_neg (by simp), if_neg (by simp [mUsed]; omega)]
    simp [mAppL, mGet, segM]
  · unfold mAppend
    rw [hg, if_neg (by simp), if_neg (by simp [mUsed, segM]; omega)]
    simp [mAppL, mGet, segM, hne]
theorem del_left (p : List UInt8) : mDel (segM p 0 false ++ [⟨newK, [104, 97, 108, 102], 0, false⟩]) newK = segM p 0 false := by
  unfold mDel
  rw [List.filter_append]
  have := segM_del p 0 false
  unfold mDel at this
  rw [this]; simp
end Go.Proofs.Ytcjlgdldhcbcjaa
