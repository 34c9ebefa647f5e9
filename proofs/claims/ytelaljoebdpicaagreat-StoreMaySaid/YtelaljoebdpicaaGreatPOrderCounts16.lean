/- Part 16 of what the proof of OrderCounts rests on. No condition. -/
import Derived.Test.YtelaljoebdpicaaGreatPOrderCounts14
namespace Go.Proofs.YtelaljoebdpicaaGreat
set_option maxRecDepth 100000
set_option maxHeartbeats 60000000
set_option linter.unusedVariables false
set_option linter.unusedSimpArgs false
set_option linter.unusedSectionVars false
section
open Go.RowKit Go.Maps
theorem box_step {w W W2 : World} {bx : Nat} {cs : Array Value} {T e : TypeId} {size n' : Nat} {ys : List Value} {v' : Value} (j : Nat) (tW : Tch No w W) (hb : w.heap.size <= bx) (hB : W.heap[bx]? = some (.cells cs T (0, 0))) (hA : AppE e size W (.slice none 0 0) n' ys v' W2) :
  Tch No w (W2.setCell ⟨bx, j, none⟩ v') /\ (W2.setCell ⟨bx, j, none⟩ v').heap[bx]? = some (.cells (cs.setIfInBounds j v') T (0, 0)) /\ (W2.setCell ⟨bx, j, none⟩ v').ownsRow 0 e size v' n' ys /\ (∀ b, v'.ownBlock = some b -> b ≠ bx /\ w.heap.size <= b) /\ Tch (fun k => k = bx) W (W2.setCell ⟨bx, j, none⟩ v') := by
 obtain ⟨hT, hF⟩ := hA.fresh
 have hlt := blk_lt hB
 have hs := Tch.setCell (F := fun k => k = bx) W2 ⟨bx, j, none⟩ v' (fun _ => rfl)
 have hne : ∀ b, v'.ownBlock = some b -> b ≠ bx /\ w.heap.size <= b := fun b h => by have := hF b h; have := tW.size; omega
 refine ⟨(tW.trans0 hT).fresh hs (fun i e => by omega), blk_set (blk_tch hT hB (fun h => h)) j v', own_tch hA.own hs (fun k hk e => (hne k hk).1 e), hne, (hT.no).trans hs (fun i _ h => h)⟩
def OwnB (bx : Nat) (e : TypeId) (size n : Nat) (cs : List Value) (v : Value) (W : World) : Prop := W.ownsRow 0 e size v n cs /\ ∀ b, v.ownBlock = some b -> b ≠ bx
theorem OwnB.tch {bx : Nat} {e : TypeId} {size n : Nat} {cs : List Value} {v : Value} {W W' : World} (h : OwnB bx e size n cs v W) (t : Tch (fun k => k = bx) W W') : OwnB bx e size n cs v W' := ⟨own_tch h.1 t (fun k hk e => h.2 k hk e), h.2⟩
theorem set9 {W : World} {b : Nat} {T : TypeId} {c0 c1 c2 c3 c4 c5 c6 c7 c8 : Value} (v0 v1 v2 v3 v4 v5 v6 v7 v8 : Value) (h : W.heap[b]? = some (.cells #[c0, c1, c2, c3, c4, c5, c6, c7, c8] T (0, 0))) :
  (((((((((W.setCell ⟨b, 0, none⟩ v0).setCell ⟨b, 1, none⟩ v1).setCell ⟨b, 2, none⟩ v2).setCell ⟨b, 3, none⟩ v3).setCell ⟨b, 4, none⟩ v4).setCell ⟨b, 5, none⟩ v5).setCell ⟨b, 6, none⟩ v6).setCell ⟨b, 7, none⟩ v7).setCell ⟨b, 8, none⟩ v8).heap[b]? = some (.cells #[v0, v1, v2, v3, v4, v5, v6, v7, v8] T (0, 0)) /\ Tch (fun k => k = b) W (((((((((W.setCell ⟨b, 0, none⟩ v0).setCell ⟨b, 1, none⟩ v1).setCell ⟨b, 2, none⟩ v2).setCell ⟨b, 3, none⟩ v3).setCell ⟨b, 4, none⟩ v4).setCell ⟨b, 5, none⟩ v5).setCell ⟨b, 6, none⟩ v6).setCell ⟨b, 7, none⟩ v7).setCell ⟨b, 8, none⟩ v8) := by
 have h0 := blk_set h 0 v0
 have h1 := blk_set h0 1 v1
 have h2 := blk_set h1 2 v2
 have h3 := blk_set h2 3 v3
 have h4 := blk_set h3 4 v4
 have h5 := blk_set h4 5 v5
 have h6 := blk_set h5 6 v6
 have h7 := blk_set h6 7 v7
 have h8 := blk_set h7 8 v8
 have t0 : Tch (fun k => k = b) W (W.setCell ⟨b, 0, none⟩ v0) := Tch.setCell W ⟨b, 0, none⟩ v0 (fun _ => rfl)
 have t1 : Tch (fun k => k = b) W ((W.setCell ⟨b, 0, none⟩ v0).setCell ⟨b, 1, none⟩ v1) := t0.trans (Tch.setCell (F := fun k => k = b) _ ⟨b, 1, none⟩ v1 (fun _ => rfl)) (fun _ _ h => h)
 have t2 : Tch (fun k => k = b) W (((W.setCell ⟨b, 0, none⟩ v0).setCell ⟨b, 1, none⟩ v1).setCell ⟨b, 2, none⟩ v2) := t1.trans (Tch.setCell (F := fun k => k = b) _ ⟨b, 2, none⟩ v2 (fun _ => rfl)) (fun _ _ h => h)
 have t3 : Tch (fun k => k = b) W ((((W.setCell ⟨b, 0, none⟩ v0).setCell ⟨b, 1, none⟩ v1).setCell ⟨b, 2, none⟩ v2).setCell ⟨b, 3, none⟩ v3) := t2.trans (Tch.setCell (F := fun k => k = b) _ ⟨b, 3, none⟩ v3 (fun _ => rfl)) (fun _ _ h => h)
 have t4 : Tch (fun k => k = b) W (((((W.setCell ⟨b, 0, none⟩ v0).setCell ⟨b, 1, none⟩ v1).setCell ⟨b, 2, none⟩ v2).setCell ⟨b, 3, none⟩ v3).setCell ⟨b, 4, none⟩ v4) := t3.trans (Tch.setCell (F := fun k => k = b) _ ⟨b, 4, none⟩ v4 (fun _ => rfl)) (fun _ _ h => h)
 have t5 : Tch (fun k => k = b) W ((((((W.setCell ⟨b, 0, none⟩ v0).setCell ⟨b, 1, none⟩ v1).setCell ⟨b, 2, none⟩ v2).setCell ⟨b, 3, none⟩ v3).setCell ⟨b, 4, none⟩ v4).setCell ⟨b, 5, none⟩ v5) := t4.trans (Tch.setCell (F := fun k => k = b) _ ⟨b, 5, none⟩ v5 (fun _ => rfl)) (fun _ _ h => h)
 have t6 : Tch (fun k => k = b) W (((((((W.setCell ⟨b, 0, none⟩ v0).setCell ⟨b, 1, none⟩ v1).setCell ⟨b, 2, none⟩ v2).setCell ⟨b, 3, none⟩ v3).setCell ⟨b, 4, none⟩ v4).setCell ⟨b, 5, none⟩ v5).setCell ⟨b, 6, none⟩ v6) := t5.trans (Tch.setCell (F := fun k => k = b) _ ⟨b, 6, none⟩ v6 (fun _ => rfl)) (fun _ _ h => h)
 have t7 : Tch (fun k => k = b) W ((((((((W.setCell ⟨b, 0, none⟩ v0).setCell ⟨b, 1, none⟩ v1).setCell ⟨b, 2, none⟩ v2).setCell ⟨b, 3, none⟩ v3).setCell ⟨b, 4, none⟩ v4).setCell ⟨b, 5, none⟩ v5).setCell ⟨b, 6, none⟩ v6).setCell ⟨b, 7, none⟩ v7) := t6.trans (Tch.setCell (F := fun k => k = b) _ ⟨b, 7, none⟩ v7 (fun _ => rfl)) (fun _ _ h => h)
 have t8 : Tch (fun k => k = b) W (((((((((W.setCell ⟨b, 0, none⟩ v0).setCell ⟨b, 1, none⟩ v1).setCell ⟨b, 2, none⟩ v2).setCell ⟨b, 3, none⟩ v3).setCell ⟨b, 4, none⟩ v4).setCell ⟨b, 5, none⟩ v5).setCell ⟨b, 6, none⟩ v6).setCell ⟨b, 7, none⟩ v7).setCell ⟨b, 8, none⟩ v8) := t7.trans (Tch.setCell (F := fun k => k = b) _ ⟨b, 8, none⟩ v8 (fun _ => rfl)) (fun _ _ h => h)
 exact ⟨by simpa using h8, t8⟩
end
end Go.Proofs.YtelaljoebdpicaaGreat
