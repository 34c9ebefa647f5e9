/- Part 13 of what the proof of OrderRoom rests on. No condition. -/
import Derived.Shelf.SlicesE.Clone
import Derived.Shelf.SlicesG.CompactI
import Derived.Shelf.SlicesG.CompactS
import Derived.Shelf.Sort.Plain
import Derived.Test.YtfedhcnmdmhppaaGreatPOrderRoom10
import Derived.Test.YtfedhcnmdmhppaaGreatPOrderRoom11
namespace Go.Proofs.YtfedhcnmdmhppaaGreat
set_option maxRecDepth 100000
set_option maxHeartbeats 60000000
set_option linter.unusedVariables false
set_option linter.unusedSimpArgs false
section
open Go.RowKit Go.Maps
def atI {α : Type} (f : α -> Int) (l : List α) (t : Int) : Int := match atP f l t with | some i => (i : Int) | none => -1
theorem atP_hit {α : Type} {f : α -> Int} {l : List α} {t : Int} {k : Nat} (hk : k < l.length) (e : f l[k] = t) (h : ∀ i (hi : i < l.length), i < k -> f l[i] ≠ t) : atP f l t = some k := by
 unfold atP
 rw [List.findIdx?_eq_some_iff_getElem]
 exact ⟨hk, by simpa using e, fun j hj => by simpa using h j (by omega) hj⟩
theorem atP_miss {α : Type} {f : α -> Int} {l : List α} {t : Int} (h : ∀ i (hi : i < l.length), f l[i] ≠ t) : atP f l t = none := by
 unfold atP
 rw [List.findIdx?_eq_none_iff]
 intro x hx
 obtain ⟨i, hi, rfl⟩ := List.getElem_of_mem hx
 simpa using h i hi
theorem atI_hit {α : Type} {f : α -> Int} {l : List α} {t : Int} {k : Nat} (hk : k < l.length) (e : f l[k] = t) (h : ∀ i (hi : i < l.length), i < k -> f l[i] ≠ t) : atI f l t = (k : Int) := by
 unfold atI; rw [atP_hit hk e h]
theorem atI_miss {α : Type} {f : α -> Int} {l : List α} {t : Int} (h : ∀ i (hi : i < l.length), f l[i] ≠ t) : atI f l t = -1 := by
 unfold atI; rw [atP_miss h]
theorem atI_cases {α : Type} (f : α -> Int) (l : List α) (t : Int) : (hasP f l t = false /\ atI f l t = -1) ∨ ∃ k, ∃ h : k < l.length, atI f l t = (k : Int) /\ f l[k] = t /\ hasP f l t = true /\ ∀ i (hi : i < l.length), i < k -> f l[i] ≠ t := by
 unfold atI
 cases e : atP f l t with
 | none =>
  left
  unfold atP at e
  rw [List.findIdx?_eq_none_iff] at e
  refine ⟨?_, rfl⟩
  cases e2 : hasP f l t with
  | false => rfl
  | true =>
   obtain ⟨x, hx, e3⟩ := hasP_iff.1 e2
   have := e x hx
   simp [e3] at this
 | some k =>
  right
  unfold atP at e
  rw [List.findIdx?_eq_some_iff_getElem] at e
  obtain ⟨h, h1, h2⟩ := e
  exact ⟨k, h, rfl, by simpa using h1, hasP_iff.2 ⟨_, List.getElem_mem h, by simpa using h1⟩, fun i hi hk => by simpa using h2 i hk⟩
theorem atI_pos {α : Type} {f : α -> Int} {l : List α} (hs : strictB (l.map f) = true) {t : Int} (h : hasP f l t = true) : atI f l t = (posP f l t : Nat) := by
 obtain ⟨hp, e⟩ := (hasP_pos hs t).1 h
 refine atI_hit hp e fun i hi hlt he => ?_
 have := strictB_get hs hlt (by simpa using hp)
 simp only [List.getElem_map] at this
 omega
end
section
open Go.RowKit Go.Maps
def OwnN (w0 : World) (e : TypeId) (size n : Nat) (cs : List Value) : Value -> World -> Prop := fun v W => W.ownsRow 0 e size v n cs /\ ∀ b, v.ownBlock = some b -> w0.heap.size <= b
theorem stb_own {w0 : World} {e : TypeId} {size n : Nat} {cs : List Value} : Stb (OwnN w0 e size n cs) := fun x w w' t h => ⟨own_tch h.1 t (fun _ _ h => h), h.2⟩
def SrcC (n size : Nat) (cs : List Value) : Value -> World -> Prop := fun v W => CellsAt W v n size cs
theorem stb_src {n size : Nat} {cs : List Value} : Stb (SrcC n size cs) := fun x w w' t h => CellsAt.keep h t
end
section
open Go.Shelf
def ShM.clone_ren : Go.Shelf.Ren := ⟨fun | 41 => 90 | n => n, fun | 22 => 22 | 23 => 50 | 4 => 4 | n => n, fun | n => n⟩
theorem ShM.clone : Go.Proofs.SlLaysE0.n41 Tryz.prog ShM.clone_ren where
 mixed := by kernel_rfl
 f41 := ⟨ "slices.Clone[[]postillion/api.Message,postillion/api.Message]", by decide, Tryz.func90.trans (congrArg some (by kernel_rfl))⟩
 t4 := Tryz.underlying4
 a4 := Tryz.isAgg4
 z4 := Tryz.sizeOf4
 v4 := Tryz.zeroValue4
 t22 := Tryz.underlying22
 a22 := Tryz.isAgg22
 z22 := Tryz.sizeOf22
 v22 := Tryz.zeroValue22
def ShB.clone_ren : Go.Shelf.Ren := ⟨fun | 41 => 157 | n => n, fun | 22 => 23 | 23 => 81 | 4 => 4 | n => n, fun | n => n⟩
theorem ShB.clone : Go.Proofs.SlLaysE0.n41 Tryz.prog ShB.clone_ren where
 mixed := by kernel_rfl
 f41 := ⟨ "slices.Clone[[]postillion/api.Branch,postillion/api.Branch]", by decide, Tryz.func157.trans (congrArg some (by kernel_rfl))⟩
 t4 := Tryz.underlying4
 a4 := Tryz.isAgg4
 z4 := Tryz.sizeOf4
 v4 := Tryz.zeroValue4
 t22 := Tryz.underlying23
 a22 := Tryz.isAgg23
 z22 := Tryz.sizeOf23
 v22 := Tryz.zeroValue23
def ShE.clone_ren : Go.Shelf.Ren := ⟨fun | 41 => 194 | n => n, fun | 22 => 24 | 23 => 59 | 4 => 4 | n => n, fun | n => n⟩
theorem ShE.clone : Go.Proofs.SlLaysE0.n41 Tryz.prog ShE.clone_ren where
 mixed := by kernel_rfl
 f41 := ⟨ "slices.Clone[[]postillion/api.End,postillion/api.End]", by decide, Tryz.func194.trans (congrArg some (by kernel_rfl))⟩
 t4 := Tryz.underlying4
 a4 := Tryz.isAgg4
 z4 := Tryz.sizeOf4
 v4 := Tryz.zeroValue4
 t22 := Tryz.underlying24
 a22 := Tryz.isAgg24
 z22 := Tryz.sizeOf24
 v22 := Tryz.zeroValue24
def ShP.clone_ren : Go.Shelf.Ren := ⟨fun | 41 => 200 | n => n, fun | 22 => 25 | 23 => 63 | 4 => 4 | n => n, fun | n => n⟩
theorem ShP.clone : Go.Proofs.SlLaysE0.n41 Tryz.prog ShP.clone_ren where
 mixed := by kernel_rfl
 f41 := ⟨ "slices.Clone[[]postillion/api.Pend,postillion/api.Pend]", by decide, Tryz.func200.trans (congrArg some (by kernel_rfl))⟩
 t4 := Tryz.underlying4
 a4 := Tryz.isAgg4
 z4 := Tryz.sizeOf4
 v4 := Tryz.zeroValue4
 t22 := Tryz.underlying25
 a22 := Tryz.isAgg25
 z22 := Tryz.sizeOf25
 v22 := Tryz.zeroValue25
def ShU.clone_ren : Go.Shelf.Ren := ⟨fun | 41 => 158 | n => n, fun | 22 => 35 | 23 => 45 | 4 => 4 | n => n, fun | n => n⟩
theorem ShU.clone : Go.Proofs.SlLaysE0.n41 Tryz.prog ShU.clone_ren where
 mixed := by kernel_rfl
 f41 := ⟨ "slices.Clone[[]postillion/api.Put,postillion/api.Put]", by decide, Tryz.func158.trans (congrArg some (by kernel_rfl))⟩
 t4 := Tryz.underlying4
 a4 := Tryz.isAgg4
 z4 := Tryz.sizeOf4
 v4 := Tryz.zeroValue4
 t22 := Tryz.underlying35
 a22 := Tryz.isAgg35
 z22 := Tryz.sizeOf35
 v22 := Tryz.zeroValue35
def ShI.clone_ren : Go.Shelf.Ren := ⟨fun | 41 => 161 | n => n, fun | 22 => 34 | 23 => 3 | 4 => 4 | n => n, fun | n => n⟩
theorem ShI.clone : Go.Proofs.SlLaysE0.n41 Tryz.prog ShI.clone_ren where
 mixed := by kernel_rfl
 f41 := ⟨ "slices.Clone[[]int,int]", by decide, Tryz.func161.trans (congrArg some (by kernel_rfl))⟩
 t4 := Tryz.underlying4
 a4 := Tryz.isAgg4
 z4 := Tryz.sizeOf4
 v4 := Tryz.zeroValue4
 t22 := Tryz.underlying34
 a22 := Tryz.isAgg34
 z22 := Tryz.sizeOf34
 v22 := Tryz.zeroValue34
def ShS.clone_ren : Go.Shelf.Ren := ⟨fun | 41 => 98 | n => n, fun | 22 => 68 | 23 => 9 | 4 => 4 | n => n, fun | n => n⟩
theorem ShS.clone : Go.Proofs.SlLaysE0.n41 Tryz.prog ShS.clone_ren where
 mixed := by kernel_rfl
 f41 := ⟨ "slices.Clone[[]string,string]", by decide, Tryz.func98.trans (congrArg some (by kernel_rfl))⟩
 t4 := Tryz.underlying4
 a4 := Tryz.isAgg4
 z4 := Tryz.sizeOf4
 v4 := Tryz.zeroValue4
 t22 := Tryz.underlying68
 a22 := Tryz.isAgg68
 z22 := Tryz.sizeOf68
 v22 := Tryz.zeroValue68
def ShS.compact_ren : Go.Shelf.Ren := ⟨fun | 44 => 102 | n => n, fun | 25 => 68 | 26 => 9 | 3 => 3 | 4 => 4 | 0 => 0 | n => n, fun | n => n⟩
theorem ShS.compact : Go.Proofs.SlLaysN.n44 Tryz.prog ShS.compact_ren where
 mixed := by kernel_rfl
 f44 := ⟨ "slices.Compact[[]string,string]", by decide, Tryz.func102.trans (congrArg some (by kernel_rfl))⟩
 t0 := Tryz.underlying0
 a0 := Tryz.isAgg0
 z0 := Tryz.sizeOf0
 v0 := Tryz.zeroValue0
 t3 := Tryz.underlying3
 a3 := Tryz.isAgg3
 z3 := Tryz.sizeOf3
 v3 := Tryz.zeroValue3
 t4 := Tryz.underlying4
 a4 := Tryz.isAgg4
 z4 := Tryz.sizeOf4
 v4 := Tryz.zeroValue4
 t25 := Tryz.underlying68
 a25 := Tryz.isAgg68
 z25 := Tryz.sizeOf68
 v25 := Tryz.zeroValue68
 t26 := Tryz.underlying9
 a26 := Tryz.isAgg9
 z26 := Tryz.sizeOf9
 v26 := Tryz.zeroValue9
 i26 := by kernel_rfl
def ShL.compact_ren : Go.Shelf.Ren := ⟨fun | 43 => 108 | n => n, fun | 22 => 72 | 23 => 2 | 3 => 3 | 4 => 4 | 0 => 0 | n => n, fun | n => n⟩
theorem ShL.compact : Go.Proofs.SlLaysN.n43 Tryz.prog ShL.compact_ren where
 mixed := by kernel_rfl
 f43 := ⟨ "slices.Compact[[]int64,int64]", by decide, Tryz.func108.trans (congrArg some (by kernel_rfl))⟩
 t0 := Tryz.underlying0
 a0 := Tryz.isAgg0
 z0 := Tryz.sizeOf0
 v0 := Tryz.zeroValue0
 t3 := Tryz.underlying3
 a3 := Tryz.isAgg3
 z3 := Tryz.sizeOf3
 v3 := Tryz.zeroValue3
 t4 := Tryz.underlying4
 a4 := Tryz.isAgg4
 z4 := Tryz.sizeOf4
 v4 := Tryz.zeroValue4
 t22 := Tryz.underlying72
 a22 := Tryz.isAgg72
 z22 := Tryz.sizeOf72
 v22 := Tryz.zeroValue72
 t23 := Tryz.underlying2
 a23 := Tryz.isAgg2
 z23 := Tryz.sizeOf2
 v23 := Tryz.zeroValue2
 i23 := by kernel_rfl
def ShS.sort_ren : Go.Shelf.Ren := ⟨fun | 190 => 101 | 125 => 169 | 258 => 168 | 128 => 214 | 129 => 215 | 302 => 205 | 303 => 206 | 304 => 207 | 305 => 208 | 306 => 209 | 307 => 210 | 308 => 211 | 309 => 212 | 310 => 213 | 333 => 233 | 329 => 234 | 330 => 235 | 334 => 236 | 335 => 237 | 336 => 238 | 344 => 247 | n => n, fun | 31 => 68 | 9 => 9 | 3 => 3 | 46 => 180 | 0 => 0 | 51 => 224 | 53 => 189 | 4 => 4 | 183 => 217 | 182 => 216 | 131 => 105 | 5 => 5 | 218 => 235 | 222 => 239 | 228 => 245 | 229 => 246 | n => n, fun | n => n⟩
theorem ShS.sort : Go.Proofs.Lays.n190 Tryz.prog ShS.sort_ren where
 mixed := by kernel_rfl
 f125 := Tryz.func169.trans (congrArg some (by kernel_rfl))
 f128 := Tryz.func214.trans (congrArg some (by kernel_rfl))
 f129 := Tryz.func215.trans (congrArg some (by kernel_rfl))
 f190 := Tryz.func101.trans (congrArg some (by kernel_rfl))
 f258 := Tryz.func168.trans (congrArg some (by kernel_rfl))
 f302 := Tryz.func205.trans (congrArg some (by kernel_rfl))
 f303 := Tryz.func206.trans (congrArg some (by kernel_rfl))
 f304 := Tryz.func207.trans (congrArg some (by kernel_rfl))
 f305 := Tryz.func208.trans (congrArg some (by kernel_rfl))
 f306 := Tryz.func209.trans (congrArg some (by kernel_rfl))
 f307 := Tryz.func210.trans (congrArg some (by kernel_rfl))
 f308 := Tryz.func211.trans (congrArg some (by kernel_rfl))
 f309 := Tryz.func212.trans (congrArg some (by kernel_rfl))
 f310 := Tryz.func213.trans (congrArg some (by kernel_rfl))
 f329 := Tryz.func234.trans (congrArg some (by kernel_rfl))
 f330 := Tryz.func235.trans (congrArg some (by kernel_rfl))
 f333 := Tryz.func233.trans (congrArg some (by kernel_rfl))
 f334 := Tryz.func236.trans (congrArg some (by kernel_rfl))
 f335 := Tryz.func237.trans (congrArg some (by kernel_rfl))
 f336 := Tryz.func238.trans (congrArg some (by kernel_rfl))
 f344 := Tryz.func247.trans (congrArg some (by kernel_rfl))
 t0 := Tryz.underlying0
 a0 := Tryz.isAgg0
 z0 := Tryz.sizeOf0
 v0 := Tryz.zeroValue0
 t3 := Tryz.underlying3
 a3 := Tryz.isAgg3
 z3 := Tryz.sizeOf3
 v3 := Tryz.zeroValue3
 t4 := Tryz.underlying4
 a4 := Tryz.isAgg4
 z4 := Tryz.sizeOf4
 v4 := Tryz.zeroValue4
 t5 := Tryz.underlying5
 a5 := Tryz.isAgg5
 z5 := Tryz.sizeOf5
 v5 := Tryz.zeroValue5
 t9 := Tryz.underlying9
 a9 := Tryz.isAgg9
 z9 := Tryz.sizeOf9
 v9 := Tryz.zeroValue9
 t31 := Tryz.underlying68
 a31 := Tryz.isAgg68
 z31 := Tryz.sizeOf68
 v31 := Tryz.zeroValue68
 t46 := Tryz.underlying180
 a46 := Tryz.isAgg180
 z46 := Tryz.sizeOf180
 v46 := Tryz.zeroValue180
 t51 := Tryz.underlying224
 a51 := Tryz.isAgg224
 z51 := Tryz.sizeOf224
 v51 := Tryz.zeroValue224
 t53 := Tryz.underlying189
 a53 := Tryz.isAgg189
 z53 := Tryz.sizeOf189
 v53 := Tryz.zeroValue189
 t131 := Tryz.underlying105
 a131 := Tryz.isAgg105
 z131 := Tryz.sizeOf105
 v131 := Tryz.zeroValue105
 t182 := Tryz.underlying216
 a182 := Tryz.isAgg216
 z182 := Tryz.sizeOf216
 v182 := Tryz.zeroValue216
 t183 := Tryz.underlying217
 a183 := Tryz.isAgg217
 z183 := Tryz.sizeOf217
 v183 := Tryz.zeroValue217
 t218 := Tryz.underlying235
 a218 := Tryz.isAgg235
 z218 := Tryz.sizeOf235
 v218 := Tryz.zeroValue235
 t222 := Tryz.underlying239
 a222 := Tryz.isAgg239
 z222 := Tryz.sizeOf239
 v222 := Tryz.zeroValue239
 t228 := Tryz.underlying245
 a228 := Tryz.isAgg245
 z228 := Tryz.sizeOf245
 v228 := Tryz.zeroValue245
 t229 := Tryz.underlying246
 a229 := Tryz.isAgg246
 z229 := Tryz.sizeOf246
 v229 := Tryz.zeroValue246
end
section
open Go.RowKit Go.Maps Go.Shelf
theorem clone_gen {ρ : Ren} (L : SlLaysE0.n41 Tryz.prog ρ) {t : TypeId} {size bytes : Nat} (E : ElT t (ρ.t 23) size bytes) (hz : ∀ w, (Go.sizeOf (ρ.t 23)).run Tryz.prog w = .ok size w) (v : Value) (n : Nat) (cs : List Value) (w : World) (h : CellsAt w v n size cs) (h1 : Ones cs) (hn : n <= 100000000) :
  Calls Tryz.prog (ρ.f 41) #[v] w fun e w' => ∃ a cap, e = .returned (.slice a n cap) /\ OwnN w (ρ.t 23) size n cs (.slice a n cap) w' /\ Tch No w w' /\ (a = none ↔ v = .slice none 0 0) := by
 obtain ⟨i0, z, hi0, hz0, hz1, hz2, hzs⟩ := E.info
 have hb := E.byt
 rcases h.2 with ⟨rfl, rfl⟩ | ⟨b, o, c, rfl, _, _, _, hc⟩
 ·obtain rfl : cs = [] := List.eq_nil_of_length_eq_zero (by simpa using h.1)
  refine (AnyE.slices_Clone_nil L 0 0 w).mono ?_
  rintro e w' ⟨rfl, rfl⟩
  exact ⟨none, 0, rfl, ⟨own_nil _ _ _, fun b hb => by simp [Value.ownBlock] at hb⟩, Tch.refl _ _, by simp⟩
 ·have hby : n * bytes <= 140737488355328 := by
   have : n * bytes <= 100000000 * 1000 := Nat.mul_le_mul hn hb
   omega
  refine (AnyE.slices_Clone L i0 z size bytes hi0 hz0 hz1 hz2 hzs E.pos hz b o n c cs w h.1 (by simp only [maxLen]; omega) hby hc h1).mono ?_
  rintro e w' ⟨v', rfl, hown, hnil, hbl⟩
  rcases hown.2 with ⟨h0, _⟩ | ⟨g, cap, cur, rfl, h3, h4⟩
  ·exact absurd h0 (by rintro rfl; exact hnil rfl)
  ·refine ⟨some ⟨g, 0, none⟩, cap, rfl, ⟨⟨hown.1, .inr ⟨g, cap, cur, rfl, Nat.zero_le _, h4⟩⟩, fun b hb => ?_⟩, Tch.ofBelow hbl, by simp⟩
   simp only [Value.ownBlock, Option.some.injEq] at hb
   omega
theorem clone_msg (v : Value) (l : List MsgM) (w : World) (h : IsMsgs w v l) (h1 : Ones (l.flatMap encMsg)) (hn : l.length <= 100000000) :
  Calls Tryz.prog 90 #[v] w fun e w' => ∃ a cap, e = .returned (.slice a l.length cap) /\ OwnN w 50 6 l.length (l.flatMap encMsg) (.slice a l.length cap) w' /\ Tch No w w' /\ (a = none ↔ v = .slice none 0 0) :=
 clone_gen ShM.clone eltMsg Tryz.sizeOf50 v _ _ w h h1 hn
theorem clone_end (v : Value) (l : List EndM) (w : World) (h : IsEnds w v l) (h1 : Ones (l.flatMap encEnd)) (hn : l.length <= 100000000) :
  Calls Tryz.prog 194 #[v] w fun e w' => ∃ a cap, e = .returned (.slice a l.length cap) /\ OwnN w 59 2 l.length (l.flatMap encEnd) (.slice a l.length cap) w' /\ Tch No w w' /\ (a = none ↔ v = .slice none 0 0) :=
 clone_gen ShE.clone eltEnd Tryz.sizeOf59 v _ _ w h h1 hn
theorem clone_put (v : Value) (l : List PutM) (w : World) (h : IsPuts w v l) (h1 : Ones (l.flatMap encPut)) (hn : l.length <= 100000000) :
  Calls Tryz.prog 158 #[v] w fun e w' => ∃ a cap, e = .returned (.slice a l.length cap) /\ OwnN w 45 2 l.length (l.flatMap encPut) (.slice a l.length cap) w' /\ Tch No w w' /\ (a = none ↔ v = .slice none 0 0) :=
 clone_gen ShU.clone eltPut Tryz.sizeOf45 v _ _ w h h1 hn
theorem clone_br (v : Value) (n : Nat) (cs : List Value) (w : World) (h : CellsAt w v n 2 cs) (h1 : Ones cs) (hn : n <= 100000000) :
  Calls Tryz.prog 157 #[v] w fun e w' => ∃ a cap, e = .returned (.slice a n cap) /\ OwnN w 81 2 n cs (.slice a n cap) w' /\ Tch No w w' /\ (a = none ↔ v = .slice none 0 0) :=
 clone_gen ShB.clone eltBr Tryz.sizeOf81 v _ _ w h h1 hn
theorem clone_pend (v : Value) (n : Nat) (cs : List Value) (w : World) (h : CellsAt w v n 2 cs) (h1 : Ones cs) (hn : n <= 100000000) :
  Calls Tryz.prog 200 #[v] w fun e w' => ∃ a cap, e = .returned (.slice a n cap) /\ OwnN w 63 2 n cs (.slice a n cap) w' /\ Tch No w w' /\ (a = none ↔ v = .slice none 0 0) :=
 clone_gen ShP.clone eltPend Tryz.sizeOf63 v _ _ w h h1 hn
theorem clone_int (v : Value) (l : List Int) (w : World) (h : IsInts w v l) (hn : l.length <= 100000000) :
  Calls Tryz.prog 161 #[v] w fun e w' => ∃ a cap, e = .returned (.slice a l.length cap) /\ OwnN w 3 1 l.length (l.map (fun x => .int .i64 x)) (.slice a l.length cap) w' /\ Tch No w w' /\ (a = none ↔ v = .slice none 0 0) :=
 clone_gen ShI.clone eltInt Tryz.sizeOf3 v _ _ w h (fun u hu => by obtain ⟨x, _, rfl⟩ := List.mem_map.1 hu; rfl) hn
theorem clone_str (v : Value) (n : Nat) (cs : List Value) (w : World) (h : CellsAt w v n 1 cs) (h1 : Ones cs) (hn : n <= 100000000) :
  Calls Tryz.prog 98 #[v] w fun e w' => ∃ a cap, e = .returned (.slice a n cap) /\ OwnN w 9 1 n cs (.slice a n cap) w' /\ Tch No w w' /\ (a = none ↔ v = .slice none 0 0) :=
 clone_gen ShS.clone eltStr Tryz.sizeOf9 v _ _ w h h1 hn
end
section
open Go.RowKit Go.Maps
def FirstAt (p : Nat -> Bool) (n : Nat) (r : Int) : Prop := (r = -1 /\ ∀ i, i < n -> p i = false) ∨ ∃ k : Nat, k < n /\ r = (k : Int) /\ p k = true /\ ∀ i, i < k -> p i = false
theorem idx_msg (g : Nat) (lb : Array Value) (eg : ∀ args w, (callFunc g args).run Tryz.prog w = .ok (.enter g args) w) (p : Nat -> Bool) (f0 : Nat -> Int) (f1 : Nat -> ByteArray) (f2 : Nat -> ByteArray) (f3 : Nat -> Int) (f4 : Nat -> Int) (f5 : Nat -> Int) (cs : List Value) (n : Nat) (v : Value) (w : World) (h : CellsAt w v n 6 cs)
  (hcs : ∀ i, i < n -> cs[i * 6 + 0]? = some (.int .i64 (f0 i)) /\ cs[i * 6 + 1]? = some (.string (f1 i)) /\ cs[i * 6 + 2]? = some (.string (f2 i)) /\ cs[i * 6 + 3]? = some (.int .i64 (f3 i)) /\ cs[i * 6 + 4]? = some (.int .i64 (f4 i)) /\ cs[i * 6 + 5]? = some (.int .i64 (f5 i))) (hp : ∀ k, k < n -> ∀ W, Tch No w W -> Calls Tryz.prog g (#[.agg #[.int .i64 (f0 k), .string (f1 k), .string (f2 k), .int .i64 (f3 k), .int .i64 (f4 k), .int .i64 (f5 k)]] ++ lb) W fun e w' => e = .returned (.bool (p k)) /\ Tch No W w') :
  Calls Tryz.prog 164 #[v, .func (.func g) #[] lb] w fun e w' => (∃ r : Int, e = .returned (.int .i64 r) /\ FirstAt p n r) /\ Tch No w w' := by
 obtain ⟨a, c, rfl, hc1, hc2⟩ := CellsAt.shape h
 have H := Lib.hid h
 have HS := Lib.hid hcs
 have HP := Lib.hid hp
 have hml : n <= 9223372036854775807 := by unfold maxLen at hc2; omega
 clear h hcs hp hc1 hc2 
 go_enter Tryz.func164, Tryz.ntmps164
 go_wp2_with fail
 go_loopg [8] n (fun kx sx wr => ∃ k : Nat, sx = .int .i64 k /\ k <= n /\ n - k <= kx /\ Hid (Tch No w wr) /\ Hid (∀ i, i < k -> p i = false))
 case atStart => exact ⟨0, rfl, Nat.zero_le _, by omega, Tch.refl _ _, fun i h => absurd h (Nat.not_lt_zero _)⟩
 case round =>
  obtain ⟨k, rfl, hk, hgk, TT, I⟩ := hrel
  by_cases hlt : k < n
  ·have hb : ∃ b o, a = some ⟨b, o, none⟩ /\ wr.cell? ⟨b, o + k * 6, none⟩ = some (.int .i64 (f0 k)) /\ wr.cell? ⟨b, o + k * 6 + 1, none⟩ = some (.string (f1 k)) /\ wr.cell? ⟨b, o + k * 6 + 2, none⟩ = some (.string (f2 k)) /\ wr.cell? ⟨b, o + k * 6 + 3, none⟩ = some (.int .i64 (f3 k)) /\ wr.cell? ⟨b, o + k * 6 + 4, none⟩ = some (.int .i64 (f4 k)) /\ wr.cell? ⟨b, o + k * 6 + 5, none⟩ = some (.int .i64 (f5 k)) := by
    rcases H.out.2 with ⟨_, h0⟩ | ⟨b, o, cap2, h1, _, _, _, h5⟩
    ·omega
    ·injection h1 with h1 _ _
     obtain ⟨g0, g1, g2, g3, g4, g5⟩ := HS.out k hlt
     exact ⟨b, o, h1, TT.out.cell (by first | simpa [Nat.add_assoc] using h5 _ _ g0 | simpa using h5 _ _ g0) (fun h => h), TT.out.cell (by first | simpa [Nat.add_assoc] using h5 _ _ g1 | simpa using h5 _ _ g1) (fun h => h), TT.out.cell (by first | simpa [Nat.add_assoc] using h5 _ _ g2 | simpa using h5 _ _ g2) (fun h => h), TT.out.cell (by first | simpa [Nat.add_assoc] using h5 _ _ g3 | simpa using h5 _ _ g3) (fun h => h), TT.out.cell (by first | simpa [Nat.add_assoc] using h5 _ _ g4 | simpa using h5 _ _ g4) (fun h => h), TT.out.cell (by first | simpa [Nat.add_assoc] using h5 _ _ g5 | simpa using h5 _ _ g5) (fun h => h)⟩
   obtain ⟨b, o, rfl, e0, e1, e2, e3, e4, e5⟩ := hb
   have HF := HP.out k hlt wr TT.out
   obtain ⟨x0, hx0⟩ : ∃ z, f0 k = z := ⟨_, rfl⟩
   obtain ⟨x1, hx1⟩ : ∃ z, f1 k = z := ⟨_, rfl⟩
   obtain ⟨x2, hx2⟩ : ∃ z, f2 k = z := ⟨_, rfl⟩
   obtain ⟨x3, hx3⟩ : ∃ z, f3 k = z := ⟨_, rfl⟩
   obtain ⟨x4, hx4⟩ : ∃ z, f4 k = z := ⟨_, rfl⟩
   obtain ⟨x5, hx5⟩ : ∃ z, f5 k = z := ⟨_, rfl⟩
   rw [hx0, hx1, hx2, hx3, hx4, hx5] at HF
   rw [hx0] at e0
   rw [hx1] at e1
   rw [hx2] at e2
   rw [hx3] at e3
   rw [hx4] at e4
   rw [hx5] at e5
   clear hx0 hx1 hx2 hx3 hx4 hx5
   have HG := Lib.hid HF
   clear HF
   by_cases hit : p k = true
   ·rw [hit] at HG
    have HA : Hid (FirstAt p n (k : Int)) := .inr ⟨k, hlt, rfl, hit, I.out⟩
    clear hit
    go_wp2_with fail
    refine HG.out.mono ?_
    rintro e w3 ⟨rfl, T3⟩
    go_wp2_with fail
    go_ret
    exact ⟨⟨_, rfl, HA.out⟩, TT.out.trans0 T3⟩
   ·have hd : p k = false := by simpa using hit
    have HI : Hid (∀ i, i < k + 1 -> p i = false) := fun i h1 => by
     by_cases e : i = k
     ·subst e; exact hd
     ·exact I.out i (by omega)
    rw [hd] at HG
    clear hit hd
    go_wp2_with fail
    refine HG.out.mono ?_
    rintro e w3 ⟨rfl, T3⟩
    go_wp2_with fail
    go_roundg (n - (k + 1))
    case measure => omega
    case rel => exact ⟨k + 1, by go_num, by omega, by omega, TT.out.trans0 T3, HI.out⟩
  ·obtain rfl : k = n := by omega
   have HA : Hid (FirstAt p k (-1)) := .inl ⟨rfl, I.out⟩
   clear hlt
   go_wp2_with fail
   go_ret
   exact ⟨⟨_, rfl, HA.out⟩, TT.out⟩
theorem idx_br (g : Nat) (lb : Array Value) (eg : ∀ args w, (callFunc g args).run Tryz.prog w = .ok (.enter g args) w) (p : Nat -> Bool) (f0 : Nat -> Int) (f1 : Nat -> Value) (o1 : ∀ i, (f1 i).oneCell' = true) (cs : List Value) (n : Nat) (v : Value) (w : World) (h : CellsAt w v n 2 cs)
  (hcs : ∀ i, i < n -> cs[i * 2 + 0]? = some (.int .i64 (f0 i)) /\ cs[i * 2 + 1]? = some (f1 i)) (hp : ∀ k, k < n -> ∀ W, Tch No w W -> Calls Tryz.prog g (#[.agg #[.int .i64 (f0 k), f1 k]] ++ lb) W fun e w' => e = .returned (.bool (p k)) /\ Tch No W w') :
  Calls Tryz.prog 170 #[v, .func (.func g) #[] lb] w fun e w' => (∃ r : Int, e = .returned (.int .i64 r) /\ FirstAt p n r) /\ Tch No w w' := by
 obtain ⟨a, c, rfl, hc1, hc2⟩ := CellsAt.shape h
 have H := Lib.hid h
 have HS := Lib.hid hcs
 have HP := Lib.hid hp
 have O1 := Lib.hid o1
 have hml : n <= 9223372036854775807 := by unfold maxLen at hc2; omega
 clear h hcs hp hc1 hc2 o1
 go_enter Tryz.func170, Tryz.ntmps170
 go_wp2_with fail
 go_loopg [8] n (fun kx sx wr => ∃ k : Nat, sx = .int .i64 k /\ k <= n /\ n - k <= kx /\ Hid (Tch No w wr) /\ Hid (∀ i, i < k -> p i = false))
 case atStart => exact ⟨0, rfl, Nat.zero_le _, by omega, Tch.refl _ _, fun i h => absurd h (Nat.not_lt_zero _)⟩
 case round =>
  obtain ⟨k, rfl, hk, hgk, TT, I⟩ := hrel
  by_cases hlt : k < n
  ·have hb : ∃ b o, a = some ⟨b, o, none⟩ /\ wr.cell? ⟨b, o + k * 2, none⟩ = some (.int .i64 (f0 k)) /\ wr.cell? ⟨b, o + k * 2 + 1, none⟩ = some (f1 k) := by
    rcases H.out.2 with ⟨_, h0⟩ | ⟨b, o, cap2, h1, _, _, _, h5⟩
    ·omega
    ·injection h1 with h1 _ _
     obtain ⟨g0, g1⟩ := HS.out k hlt
     exact ⟨b, o, h1, TT.out.cell (by first | simpa [Nat.add_assoc] using h5 _ _ g0 | simpa using h5 _ _ g0) (fun h => h), TT.out.cell (by first | simpa [Nat.add_assoc] using h5 _ _ g1 | simpa using h5 _ _ g1) (fun h => h)⟩
   obtain ⟨b, o, rfl, e0, e1⟩ := hb
   have HF := HP.out k hlt wr TT.out
   obtain ⟨x0, hx0⟩ : ∃ z, f0 k = z := ⟨_, rfl⟩
   obtain ⟨x1, hx1⟩ : ∃ z, f1 k = z := ⟨_, rfl⟩
   have oc1 : x1.cells = #[x1] := by rw [<- hx1]; exact one_cells (O1.out k)
   rw [hx0, hx1] at HF
   rw [hx0] at e0
   rw [hx1] at e1
   clear hx0 hx1
   have HG := Lib.hid HF
   clear HF
   by_cases hit : p k = true
   ·rw [hit] at HG
    have HA : Hid (FirstAt p n (k : Int)) := .inr ⟨k, hlt, rfl, hit, I.out⟩
    clear hit
    go_wp2_with fail
    refine HG.out.mono ?_
    rintro e w3 ⟨rfl, T3⟩
    go_wp2_with fail
    go_ret
    exact ⟨⟨_, rfl, HA.out⟩, TT.out.trans0 T3⟩
   ·have hd : p k = false := by simpa using hit
    have HI : Hid (∀ i, i < k + 1 -> p i = false) := fun i h1 => by
     by_cases e : i = k
     ·subst e; exact hd
     ·exact I.out i (by omega)
    rw [hd] at HG
    clear hit hd
    go_wp2_with fail
    refine HG.out.mono ?_
    rintro e w3 ⟨rfl, T3⟩
    go_wp2_with fail
    go_roundg (n - (k + 1))
    case measure => omega
    case rel => exact ⟨k + 1, by go_num, by omega, by omega, TT.out.trans0 T3, HI.out⟩
  ·obtain rfl : k = n := by omega
   have HA : Hid (FirstAt p k (-1)) := .inl ⟨rfl, I.out⟩
   clear hlt
   go_wp2_with fail
   go_ret
   exact ⟨⟨_, rfl, HA.out⟩, TT.out⟩
theorem idx_pend (g : Nat) (lb : Array Value) (eg : ∀ args w, (callFunc g args).run Tryz.prog w = .ok (.enter g args) w) (p : Nat -> Bool) (f0 : Nat -> Int) (f1 : Nat -> Value) (o1 : ∀ i, (f1 i).oneCell' = true) (cs : List Value) (n : Nat) (v : Value) (w : World) (h : CellsAt w v n 2 cs)
  (hcs : ∀ i, i < n -> cs[i * 2 + 0]? = some (.int .i64 (f0 i)) /\ cs[i * 2 + 1]? = some (f1 i)) (hp : ∀ k, k < n -> ∀ W, Tch No w W -> Calls Tryz.prog g (#[.agg #[.int .i64 (f0 k), f1 k]] ++ lb) W fun e w' => e = .returned (.bool (p k)) /\ Tch No W w') :
  Calls Tryz.prog 171 #[v, .func (.func g) #[] lb] w fun e w' => (∃ r : Int, e = .returned (.int .i64 r) /\ FirstAt p n r) /\ Tch No w w' := by
 obtain ⟨a, c, rfl, hc1, hc2⟩ := CellsAt.shape h
 have H := Lib.hid h
 have HS := Lib.hid hcs
 have HP := Lib.hid hp
 have O1 := Lib.hid o1
 have hml : n <= 9223372036854775807 := by unfold maxLen at hc2; omega
 clear h hcs hp hc1 hc2 o1
 go_enter Tryz.func171, Tryz.ntmps171
 go_wp2_with fail
 go_loopg [8] n (fun kx sx wr => ∃ k : Nat, sx = .int .i64 k /\ k <= n /\ n - k <= kx /\ Hid (Tch No w wr) /\ Hid (∀ i, i < k -> p i = false))
 case atStart => exact ⟨0, rfl, Nat.zero_le _, by omega, Tch.refl _ _, fun i h => absurd h (Nat.not_lt_zero _)⟩
 case round =>
  obtain ⟨k, rfl, hk, hgk, TT, I⟩ := hrel
  by_cases hlt : k < n
  ·have hb : ∃ b o, a = some ⟨b, o, none⟩ /\ wr.cell? ⟨b, o + k * 2, none⟩ = some (.int .i64 (f0 k)) /\ wr.cell? ⟨b, o + k * 2 + 1, none⟩ = some (f1 k) := by
    rcases H.out.2 with ⟨_, h0⟩ | ⟨b, o, cap2, h1, _, _, _, h5⟩
    ·omega
    ·injection h1 with h1 _ _
     obtain ⟨g0, g1⟩ := HS.out k hlt
     exact ⟨b, o, h1, TT.out.cell (by first | simpa [Nat.add_assoc] using h5 _ _ g0 | simpa using h5 _ _ g0) (fun h => h), TT.out.cell (by first | simpa [Nat.add_assoc] using h5 _ _ g1 | simpa using h5 _ _ g1) (fun h => h)⟩
   obtain ⟨b, o, rfl, e0, e1⟩ := hb
   have HF := HP.out k hlt wr TT.out
   obtain ⟨x0, hx0⟩ : ∃ z, f0 k = z := ⟨_, rfl⟩
   obtain ⟨x1, hx1⟩ : ∃ z, f1 k = z := ⟨_, rfl⟩
   have oc1 : x1.cells = #[x1] := by rw [<- hx1]; exact one_cells (O1.out k)
   rw [hx0, hx1] at HF
   rw [hx0] at e0
   rw [hx1] at e1
   clear hx0 hx1
   have HG := Lib.hid HF
   clear HF
   by_cases hit : p k = true
   ·rw [hit] at HG
    have HA : Hid (FirstAt p n (k : Int)) := .inr ⟨k, hlt, rfl, hit, I.out⟩
    clear hit
    go_wp2_with fail
    refine HG.out.mono ?_
    rintro e w3 ⟨rfl, T3⟩
    go_wp2_with fail
    go_ret
    exact ⟨⟨_, rfl, HA.out⟩, TT.out.trans0 T3⟩
   ·have hd : p k = false := by simpa using hit
    have HI : Hid (∀ i, i < k + 1 -> p i = false) := fun i h1 => by
     by_cases e : i = k
     ·subst e; exact hd
     ·exact I.out i (by omega)
    rw [hd] at HG
    clear hit hd
    go_wp2_with fail
    refine HG.out.mono ?_
    rintro e w3 ⟨rfl, T3⟩
    go_wp2_with fail
    go_roundg (n - (k + 1))
    case measure => omega
    case rel => exact ⟨k + 1, by go_num, by omega, by omega, TT.out.trans0 T3, HI.out⟩
  ·obtain rfl : k = n := by omega
   have HA : Hid (FirstAt p k (-1)) := .inl ⟨rfl, I.out⟩
   clear hlt
   go_wp2_with fail
   go_ret
   exact ⟨⟨_, rfl, HA.out⟩, TT.out⟩
theorem idx_int (g : Nat) (lb : Array Value) (eg : ∀ args w, (callFunc g args).run Tryz.prog w = .ok (.enter g args) w) (p : Nat -> Bool) (f0 : Nat -> Int) (cs : List Value) (n : Nat) (v : Value) (w : World) (h : CellsAt w v n 1 cs)
  (hcs : ∀ i, i < n -> cs[i * 1 + 0]? = some (.int .i64 (f0 i))) (hp : ∀ k, k < n -> ∀ W, Tch No w W -> Calls Tryz.prog g (#[.int .i64 (f0 k)] ++ lb) W fun e w' => e = .returned (.bool (p k)) /\ Tch No W w') :
  Calls Tryz.prog 201 #[v, .func (.func g) #[] lb] w fun e w' => (∃ r : Int, e = .returned (.int .i64 r) /\ FirstAt p n r) /\ Tch No w w' := by
 obtain ⟨a, c, rfl, hc1, hc2⟩ := CellsAt.shape h
 have H := Lib.hid h
 have HS := Lib.hid hcs
 have HP := Lib.hid hp
 have hml : n <= 9223372036854775807 := by unfold maxLen at hc2; omega
 clear h hcs hp hc1 hc2 
 go_enter Tryz.func201, Tryz.ntmps201
 go_wp2_with fail
 go_loopg [8] n (fun kx sx wr => ∃ k : Nat, sx = .int .i64 k /\ k <= n /\ n - k <= kx /\ Hid (Tch No w wr) /\ Hid (∀ i, i < k -> p i = false))
 case atStart => exact ⟨0, rfl, Nat.zero_le _, by omega, Tch.refl _ _, fun i h => absurd h (Nat.not_lt_zero _)⟩
 case round =>
  obtain ⟨k, rfl, hk, hgk, TT, I⟩ := hrel
  by_cases hlt : k < n
  ·have hb : ∃ b o, a = some ⟨b, o, none⟩ /\ wr.cell? ⟨b, o + k, none⟩ = some (.int .i64 (f0 k)) := by
    rcases H.out.2 with ⟨_, h0⟩ | ⟨b, o, cap2, h1, _, _, _, h5⟩
    ·omega
    ·injection h1 with h1 _ _
     have g0 := HS.out k hlt
     exact ⟨b, o, h1, TT.out.cell (by first | simpa [Nat.add_assoc] using h5 _ _ g0 | simpa using h5 _ _ g0) (fun h => h)⟩
   obtain ⟨b, o, rfl, e0⟩ := hb
   have HF := HP.out k hlt wr TT.out
   obtain ⟨x0, hx0⟩ : ∃ z, f0 k = z := ⟨_, rfl⟩
   rw [hx0] at HF
   rw [hx0] at e0
   clear hx0
   have HG := Lib.hid HF
   clear HF
   by_cases hit : p k = true
   ·rw [hit] at HG
    have HA : Hid (FirstAt p n (k : Int)) := .inr ⟨k, hlt, rfl, hit, I.out⟩
    clear hit
    go_wp2_with fail
    refine HG.out.mono ?_
    rintro e w3 ⟨rfl, T3⟩
    go_wp2_with fail
    go_ret
    exact ⟨⟨_, rfl, HA.out⟩, TT.out.trans0 T3⟩
   ·have hd : p k = false := by simpa using hit
    have HI : Hid (∀ i, i < k + 1 -> p i = false) := fun i h1 => by
     by_cases e : i = k
     ·subst e; exact hd
     ·exact I.out i (by omega)
    rw [hd] at HG
    clear hit hd
    go_wp2_with fail
    refine HG.out.mono ?_
    rintro e w3 ⟨rfl, T3⟩
    go_wp2_with fail
    go_roundg (n - (k + 1))
    case measure => omega
    case rel => exact ⟨k + 1, by go_num, by omega, by omega, TT.out.trans0 T3, HI.out⟩
  ·obtain rfl : k = n := by omega
   have HA : Hid (FirstAt p k (-1)) := .inl ⟨rfl, I.out⟩
   clear hlt
   go_wp2_with fail
   go_ret
   exact ⟨⟨_, rfl, HA.out⟩, TT.out⟩
theorem idx_str (g : Nat) (lb : Array Value) (eg : ∀ args w, (callFunc g args).run Tryz.prog w = .ok (.enter g args) w) (p : Nat -> Bool) (f0 : Nat -> ByteArray) (cs : List Value) (n : Nat) (v : Value) (w : World) (h : CellsAt w v n 1 cs)
  (hcs : ∀ i, i < n -> cs[i * 1 + 0]? = some (.string (f0 i))) (hp : ∀ k, k < n -> ∀ W, Tch No w W -> Calls Tryz.prog g (#[.string (f0 k)] ++ lb) W fun e w' => e = .returned (.bool (p k)) /\ Tch No W w') :
  Calls Tryz.prog 167 #[v, .func (.func g) #[] lb] w fun e w' => (∃ r : Int, e = .returned (.int .i64 r) /\ FirstAt p n r) /\ Tch No w w' := by
 obtain ⟨a, c, rfl, hc1, hc2⟩ := CellsAt.shape h
 have H := Lib.hid h
 have HS := Lib.hid hcs
 have HP := Lib.hid hp
 have hml : n <= 9223372036854775807 := by unfold maxLen at hc2; omega
 clear h hcs hp hc1 hc2 
 go_enter Tryz.func167, Tryz.ntmps167
 go_wp2_with fail
 go_loopg [8] n (fun kx sx wr => ∃ k : Nat, sx = .int .i64 k /\ k <= n /\ n - k <= kx /\ Hid (Tch No w wr) /\ Hid (∀ i, i < k -> p i = false))
 case atStart => exact ⟨0, rfl, Nat.zero_le _, by omega, Tch.refl _ _, fun i h => absurd h (Nat.not_lt_zero _)⟩
 case round =>
  obtain ⟨k, rfl, hk, hgk, TT, I⟩ := hrel
  by_cases hlt : k < n
  ·have hb : ∃ b o, a = some ⟨b, o, none⟩ /\ wr.cell? ⟨b, o + k, none⟩ = some (.string (f0 k)) := by
    rcases H.out.2 with ⟨_, h0⟩ | ⟨b, o, cap2, h1, _, _, _, h5⟩
    ·omega
    ·injection h1 with h1 _ _
     have g0 := HS.out k hlt
     exact ⟨b, o, h1, TT.out.cell (by first | simpa [Nat.add_assoc] using h5 _ _ g0 | simpa using h5 _ _ g0) (fun h => h)⟩
   obtain ⟨b, o, rfl, e0⟩ := hb
   have HF := HP.out k hlt wr TT.out
   obtain ⟨x0, hx0⟩ : ∃ z, f0 k = z := ⟨_, rfl⟩
   rw [hx0] at HF
   rw [hx0] at e0
   clear hx0
   have HG := Lib.hid HF
   clear HF
   by_cases hit : p k = true
   ·rw [hit] at HG
    have HA : Hid (FirstAt p n (k : Int)) := .inr ⟨k, hlt, rfl, hit, I.out⟩
    clear hit
    go_wp2_with fail
    refine HG.out.mono ?_
    rintro e w3 ⟨rfl, T3⟩
    go_wp2_with fail
    go_ret
    exact ⟨⟨_, rfl, HA.out⟩, TT.out.trans0 T3⟩
   ·have hd : p k = false := by simpa using hit
    have HI : Hid (∀ i, i < k + 1 -> p i = false) := fun i h1 => by
     by_cases e : i = k
     ·subst e; exact hd
     ·exact I.out i (by omega)
    rw [hd] at HG
    clear hit hd
    go_wp2_with fail
    refine HG.out.mono ?_
    rintro e w3 ⟨rfl, T3⟩
    go_wp2_with fail
    go_roundg (n - (k + 1))
    case measure => omega
    case rel => exact ⟨k + 1, by go_num, by omega, by omega, TT.out.trans0 T3, HI.out⟩
  ·obtain rfl : k = n := by omega
   have HA : Hid (FirstAt p k (-1)) := .inl ⟨rfl, I.out⟩
   clear hlt
   go_wp2_with fail
   go_ret
   exact ⟨⟨_, rfl, HA.out⟩, TT.out⟩
end
section
open Go.RowKit Go.Maps
theorem without1_any (i1 t : Int) (y : Value) (hy : y.oneCell' = true) (ib : Nat) (w : World) (hc : w.cell? ⟨ib, 0, none⟩ = some (.int .i64 t)) :
  Calls Tryz.prog 203 #[.agg #[.int .i64 i1, y], .pointer (some ⟨ib, 0, none⟩)] w fun e w' => e = .returned (.bool (i1 == t)) /\ Tch No w w' := by
 have hc2 := cal hc
 have hyc := one_cells hy
 go_enter Tryz.func203, Tryz.ntmps203
 go_wp2_with fail
 go_ret
 exact ⟨rfl, Tch.alloc _ _⟩
theorem end1_any (i1 t : Int) (y : Value) (hy : y.oneCell' = true) (ib : Nat) (w : World) (hc : w.cell? ⟨ib, 0, none⟩ = some (.int .i64 t)) :
  Calls Tryz.prog 196 #[.agg #[.int .i64 i1, y], .pointer (some ⟨ib, 0, none⟩)] w fun e w' => e = .returned (.bool (i1 == t)) /\ Tch No w w' := by
 have hc2 := cal hc
 have hyc := one_cells hy
 go_enter Tryz.func196, Tryz.ntmps196
 go_wp2_with fail
 go_ret
 exact ⟨rfl, Tch.alloc _ _⟩
end
section
open Go.RowKit Go.Maps
theorem zc_len (cs : Array Value) (n : Nat) : (Builtin.zeroCells cs n).toList.length = n * cs.size := by simp [Builtin.zeroCells]
theorem zc_one (cs : Array Value) (n : Nat) (h : ∀ i (hi : i < cs.size), cs[i].oneCell' = true) (hp : 0 < cs.size) : ∀ u ∈ (Builtin.zeroCells cs n).toList, u.oneCell' = true := by
 intro u hu
 unfold Builtin.zeroCells at hu
 rw [Array.toList_map] at hu
 obtain ⟨i, _, rfl⟩ := List.mem_map.1 hu
 have hm := Nat.mod_lt i hp
 rw [getElem!_pos cs (i % cs.size) hm]
 exact h _ hm
theorem run_clear_many (w : World) (t e ty : TypeId) (z : Value) (ht : Tryz.prog.underlying t = some (.slice e)) (hv : ∀ w, (zeroValue e).run Tryz.prog w = .ok z w) (b o n c : Nat) (hn : 0 < n) (zs : List Value) (hzs : (Builtin.zeroCells z.cells n).toList = zs) (h1 : ∀ u ∈ zs, u.oneCell' = true)
  (hc : ∀ j, j < zs.length -> (w.cell? ⟨b, o + j, none⟩).isSome = true) (hf : ∀ j, j < zs.length -> w.frozen? ⟨b, o + j, none⟩ = false) :
  (Builtin.clear_ #[t] ty #[.slice (some ⟨b, o, none⟩) n c]).run Tryz.prog w = .ok (.tuple #[]) (w.setCells b o zs) := by
 have hst := run_storeCells_cells (P := Tryz.prog) b o zs 0 w (by simpa using hc) (by simpa using hf) h1
 simp only [Nat.add_zero] at hst
 obtain ⟨m, rfl⟩ : ∃ m, n = m + 1 := ⟨n - 1, by omega⟩
 simp [Builtin.clear_, run_underlying ht, hv, hzs, hst]
end
section
open Go.RowKit Go.Maps
theorem flat_take {α : Type} {enc : α -> List Value} {m : Nat} (he : ∀ x, (enc x).length = m) : ∀ (l : List α) (k : Nat), (l.flatMap enc).take (k * m) = (l.take k).flatMap enc
 | [], k => by simp
 | a :: r, 0 => by simp
 | a :: r, k + 1 => by
  have e : (k + 1) * m = (enc a).length + k * m := by rw [he, Nat.succ_mul]; omega
  rw [List.flatMap_cons, List.take_succ_cons, List.flatMap_cons, e, List.take_length_add_append, flat_take he r k]
theorem flat_drop {α : Type} {enc : α -> List Value} {m : Nat} (he : ∀ x, (enc x).length = m) : ∀ (l : List α) (k : Nat), (l.flatMap enc).drop (k * m) = (l.drop k).flatMap enc
 | [], k => by simp
 | a :: r, 0 => by simp
 | a :: r, k + 1 => by
  have e : (k + 1) * m = (enc a).length + k * m := by rw [he, Nat.succ_mul]; omega
  rw [List.flatMap_cons, List.drop_succ_cons, e, List.drop_length_add_append, flat_drop he r k]
def IsL {α : Type} (enc : α -> List Value) (m : Nat) (w : World) (v : Value) (l : List α) : Prop := CellsAt w v l.length m (l.flatMap enc)
theorem IsL.keep {α : Type} {enc : α -> List Value} {m : Nat} {w w' : World} {v : Value} {l : List α} (h : IsL enc m w v l) (t : Tch No w w') : IsL enc m w' v l := CellsAt.keep h t
def encPr {α : Type} (f : α -> Int) (p : α × Value) : List Value := [.int .i64 (f p.1), p.2]
theorem zip_flat {α : Type} (f : α -> Int) : ∀ (l : List α) (vs : List Value), vs.length = l.length -> ((l.map f).zip vs).flatMap encTid = (l.zip vs).flatMap (encPr f)
 | [], _, _ => by simp
 | a :: r, [], h => by simp at h
 | a :: r, v :: vs, h => by
  rw [List.map_cons, List.zip_cons_cons, List.zip_cons_cons, List.flatMap_cons, List.flatMap_cons, zip_flat f r vs (by simpa using h)]
  rfl
theorem zip_unzip {α β : Type} : ∀ (l : List (α × β)), l = (l.map Prod.fst).zip (l.map Prod.snd)
 | [] => rfl
 | a :: r => by rw [List.map_cons, List.map_cons, List.zip_cons_cons, <- zip_unzip r]
theorem pends_pairs {w : World} {v : Value} {l : List PendM} : IsPends w v l ↔ ∃ prs : List (PendM × Value), prs.map Prod.fst = l /\ IsL (encPr (·.tid)) 2 w v prs /\ ∀ p ∈ prs, IsInts w p.2 p.1.parts := by
 constructor
 ·rintro ⟨vs, h1, h2, h3⟩
  have hz : (l.zip vs).length = l.length := by rw [List.length_zip, h1, Nat.min_self]
  refine ⟨l.zip vs, List.map_fst_zip (by omega), ?_, fun p hp => ?_⟩
  ·unfold IsL
   rw [hz, <- zip_flat _ l vs h1]
   exact h2
  ·obtain ⟨i, hi, rfl⟩ := List.getElem_of_mem hp
   rw [List.getElem_zip]
   exact h3 i (by omega) (by omega)
 ·rintro ⟨prs, rfl, h2, h3⟩
  refine ⟨prs.map Prod.snd, by simp, ?_, fun i h h' => ?_⟩
  ·have e := zip_unzip prs
   rw [zip_flat _ _ _ (by simp), List.length_map]
   rw [<- e]
   exact h2
  ·rw [List.getElem_map, List.getElem_map]
   exact h3 _ (List.getElem_mem _)
theorem brs_pairs {w : World} {v : Value} {l : List BrM} : IsBrs w v l ↔ ∃ prs : List (BrM × Value), prs.map Prod.fst = l /\ IsL (encPr (·.tid)) 2 w v prs /\ ∀ p ∈ prs, IsPuts w p.2 p.1.puts := by
 constructor
 ·rintro ⟨vs, h1, h2, h3⟩
  have hz : (l.zip vs).length = l.length := by rw [List.length_zip, h1, Nat.min_self]
  refine ⟨l.zip vs, List.map_fst_zip (by omega), ?_, fun p hp => ?_⟩
  ·unfold IsL
   rw [hz, <- zip_flat _ l vs h1]
   exact h2
  ·obtain ⟨i, hi, rfl⟩ := List.getElem_of_mem hp
   rw [List.getElem_zip]
   exact h3 i (by omega) (by omega)
 ·rintro ⟨prs, rfl, h2, h3⟩
  refine ⟨prs.map Prod.snd, by simp, ?_, fun i h h' => ?_⟩
  ·have e := zip_unzip prs
   rw [zip_flat _ _ _ (by simp), List.length_map]
   rw [<- e]
   exact h2
  ·rw [List.getElem_map, List.getElem_map]
   exact h3 _ (List.getElem_mem _)
theorem ones_pr {α : Type} {f : α -> Int} {l : List (α × Value)} (h : ∀ p ∈ l, p.2.oneCell' = true) : Ones (l.flatMap (encPr f)) := fun u hu => by
 obtain ⟨x, hx, hu⟩ := List.mem_flatMap.1 hu
 simp only [encPr, List.mem_cons, List.not_mem_nil, or_false] at hu
 rcases hu with rfl | rfl
 ·rfl
 ·exact h x hx
end
end Go.Proofs.YtfedhcnmdmhppaaGreat
