/-
  No cell of these rows narrows 'for every input' (looked for: loops, veiled, ifaces, maps, wideKeys, modest, calm, conditions, laid).
  DERIVED. THE GIVEN ROWS OF THIS SEAT. 9 by the template 'for every input the law returns true; each argument reads behind the call as it read before'; 0 by the template 'total and deterministic' (their statements: YtlmkpnanpohcoaaGreatTotals.lean).
  GIVEN WITH THE SEED: the statements are not yours to turn. If you find one false, say at which input.
  Laid BY PROGRAM, IN A SANDBOX (cutbox-rows.mjs): the forced cells as the released guide's own fill.sh prints them over the translation 9ebf6ed63ab8292d… (all of the seat's roots in one cut). By AI agents, Wed Nov 11 2026. No macro, syntax, notation, axiom, sorry.
-/
import Derived.Test.YtlmkpnanpohcoaaGreatChecked
import GoSem.Claim
import GoSem.ClaimJoined
import GoSem.ClaimMapViews
import Derived.JoinedTies
import Derived.KernelRfl
namespace Go.Proofs.YtlmkpnanpohcoaaGreat
/- THE CELL 'sum', in the pinned program and in every row, IS THE sha256 OF THE DUMP (.gsa) THAT YtlmkpnanpohcoaaGreatProg.lean LOADS. Nothing in Lean hashes anything: it is a label: what it is worth is what the hold of that sum in a sandbox is worth. -/
noncomputable def Tryz.pinned : Pinned := { name := "ytlmkpnanpohcoaagreat", sum := "9ebf6ed63ab8292d0d1d72948d830e3a7d391837b0321eb79fe9930cf174124d", checked := Tryz.checked }
namespace Rows
def none {H : Type} : Left H := { results := [], args := [] }

/-- 'postillionlaw12.KeepAll': WHATEVER THE INPUT: true; the input reads as it did. -/
def keepAllSpec : ChangeSpec := { name := "keepAll", fn := fun _ => fun
  | [d1, d2] => { results := [.lit (.bool true)], args := [d1, d2] }
  | _ => none }
def keepAllRow : OpenClaim := { program := "ytlmkpnanpohcoaagreat", sum := "9ebf6ed63ab8292d0d1d72948d830e3a7d391837b0321eb79fe9930cf174124d", func := "postillion/postillionlaw12.KeepAll", spec := "keepAll", inPlace := ["slices.overlaps[postillion/api.End]", "slices.overlaps[postillion/api.Branch]", "slices.overlaps[postillion/api.Pend]"], unfollowed := true, recurses := true, apart := false }
def KeepAllSaid : Prop := keepAllRow.holds Tryz.pinned (OpenSpec.ofChange keepAllSpec)

/-- ITS FALSE NEIGHBOUR: 'it returns false'. Refute it at one input. -/
def keepAllWrong : ChangeSpec := { name := "keepAll", fn := fun _ => fun
  | [d1, d2] => { results := [.lit (.bool false)], args := [d1, d2] }
  | _ => none }
def KeepAllWrongFalsely : Prop := keepAllRow.holds Tryz.pinned (OpenSpec.ofChange keepAllWrong)

/-- 'postillionlaw12.KeepForced': WHATEVER THE INPUT: true; the input reads as it did. -/
def keepForcedSpec : ChangeSpec := { name := "keepForced", fn := fun _ => fun
  | [d1, d2, d3, d4] => { results := [.lit (.bool true)], args := [d1, d2, d3, d4] }
  | _ => none }
def keepForcedRow : OpenClaim := { program := "ytlmkpnanpohcoaagreat", sum := "9ebf6ed63ab8292d0d1d72948d830e3a7d391837b0321eb79fe9930cf174124d", func := "postillion/postillionlaw12.KeepForced", spec := "keepForced", inPlace := ["slices.overlaps[postillion/api.End]", "slices.overlaps[postillion/api.Branch]", "slices.overlaps[postillion/api.Pend]"], unfollowed := true, recurses := true, apart := false }
def KeepForcedSaid : Prop := keepForcedRow.holds Tryz.pinned (OpenSpec.ofChange keepForcedSpec)

/-- ITS FALSE NEIGHBOUR: 'it returns false'. Refute it at one input. -/
def keepForcedWrong : ChangeSpec := { name := "keepForced", fn := fun _ => fun
  | [d1, d2, d3, d4] => { results := [.lit (.bool false)], args := [d1, d2, d3, d4] }
  | _ => none }
def KeepForcedWrongFalsely : Prop := keepForcedRow.holds Tryz.pinned (OpenSpec.ofChange keepForcedWrong)

/-- 'postillionlaw12.KeepPack': WHATEVER THE INPUT: true; the input reads as it did. -/
def keepPackSpec : ChangeSpec := { name := "keepPack", fn := fun _ => fun
  | [d1, d2, d3, d4] => { results := [.lit (.bool true)], args := [d1, d2, d3, d4] }
  | _ => none }
def keepPackRow : OpenClaim := { program := "ytlmkpnanpohcoaagreat", sum := "9ebf6ed63ab8292d0d1d72948d830e3a7d391837b0321eb79fe9930cf174124d", func := "postillion/postillionlaw12.KeepPack", spec := "keepPack", inPlace := ["slices.overlaps[postillion/api.End]", "slices.overlaps[postillion/api.Branch]", "slices.overlaps[postillion/api.Pend]"], unfollowed := true, recurses := true, apart := false }
def KeepPackSaid : Prop := keepPackRow.holds Tryz.pinned (OpenSpec.ofChange keepPackSpec)

/-- ITS FALSE NEIGHBOUR: 'it returns false'. Refute it at one input. -/
def keepPackWrong : ChangeSpec := { name := "keepPack", fn := fun _ => fun
  | [d1, d2, d3, d4] => { results := [.lit (.bool false)], args := [d1, d2, d3, d4] }
  | _ => none }
def KeepPackWrongFalsely : Prop := keepPackRow.holds Tryz.pinned (OpenSpec.ofChange keepPackWrong)

/-- 'postillionlaw12.KeepFull': WHATEVER THE INPUT: true; the input reads as it did. -/
def keepFullSpec : ChangeSpec := { name := "keepFull", fn := fun _ => fun
  | [d1, d2] => { results := [.lit (.bool true)], args := [d1, d2] }
  | _ => none }
def keepFullRow : OpenClaim := { program := "ytlmkpnanpohcoaagreat", sum := "9ebf6ed63ab8292d0d1d72948d830e3a7d391837b0321eb79fe9930cf174124d", func := "postillion/postillionlaw12.KeepFull", spec := "keepFull", inPlace := ["slices.overlaps[postillion/api.End]", "slices.overlaps[postillion/api.Branch]", "slices.overlaps[postillion/api.Pend]"], unfollowed := true, recurses := true, apart := false }
def KeepFullSaid : Prop := keepFullRow.holds Tryz.pinned (OpenSpec.ofChange keepFullSpec)

/-- ITS FALSE NEIGHBOUR: 'it returns false'. Refute it at one input. -/
def keepFullWrong : ChangeSpec := { name := "keepFull", fn := fun _ => fun
  | [d1, d2] => { results := [.lit (.bool false)], args := [d1, d2] }
  | _ => none }
def KeepFullWrongFalsely : Prop := keepFullRow.holds Tryz.pinned (OpenSpec.ofChange keepFullWrong)

/-- 'postillionlaw12.KeepOwn': WHATEVER THE INPUT: true; the input reads as it did. -/
def keepOwnSpec : ChangeSpec := { name := "keepOwn", fn := fun _ => fun
  | [d] => { results := [.lit (.bool true)], args := [d] }
  | _ => none }
def keepOwnRow : OpenClaim := { program := "ytlmkpnanpohcoaagreat", sum := "9ebf6ed63ab8292d0d1d72948d830e3a7d391837b0321eb79fe9930cf174124d", func := "postillion/postillionlaw12.KeepOwn", spec := "keepOwn", inPlace := ["slices.overlaps[postillion/api.End]", "slices.overlaps[postillion/api.Branch]", "slices.overlaps[postillion/api.Pend]"], unfollowed := true, recurses := true, apart := false }
def KeepOwnSaid : Prop := keepOwnRow.holds Tryz.pinned (OpenSpec.ofChange keepOwnSpec)

/-- ITS FALSE NEIGHBOUR: 'it returns false'. Refute it at one input. -/
def keepOwnWrong : ChangeSpec := { name := "keepOwn", fn := fun _ => fun
  | [d] => { results := [.lit (.bool false)], args := [d] }
  | _ => none }
def KeepOwnWrongFalsely : Prop := keepOwnRow.holds Tryz.pinned (OpenSpec.ofChange keepOwnWrong)

/-- 'postillionlaw12.KeepNone': WHATEVER THE INPUT: true; the input reads as it did. -/
def keepNoneSpec : ChangeSpec := { name := "keepNone", fn := fun _ => fun
  | [] => { results := [.lit (.bool true)], args := [] }
  | _ => none }
def keepNoneRow : OpenClaim := { program := "ytlmkpnanpohcoaagreat", sum := "9ebf6ed63ab8292d0d1d72948d830e3a7d391837b0321eb79fe9930cf174124d", func := "postillion/postillionlaw12.KeepNone", spec := "keepNone", inPlace := ["slices.overlaps[postillion/api.End]", "slices.overlaps[postillion/api.Branch]", "slices.overlaps[postillion/api.Pend]"], unfollowed := true, recurses := true, apart := false }
def KeepNoneSaid : Prop := keepNoneRow.holds Tryz.pinned (OpenSpec.ofChange keepNoneSpec)

/-- ITS FALSE NEIGHBOUR: 'it returns false'. Refute it at one input. -/
def keepNoneWrong : ChangeSpec := { name := "keepNone", fn := fun _ => fun
  | [] => { results := [.lit (.bool false)], args := [] }
  | _ => none }
def KeepNoneWrongFalsely : Prop := keepNoneRow.holds Tryz.pinned (OpenSpec.ofChange keepNoneWrong)

/-- 'postillionlaw12.KeepTwice': WHATEVER THE INPUT: true; the input reads as it did. -/
def keepTwiceSpec : ChangeSpec := { name := "keepTwice", fn := fun _ => fun
  | [d1, d2] => { results := [.lit (.bool true)], args := [d1, d2] }
  | _ => none }
def keepTwiceRow : OpenClaim := { program := "ytlmkpnanpohcoaagreat", sum := "9ebf6ed63ab8292d0d1d72948d830e3a7d391837b0321eb79fe9930cf174124d", func := "postillion/postillionlaw12.KeepTwice", spec := "keepTwice", inPlace := ["slices.overlaps[postillion/api.End]", "slices.overlaps[postillion/api.Branch]", "slices.overlaps[postillion/api.Pend]"], unfollowed := true, recurses := true, apart := false }
def KeepTwiceSaid : Prop := keepTwiceRow.holds Tryz.pinned (OpenSpec.ofChange keepTwiceSpec)

/-- ITS FALSE NEIGHBOUR: 'it returns false'. Refute it at one input. -/
def keepTwiceWrong : ChangeSpec := { name := "keepTwice", fn := fun _ => fun
  | [d1, d2] => { results := [.lit (.bool false)], args := [d1, d2] }
  | _ => none }
def KeepTwiceWrongFalsely : Prop := keepTwiceRow.holds Tryz.pinned (OpenSpec.ofChange keepTwiceWrong)

/-- 'postillionlaw12.KeepPacked': WHATEVER THE INPUT: true; the input reads as it did. -/
def keepPackedSpec : ChangeSpec := { name := "keepPacked", fn := fun _ => fun
  | [d1, d2, d3] => { results := [.lit (.bool true)], args := [d1, d2, d3] }
  | _ => none }
def keepPackedRow : OpenClaim := { program := "ytlmkpnanpohcoaagreat", sum := "9ebf6ed63ab8292d0d1d72948d830e3a7d391837b0321eb79fe9930cf174124d", func := "postillion/postillionlaw12.KeepPacked", spec := "keepPacked", inPlace := ["slices.overlaps[postillion/api.End]", "slices.overlaps[postillion/api.Branch]", "slices.overlaps[postillion/api.Pend]"], unfollowed := true, recurses := true, apart := false }
def KeepPackedSaid : Prop := keepPackedRow.holds Tryz.pinned (OpenSpec.ofChange keepPackedSpec)

/-- ITS FALSE NEIGHBOUR: 'it returns false'. Refute it at one input. -/
def keepPackedWrong : ChangeSpec := { name := "keepPacked", fn := fun _ => fun
  | [d1, d2, d3] => { results := [.lit (.bool false)], args := [d1, d2, d3] }
  | _ => none }
def KeepPackedWrongFalsely : Prop := keepPackedRow.holds Tryz.pinned (OpenSpec.ofChange keepPackedWrong)

/-- 'postillionlaw12.KeepOther': WHATEVER THE INPUT: true; the input reads as it did. -/
def keepOtherSpec : ChangeSpec := { name := "keepOther", fn := fun _ => fun
  | [d1, d2, d3] => { results := [.lit (.bool true)], args := [d1, d2, d3] }
  | _ => none }
def keepOtherRow : OpenClaim := { program := "ytlmkpnanpohcoaagreat", sum := "9ebf6ed63ab8292d0d1d72948d830e3a7d391837b0321eb79fe9930cf174124d", func := "postillion/postillionlaw12.KeepOther", spec := "keepOther", inPlace := ["slices.overlaps[postillion/api.End]", "slices.overlaps[postillion/api.Branch]", "slices.overlaps[postillion/api.Pend]"], unfollowed := true, recurses := true, apart := false }
def KeepOtherSaid : Prop := keepOtherRow.holds Tryz.pinned (OpenSpec.ofChange keepOtherSpec)

/-- ITS FALSE NEIGHBOUR: 'it returns false'. Refute it at one input. -/
def keepOtherWrong : ChangeSpec := { name := "keepOther", fn := fun _ => fun
  | [d1, d2, d3] => { results := [.lit (.bool false)], args := [d1, d2, d3] }
  | _ => none }
def KeepOtherWrongFalsely : Prop := keepOtherRow.holds Tryz.pinned (OpenSpec.ofChange keepOtherWrong)

/- THE SECOND FORM. 'bulk': how many values and letters a reading holds, each counted each time it is reached (what is shared counts as often as it is met; a slice's spare places count too). A statement '..UptoSaid' is the law's where the arguments, and the package variables that the reading takes, are together of bulk at most 1048576: NARROWER than '..Said'. Prove '..Said' where nothing that the law and all that it calls make is longer than what came in: it says more and counts as full. Else prove '..UptoSaid'. A law counts once. -/
mutual
def uptoBulk {H : Type} : DataW H → Nat
  | .lit (.string bytes) => bytes.length + 1
  | .lit _ => 1
  | .nil => 1
  | .ptr d => uptoBulk d + 1
  | .slice elems spare => uptoBulkAll elems + uptoBulkAll spare + 1
  | .agg parts => uptoBulkAll parts + 1
  | .iface _ d => uptoBulk d + 1
  | .map entries => uptoBulkEntries entries + 1
  | .held _ => 1
def uptoBulkAll {H : Type} : List (DataW H) → Nat
  | [] => 0
  | d :: r => uptoBulk d + uptoBulkAll r
def uptoBulkEntries {H : Type} : List (Lit × DataW H) → Nat
  | [] => 0
  | x :: r => uptoBulkEntry x + uptoBulkEntries r
def uptoBulkEntry {H : Type} : Lit × DataW H → Nat
  | (.string bytes, d) => bytes.length + uptoBulk d + 1
  | (_, d) => uptoBulk d + 1
 end
def uptoSmall : (H : Type) → List (DataW H) → Bool := fun _ ds => decide (uptoBulkAll ds ≤ 1048576)
def OpenSpec.upto (s : _root_.Go.ChangeSpec) : _root_.Go.OpenSpec := { _root_.Go.OpenSpec.ofChange s with cond := some uptoSmall }

/-- 'postillionlaw12.KeepAll', WHERE WHAT IT READS IS OF BULK AT MOST 1048576: true; the input reads as it did. -/
def keepAllUptoRow : OpenClaim := { program := "ytlmkpnanpohcoaagreat", sum := "9ebf6ed63ab8292d0d1d72948d830e3a7d391837b0321eb79fe9930cf174124d", func := "postillion/postillionlaw12.KeepAll", spec := "keepAll", inPlace := ["slices.overlaps[postillion/api.End]", "slices.overlaps[postillion/api.Branch]", "slices.overlaps[postillion/api.Pend]"], unfollowed := true, recurses := true, apart := false, narrowed := true }
def KeepAllUptoSaid : Prop := keepAllUptoRow.holds Tryz.pinned (OpenSpec.upto keepAllSpec)

/-- 'postillionlaw12.KeepForced', WHERE WHAT IT READS IS OF BULK AT MOST 1048576: true; the input reads as it did. -/
def keepForcedUptoRow : OpenClaim := { program := "ytlmkpnanpohcoaagreat", sum := "9ebf6ed63ab8292d0d1d72948d830e3a7d391837b0321eb79fe9930cf174124d", func := "postillion/postillionlaw12.KeepForced", spec := "keepForced", inPlace := ["slices.overlaps[postillion/api.End]", "slices.overlaps[postillion/api.Branch]", "slices.overlaps[postillion/api.Pend]"], unfollowed := true, recurses := true, apart := false, narrowed := true }
def KeepForcedUptoSaid : Prop := keepForcedUptoRow.holds Tryz.pinned (OpenSpec.upto keepForcedSpec)

/-- 'postillionlaw12.KeepPack', WHERE WHAT IT READS IS OF BULK AT MOST 1048576: true; the input reads as it did. -/
def keepPackUptoRow : OpenClaim := { program := "ytlmkpnanpohcoaagreat", sum := "9ebf6ed63ab8292d0d1d72948d830e3a7d391837b0321eb79fe9930cf174124d", func := "postillion/postillionlaw12.KeepPack", spec := "keepPack", inPlace := ["slices.overlaps[postillion/api.End]", "slices.overlaps[postillion/api.Branch]", "slices.overlaps[postillion/api.Pend]"], unfollowed := true, recurses := true, apart := false, narrowed := true }
def KeepPackUptoSaid : Prop := keepPackUptoRow.holds Tryz.pinned (OpenSpec.upto keepPackSpec)

/-- 'postillionlaw12.KeepFull', WHERE WHAT IT READS IS OF BULK AT MOST 1048576: true; the input reads as it did. -/
def keepFullUptoRow : OpenClaim := { program := "ytlmkpnanpohcoaagreat", sum := "9ebf6ed63ab8292d0d1d72948d830e3a7d391837b0321eb79fe9930cf174124d", func := "postillion/postillionlaw12.KeepFull", spec := "keepFull", inPlace := ["slices.overlaps[postillion/api.End]", "slices.overlaps[postillion/api.Branch]", "slices.overlaps[postillion/api.Pend]"], unfollowed := true, recurses := true, apart := false, narrowed := true }
def KeepFullUptoSaid : Prop := keepFullUptoRow.holds Tryz.pinned (OpenSpec.upto keepFullSpec)

/-- 'postillionlaw12.KeepOwn', WHERE WHAT IT READS IS OF BULK AT MOST 1048576: true; the input reads as it did. -/
def keepOwnUptoRow : OpenClaim := { program := "ytlmkpnanpohcoaagreat", sum := "9ebf6ed63ab8292d0d1d72948d830e3a7d391837b0321eb79fe9930cf174124d", func := "postillion/postillionlaw12.KeepOwn", spec := "keepOwn", inPlace := ["slices.overlaps[postillion/api.End]", "slices.overlaps[postillion/api.Branch]", "slices.overlaps[postillion/api.Pend]"], unfollowed := true, recurses := true, apart := false, narrowed := true }
def KeepOwnUptoSaid : Prop := keepOwnUptoRow.holds Tryz.pinned (OpenSpec.upto keepOwnSpec)

/-- 'postillionlaw12.KeepNone', WHERE WHAT IT READS IS OF BULK AT MOST 1048576: true; the input reads as it did. -/
def keepNoneUptoRow : OpenClaim := { program := "ytlmkpnanpohcoaagreat", sum := "9ebf6ed63ab8292d0d1d72948d830e3a7d391837b0321eb79fe9930cf174124d", func := "postillion/postillionlaw12.KeepNone", spec := "keepNone", inPlace := ["slices.overlaps[postillion/api.End]", "slices.overlaps[postillion/api.Branch]", "slices.overlaps[postillion/api.Pend]"], unfollowed := true, recurses := true, apart := false, narrowed := true }
def KeepNoneUptoSaid : Prop := keepNoneUptoRow.holds Tryz.pinned (OpenSpec.upto keepNoneSpec)

/-- 'postillionlaw12.KeepTwice', WHERE WHAT IT READS IS OF BULK AT MOST 1048576: true; the input reads as it did. -/
def keepTwiceUptoRow : OpenClaim := { program := "ytlmkpnanpohcoaagreat", sum := "9ebf6ed63ab8292d0d1d72948d830e3a7d391837b0321eb79fe9930cf174124d", func := "postillion/postillionlaw12.KeepTwice", spec := "keepTwice", inPlace := ["slices.overlaps[postillion/api.End]", "slices.overlaps[postillion/api.Branch]", "slices.overlaps[postillion/api.Pend]"], unfollowed := true, recurses := true, apart := false, narrowed := true }
def KeepTwiceUptoSaid : Prop := keepTwiceUptoRow.holds Tryz.pinned (OpenSpec.upto keepTwiceSpec)

/-- 'postillionlaw12.KeepPacked', WHERE WHAT IT READS IS OF BULK AT MOST 1048576: true; the input reads as it did. -/
def keepPackedUptoRow : OpenClaim := { program := "ytlmkpnanpohcoaagreat", sum := "9ebf6ed63ab8292d0d1d72948d830e3a7d391837b0321eb79fe9930cf174124d", func := "postillion/postillionlaw12.KeepPacked", spec := "keepPacked", inPlace := ["slices.overlaps[postillion/api.End]", "slices.overlaps[postillion/api.Branch]", "slices.overlaps[postillion/api.Pend]"], unfollowed := true, recurses := true, apart := false, narrowed := true }
def KeepPackedUptoSaid : Prop := keepPackedUptoRow.holds Tryz.pinned (OpenSpec.upto keepPackedSpec)

/-- 'postillionlaw12.KeepOther', WHERE WHAT IT READS IS OF BULK AT MOST 1048576: true; the input reads as it did. -/
def keepOtherUptoRow : OpenClaim := { program := "ytlmkpnanpohcoaagreat", sum := "9ebf6ed63ab8292d0d1d72948d830e3a7d391837b0321eb79fe9930cf174124d", func := "postillion/postillionlaw12.KeepOther", spec := "keepOther", inPlace := ["slices.overlaps[postillion/api.End]", "slices.overlaps[postillion/api.Branch]", "slices.overlaps[postillion/api.Pend]"], unfollowed := true, recurses := true, apart := false, narrowed := true }
def KeepOtherUptoSaid : Prop := keepOtherUptoRow.holds Tryz.pinned (OpenSpec.upto keepOtherSpec)

end Rows
end Go.Proofs.YtlmkpnanpohcoaaGreat
