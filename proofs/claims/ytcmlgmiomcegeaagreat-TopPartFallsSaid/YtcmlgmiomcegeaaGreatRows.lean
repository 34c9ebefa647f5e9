/-
  No cell of these rows narrows 'for every input' (looked for: loops, veiled, ifaces, maps, wideKeys, modest, calm, conditions, laid).
  DERIVED. THE GIVEN ROWS OF THIS SEAT. 3 by the template 'for every input the law returns true; each argument reads behind the call as it read before'; 0 by the template 'total and deterministic' (their statements: YtcmlgmiomcegeaaGreatTotals.lean).
  GIVEN WITH THE SEED: the statements are not yours to turn. If you find one false, say at which input.
  Laid BY PROGRAM, IN A SANDBOX (cutbox-rows.mjs): the forced cells as the released guide's own fill.sh prints them over the translation 9296da866239c678… (all of the seat's roots in one cut). By AI agents, Wed Nov 11 2026. No macro, syntax, notation, axiom, sorry.
-/
import Derived.Test.YtcmlgmiomcegeaaGreatChecked
import GoSem.Claim
import GoSem.ClaimJoined
import GoSem.ClaimMapViews
import Derived.JoinedTies
import Derived.KernelRfl
namespace Go.Proofs.YtcmlgmiomcegeaaGreat
/- THE CELL 'sum', in the pinned program and in every row, IS THE sha256 OF THE DUMP (.gsa) THAT YtcmlgmiomcegeaaGreatProg.lean LOADS. Nothing in Lean hashes anything: it is a label: what it is worth is what the hold of that sum in a sandbox is worth. -/
noncomputable def Tryz.pinned : Pinned := { name := "ytcmlgmiomcegeaagreat", sum := "9296da866239c6787fde3f39b9cea34c32460ac6c4804e84ee98721a247ed997", checked := Tryz.checked }
namespace Rows
def none {H : Type} : Left H := { results := [], args := [] }

/-- 'postilliontop.TopFall': WHATEVER THE INPUT: true; the input reads as it did. -/
def topFallSpec : ChangeSpec := { name := "topFall", fn := fun _ => fun
  | [d1, d2, d3, d4] => { results := [.lit (.bool true)], args := [d1, d2, d3, d4] }
  | _ => none }
def topFallRow : OpenClaim := { program := "ytcmlgmiomcegeaagreat", sum := "9296da866239c6787fde3f39b9cea34c32460ac6c4804e84ee98721a247ed997", func := "postillion/postilliontop.TopFall", spec := "topFall", inPlace := ["slices.overlaps[postillion/api.End]", "slices.overlaps[postillion/api.Branch]", "slices.overlaps[postillion/api.Pend]", "slices.overlaps[postillion/bag.some[string]]"], unfollowed := true, recurses := true, apart := false }
def TopFallSaid : Prop := topFallRow.holds Tryz.pinned (OpenSpec.ofChange topFallSpec)

/-- ITS FALSE NEIGHBOUR: 'it returns false'. Refute it at one input. -/
def topFallWrong : ChangeSpec := { name := "topFall", fn := fun _ => fun
  | [d1, d2, d3, d4] => { results := [.lit (.bool false)], args := [d1, d2, d3, d4] }
  | _ => none }
def TopFallWrongFalsely : Prop := topFallRow.holds Tryz.pinned (OpenSpec.ofChange topFallWrong)

/-- 'postilliontop.TopPartFalls': WHATEVER THE INPUT: true; the input reads as it did. -/
def topPartFallsSpec : ChangeSpec := { name := "topPartFalls", fn := fun _ => fun
  | [d1, d2, d3] => { results := [.lit (.bool true)], args := [d1, d2, d3] }
  | _ => none }
def topPartFallsRow : OpenClaim := { program := "ytcmlgmiomcegeaagreat", sum := "9296da866239c6787fde3f39b9cea34c32460ac6c4804e84ee98721a247ed997", func := "postillion/postilliontop.TopPartFalls", spec := "topPartFalls", inPlace := ["slices.overlaps[postillion/api.End]", "slices.overlaps[postillion/api.Branch]", "slices.overlaps[postillion/api.Pend]", "slices.overlaps[postillion/bag.some[string]]"], unfollowed := true, recurses := true, apart := false }
def TopPartFallsSaid : Prop := topPartFallsRow.holds Tryz.pinned (OpenSpec.ofChange topPartFallsSpec)

/-- ITS FALSE NEIGHBOUR: 'it returns false'. Refute it at one input. -/
def topPartFallsWrong : ChangeSpec := { name := "topPartFalls", fn := fun _ => fun
  | [d1, d2, d3] => { results := [.lit (.bool false)], args := [d1, d2, d3] }
  | _ => none }
def TopPartFallsWrongFalsely : Prop := topPartFallsRow.holds Tryz.pinned (OpenSpec.ofChange topPartFallsWrong)

/-- 'postilliontop.TopParts': WHATEVER THE INPUT: true; the input reads as it did. -/
def topPartsSpec : ChangeSpec := { name := "topParts", fn := fun _ => fun
  | [d1, d2, d3] => { results := [.lit (.bool true)], args := [d1, d2, d3] }
  | _ => none }
def topPartsRow : OpenClaim := { program := "ytcmlgmiomcegeaagreat", sum := "9296da866239c6787fde3f39b9cea34c32460ac6c4804e84ee98721a247ed997", func := "postillion/postilliontop.TopParts", spec := "topParts", inPlace := ["slices.overlaps[postillion/api.End]", "slices.overlaps[postillion/api.Branch]", "slices.overlaps[postillion/api.Pend]", "slices.overlaps[postillion/bag.some[string]]"], unfollowed := true, recurses := true, apart := false }
def TopPartsSaid : Prop := topPartsRow.holds Tryz.pinned (OpenSpec.ofChange topPartsSpec)

/-- ITS FALSE NEIGHBOUR: 'it returns false'. Refute it at one input. -/
def topPartsWrong : ChangeSpec := { name := "topParts", fn := fun _ => fun
  | [d1, d2, d3] => { results := [.lit (.bool false)], args := [d1, d2, d3] }
  | _ => none }
def TopPartsWrongFalsely : Prop := topPartsRow.holds Tryz.pinned (OpenSpec.ofChange topPartsWrong)

/- THE SECOND FORM. 'bulk': how many values and letters a reading holds, each counted each time it is reached (what is shared counts as often as it is met; a slice's spare places count too). A statement '..UptoSaid' is the law's where the arguments, and the package variables that the reading takes, are together of bulk at most 1048576: NARROWER than '..Said'. Prove '..Said' where nothing that the law and all that it calls make is longer than what came in: it says more and counts as full. Else prove '..UptoSaid'. A law counts once. -/
mutual
def uptoBulk {H : Type} : DataW H → Nat
  | .lit (.string bytes) => bytes.length + 1
  | .lit _ => 1
  | .nil => 1
  | .ptr d => uptoBulk d + 1
  | .slice elems spare => uptoBulkAll elems + uptoBulkAll spare + 1
  | .agg parts => uptoBulkAll parts + 1
  | .iface _ d => uptoBulk d + 1
  | .map entries => uptoBulkEntries entries + 1
  | .held _ => 1
def uptoBulkAll {H : Type} : List (DataW H) → Nat
  | [] => 0
  | d :: r => uptoBulk d + uptoBulkAll r
def uptoBulkEntries {H : Type} : List (Lit × DataW H) → Nat
  | [] => 0
  | x :: r => uptoBulkEntry x + uptoBulkEntries r
def uptoBulkEntry {H : Type} : Lit × DataW H → Nat
  | (.string bytes, d) => bytes.length + uptoBulk d + 1
  | (_, d) => uptoBulk d + 1
 end
def uptoSmall : (H : Type) → List (DataW H) → Bool := fun _ ds => decide (uptoBulkAll ds ≤ 1048576)
def OpenSpec.upto (s : _root_.Go.ChangeSpec) : _root_.Go.OpenSpec := { _root_.Go.OpenSpec.ofChange s with cond := some uptoSmall }

/-- 'postilliontop.TopFall', WHERE WHAT IT READS IS OF BULK AT MOST 1048576: true; the input reads as it did. -/
def topFallUptoRow : OpenClaim := { program := "ytcmlgmiomcegeaagreat", sum := "9296da866239c6787fde3f39b9cea34c32460ac6c4804e84ee98721a247ed997", func := "postillion/postilliontop.TopFall", spec := "topFall", inPlace := ["slices.overlaps[postillion/api.End]", "slices.overlaps[postillion/api.Branch]", "slices.overlaps[postillion/api.Pend]", "slices.overlaps[postillion/bag.some[string]]"], unfollowed := true, recurses := true, apart := false, narrowed := true }
def TopFallUptoSaid : Prop := topFallUptoRow.holds Tryz.pinned (OpenSpec.upto topFallSpec)

/-- 'postilliontop.TopPartFalls', WHERE WHAT IT READS IS OF BULK AT MOST 1048576: true; the input reads as it did. -/
def topPartFallsUptoRow : OpenClaim := { program := "ytcmlgmiomcegeaagreat", sum := "9296da866239c6787fde3f39b9cea34c32460ac6c4804e84ee98721a247ed997", func := "postillion/postilliontop.TopPartFalls", spec := "topPartFalls", inPlace := ["slices.overlaps[postillion/api.End]", "slices.overlaps[postillion/api.Branch]", "slices.overlaps[postillion/api.Pend]", "slices.overlaps[postillion/bag.some[string]]"], unfollowed := true, recurses := true, apart := false, narrowed := true }
def TopPartFallsUptoSaid : Prop := topPartFallsUptoRow.holds Tryz.pinned (OpenSpec.upto topPartFallsSpec)

/-- 'postilliontop.TopParts', WHERE WHAT IT READS IS OF BULK AT MOST 1048576: true; the input reads as it did. -/
def topPartsUptoRow : OpenClaim := { program := "ytcmlgmiomcegeaagreat", sum := "9296da866239c6787fde3f39b9cea34c32460ac6c4804e84ee98721a247ed997", func := "postillion/postilliontop.TopParts", spec := "topParts", inPlace := ["slices.overlaps[postillion/api.End]", "slices.overlaps[postillion/api.Branch]", "slices.overlaps[postillion/api.Pend]", "slices.overlaps[postillion/bag.some[string]]"], unfollowed := true, recurses := true, apart := false, narrowed := true }
def TopPartsUptoSaid : Prop := topPartsUptoRow.holds Tryz.pinned (OpenSpec.upto topPartsSpec)

end Rows
end Go.Proofs.YtcmlgmiomcegeaaGreat
