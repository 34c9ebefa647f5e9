/-
  No cell of these rows narrows 'for every input' (looked for: loops, veiled, ifaces, maps, wideKeys, modest, calm, conditions, laid).
  DERIVED. THE GIVEN ROWS OF THIS SEAT. 11 by the template 'for every input the law returns true; each argument reads behind the call as it read before'; 0 by the template 'total and deterministic' (their statements: YtohodhkdmnokdaaGreatTotals.lean).
  GIVEN WITH THE SEED: the statements are not yours to turn. If you find one false, say at which input.
  Laid BY PROGRAM, IN A SANDBOX (cutbox-rows.mjs): the forced cells as the released guide's own fill.sh prints them over the translation cb3225e22af0dbeb… (all of the seat's roots in one cut). By AI agents, Wed Nov 11 2026. No macro, syntax, notation, axiom, sorry.
-/
import Derived.Test.YtohodhkdmnokdaaGreatChecked
import GoSem.Claim
import GoSem.ClaimJoined
import GoSem.ClaimMapViews
import Derived.JoinedTies
import Derived.KernelRfl
namespace Go.Proofs.YtohodhkdmnokdaaGreat
/- THE CELL 'sum', in the pinned program and in every row, IS THE sha256 OF THE DUMP (.gsa) THAT YtohodhkdmnokdaaGreatProg.lean LOADS. Nothing in Lean hashes anything: it is a label: what it is worth is what the hold of that sum in a sandbox is worth. -/
noncomputable def Tryz.pinned : Pinned := { name := "ytohodhkdmnokdaagreat", sum := "cb3225e22af0dbeb3f14517d84893637abfeb00cb8fa373be174ed873e45d127", checked := Tryz.checked }
namespace Rows
def none {H : Type} : Left H := { results := [], args := [] }

/-- 'postilliontop.TopMoves': WHATEVER THE INPUT: true; the input reads as it did. -/
def topMovesSpec : ChangeSpec := { name := "topMoves", fn := fun _ => fun
  | [d1, d2] => { results := [.lit (.bool true)], args := [d1, d2] }
  | _ => none }
def topMovesRow : OpenClaim := { program := "ytohodhkdmnokdaagreat", sum := "cb3225e22af0dbeb3f14517d84893637abfeb00cb8fa373be174ed873e45d127", func := "postillion/postilliontop.TopMoves", spec := "topMoves", inPlace := ["slices.overlaps[postillion/api.End]", "slices.overlaps[postillion/api.Branch]", "slices.overlaps[postillion/api.Pend]", "slices.overlaps[postillion/bag.some[string]]"], unfollowed := true, recurses := true, apart := false }
def TopMovesSaid : Prop := topMovesRow.holds Tryz.pinned (OpenSpec.ofChange topMovesSpec)

/-- ITS FALSE NEIGHBOUR: 'it returns false'. Refute it at one input. -/
def topMovesWrong : ChangeSpec := { name := "topMoves", fn := fun _ => fun
  | [d1, d2] => { results := [.lit (.bool false)], args := [d1, d2] }
  | _ => none }
def TopMovesWrongFalsely : Prop := topMovesRow.holds Tryz.pinned (OpenSpec.ofChange topMovesWrong)

/-- 'postilliontop.TopAbort': WHATEVER THE INPUT: true; the input reads as it did. -/
def topAbortSpec : ChangeSpec := { name := "topAbort", fn := fun _ => fun
  | [d1, d2] => { results := [.lit (.bool true)], args := [d1, d2] }
  | _ => none }
def topAbortRow : OpenClaim := { program := "ytohodhkdmnokdaagreat", sum := "cb3225e22af0dbeb3f14517d84893637abfeb00cb8fa373be174ed873e45d127", func := "postillion/postilliontop.TopAbort", spec := "topAbort", inPlace := ["slices.overlaps[postillion/api.End]", "slices.overlaps[postillion/api.Branch]", "slices.overlaps[postillion/api.Pend]", "slices.overlaps[postillion/bag.some[string]]"], unfollowed := true, recurses := true, apart := false }
def TopAbortSaid : Prop := topAbortRow.holds Tryz.pinned (OpenSpec.ofChange topAbortSpec)

/-- ITS FALSE NEIGHBOUR: 'it returns false'. Refute it at one input. -/
def topAbortWrong : ChangeSpec := { name := "topAbort", fn := fun _ => fun
  | [d1, d2] => { results := [.lit (.bool false)], args := [d1, d2] }
  | _ => none }
def TopAbortWrongFalsely : Prop := topAbortRow.holds Tryz.pinned (OpenSpec.ofChange topAbortWrong)

/-- 'postilliontop.TopUnknown': WHATEVER THE INPUT: true; the input reads as it did. -/
def topUnknownSpec : ChangeSpec := { name := "topUnknown", fn := fun _ => fun
  | [d1, d2] => { results := [.lit (.bool true)], args := [d1, d2] }
  | _ => none }
def topUnknownRow : OpenClaim := { program := "ytohodhkdmnokdaagreat", sum := "cb3225e22af0dbeb3f14517d84893637abfeb00cb8fa373be174ed873e45d127", func := "postillion/postilliontop.TopUnknown", spec := "topUnknown", inPlace := ["slices.overlaps[postillion/api.End]", "slices.overlaps[postillion/api.Branch]", "slices.overlaps[postillion/api.Pend]", "slices.overlaps[postillion/bag.some[string]]"], unfollowed := true, recurses := true, apart := false }
def TopUnknownSaid : Prop := topUnknownRow.holds Tryz.pinned (OpenSpec.ofChange topUnknownSpec)

/-- ITS FALSE NEIGHBOUR: 'it returns false'. Refute it at one input. -/
def topUnknownWrong : ChangeSpec := { name := "topUnknown", fn := fun _ => fun
  | [d1, d2] => { results := [.lit (.bool false)], args := [d1, d2] }
  | _ => none }
def TopUnknownWrongFalsely : Prop := topUnknownRow.holds Tryz.pinned (OpenSpec.ofChange topUnknownWrong)

/-- 'postilliontop.TopFall': WHATEVER THE INPUT: true; the input reads as it did. -/
def topFallSpec : ChangeSpec := { name := "topFall", fn := fun _ => fun
  | [d1, d2, d3, d4] => { results := [.lit (.bool true)], args := [d1, d2, d3, d4] }
  | _ => none }
def topFallRow : OpenClaim := { program := "ytohodhkdmnokdaagreat", sum := "cb3225e22af0dbeb3f14517d84893637abfeb00cb8fa373be174ed873e45d127", func := "postillion/postilliontop.TopFall", spec := "topFall", inPlace := ["slices.overlaps[postillion/api.End]", "slices.overlaps[postillion/api.Branch]", "slices.overlaps[postillion/api.Pend]", "slices.overlaps[postillion/bag.some[string]]"], unfollowed := true, recurses := true, apart := false }
def TopFallSaid : Prop := topFallRow.holds Tryz.pinned (OpenSpec.ofChange topFallSpec)

/-- ITS FALSE NEIGHBOUR: 'it returns false'. Refute it at one input. -/
def topFallWrong : ChangeSpec := { name := "topFall", fn := fun _ => fun
  | [d1, d2, d3, d4] => { results := [.lit (.bool false)], args := [d1, d2, d3, d4] }
  | _ => none }
def TopFallWrongFalsely : Prop := topFallRow.holds Tryz.pinned (OpenSpec.ofChange topFallWrong)

/-- 'postilliontop.TopPartFalls': WHATEVER THE INPUT: true; the input reads as it did. -/
def topPartFallsSpec : ChangeSpec := { name := "topPartFalls", fn := fun _ => fun
  | [d1, d2, d3] => { results := [.lit (.bool true)], args := [d1, d2, d3] }
  | _ => none }
def topPartFallsRow : OpenClaim := { program := "ytohodhkdmnokdaagreat", sum := "cb3225e22af0dbeb3f14517d84893637abfeb00cb8fa373be174ed873e45d127", func := "postillion/postilliontop.TopPartFalls", spec := "topPartFalls", inPlace := ["slices.overlaps[postillion/api.End]", "slices.overlaps[postillion/api.Branch]", "slices.overlaps[postillion/api.Pend]", "slices.overlaps[postillion/bag.some[string]]"], unfollowed := true, recurses := true, apart := false }
def TopPartFallsSaid : Prop := topPartFallsRow.holds Tryz.pinned (OpenSpec.ofChange topPartFallsSpec)

/-- ITS FALSE NEIGHBOUR: 'it returns false'. Refute it at one input. -/
def topPartFallsWrong : ChangeSpec := { name := "topPartFalls", fn := fun _ => fun
  | [d1, d2, d3] => { results := [.lit (.bool false)], args := [d1, d2, d3] }
  | _ => none }
def TopPartFallsWrongFalsely : Prop := topPartFallsRow.holds Tryz.pinned (OpenSpec.ofChange topPartFallsWrong)

/-- 'postilliontop.TopLostNo': WHATEVER THE INPUT: true; the input reads as it did. -/
def topLostNoSpec : ChangeSpec := { name := "topLostNo", fn := fun _ => fun
  | [d1, d2] => { results := [.lit (.bool true)], args := [d1, d2] }
  | _ => none }
def topLostNoRow : OpenClaim := { program := "ytohodhkdmnokdaagreat", sum := "cb3225e22af0dbeb3f14517d84893637abfeb00cb8fa373be174ed873e45d127", func := "postillion/postilliontop.TopLostNo", spec := "topLostNo", inPlace := ["slices.overlaps[postillion/api.End]", "slices.overlaps[postillion/api.Branch]", "slices.overlaps[postillion/api.Pend]", "slices.overlaps[postillion/bag.some[string]]"], unfollowed := true, recurses := true, apart := false }
def TopLostNoSaid : Prop := topLostNoRow.holds Tryz.pinned (OpenSpec.ofChange topLostNoSpec)

/-- ITS FALSE NEIGHBOUR: 'it returns false'. Refute it at one input. -/
def topLostNoWrong : ChangeSpec := { name := "topLostNo", fn := fun _ => fun
  | [d1, d2] => { results := [.lit (.bool false)], args := [d1, d2] }
  | _ => none }
def TopLostNoWrongFalsely : Prop := topLostNoRow.holds Tryz.pinned (OpenSpec.ofChange topLostNoWrong)

/-- 'postilliontop.TopRetry': WHATEVER THE INPUT: true; the input reads as it did. -/
def topRetrySpec : ChangeSpec := { name := "topRetry", fn := fun _ => fun
  | [d1, d2] => { results := [.lit (.bool true)], args := [d1, d2] }
  | _ => none }
def topRetryRow : OpenClaim := { program := "ytohodhkdmnokdaagreat", sum := "cb3225e22af0dbeb3f14517d84893637abfeb00cb8fa373be174ed873e45d127", func := "postillion/postilliontop.TopRetry", spec := "topRetry", inPlace := ["slices.overlaps[postillion/api.End]", "slices.overlaps[postillion/api.Branch]", "slices.overlaps[postillion/api.Pend]", "slices.overlaps[postillion/bag.some[string]]"], unfollowed := true, recurses := true, apart := false }
def TopRetrySaid : Prop := topRetryRow.holds Tryz.pinned (OpenSpec.ofChange topRetrySpec)

/-- ITS FALSE NEIGHBOUR: 'it returns false'. Refute it at one input. -/
def topRetryWrong : ChangeSpec := { name := "topRetry", fn := fun _ => fun
  | [d1, d2] => { results := [.lit (.bool false)], args := [d1, d2] }
  | _ => none }
def TopRetryWrongFalsely : Prop := topRetryRow.holds Tryz.pinned (OpenSpec.ofChange topRetryWrong)

/-- 'postilliontop.TopParts': WHATEVER THE INPUT: true; the input reads as it did. -/
def topPartsSpec : ChangeSpec := { name := "topParts", fn := fun _ => fun
  | [d1, d2, d3] => { results := [.lit (.bool true)], args := [d1, d2, d3] }
  | _ => none }
def topPartsRow : OpenClaim := { program := "ytohodhkdmnokdaagreat", sum := "cb3225e22af0dbeb3f14517d84893637abfeb00cb8fa373be174ed873e45d127", func := "postillion/postilliontop.TopParts", spec := "topParts", inPlace := ["slices.overlaps[postillion/api.End]", "slices.overlaps[postillion/api.Branch]", "slices.overlaps[postillion/api.Pend]", "slices.overlaps[postillion/bag.some[string]]"], unfollowed := true, recurses := true, apart := false }
def TopPartsSaid : Prop := topPartsRow.holds Tryz.pinned (OpenSpec.ofChange topPartsSpec)

/-- ITS FALSE NEIGHBOUR: 'it returns false'. Refute it at one input. -/
def topPartsWrong : ChangeSpec := { name := "topParts", fn := fun _ => fun
  | [d1, d2, d3] => { results := [.lit (.bool false)], args := [d1, d2, d3] }
  | _ => none }
def TopPartsWrongFalsely : Prop := topPartsRow.holds Tryz.pinned (OpenSpec.ofChange topPartsWrong)

/-- 'postilliontop.TopTwice': WHATEVER THE INPUT: true; the input reads as it did. -/
def topTwiceSpec : ChangeSpec := { name := "topTwice", fn := fun _ => fun
  | [d1, d2] => { results := [.lit (.bool true)], args := [d1, d2] }
  | _ => none }
def topTwiceRow : OpenClaim := { program := "ytohodhkdmnokdaagreat", sum := "cb3225e22af0dbeb3f14517d84893637abfeb00cb8fa373be174ed873e45d127", func := "postillion/postilliontop.TopTwice", spec := "topTwice", inPlace := ["slices.overlaps[postillion/api.End]", "slices.overlaps[postillion/api.Branch]", "slices.overlaps[postillion/api.Pend]", "slices.overlaps[postillion/bag.some[string]]"], unfollowed := true, recurses := true, apart := false }
def TopTwiceSaid : Prop := topTwiceRow.holds Tryz.pinned (OpenSpec.ofChange topTwiceSpec)

/-- ITS FALSE NEIGHBOUR: 'it returns false'. Refute it at one input. -/
def topTwiceWrong : ChangeSpec := { name := "topTwice", fn := fun _ => fun
  | [d1, d2] => { results := [.lit (.bool false)], args := [d1, d2] }
  | _ => none }
def TopTwiceWrongFalsely : Prop := topTwiceRow.holds Tryz.pinned (OpenSpec.ofChange topTwiceWrong)

/-- 'postilliontop.TopMany': WHATEVER THE INPUT: true; the input reads as it did. -/
def topManySpec : ChangeSpec := { name := "topMany", fn := fun _ => fun
  | [d] => { results := [.lit (.bool true)], args := [d] }
  | _ => none }
def topManyRow : OpenClaim := { program := "ytohodhkdmnokdaagreat", sum := "cb3225e22af0dbeb3f14517d84893637abfeb00cb8fa373be174ed873e45d127", func := "postillion/postilliontop.TopMany", spec := "topMany", inPlace := ["slices.overlaps[postillion/api.End]", "slices.overlaps[postillion/api.Branch]", "slices.overlaps[postillion/api.Pend]", "slices.overlaps[postillion/bag.some[string]]"], unfollowed := true, recurses := true, apart := false }
def TopManySaid : Prop := topManyRow.holds Tryz.pinned (OpenSpec.ofChange topManySpec)

/-- ITS FALSE NEIGHBOUR: 'it returns false'. Refute it at one input. -/
def topManyWrong : ChangeSpec := { name := "topMany", fn := fun _ => fun
  | [d] => { results := [.lit (.bool false)], args := [d] }
  | _ => none }
def TopManyWrongFalsely : Prop := topManyRow.holds Tryz.pinned (OpenSpec.ofChange topManyWrong)

/-- 'postilliontop.TopBegins': WHATEVER THE INPUT: true; the input reads as it did. -/
def topBeginsSpec : ChangeSpec := { name := "topBegins", fn := fun _ => fun
  | [d1, d2] => { results := [.lit (.bool true)], args := [d1, d2] }
  | _ => none }
def topBeginsRow : OpenClaim := { program := "ytohodhkdmnokdaagreat", sum := "cb3225e22af0dbeb3f14517d84893637abfeb00cb8fa373be174ed873e45d127", func := "postillion/postilliontop.TopBegins", spec := "topBegins", inPlace := ["slices.overlaps[postillion/api.End]", "slices.overlaps[postillion/api.Branch]", "slices.overlaps[postillion/api.Pend]", "slices.overlaps[postillion/bag.some[string]]"], unfollowed := true, recurses := true, apart := false }
def TopBeginsSaid : Prop := topBeginsRow.holds Tryz.pinned (OpenSpec.ofChange topBeginsSpec)

/-- ITS FALSE NEIGHBOUR: 'it returns false'. Refute it at one input. -/
def topBeginsWrong : ChangeSpec := { name := "topBegins", fn := fun _ => fun
  | [d1, d2] => { results := [.lit (.bool false)], args := [d1, d2] }
  | _ => none }
def TopBeginsWrongFalsely : Prop := topBeginsRow.holds Tryz.pinned (OpenSpec.ofChange topBeginsWrong)

/- THE SECOND FORM. 'bulk': how many values and letters a reading holds, each counted each time it is reached (what is shared counts as often as it is met; a slice's spare places count too). A statement '..UptoSaid' is the law's where the arguments, and the package variables that the reading takes, are together of bulk at most 1048576: NARROWER than '..Said'. Prove '..Said' where nothing that the law and all that it calls make is longer than what came in: it says more and counts as full. Else prove '..UptoSaid'. A law counts once. -/
mutual
def uptoBulk {H : Type} : DataW H → Nat
  | .lit (.string bytes) => bytes.length + 1
  | .lit _ => 1
  | .nil => 1
  | .ptr d => uptoBulk d + 1
  | .slice elems spare => uptoBulkAll elems + uptoBulkAll spare + 1
  | .agg parts => uptoBulkAll parts + 1
  | .iface _ d => uptoBulk d + 1
  | .map entries => uptoBulkEntries entries + 1
  | .held _ => 1
def uptoBulkAll {H : Type} : List (DataW H) → Nat
  | [] => 0
  | d :: r => uptoBulk d + uptoBulkAll r
def uptoBulkEntries {H : Type} : List (Lit × DataW H) → Nat
  | [] => 0
  | x :: r => uptoBulkEntry x + uptoBulkEntries r
def uptoBulkEntry {H : Type} : Lit × DataW H → Nat
  | (.string bytes, d) => bytes.length + uptoBulk d + 1
  | (_, d) => uptoBulk d + 1
 end
def uptoSmall : (H : Type) → List (DataW H) → Bool := fun _ ds => decide (uptoBulkAll ds ≤ 1048576)
def OpenSpec.upto (s : _root_.Go.ChangeSpec) : _root_.Go.OpenSpec := { _root_.Go.OpenSpec.ofChange s with cond := some uptoSmall }

/-- 'postilliontop.TopMoves', WHERE WHAT IT READS IS OF BULK AT MOST 1048576: true; the input reads as it did. -/
def topMovesUptoRow : OpenClaim := { program := "ytohodhkdmnokdaagreat", sum := "cb3225e22af0dbeb3f14517d84893637abfeb00cb8fa373be174ed873e45d127", func := "postillion/postilliontop.TopMoves", spec := "topMoves", inPlace := ["slices.overlaps[postillion/api.End]", "slices.overlaps[postillion/api.Branch]", "slices.overlaps[postillion/api.Pend]", "slices.overlaps[postillion/bag.some[string]]"], unfollowed := true, recurses := true, apart := false, narrowed := true }
def TopMovesUptoSaid : Prop := topMovesUptoRow.holds Tryz.pinned (OpenSpec.upto topMovesSpec)

/-- 'postilliontop.TopAbort', WHERE WHAT IT READS IS OF BULK AT MOST 1048576: true; the input reads as it did. -/
def topAbortUptoRow : OpenClaim := { program := "ytohodhkdmnokdaagreat", sum := "cb3225e22af0dbeb3f14517d84893637abfeb00cb8fa373be174ed873e45d127", func := "postillion/postilliontop.TopAbort", spec := "topAbort", inPlace := ["slices.overlaps[postillion/api.End]", "slices.overlaps[postillion/api.Branch]", "slices.overlaps[postillion/api.Pend]", "slices.overlaps[postillion/bag.some[string]]"], unfollowed := true, recurses := true, apart := false, narrowed := true }
def TopAbortUptoSaid : Prop := topAbortUptoRow.holds Tryz.pinned (OpenSpec.upto topAbortSpec)

/-- 'postilliontop.TopUnknown', WHERE WHAT IT READS IS OF BULK AT MOST 1048576: true; the input reads as it did. -/
def topUnknownUptoRow : OpenClaim := { program := "ytohodhkdmnokdaagreat", sum := "cb3225e22af0dbeb3f14517d84893637abfeb00cb8fa373be174ed873e45d127", func := "postillion/postilliontop.TopUnknown", spec := "topUnknown", inPlace := ["slices.overlaps[postillion/api.End]", "slices.overlaps[postillion/api.Branch]", "slices.overlaps[postillion/api.Pend]", "slices.overlaps[postillion/bag.some[string]]"], unfollowed := true, recurses := true, apart := false, narrowed := true }
def TopUnknownUptoSaid : Prop := topUnknownUptoRow.holds Tryz.pinned (OpenSpec.upto topUnknownSpec)

/-- 'postilliontop.TopFall', WHERE WHAT IT READS IS OF BULK AT MOST 1048576: true; the input reads as it did. -/
def topFallUptoRow : OpenClaim := { program := "ytohodhkdmnokdaagreat", sum := "cb3225e22af0dbeb3f14517d84893637abfeb00cb8fa373be174ed873e45d127", func := "postillion/postilliontop.TopFall", spec := "topFall", inPlace := ["slices.overlaps[postillion/api.End]", "slices.overlaps[postillion/api.Branch]", "slices.overlaps[postillion/api.Pend]", "slices.overlaps[postillion/bag.some[string]]"], unfollowed := true, recurses := true, apart := false, narrowed := true }
def TopFallUptoSaid : Prop := topFallUptoRow.holds Tryz.pinned (OpenSpec.upto topFallSpec)

/-- 'postilliontop.TopPartFalls', WHERE WHAT IT READS IS OF BULK AT MOST 1048576: true; the input reads as it did. -/
def topPartFallsUptoRow : OpenClaim := { program := "ytohodhkdmnokdaagreat", sum := "cb3225e22af0dbeb3f14517d84893637abfeb00cb8fa373be174ed873e45d127", func := "postillion/postilliontop.TopPartFalls", spec := "topPartFalls", inPlace := ["slices.overlaps[postillion/api.End]", "slices.overlaps[postillion/api.Branch]", "slices.overlaps[postillion/api.Pend]", "slices.overlaps[postillion/bag.some[string]]"], unfollowed := true, recurses := true, apart := false, narrowed := true }
def TopPartFallsUptoSaid : Prop := topPartFallsUptoRow.holds Tryz.pinned (OpenSpec.upto topPartFallsSpec)

/-- 'postilliontop.TopLostNo', WHERE WHAT IT READS IS OF BULK AT MOST 1048576: true; the input reads as it did. -/
def topLostNoUptoRow : OpenClaim := { program := "ytohodhkdmnokdaagreat", sum := "cb3225e22af0dbeb3f14517d84893637abfeb00cb8fa373be174ed873e45d127", func := "postillion/postilliontop.TopLostNo", spec := "topLostNo", inPlace := ["slices.overlaps[postillion/api.End]", "slices.overlaps[postillion/api.Branch]", "slices.overlaps[postillion/api.Pend]", "slices.overlaps[postillion/bag.some[string]]"], unfollowed := true, recurses := true, apart := false, narrowed := true }
def TopLostNoUptoSaid : Prop := topLostNoUptoRow.holds Tryz.pinned (OpenSpec.upto topLostNoSpec)

/-- 'postilliontop.TopRetry', WHERE WHAT IT READS IS OF BULK AT MOST 1048576: true; the input reads as it did. -/
def topRetryUptoRow : OpenClaim := { program := "ytohodhkdmnokdaagreat", sum := "cb3225e22af0dbeb3f14517d84893637abfeb00cb8fa373be174ed873e45d127", func := "postillion/postilliontop.TopRetry", spec := "topRetry", inPlace := ["slices.overlaps[postillion/api.End]", "slices.overlaps[postillion/api.Branch]", "slices.overlaps[postillion/api.Pend]", "slices.overlaps[postillion/bag.some[string]]"], unfollowed := true, recurses := true, apart := false, narrowed := true }
def TopRetryUptoSaid : Prop := topRetryUptoRow.holds Tryz.pinned (OpenSpec.upto topRetrySpec)

/-- 'postilliontop.TopParts', WHERE WHAT IT READS IS OF BULK AT MOST 1048576: true; the input reads as it did. -/
def topPartsUptoRow : OpenClaim := { program := "ytohodhkdmnokdaagreat", sum := "cb3225e22af0dbeb3f14517d84893637abfeb00cb8fa373be174ed873e45d127", func := "postillion/postilliontop.TopParts", spec := "topParts", inPlace := ["slices.overlaps[postillion/api.End]", "slices.overlaps[postillion/api.Branch]", "slices.overlaps[postillion/api.Pend]", "slices.overlaps[postillion/bag.some[string]]"], unfollowed := true, recurses := true, apart := false, narrowed := true }
def TopPartsUptoSaid : Prop := topPartsUptoRow.holds Tryz.pinned (OpenSpec.upto topPartsSpec)

/-- 'postilliontop.TopTwice', WHERE WHAT IT READS IS OF BULK AT MOST 1048576: true; the input reads as it did. -/
def topTwiceUptoRow : OpenClaim := { program := "ytohodhkdmnokdaagreat", sum := "cb3225e22af0dbeb3f14517d84893637abfeb00cb8fa373be174ed873e45d127", func := "postillion/postilliontop.TopTwice", spec := "topTwice", inPlace := ["slices.overlaps[postillion/api.End]", "slices.overlaps[postillion/api.Branch]", "slices.overlaps[postillion/api.Pend]", "slices.overlaps[postillion/bag.some[string]]"], unfollowed := true, recurses := true, apart := false, narrowed := true }
def TopTwiceUptoSaid : Prop := topTwiceUptoRow.holds Tryz.pinned (OpenSpec.upto topTwiceSpec)

/-- 'postilliontop.TopMany', WHERE WHAT IT READS IS OF BULK AT MOST 1048576: true; the input reads as it did. -/
def topManyUptoRow : OpenClaim := { program := "ytohodhkdmnokdaagreat", sum := "cb3225e22af0dbeb3f14517d84893637abfeb00cb8fa373be174ed873e45d127", func := "postillion/postilliontop.TopMany", spec := "topMany", inPlace := ["slices.overlaps[postillion/api.End]", "slices.overlaps[postillion/api.Branch]", "slices.overlaps[postillion/api.Pend]", "slices.overlaps[postillion/bag.some[string]]"], unfollowed := true, recurses := true, apart := false, narrowed := true }
def TopManyUptoSaid : Prop := topManyUptoRow.holds Tryz.pinned (OpenSpec.upto topManySpec)

/-- 'postilliontop.TopBegins', WHERE WHAT IT READS IS OF BULK AT MOST 1048576: true; the input reads as it did. -/
def topBeginsUptoRow : OpenClaim := { program := "ytohodhkdmnokdaagreat", sum := "cb3225e22af0dbeb3f14517d84893637abfeb00cb8fa373be174ed873e45d127", func := "postillion/postilliontop.TopBegins", spec := "topBegins", inPlace := ["slices.overlaps[postillion/api.End]", "slices.overlaps[postillion/api.Branch]", "slices.overlaps[postillion/api.Pend]", "slices.overlaps[postillion/bag.some[string]]"], unfollowed := true, recurses := true, apart := false, narrowed := true }
def TopBeginsUptoSaid : Prop := topBeginsUptoRow.holds Tryz.pinned (OpenSpec.upto topBeginsSpec)

end Rows
end Go.Proofs.YtohodhkdmnokdaaGreat
