/-
  No cell of these rows narrows 'for every input' (looked for: loops, veiled, ifaces, maps, wideKeys, modest, calm, conditions, laid).
  DERIVED. THE GIVEN ROWS OF THIS SEAT. 13 by the template 'for every input the law returns true; each argument reads behind the call as it read before'; 0 by the template 'total and deterministic' (their statements: YtcjlgdldhcbcjaaTotals.lean).
  GIVEN WITH THE SEED: the statements are not yours to turn. If you find one false, say at which input.
  Laid BY PROGRAM, IN A SANDBOX (cutbox-rows.mjs): the forced cells as the released guide's own fill.sh prints them over the translation 0e6a62825c45b5a6… (all of the seat's roots in one cut). By AI agents, Wed Nov 11 2026. No macro, syntax, notation, axiom, sorry.
-/
import Derived.Test.YtcjlgdldhcbcjaaChecked
import GoSem.Claim
import GoSem.ClaimJoined
import GoSem.ClaimMapViews
import Derived.JoinedTies
import Derived.KernelRfl
namespace Go.Proofs.Ytcjlgdldhcbcjaa
/- THE CELL 'sum', in the pinned program and in every row, IS THE sha256 OF THE DUMP (.gsa) THAT YtcjlgdldhcbcjaaProg.lean LOADS. Nothing in Lean hashes anything: it is a label: what it is worth is what the hold of that sum in a sandbox is worth. -/
noncomputable def Try.pinned : Pinned := { name := "ytcjlgdldhcbcjaa", sum := "0e6a62825c45b5a6e34d67267602f159a05559c6a4af7fffde2a6f15fb3702b2", checked := Try.checked }
namespace Rows
def none {H : Type} : Left H := { results := [], args := [] }

/-- 'postillionlaw4.SegFrame': WHATEVER THE INPUT: true; the input reads as it did. -/
def segFrameSpec : ChangeSpec := { name := "segFrame", fn := fun _ => fun
  | [d1, d2, d3, d4] => { results := [.lit (.bool true)], args := [d1, d2, d3, d4] }
  | _ => none }
def segFrameRow : OpenClaim := { program := "ytcjlgdldhcbcjaa", sum := "0e6a62825c45b5a6e34d67267602f159a05559c6a4af7fffde2a6f15fb3702b2", func := "postillion/postillionlaw4.SegFrame", spec := "segFrame", unfollowed := true, recurses := true, apart := false }
def SegFrameSaid : Prop := segFrameRow.holds Try.pinned (OpenSpec.ofChange segFrameSpec)

/-- ITS FALSE NEIGHBOUR: 'it returns false'. Refute it at one input. -/
def segFrameWrong : ChangeSpec := { name := "segFrame", fn := fun _ => fun
  | [d1, d2, d3, d4] => { results := [.lit (.bool false)], args := [d1, d2, d3, d4] }
  | _ => none }
def SegFrameWrongFalsely : Prop := segFrameRow.holds Try.pinned (OpenSpec.ofChange segFrameWrong)

/-- 'postillionlaw4.SegLong': WHATEVER THE INPUT: true; the input reads as it did. -/
def segLongSpec : ChangeSpec := { name := "segLong", fn := fun _ => fun
  | [d1, d2] => { results := [.lit (.bool true)], args := [d1, d2] }
  | _ => none }
def segLongRow : OpenClaim := { program := "ytcjlgdldhcbcjaa", sum := "0e6a62825c45b5a6e34d67267602f159a05559c6a4af7fffde2a6f15fb3702b2", func := "postillion/postillionlaw4.SegLong", spec := "segLong", unfollowed := true, recurses := true, apart := false }
def SegLongSaid : Prop := segLongRow.holds Try.pinned (OpenSpec.ofChange segLongSpec)

/-- ITS FALSE NEIGHBOUR: 'it returns false'. Refute it at one input. -/
def segLongWrong : ChangeSpec := { name := "segLong", fn := fun _ => fun
  | [d1, d2] => { results := [.lit (.bool false)], args := [d1, d2] }
  | _ => none }
def SegLongWrongFalsely : Prop := segLongRow.holds Try.pinned (OpenSpec.ofChange segLongWrong)

/-- 'postillionlaw4.SegNames': WHATEVER THE INPUT: true; the input reads as it did. -/
def segNamesSpec : ChangeSpec := { name := "segNames", fn := fun _ => fun
  | [d] => { results := [.lit (.bool true)], args := [d] }
  | _ => none }
def segNamesRow : OpenClaim := { program := "ytcjlgdldhcbcjaa", sum := "0e6a62825c45b5a6e34d67267602f159a05559c6a4af7fffde2a6f15fb3702b2", func := "postillion/postillionlaw4.SegNames", spec := "segNames", unfollowed := true, recurses := true, apart := false }
def SegNamesSaid : Prop := segNamesRow.holds Try.pinned (OpenSpec.ofChange segNamesSpec)

/-- ITS FALSE NEIGHBOUR: 'it returns false'. Refute it at one input. -/
def segNamesWrong : ChangeSpec := { name := "segNames", fn := fun _ => fun
  | [d] => { results := [.lit (.bool false)], args := [d] }
  | _ => none }
def SegNamesWrongFalsely : Prop := segNamesRow.holds Try.pinned (OpenSpec.ofChange segNamesWrong)

/-- 'postillionlaw4.SegRolls': WHATEVER THE INPUT: true; the input reads as it did. -/
def segRollsSpec : ChangeSpec := { name := "segRolls", fn := fun _ => fun
  | [d] => { results := [.lit (.bool true)], args := [d] }
  | _ => none }
def segRollsRow : OpenClaim := { program := "ytcjlgdldhcbcjaa", sum := "0e6a62825c45b5a6e34d67267602f159a05559c6a4af7fffde2a6f15fb3702b2", func := "postillion/postillionlaw4.SegRolls", spec := "segRolls", unfollowed := true, recurses := true, apart := false }
def SegRollsSaid : Prop := segRollsRow.holds Try.pinned (OpenSpec.ofChange segRollsSpec)

/-- ITS FALSE NEIGHBOUR: 'it returns false'. Refute it at one input. -/
def segRollsWrong : ChangeSpec := { name := "segRolls", fn := fun _ => fun
  | [d] => { results := [.lit (.bool false)], args := [d] }
  | _ => none }
def SegRollsWrongFalsely : Prop := segRollsRow.holds Try.pinned (OpenSpec.ofChange segRollsWrong)

/-- 'postillionlaw4.SegSpoilt': WHATEVER THE INPUT: true; the input reads as it did. -/
def segSpoiltSpec : ChangeSpec := { name := "segSpoilt", fn := fun _ => fun
  | [d1, d2, d3] => { results := [.lit (.bool true)], args := [d1, d2, d3] }
  | _ => none }
def segSpoiltRow : OpenClaim := { program := "ytcjlgdldhcbcjaa", sum := "0e6a62825c45b5a6e34d67267602f159a05559c6a4af7fffde2a6f15fb3702b2", func := "postillion/postillionlaw4.SegSpoilt", spec := "segSpoilt", unfollowed := true, recurses := true, apart := false }
def SegSpoiltSaid : Prop := segSpoiltRow.holds Try.pinned (OpenSpec.ofChange segSpoiltSpec)

/-- ITS FALSE NEIGHBOUR: 'it returns false'. Refute it at one input. -/
def segSpoiltWrong : ChangeSpec := { name := "segSpoilt", fn := fun _ => fun
  | [d1, d2, d3] => { results := [.lit (.bool false)], args := [d1, d2, d3] }
  | _ => none }
def SegSpoiltWrongFalsely : Prop := segSpoiltRow.holds Try.pinned (OpenSpec.ofChange segSpoiltWrong)

/-- 'postillionlaw4.SegTorn': WHATEVER THE INPUT: true; the input reads as it did. -/
def segTornSpec : ChangeSpec := { name := "segTorn", fn := fun _ => fun
  | [d1, d2, d3] => { results := [.lit (.bool true)], args := [d1, d2, d3] }
  | _ => none }
def segTornRow : OpenClaim := { program := "ytcjlgdldhcbcjaa", sum := "0e6a62825c45b5a6e34d67267602f159a05559c6a4af7fffde2a6f15fb3702b2", func := "postillion/postillionlaw4.SegTorn", spec := "segTorn", unfollowed := true, recurses := true, apart := false }
def SegTornSaid : Prop := segTornRow.holds Try.pinned (OpenSpec.ofChange segTornSpec)

/-- ITS FALSE NEIGHBOUR: 'it returns false'. Refute it at one input. -/
def segTornWrong : ChangeSpec := { name := "segTorn", fn := fun _ => fun
  | [d1, d2, d3] => { results := [.lit (.bool false)], args := [d1, d2, d3] }
  | _ => none }
def SegTornWrongFalsely : Prop := segTornRow.holds Try.pinned (OpenSpec.ofChange segTornWrong)

/-- 'postillionlaw4.SegBytes': WHATEVER THE INPUT: true; the input reads as it did. -/
def segBytesSpec : ChangeSpec := { name := "segBytes", fn := fun _ => fun
  | [d] => { results := [.lit (.bool true)], args := [d] }
  | _ => none }
def segBytesRow : OpenClaim := { program := "ytcjlgdldhcbcjaa", sum := "0e6a62825c45b5a6e34d67267602f159a05559c6a4af7fffde2a6f15fb3702b2", func := "postillion/postillionlaw4.SegBytes", spec := "segBytes", unfollowed := true, recurses := true, apart := false }
def SegBytesSaid : Prop := segBytesRow.holds Try.pinned (OpenSpec.ofChange segBytesSpec)

/-- ITS FALSE NEIGHBOUR: 'it returns false'. Refute it at one input. -/
def segBytesWrong : ChangeSpec := { name := "segBytes", fn := fun _ => fun
  | [d] => { results := [.lit (.bool false)], args := [d] }
  | _ => none }
def SegBytesWrongFalsely : Prop := segBytesRow.holds Try.pinned (OpenSpec.ofChange segBytesWrong)

/-- 'postillionlaw4.SegTwice': WHATEVER THE INPUT: true; the input reads as it did. -/
def segTwiceSpec : ChangeSpec := { name := "segTwice", fn := fun _ => fun
  | [d1, d2, d3] => { results := [.lit (.bool true)], args := [d1, d2, d3] }
  | _ => none }
def segTwiceRow : OpenClaim := { program := "ytcjlgdldhcbcjaa", sum := "0e6a62825c45b5a6e34d67267602f159a05559c6a4af7fffde2a6f15fb3702b2", func := "postillion/postillionlaw4.SegTwice", spec := "segTwice", unfollowed := true, recurses := true, apart := false }
def SegTwiceSaid : Prop := segTwiceRow.holds Try.pinned (OpenSpec.ofChange segTwiceSpec)

/-- ITS FALSE NEIGHBOUR: 'it returns false'. Refute it at one input. -/
def segTwiceWrong : ChangeSpec := { name := "segTwice", fn := fun _ => fun
  | [d1, d2, d3] => { results := [.lit (.bool false)], args := [d1, d2, d3] }
  | _ => none }
def SegTwiceWrongFalsely : Prop := segTwiceRow.holds Try.pinned (OpenSpec.ofChange segTwiceWrong)

/-- 'postillionlaw4.SegMiddle': WHATEVER THE INPUT: true; the input reads as it did. -/
def segMiddleSpec : ChangeSpec := { name := "segMiddle", fn := fun _ => fun
  | [d1, d2, d3, d4] => { results := [.lit (.bool true)], args := [d1, d2, d3, d4] }
  | _ => none }
def segMiddleRow : OpenClaim := { program := "ytcjlgdldhcbcjaa", sum := "0e6a62825c45b5a6e34d67267602f159a05559c6a4af7fffde2a6f15fb3702b2", func := "postillion/postillionlaw4.SegMiddle", spec := "segMiddle", unfollowed := true, recurses := true, apart := false }
def SegMiddleSaid : Prop := segMiddleRow.holds Try.pinned (OpenSpec.ofChange segMiddleSpec)

/-- ITS FALSE NEIGHBOUR: 'it returns false'. Refute it at one input. -/
def segMiddleWrong : ChangeSpec := { name := "segMiddle", fn := fun _ => fun
  | [d1, d2, d3, d4] => { results := [.lit (.bool false)], args := [d1, d2, d3, d4] }
  | _ => none }
def SegMiddleWrongFalsely : Prop := segMiddleRow.holds Try.pinned (OpenSpec.ofChange segMiddleWrong)

/-- 'postillionlaw4.SegRoom': WHATEVER THE INPUT: true; the input reads as it did. -/
def segRoomSpec : ChangeSpec := { name := "segRoom", fn := fun _ => fun
  | [d1, d2] => { results := [.lit (.bool true)], args := [d1, d2] }
  | _ => none }
def segRoomRow : OpenClaim := { program := "ytcjlgdldhcbcjaa", sum := "0e6a62825c45b5a6e34d67267602f159a05559c6a4af7fffde2a6f15fb3702b2", func := "postillion/postillionlaw4.SegRoom", spec := "segRoom", unfollowed := true, recurses := true, apart := false }
def SegRoomSaid : Prop := segRoomRow.holds Try.pinned (OpenSpec.ofChange segRoomSpec)

/-- ITS FALSE NEIGHBOUR: 'it returns false'. Refute it at one input. -/
def segRoomWrong : ChangeSpec := { name := "segRoom", fn := fun _ => fun
  | [d1, d2] => { results := [.lit (.bool false)], args := [d1, d2] }
  | _ => none }
def SegRoomWrongFalsely : Prop := segRoomRow.holds Try.pinned (OpenSpec.ofChange segRoomWrong)

/-- 'postillionlaw4.SegOwn': WHATEVER THE INPUT: true; the input reads as it did. -/
def segOwnSpec : ChangeSpec := { name := "segOwn", fn := fun _ => fun
  | [d] => { results := [.lit (.bool true)], args := [d] }
  | _ => none }
def segOwnRow : OpenClaim := { program := "ytcjlgdldhcbcjaa", sum := "0e6a62825c45b5a6e34d67267602f159a05559c6a4af7fffde2a6f15fb3702b2", func := "postillion/postillionlaw4.SegOwn", spec := "segOwn", unfollowed := true, recurses := true, apart := false }
def SegOwnSaid : Prop := segOwnRow.holds Try.pinned (OpenSpec.ofChange segOwnSpec)

/-- ITS FALSE NEIGHBOUR: 'it returns false'. Refute it at one input. -/
def segOwnWrong : ChangeSpec := { name := "segOwn", fn := fun _ => fun
  | [d] => { results := [.lit (.bool false)], args := [d] }
  | _ => none }
def SegOwnWrongFalsely : Prop := segOwnRow.holds Try.pinned (OpenSpec.ofChange segOwnWrong)

/-- 'postillionlaw4.SegFrom': WHATEVER THE INPUT: true; the input reads as it did. -/
def segFromSpec : ChangeSpec := { name := "segFrom", fn := fun _ => fun
  | [d1, d2] => { results := [.lit (.bool true)], args := [d1, d2] }
  | _ => none }
def segFromRow : OpenClaim := { program := "ytcjlgdldhcbcjaa", sum := "0e6a62825c45b5a6e34d67267602f159a05559c6a4af7fffde2a6f15fb3702b2", func := "postillion/postillionlaw4.SegFrom", spec := "segFrom", unfollowed := true, recurses := true, apart := false }
def SegFromSaid : Prop := segFromRow.holds Try.pinned (OpenSpec.ofChange segFromSpec)

/-- ITS FALSE NEIGHBOUR: 'it returns false'. Refute it at one input. -/
def segFromWrong : ChangeSpec := { name := "segFrom", fn := fun _ => fun
  | [d1, d2] => { results := [.lit (.bool false)], args := [d1, d2] }
  | _ => none }
def SegFromWrongFalsely : Prop := segFromRow.holds Try.pinned (OpenSpec.ofChange segFromWrong)

/-- 'postillionlaw4.SegNone': WHATEVER THE INPUT: true; the input reads as it did. -/
def segNoneSpec : ChangeSpec := { name := "segNone", fn := fun _ => fun
  | [] => { results := [.lit (.bool true)], args := [] }
  | _ => none }
def segNoneRow : OpenClaim := { program := "ytcjlgdldhcbcjaa", sum := "0e6a62825c45b5a6e34d67267602f159a05559c6a4af7fffde2a6f15fb3702b2", func := "postillion/postillionlaw4.SegNone", spec := "segNone", unfollowed := true, recurses := true, apart := false }
def SegNoneSaid : Prop := segNoneRow.holds Try.pinned (OpenSpec.ofChange segNoneSpec)

/-- ITS FALSE NEIGHBOUR: 'it returns false'. Refute it at one input. -/
def segNoneWrong : ChangeSpec := { name := "segNone", fn := fun _ => fun
  | [] => { results := [.lit (.bool false)], args := [] }
  | _ => none }
def SegNoneWrongFalsely : Prop := segNoneRow.holds Try.pinned (OpenSpec.ofChange segNoneWrong)

/- THE SECOND FORM. 'bulk': how many values and letters a reading holds, each counted each time it is reached (what is shared counts as often as it is met; a slice's spare places count too). A statement '..UptoSaid' is the law's where the arguments, and the package variables that the reading takes, are together of bulk at most 1048576: NARROWER than '..Said'. Prove '..Said' where nothing that the law and all that it calls make is longer than what came in: it says more and counts as full. Else prove '..UptoSaid'. A law counts once. -/
mutual
def uptoBulk {H : Type} : DataW H → Nat
  | .lit (.string bytes) => bytes.length + 1
  | .lit _ => 1
  | .nil => 1
  | .ptr d => uptoBulk d + 1
  | .slice elems spare => uptoBulkAll elems + uptoBulkAll spare + 1
  | .agg parts => uptoBulkAll parts + 1
  | .iface _ d => uptoBulk d + 1
  | .map entries => uptoBulkEntries entries + 1
  | .held _ => 1
def uptoBulkAll {H : Type} : List (DataW H) → Nat
  | [] => 0
  | d :: r => uptoBulk d + uptoBulkAll r
def uptoBulkEntries {H : Type} : List (Lit × DataW H) → Nat
  | [] => 0
  | x :: r => uptoBulkEntry x + uptoBulkEntries r
def uptoBulkEntry {H : Type} : Lit × DataW H → Nat
  | (.string bytes, d) => bytes.length + uptoBulk d + 1
  | (_, d) => uptoBulk d + 1
 end
def uptoSmall : (H : Type) → List (DataW H) → Bool := fun _ ds => decide (uptoBulkAll ds ≤ 1048576)
def OpenSpec.upto (s : _root_.Go.ChangeSpec) : _root_.Go.OpenSpec := { _root_.Go.OpenSpec.ofChange s with cond := some uptoSmall }

/-- 'postillionlaw4.SegFrame', WHERE WHAT IT READS IS OF BULK AT MOST 1048576: true; the input reads as it did. -/
def segFrameUptoRow : OpenClaim := { program := "ytcjlgdldhcbcjaa", sum := "0e6a62825c45b5a6e34d67267602f159a05559c6a4af7fffde2a6f15fb3702b2", func := "postillion/postillionlaw4.SegFrame", spec := "segFrame", unfollowed := true, recurses := true, apart := false, narrowed := true }
def SegFrameUptoSaid : Prop := segFrameUptoRow.holds Try.pinned (OpenSpec.upto segFrameSpec)

/-- 'postillionlaw4.SegLong', WHERE WHAT IT READS IS OF BULK AT MOST 1048576: true; the input reads as it did. -/
def segLongUptoRow : OpenClaim := { program := "ytcjlgdldhcbcjaa", sum := "0e6a62825c45b5a6e34d67267602f159a05559c6a4af7fffde2a6f15fb3702b2", func := "postillion/postillionlaw4.SegLong", spec := "segLong", unfollowed := true, recurses := true, apart := false, narrowed := true }
def SegLongUptoSaid : Prop := segLongUptoRow.holds Try.pinned (OpenSpec.upto segLongSpec)

/-- 'postillionlaw4.SegNames', WHERE WHAT IT READS IS OF BULK AT MOST 1048576: true; the input reads as it did. -/
def segNamesUptoRow : OpenClaim := { program := "ytcjlgdldhcbcjaa", sum := "0e6a62825c45b5a6e34d67267602f159a05559c6a4af7fffde2a6f15fb3702b2", func := "postillion/postillionlaw4.SegNames", spec := "segNames", unfollowed := true, recurses := true, apart := false, narrowed := true }
def SegNamesUptoSaid : Prop := segNamesUptoRow.holds Try.pinned (OpenSpec.upto segNamesSpec)

/-- 'postillionlaw4.SegRolls', WHERE WHAT IT READS IS OF BULK AT MOST 1048576: true; the input reads as it did. -/
def segRollsUptoRow : OpenClaim := { program := "ytcjlgdldhcbcjaa", sum := "0e6a62825c45b5a6e34d67267602f159a05559c6a4af7fffde2a6f15fb3702b2", func := "postillion/postillionlaw4.SegRolls", spec := "segRolls", unfollowed := true, recurses := true, apart := false, narrowed := true }
def SegRollsUptoSaid : Prop := segRollsUptoRow.holds Try.pinned (OpenSpec.upto segRollsSpec)

/-- 'postillionlaw4.SegSpoilt', WHERE WHAT IT READS IS OF BULK AT MOST 1048576: true; the input reads as it did. -/
def segSpoiltUptoRow : OpenClaim := { program := "ytcjlgdldhcbcjaa", sum := "0e6a62825c45b5a6e34d67267602f159a05559c6a4af7fffde2a6f15fb3702b2", func := "postillion/postillionlaw4.SegSpoilt", spec := "segSpoilt", unfollowed := true, recurses := true, apart := false, narrowed := true }
def SegSpoiltUptoSaid : Prop := segSpoiltUptoRow.holds Try.pinned (OpenSpec.upto segSpoiltSpec)

/-- 'postillionlaw4.SegTorn', WHERE WHAT IT READS IS OF BULK AT MOST 1048576: true; the input reads as it did. -/
def segTornUptoRow : OpenClaim := { program := "ytcjlgdldhcbcjaa", sum := "0e6a62825c45b5a6e34d67267602f159a05559c6a4af7fffde2a6f15fb3702b2", func := "postillion/postillionlaw4.SegTorn", spec := "segTorn", unfollowed := true, recurses := true, apart := false, narrowed := true }
def SegTornUptoSaid : Prop := segTornUptoRow.holds Try.pinned (OpenSpec.upto segTornSpec)

/-- 'postillionlaw4.SegBytes', WHERE WHAT IT READS IS OF BULK AT MOST 1048576: true; the input reads as it did. -/
def segBytesUptoRow : OpenClaim := { program := "ytcjlgdldhcbcjaa", sum := "0e6a62825c45b5a6e34d67267602f159a05559c6a4af7fffde2a6f15fb3702b2", func := "postillion/postillionlaw4.SegBytes", spec := "segBytes", unfollowed := true, recurses := true, apart := false, narrowed := true }
def SegBytesUptoSaid : Prop := segBytesUptoRow.holds Try.pinned (OpenSpec.upto segBytesSpec)

/-- 'postillionlaw4.SegTwice', WHERE WHAT IT READS IS OF BULK AT MOST 1048576: true; the input reads as it did. -/
def segTwiceUptoRow : OpenClaim := { program := "ytcjlgdldhcbcjaa", sum := "0e6a62825c45b5a6e34d67267602f159a05559c6a4af7fffde2a6f15fb3702b2", func := "postillion/postillionlaw4.SegTwice", spec := "segTwice", unfollowed := true, recurses := true, apart := false, narrowed := true }
def SegTwiceUptoSaid : Prop := segTwiceUptoRow.holds Try.pinned (OpenSpec.upto segTwiceSpec)

/-- 'postillionlaw4.SegMiddle', WHERE WHAT IT READS IS OF BULK AT MOST 1048576: true; the input reads as it did. -/
def segMiddleUptoRow : OpenClaim := { program := "ytcjlgdldhcbcjaa", sum := "0e6a62825c45b5a6e34d67267602f159a05559c6a4af7fffde2a6f15fb3702b2", func := "postillion/postillionlaw4.SegMiddle", spec := "segMiddle", unfollowed := true, recurses := true, apart := false, narrowed := true }
def SegMiddleUptoSaid : Prop := segMiddleUptoRow.holds Try.pinned (OpenSpec.upto segMiddleSpec)

/-- 'postillionlaw4.SegRoom', WHERE WHAT IT READS IS OF BULK AT MOST 1048576: true; the input reads as it did. -/
def segRoomUptoRow : OpenClaim := { program := "ytcjlgdldhcbcjaa", sum := "0e6a62825c45b5a6e34d67267602f159a05559c6a4af7fffde2a6f15fb3702b2", func := "postillion/postillionlaw4.SegRoom", spec := "segRoom", unfollowed := true, recurses := true, apart := false, narrowed := true }
def SegRoomUptoSaid : Prop := segRoomUptoRow.holds Try.pinned (OpenSpec.upto segRoomSpec)

/-- 'postillionlaw4.SegOwn', WHERE WHAT IT READS IS OF BULK AT MOST 1048576: true; the input reads as it did. -/
def segOwnUptoRow : OpenClaim := { program := "ytcjlgdldhcbcjaa", sum := "0e6a62825c45b5a6e34d67267602f159a05559c6a4af7fffde2a6f15fb3702b2", func := "postillion/postillionlaw4.SegOwn", spec := "segOwn", unfollowed := true, recurses := true, apart := false, narrowed := true }
def SegOwnUptoSaid : Prop := segOwnUptoRow.holds Try.pinned (OpenSpec.upto segOwnSpec)

/-- 'postillionlaw4.SegFrom', WHERE WHAT IT READS IS OF BULK AT MOST 1048576: true; the input reads as it did. -/
def segFromUptoRow : OpenClaim := { program := "ytcjlgdldhcbcjaa", sum := "0e6a62825c45b5a6e34d67267602f159a05559c6a4af7fffde2a6f15fb3702b2", func := "postillion/postillionlaw4.SegFrom", spec := "segFrom", unfollowed := true, recurses := true, apart := false, narrowed := true }
def SegFromUptoSaid : Prop := segFromUptoRow.holds Try.pinned (OpenSpec.upto segFromSpec)

/-- 'postillionlaw4.SegNone', WHERE WHAT IT READS IS OF BULK AT MOST 1048576: true; the input reads as it did. -/
def segNoneUptoRow : OpenClaim := { program := "ytcjlgdldhcbcjaa", sum := "0e6a62825c45b5a6e34d67267602f159a05559c6a4af7fffde2a6f15fb3702b2", func := "postillion/postillionlaw4.SegNone", spec := "segNone", unfollowed := true, recurses := true, apart := false, narrowed := true }
def SegNoneUptoSaid : Prop := segNoneUptoRow.holds Try.pinned (OpenSpec.upto segNoneSpec)

end Rows
end Go.Proofs.Ytcjlgdldhcbcjaa
