/-
  No cell of these rows narrows 'for every input' (looked for: loops, veiled, ifaces, maps, wideKeys, modest, calm, conditions, laid).
  DERIVED. THE GIVEN ROWS OF THIS SEAT. 11 by the template 'for every input the law returns true; each argument reads behind the call as it read before'; 0 by the template 'total and deterministic' (their statements: YtbhemlddncmmfaaTotals.lean).
  GIVEN WITH THE SEED: the statements are not yours to turn. If you find one false, say at which input.
  Laid BY PROGRAM, IN A SANDBOX (cutbox-rows.mjs): the forced cells as the released guide's own fill.sh prints them over the translation 321b1bea609a890d… (all of the seat's roots in one cut). By AI agents, Wed Nov 11 2026. No macro, syntax, notation, axiom, sorry.
-/
import Derived.Test.YtbhemlddncmmfaaChecked
import GoSem.Claim
import GoSem.ClaimJoined
import GoSem.ClaimMapViews
import Derived.JoinedTies
import Derived.KernelRfl
namespace Go.Proofs.Ytbhemlddncmmfaa
/- THE CELL 'sum', in the pinned program and in every row, IS THE sha256 OF THE DUMP (.gsa) THAT YtbhemlddncmmfaaProg.lean LOADS. Nothing in Lean hashes anything: it is a label: what it is worth is what the hold of that sum in a sandbox is worth. -/
noncomputable def Try.pinned : Pinned := { name := "ytbhemlddncmmfaa", sum := "321b1bea609a890df41d271139c50a8f3cd63955a104639a9b7dd9fa3427666e", checked := Try.checked }
namespace Rows
def none {H : Type} : Left H := { results := [], args := [] }

/-- 'postillionlaw3.FileAll': WHATEVER THE INPUT: true; the input reads as it did. -/
def fileAllSpec : ChangeSpec := { name := "fileAll", fn := fun _ => fun
  | [d1, d2] => { results := [.lit (.bool true)], args := [d1, d2] }
  | _ => none }
def fileAllRow : OpenClaim := { program := "ytbhemlddncmmfaa", sum := "321b1bea609a890df41d271139c50a8f3cd63955a104639a9b7dd9fa3427666e", func := "postillion/postillionlaw3.FileAll", spec := "fileAll", unfollowed := true, recurses := true, apart := false }
def FileAllSaid : Prop := fileAllRow.holds Try.pinned (OpenSpec.ofChange fileAllSpec)

/-- ITS FALSE NEIGHBOUR: 'it returns false'. Refute it at one input. -/
def fileAllWrong : ChangeSpec := { name := "fileAll", fn := fun _ => fun
  | [d1, d2] => { results := [.lit (.bool false)], args := [d1, d2] }
  | _ => none }
def FileAllWrongFalsely : Prop := fileAllRow.holds Try.pinned (OpenSpec.ofChange fileAllWrong)

/-- 'postillionlaw3.FileFall': WHATEVER THE INPUT: true; the input reads as it did. -/
def fileFallSpec : ChangeSpec := { name := "fileFall", fn := fun _ => fun
  | [d1, d2, d3] => { results := [.lit (.bool true)], args := [d1, d2, d3] }
  | _ => none }
def fileFallRow : OpenClaim := { program := "ytbhemlddncmmfaa", sum := "321b1bea609a890df41d271139c50a8f3cd63955a104639a9b7dd9fa3427666e", func := "postillion/postillionlaw3.FileFall", spec := "fileFall", unfollowed := true, recurses := true, apart := false }
def FileFallSaid : Prop := fileFallRow.holds Try.pinned (OpenSpec.ofChange fileFallSpec)

/-- ITS FALSE NEIGHBOUR: 'it returns false'. Refute it at one input. -/
def fileFallWrong : ChangeSpec := { name := "fileFall", fn := fun _ => fun
  | [d1, d2, d3] => { results := [.lit (.bool false)], args := [d1, d2, d3] }
  | _ => none }
def FileFallWrongFalsely : Prop := fileFallRow.holds Try.pinned (OpenSpec.ofChange fileFallWrong)

/-- 'postillionlaw3.FileRoom': WHATEVER THE INPUT: true; the input reads as it did. -/
def fileRoomSpec : ChangeSpec := { name := "fileRoom", fn := fun _ => fun
  | [d1, d2] => { results := [.lit (.bool true)], args := [d1, d2] }
  | _ => none }
def fileRoomRow : OpenClaim := { program := "ytbhemlddncmmfaa", sum := "321b1bea609a890df41d271139c50a8f3cd63955a104639a9b7dd9fa3427666e", func := "postillion/postillionlaw3.FileRoom", spec := "fileRoom", unfollowed := true, recurses := true, apart := false }
def FileRoomSaid : Prop := fileRoomRow.holds Try.pinned (OpenSpec.ofChange fileRoomSpec)

/-- ITS FALSE NEIGHBOUR: 'it returns false'. Refute it at one input. -/
def fileRoomWrong : ChangeSpec := { name := "fileRoom", fn := fun _ => fun
  | [d1, d2] => { results := [.lit (.bool false)], args := [d1, d2] }
  | _ => none }
def FileRoomWrongFalsely : Prop := fileRoomRow.holds Try.pinned (OpenSpec.ofChange fileRoomWrong)

/-- 'postillionlaw3.FileNames': WHATEVER THE INPUT: true; the input reads as it did. -/
def fileNamesSpec : ChangeSpec := { name := "fileNames", fn := fun _ => fun
  | [d1, d2] => { results := [.lit (.bool true)], args := [d1, d2] }
  | _ => none }
def fileNamesRow : OpenClaim := { program := "ytbhemlddncmmfaa", sum := "321b1bea609a890df41d271139c50a8f3cd63955a104639a9b7dd9fa3427666e", func := "postillion/postillionlaw3.FileNames", spec := "fileNames", unfollowed := true, recurses := true, apart := false }
def FileNamesSaid : Prop := fileNamesRow.holds Try.pinned (OpenSpec.ofChange fileNamesSpec)

/-- ITS FALSE NEIGHBOUR: 'it returns false'. Refute it at one input. -/
def fileNamesWrong : ChangeSpec := { name := "fileNames", fn := fun _ => fun
  | [d1, d2] => { results := [.lit (.bool false)], args := [d1, d2] }
  | _ => none }
def FileNamesWrongFalsely : Prop := fileNamesRow.holds Try.pinned (OpenSpec.ofChange fileNamesWrong)

/-- 'postillionlaw3.FileOwn': WHATEVER THE INPUT: true; the input reads as it did. -/
def fileOwnSpec : ChangeSpec := { name := "fileOwn", fn := fun _ => fun
  | [d] => { results := [.lit (.bool true)], args := [d] }
  | _ => none }
def fileOwnRow : OpenClaim := { program := "ytbhemlddncmmfaa", sum := "321b1bea609a890df41d271139c50a8f3cd63955a104639a9b7dd9fa3427666e", func := "postillion/postillionlaw3.FileOwn", spec := "fileOwn", unfollowed := true, recurses := true, apart := false }
def FileOwnSaid : Prop := fileOwnRow.holds Try.pinned (OpenSpec.ofChange fileOwnSpec)

/-- ITS FALSE NEIGHBOUR: 'it returns false'. Refute it at one input. -/
def fileOwnWrong : ChangeSpec := { name := "fileOwn", fn := fun _ => fun
  | [d] => { results := [.lit (.bool false)], args := [d] }
  | _ => none }
def FileOwnWrongFalsely : Prop := fileOwnRow.holds Try.pinned (OpenSpec.ofChange fileOwnWrong)

/-- 'postillionlaw3.FileNone': WHATEVER THE INPUT: true; the input reads as it did. -/
def fileNoneSpec : ChangeSpec := { name := "fileNone", fn := fun _ => fun
  | [] => { results := [.lit (.bool true)], args := [] }
  | _ => none }
def fileNoneRow : OpenClaim := { program := "ytbhemlddncmmfaa", sum := "321b1bea609a890df41d271139c50a8f3cd63955a104639a9b7dd9fa3427666e", func := "postillion/postillionlaw3.FileNone", spec := "fileNone", unfollowed := true, recurses := true, apart := false }
def FileNoneSaid : Prop := fileNoneRow.holds Try.pinned (OpenSpec.ofChange fileNoneSpec)

/-- ITS FALSE NEIGHBOUR: 'it returns false'. Refute it at one input. -/
def fileNoneWrong : ChangeSpec := { name := "fileNone", fn := fun _ => fun
  | [] => { results := [.lit (.bool false)], args := [] }
  | _ => none }
def FileNoneWrongFalsely : Prop := fileNoneRow.holds Try.pinned (OpenSpec.ofChange fileNoneWrong)

/-- 'postillionlaw3.FileSync': WHATEVER THE INPUT: true; the input reads as it did. -/
def fileSyncSpec : ChangeSpec := { name := "fileSync", fn := fun _ => fun
  | [d1, d2, d3] => { results := [.lit (.bool true)], args := [d1, d2, d3] }
  | _ => none }
def fileSyncRow : OpenClaim := { program := "ytbhemlddncmmfaa", sum := "321b1bea609a890df41d271139c50a8f3cd63955a104639a9b7dd9fa3427666e", func := "postillion/postillionlaw3.FileSync", spec := "fileSync", unfollowed := true, recurses := true, apart := false }
def FileSyncSaid : Prop := fileSyncRow.holds Try.pinned (OpenSpec.ofChange fileSyncSpec)

/-- ITS FALSE NEIGHBOUR: 'it returns false'. Refute it at one input. -/
def fileSyncWrong : ChangeSpec := { name := "fileSync", fn := fun _ => fun
  | [d1, d2, d3] => { results := [.lit (.bool false)], args := [d1, d2, d3] }
  | _ => none }
def FileSyncWrongFalsely : Prop := fileSyncRow.holds Try.pinned (OpenSpec.ofChange fileSyncWrong)

/-- 'postillionlaw3.FileRename': WHATEVER THE INPUT: true; the input reads as it did. -/
def fileRenameSpec : ChangeSpec := { name := "fileRename", fn := fun _ => fun
  | [d1, d2, d3, d4] => { results := [.lit (.bool true)], args := [d1, d2, d3, d4] }
  | _ => none }
def fileRenameRow : OpenClaim := { program := "ytbhemlddncmmfaa", sum := "321b1bea609a890df41d271139c50a8f3cd63955a104639a9b7dd9fa3427666e", func := "postillion/postillionlaw3.FileRename", spec := "fileRename", unfollowed := true, recurses := true, apart := false }
def FileRenameSaid : Prop := fileRenameRow.holds Try.pinned (OpenSpec.ofChange fileRenameSpec)

/-- ITS FALSE NEIGHBOUR: 'it returns false'. Refute it at one input. -/
def fileRenameWrong : ChangeSpec := { name := "fileRename", fn := fun _ => fun
  | [d1, d2, d3, d4] => { results := [.lit (.bool false)], args := [d1, d2, d3, d4] }
  | _ => none }
def FileRenameWrongFalsely : Prop := fileRenameRow.holds Try.pinned (OpenSpec.ofChange fileRenameWrong)

/-- 'postillionlaw3.FileDelete': WHATEVER THE INPUT: true; the input reads as it did. -/
def fileDeleteSpec : ChangeSpec := { name := "fileDelete", fn := fun _ => fun
  | [d1, d2, d3] => { results := [.lit (.bool true)], args := [d1, d2, d3] }
  | _ => none }
def fileDeleteRow : OpenClaim := { program := "ytbhemlddncmmfaa", sum := "321b1bea609a890df41d271139c50a8f3cd63955a104639a9b7dd9fa3427666e", func := "postillion/postillionlaw3.FileDelete", spec := "fileDelete", unfollowed := true, recurses := true, apart := false }
def FileDeleteSaid : Prop := fileDeleteRow.holds Try.pinned (OpenSpec.ofChange fileDeleteSpec)

/-- ITS FALSE NEIGHBOUR: 'it returns false'. Refute it at one input. -/
def fileDeleteWrong : ChangeSpec := { name := "fileDelete", fn := fun _ => fun
  | [d1, d2, d3] => { results := [.lit (.bool false)], args := [d1, d2, d3] }
  | _ => none }
def FileDeleteWrongFalsely : Prop := fileDeleteRow.holds Try.pinned (OpenSpec.ofChange fileDeleteWrong)

/-- 'postillionlaw3.FileEmpty': WHATEVER THE INPUT: true; the input reads as it did. -/
def fileEmptySpec : ChangeSpec := { name := "fileEmpty", fn := fun _ => fun
  | [d1, d2] => { results := [.lit (.bool true)], args := [d1, d2] }
  | _ => none }
def fileEmptyRow : OpenClaim := { program := "ytbhemlddncmmfaa", sum := "321b1bea609a890df41d271139c50a8f3cd63955a104639a9b7dd9fa3427666e", func := "postillion/postillionlaw3.FileEmpty", spec := "fileEmpty", unfollowed := true, recurses := true, apart := false }
def FileEmptySaid : Prop := fileEmptyRow.holds Try.pinned (OpenSpec.ofChange fileEmptySpec)

/-- ITS FALSE NEIGHBOUR: 'it returns false'. Refute it at one input. -/
def fileEmptyWrong : ChangeSpec := { name := "fileEmpty", fn := fun _ => fun
  | [d1, d2] => { results := [.lit (.bool false)], args := [d1, d2] }
  | _ => none }
def FileEmptyWrongFalsely : Prop := fileEmptyRow.holds Try.pinned (OpenSpec.ofChange fileEmptyWrong)

/-- 'postillionlaw3.FileMany': WHATEVER THE INPUT: true; the input reads as it did. -/
def fileManySpec : ChangeSpec := { name := "fileMany", fn := fun _ => fun
  | [d1, d2] => { results := [.lit (.bool true)], args := [d1, d2] }
  | _ => none }
def fileManyRow : OpenClaim := { program := "ytbhemlddncmmfaa", sum := "321b1bea609a890df41d271139c50a8f3cd63955a104639a9b7dd9fa3427666e", func := "postillion/postillionlaw3.FileMany", spec := "fileMany", unfollowed := true, recurses := true, apart := false }
def FileManySaid : Prop := fileManyRow.holds Try.pinned (OpenSpec.ofChange fileManySpec)

/-- ITS FALSE NEIGHBOUR: 'it returns false'. Refute it at one input. -/
def fileManyWrong : ChangeSpec := { name := "fileMany", fn := fun _ => fun
  | [d1, d2] => { results := [.lit (.bool false)], args := [d1, d2] }
  | _ => none }
def FileManyWrongFalsely : Prop := fileManyRow.holds Try.pinned (OpenSpec.ofChange fileManyWrong)

/- THE SECOND FORM. 'bulk': how many values and letters a reading holds, each counted each time it is reached (what is shared counts as often as it is met; a slice's spare places count too). A statement '..UptoSaid' is the law's where the arguments, and the package variables that the reading takes, are together of bulk at most 1048576: NARROWER than '..Said'. Prove '..Said' where nothing that the law and all that it calls make is longer than what came in: it says more and counts as full. Else prove '..UptoSaid'. A law counts once. -/
mutual
def uptoBulk {H : Type} : DataW H → Nat
  | .lit (.string bytes) => bytes.length + 1
  | .lit _ => 1
  | .nil => 1
  | .ptr d => uptoBulk d + 1
  | .slice elems spare => uptoBulkAll elems + uptoBulkAll spare + 1
  | .agg parts => uptoBulkAll parts + 1
  | .iface _ d => uptoBulk d + 1
  | .map entries => uptoBulkEntries entries + 1
  | .held _ => 1
def uptoBulkAll {H : Type} : List (DataW H) → Nat
  | [] => 0
  | d :: r => uptoBulk d + uptoBulkAll r
def uptoBulkEntries {H : Type} : List (Lit × DataW H) → Nat
  | [] => 0
  | x :: r => uptoBulkEntry x + uptoBulkEntries r
def uptoBulkEntry {H : Type} : Lit × DataW H → Nat
  | (.string bytes, d) => bytes.length + uptoBulk d + 1
  | (_, d) => uptoBulk d + 1
 end
def uptoSmall : (H : Type) → List (DataW H) → Bool := fun _ ds => decide (uptoBulkAll ds ≤ 1048576)
def OpenSpec.upto (s : _root_.Go.ChangeSpec) : _root_.Go.OpenSpec := { _root_.Go.OpenSpec.ofChange s with cond := some uptoSmall }

/-- 'postillionlaw3.FileAll', WHERE WHAT IT READS IS OF BULK AT MOST 1048576: true; the input reads as it did. -/
def fileAllUptoRow : OpenClaim := { program := "ytbhemlddncmmfaa", sum := "321b1bea609a890df41d271139c50a8f3cd63955a104639a9b7dd9fa3427666e", func := "postillion/postillionlaw3.FileAll", spec := "fileAll", unfollowed := true, recurses := true, apart := false, narrowed := true }
def FileAllUptoSaid : Prop := fileAllUptoRow.holds Try.pinned (OpenSpec.upto fileAllSpec)

/-- 'postillionlaw3.FileFall', WHERE WHAT IT READS IS OF BULK AT MOST 1048576: true; the input reads as it did. -/
def fileFallUptoRow : OpenClaim := { program := "ytbhemlddncmmfaa", sum := "321b1bea609a890df41d271139c50a8f3cd63955a104639a9b7dd9fa3427666e", func := "postillion/postillionlaw3.FileFall", spec := "fileFall", unfollowed := true, recurses := true, apart := false, narrowed := true }
def FileFallUptoSaid : Prop := fileFallUptoRow.holds Try.pinned (OpenSpec.upto fileFallSpec)

/-- 'postillionlaw3.FileRoom', WHERE WHAT IT READS IS OF BULK AT MOST 1048576: true; the input reads as it did. -/
def fileRoomUptoRow : OpenClaim := { program := "ytbhemlddncmmfaa", sum := "321b1bea609a890df41d271139c50a8f3cd63955a104639a9b7dd9fa3427666e", func := "postillion/postillionlaw3.FileRoom", spec := "fileRoom", unfollowed := true, recurses := true, apart := false, narrowed := true }
def FileRoomUptoSaid : Prop := fileRoomUptoRow.holds Try.pinned (OpenSpec.upto fileRoomSpec)

/-- 'postillionlaw3.FileNames', WHERE WHAT IT READS IS OF BULK AT MOST 1048576: true; the input reads as it did. -/
def fileNamesUptoRow : OpenClaim := { program := "ytbhemlddncmmfaa", sum := "321b1bea609a890df41d271139c50a8f3cd63955a104639a9b7dd9fa3427666e", func := "postillion/postillionlaw3.FileNames", spec := "fileNames", unfollowed := true, recurses := true, apart := false, narrowed := true }
def FileNamesUptoSaid : Prop := fileNamesUptoRow.holds Try.pinned (OpenSpec.upto fileNamesSpec)

/-- 'postillionlaw3.FileOwn', WHERE WHAT IT READS IS OF BULK AT MOST 1048576: true; the input reads as it did. -/
def fileOwnUptoRow : OpenClaim := { program := "ytbhemlddncmmfaa", sum := "321b1bea609a890df41d271139c50a8f3cd63955a104639a9b7dd9fa3427666e", func := "postillion/postillionlaw3.FileOwn", spec := "fileOwn", unfollowed := true, recurses := true, apart := false, narrowed := true }
def FileOwnUptoSaid : Prop := fileOwnUptoRow.holds Try.pinned (OpenSpec.upto fileOwnSpec)

/-- 'postillionlaw3.FileNone', WHERE WHAT IT READS IS OF BULK AT MOST 1048576: true; the input reads as it did. -/
def fileNoneUptoRow : OpenClaim := { program := "ytbhemlddncmmfaa", sum := "321b1bea609a890df41d271139c50a8f3cd63955a104639a9b7dd9fa3427666e", func := "postillion/postillionlaw3.FileNone", spec := "fileNone", unfollowed := true, recurses := true, apart := false, narrowed := true }
def FileNoneUptoSaid : Prop := fileNoneUptoRow.holds Try.pinned (OpenSpec.upto fileNoneSpec)

/-- 'postillionlaw3.FileSync', WHERE WHAT IT READS IS OF BULK AT MOST 1048576: true; the input reads as it did. -/
def fileSyncUptoRow : OpenClaim := { program := "ytbhemlddncmmfaa", sum := "321b1bea609a890df41d271139c50a8f3cd63955a104639a9b7dd9fa3427666e", func := "postillion/postillionlaw3.FileSync", spec := "fileSync", unfollowed := true, recurses := true, apart := false, narrowed := true }
def FileSyncUptoSaid : Prop := fileSyncUptoRow.holds Try.pinned (OpenSpec.upto fileSyncSpec)

/-- 'postillionlaw3.FileRename', WHERE WHAT IT READS IS OF BULK AT MOST 1048576: true; the input reads as it did. -/
def fileRenameUptoRow : OpenClaim := { program := "ytbhemlddncmmfaa", sum := "321b1bea609a890df41d271139c50a8f3cd63955a104639a9b7dd9fa3427666e", func := "postillion/postillionlaw3.FileRename", spec := "fileRename", unfollowed := true, recurses := true, apart := false, narrowed := true }
def FileRenameUptoSaid : Prop := fileRenameUptoRow.holds Try.pinned (OpenSpec.upto fileRenameSpec)

/-- 'postillionlaw3.FileDelete', WHERE WHAT IT READS IS OF BULK AT MOST 1048576: true; the input reads as it did. -/
def fileDeleteUptoRow : OpenClaim := { program := "ytbhemlddncmmfaa", sum := "321b1bea609a890df41d271139c50a8f3cd63955a104639a9b7dd9fa3427666e", func := "postillion/postillionlaw3.FileDelete", spec := "fileDelete", unfollowed := true, recurses := true, apart := false, narrowed := true }
def FileDeleteUptoSaid : Prop := fileDeleteUptoRow.holds Try.pinned (OpenSpec.upto fileDeleteSpec)

/-- 'postillionlaw3.FileEmpty', WHERE WHAT IT READS IS OF BULK AT MOST 1048576: true; the input reads as it did. -/
def fileEmptyUptoRow : OpenClaim := { program := "ytbhemlddncmmfaa", sum := "321b1bea609a890df41d271139c50a8f3cd63955a104639a9b7dd9fa3427666e", func := "postillion/postillionlaw3.FileEmpty", spec := "fileEmpty", unfollowed := true, recurses := true, apart := false, narrowed := true }
def FileEmptyUptoSaid : Prop := fileEmptyUptoRow.holds Try.pinned (OpenSpec.upto fileEmptySpec)

/-- 'postillionlaw3.FileMany', WHERE WHAT IT READS IS OF BULK AT MOST 1048576: true; the input reads as it did. -/
def fileManyUptoRow : OpenClaim := { program := "ytbhemlddncmmfaa", sum := "321b1bea609a890df41d271139c50a8f3cd63955a104639a9b7dd9fa3427666e", func := "postillion/postillionlaw3.FileMany", spec := "fileMany", unfollowed := true, recurses := true, apart := false, narrowed := true }
def FileManyUptoSaid : Prop := fileManyUptoRow.holds Try.pinned (OpenSpec.upto fileManySpec)

end Rows
end Go.Proofs.Ytbhemlddncmmfaa
