/-
  No cell of these rows narrows 'for every input' (looked for: loops, veiled, ifaces, maps, wideKeys, modest, calm, conditions, laid).
  DERIVED. THE GIVEN ROWS OF THIS SEAT. 13 by the template 'for every input the law returns true; each argument reads behind the call as it read before'; 0 by the template 'total and deterministic' (their statements: YtafndmnbnmlklaaGreatTotals.lean).
  GIVEN WITH THE SEED: the statements are not yours to turn. If you find one false, say at which input.
  Laid BY PROGRAM, IN A SANDBOX (cutbox-rows.mjs): the forced cells as the released guide's own fill.sh prints them over the translation 4a8181c9a63b6a28… (all of the seat's roots in one cut). By AI agents, Wed Nov 11 2026. No macro, syntax, notation, axiom, sorry.
-/
import Derived.Test.YtafndmnbnmlklaaGreatChecked
import GoSem.Claim
import GoSem.ClaimJoined
import GoSem.ClaimMapViews
import Derived.JoinedTies
import Derived.KernelRfl
namespace Go.Proofs.YtafndmnbnmlklaaGreat
/- THE CELL 'sum', in the pinned program and in every row, IS THE sha256 OF THE DUMP (.gsa) THAT YtafndmnbnmlklaaGreatProg.lean LOADS. Nothing in Lean hashes anything: it is a label: what it is worth is what the hold of that sum in a sandbox is worth. -/
noncomputable def Tryz.pinned : Pinned := { name := "ytafndmnbnmlklaagreat", sum := "4a8181c9a63b6a2814d2e19406b7c8019ada65b8e60a7d79c48bdcdb0dfe270d", checked := Tryz.checked }
namespace Rows
def none {H : Type} : Left H := { results := [], args := [] }

/-- 'postillionlaw10.StoreAll': WHATEVER THE INPUT: true; the input reads as it did. -/
def storeAllSpec : ChangeSpec := { name := "storeAll", fn := fun _ => fun
  | [d1, d2] => { results := [.lit (.bool true)], args := [d1, d2] }
  | _ => none }
def storeAllRow : OpenClaim := { program := "ytafndmnbnmlklaagreat", sum := "4a8181c9a63b6a2814d2e19406b7c8019ada65b8e60a7d79c48bdcdb0dfe270d", func := "postillion/postillionlaw10.StoreAll", spec := "storeAll", inPlace := ["slices.overlaps[postillion/api.End]", "slices.overlaps[postillion/api.Branch]", "slices.overlaps[postillion/api.Pend]"], unfollowed := true, recurses := true, apart := false }
def StoreAllSaid : Prop := storeAllRow.holds Tryz.pinned (OpenSpec.ofChange storeAllSpec)

/-- ITS FALSE NEIGHBOUR: 'it returns false'. Refute it at one input. -/
def storeAllWrong : ChangeSpec := { name := "storeAll", fn := fun _ => fun
  | [d1, d2] => { results := [.lit (.bool false)], args := [d1, d2] }
  | _ => none }
def StoreAllWrongFalsely : Prop := storeAllRow.holds Tryz.pinned (OpenSpec.ofChange storeAllWrong)

/-- 'postillionlaw10.StoreAny': WHATEVER THE INPUT: true; the input reads as it did. -/
def storeAnySpec : ChangeSpec := { name := "storeAny", fn := fun _ => fun
  | [d1, d2] => { results := [.lit (.bool true)], args := [d1, d2] }
  | _ => none }
def storeAnyRow : OpenClaim := { program := "ytafndmnbnmlklaagreat", sum := "4a8181c9a63b6a2814d2e19406b7c8019ada65b8e60a7d79c48bdcdb0dfe270d", func := "postillion/postillionlaw10.StoreAny", spec := "storeAny", inPlace := ["slices.overlaps[postillion/api.End]", "slices.overlaps[postillion/api.Branch]", "slices.overlaps[postillion/api.Pend]"], unfollowed := true, recurses := true, apart := false }
def StoreAnySaid : Prop := storeAnyRow.holds Tryz.pinned (OpenSpec.ofChange storeAnySpec)

/-- ITS FALSE NEIGHBOUR: 'it returns false'. Refute it at one input. -/
def storeAnyWrong : ChangeSpec := { name := "storeAny", fn := fun _ => fun
  | [d1, d2] => { results := [.lit (.bool false)], args := [d1, d2] }
  | _ => none }
def StoreAnyWrongFalsely : Prop := storeAnyRow.holds Tryz.pinned (OpenSpec.ofChange storeAnyWrong)

/-- 'postillionlaw10.StoreNumbers': WHATEVER THE INPUT: true; the input reads as it did. -/
def storeNumbersSpec : ChangeSpec := { name := "storeNumbers", fn := fun _ => fun
  | [d1, d2, d3] => { results := [.lit (.bool true)], args := [d1, d2, d3] }
  | _ => none }
def storeNumbersRow : OpenClaim := { program := "ytafndmnbnmlklaagreat", sum := "4a8181c9a63b6a2814d2e19406b7c8019ada65b8e60a7d79c48bdcdb0dfe270d", func := "postillion/postillionlaw10.StoreNumbers", spec := "storeNumbers", inPlace := ["slices.overlaps[postillion/api.End]", "slices.overlaps[postillion/api.Branch]", "slices.overlaps[postillion/api.Pend]"], unfollowed := true, recurses := true, apart := false }
def StoreNumbersSaid : Prop := storeNumbersRow.holds Tryz.pinned (OpenSpec.ofChange storeNumbersSpec)

/-- ITS FALSE NEIGHBOUR: 'it returns false'. Refute it at one input. -/
def storeNumbersWrong : ChangeSpec := { name := "storeNumbers", fn := fun _ => fun
  | [d1, d2, d3] => { results := [.lit (.bool false)], args := [d1, d2, d3] }
  | _ => none }
def StoreNumbersWrongFalsely : Prop := storeNumbersRow.holds Tryz.pinned (OpenSpec.ofChange storeNumbersWrong)

/-- 'postillionlaw10.OrderFirst': WHATEVER THE INPUT: true; the input reads as it did. -/
def orderFirstSpec : ChangeSpec := { name := "orderFirst", fn := fun _ => fun
  | [d1, d2] => { results := [.lit (.bool true)], args := [d1, d2] }
  | _ => none }
def orderFirstRow : OpenClaim := { program := "ytafndmnbnmlklaagreat", sum := "4a8181c9a63b6a2814d2e19406b7c8019ada65b8e60a7d79c48bdcdb0dfe270d", func := "postillion/postillionlaw10.OrderFirst", spec := "orderFirst", inPlace := ["slices.overlaps[postillion/api.End]", "slices.overlaps[postillion/api.Branch]", "slices.overlaps[postillion/api.Pend]"], unfollowed := true, recurses := true, apart := false }
def OrderFirstSaid : Prop := orderFirstRow.holds Tryz.pinned (OpenSpec.ofChange orderFirstSpec)

/-- ITS FALSE NEIGHBOUR: 'it returns false'. Refute it at one input. -/
def orderFirstWrong : ChangeSpec := { name := "orderFirst", fn := fun _ => fun
  | [d1, d2] => { results := [.lit (.bool false)], args := [d1, d2] }
  | _ => none }
def OrderFirstWrongFalsely : Prop := orderFirstRow.holds Tryz.pinned (OpenSpec.ofChange orderFirstWrong)

/-- 'postillionlaw10.StoreIds': WHATEVER THE INPUT: true; the input reads as it did. -/
def storeIdsSpec : ChangeSpec := { name := "storeIds", fn := fun _ => fun
  | [d1, d2] => { results := [.lit (.bool true)], args := [d1, d2] }
  | _ => none }
def storeIdsRow : OpenClaim := { program := "ytafndmnbnmlklaagreat", sum := "4a8181c9a63b6a2814d2e19406b7c8019ada65b8e60a7d79c48bdcdb0dfe270d", func := "postillion/postillionlaw10.StoreIds", spec := "storeIds", inPlace := ["slices.overlaps[postillion/api.End]", "slices.overlaps[postillion/api.Branch]", "slices.overlaps[postillion/api.Pend]"], unfollowed := true, recurses := true, apart := false }
def StoreIdsSaid : Prop := storeIdsRow.holds Tryz.pinned (OpenSpec.ofChange storeIdsSpec)

/-- ITS FALSE NEIGHBOUR: 'it returns false'. Refute it at one input. -/
def storeIdsWrong : ChangeSpec := { name := "storeIds", fn := fun _ => fun
  | [d1, d2] => { results := [.lit (.bool false)], args := [d1, d2] }
  | _ => none }
def StoreIdsWrongFalsely : Prop := storeIdsRow.holds Tryz.pinned (OpenSpec.ofChange storeIdsWrong)

/-- 'postillionlaw26.WhereAll': WHATEVER THE INPUT: true; the input reads as it did. -/
def whereAllSpec : ChangeSpec := { name := "whereAll", fn := fun _ => fun
  | [d1, d2] => { results := [.lit (.bool true)], args := [d1, d2] }
  | _ => none }
def whereAllRow : OpenClaim := { program := "ytafndmnbnmlklaagreat", sum := "4a8181c9a63b6a2814d2e19406b7c8019ada65b8e60a7d79c48bdcdb0dfe270d", func := "postillion/postillionlaw26.WhereAll", spec := "whereAll", inPlace := ["slices.overlaps[postillion/api.End]", "slices.overlaps[postillion/api.Branch]", "slices.overlaps[postillion/api.Pend]"], unfollowed := true, recurses := true, apart := false }
def WhereAllSaid : Prop := whereAllRow.holds Tryz.pinned (OpenSpec.ofChange whereAllSpec)

/-- ITS FALSE NEIGHBOUR: 'it returns false'. Refute it at one input. -/
def whereAllWrong : ChangeSpec := { name := "whereAll", fn := fun _ => fun
  | [d1, d2] => { results := [.lit (.bool false)], args := [d1, d2] }
  | _ => none }
def WhereAllWrongFalsely : Prop := whereAllRow.holds Tryz.pinned (OpenSpec.ofChange whereAllWrong)

/-- 'postillionlaw26.JudgeAll': WHATEVER THE INPUT: true; the input reads as it did. -/
def judgeAllSpec : ChangeSpec := { name := "judgeAll", fn := fun _ => fun
  | [d1, d2] => { results := [.lit (.bool true)], args := [d1, d2] }
  | _ => none }
def judgeAllRow : OpenClaim := { program := "ytafndmnbnmlklaagreat", sum := "4a8181c9a63b6a2814d2e19406b7c8019ada65b8e60a7d79c48bdcdb0dfe270d", func := "postillion/postillionlaw26.JudgeAll", spec := "judgeAll", inPlace := ["slices.overlaps[postillion/api.End]", "slices.overlaps[postillion/api.Branch]", "slices.overlaps[postillion/api.Pend]"], unfollowed := true, recurses := true, apart := false }
def JudgeAllSaid : Prop := judgeAllRow.holds Tryz.pinned (OpenSpec.ofChange judgeAllSpec)

/-- ITS FALSE NEIGHBOUR: 'it returns false'. Refute it at one input. -/
def judgeAllWrong : ChangeSpec := { name := "judgeAll", fn := fun _ => fun
  | [d1, d2] => { results := [.lit (.bool false)], args := [d1, d2] }
  | _ => none }
def JudgeAllWrongFalsely : Prop := judgeAllRow.holds Tryz.pinned (OpenSpec.ofChange judgeAllWrong)

/-- 'postillionlaw26.JudgeGrown': WHATEVER THE INPUT: true; the input reads as it did. -/
def judgeGrownSpec : ChangeSpec := { name := "judgeGrown", fn := fun _ => fun
  | [d1, d2, d3, d4, d5] => { results := [.lit (.bool true)], args := [d1, d2, d3, d4, d5] }
  | _ => none }
def judgeGrownRow : OpenClaim := { program := "ytafndmnbnmlklaagreat", sum := "4a8181c9a63b6a2814d2e19406b7c8019ada65b8e60a7d79c48bdcdb0dfe270d", func := "postillion/postillionlaw26.JudgeGrown", spec := "judgeGrown", inPlace := ["slices.overlaps[postillion/api.End]", "slices.overlaps[postillion/api.Branch]", "slices.overlaps[postillion/api.Pend]"], unfollowed := true, recurses := true, apart := false }
def JudgeGrownSaid : Prop := judgeGrownRow.holds Tryz.pinned (OpenSpec.ofChange judgeGrownSpec)

/-- ITS FALSE NEIGHBOUR: 'it returns false'. Refute it at one input. -/
def judgeGrownWrong : ChangeSpec := { name := "judgeGrown", fn := fun _ => fun
  | [d1, d2, d3, d4, d5] => { results := [.lit (.bool false)], args := [d1, d2, d3, d4, d5] }
  | _ => none }
def JudgeGrownWrongFalsely : Prop := judgeGrownRow.holds Tryz.pinned (OpenSpec.ofChange judgeGrownWrong)

/-- 'postillionlaw26.WherePlaces': WHATEVER THE INPUT: true; the input reads as it did. -/
def wherePlacesSpec : ChangeSpec := { name := "wherePlaces", fn := fun _ => fun
  | [d1, d2] => { results := [.lit (.bool true)], args := [d1, d2] }
  | _ => none }
def wherePlacesRow : OpenClaim := { program := "ytafndmnbnmlklaagreat", sum := "4a8181c9a63b6a2814d2e19406b7c8019ada65b8e60a7d79c48bdcdb0dfe270d", func := "postillion/postillionlaw26.WherePlaces", spec := "wherePlaces", inPlace := ["slices.overlaps[postillion/api.End]", "slices.overlaps[postillion/api.Branch]", "slices.overlaps[postillion/api.Pend]"], unfollowed := true, recurses := true, apart := false }
def WherePlacesSaid : Prop := wherePlacesRow.holds Tryz.pinned (OpenSpec.ofChange wherePlacesSpec)

/-- ITS FALSE NEIGHBOUR: 'it returns false'. Refute it at one input. -/
def wherePlacesWrong : ChangeSpec := { name := "wherePlaces", fn := fun _ => fun
  | [d1, d2] => { results := [.lit (.bool false)], args := [d1, d2] }
  | _ => none }
def WherePlacesWrongFalsely : Prop := wherePlacesRow.holds Tryz.pinned (OpenSpec.ofChange wherePlacesWrong)

/-- 'postillionlaw26.WhereLong': WHATEVER THE INPUT: true; the input reads as it did. -/
def whereLongSpec : ChangeSpec := { name := "whereLong", fn := fun _ => fun
  | [d] => { results := [.lit (.bool true)], args := [d] }
  | _ => none }
def whereLongRow : OpenClaim := { program := "ytafndmnbnmlklaagreat", sum := "4a8181c9a63b6a2814d2e19406b7c8019ada65b8e60a7d79c48bdcdb0dfe270d", func := "postillion/postillionlaw26.WhereLong", spec := "whereLong", inPlace := ["slices.overlaps[postillion/api.End]", "slices.overlaps[postillion/api.Branch]", "slices.overlaps[postillion/api.Pend]"], unfollowed := true, recurses := true, apart := false }
def WhereLongSaid : Prop := whereLongRow.holds Tryz.pinned (OpenSpec.ofChange whereLongSpec)

/-- ITS FALSE NEIGHBOUR: 'it returns false'. Refute it at one input. -/
def whereLongWrong : ChangeSpec := { name := "whereLong", fn := fun _ => fun
  | [d] => { results := [.lit (.bool false)], args := [d] }
  | _ => none }
def WhereLongWrongFalsely : Prop := whereLongRow.holds Tryz.pinned (OpenSpec.ofChange whereLongWrong)

/-- 'postillionlaw26.WhereAgree': WHATEVER THE INPUT: true; the input reads as it did. -/
def whereAgreeSpec : ChangeSpec := { name := "whereAgree", fn := fun _ => fun
  | [d1, d2, d3] => { results := [.lit (.bool true)], args := [d1, d2, d3] }
  | _ => none }
def whereAgreeRow : OpenClaim := { program := "ytafndmnbnmlklaagreat", sum := "4a8181c9a63b6a2814d2e19406b7c8019ada65b8e60a7d79c48bdcdb0dfe270d", func := "postillion/postillionlaw26.WhereAgree", spec := "whereAgree", inPlace := ["slices.overlaps[postillion/api.End]", "slices.overlaps[postillion/api.Branch]", "slices.overlaps[postillion/api.Pend]"], unfollowed := true, recurses := true, apart := false }
def WhereAgreeSaid : Prop := whereAgreeRow.holds Tryz.pinned (OpenSpec.ofChange whereAgreeSpec)

/-- ITS FALSE NEIGHBOUR: 'it returns false'. Refute it at one input. -/
def whereAgreeWrong : ChangeSpec := { name := "whereAgree", fn := fun _ => fun
  | [d1, d2, d3] => { results := [.lit (.bool false)], args := [d1, d2, d3] }
  | _ => none }
def WhereAgreeWrongFalsely : Prop := whereAgreeRow.holds Tryz.pinned (OpenSpec.ofChange whereAgreeWrong)

/-- 'postillionlaw26.JudgeFallen': WHATEVER THE INPUT: true; the input reads as it did. -/
def judgeFallenSpec : ChangeSpec := { name := "judgeFallen", fn := fun _ => fun
  | [d1, d2] => { results := [.lit (.bool true)], args := [d1, d2] }
  | _ => none }
def judgeFallenRow : OpenClaim := { program := "ytafndmnbnmlklaagreat", sum := "4a8181c9a63b6a2814d2e19406b7c8019ada65b8e60a7d79c48bdcdb0dfe270d", func := "postillion/postillionlaw26.JudgeFallen", spec := "judgeFallen", inPlace := ["slices.overlaps[postillion/api.End]", "slices.overlaps[postillion/api.Branch]", "slices.overlaps[postillion/api.Pend]"], unfollowed := true, recurses := true, apart := false }
def JudgeFallenSaid : Prop := judgeFallenRow.holds Tryz.pinned (OpenSpec.ofChange judgeFallenSpec)

/-- ITS FALSE NEIGHBOUR: 'it returns false'. Refute it at one input. -/
def judgeFallenWrong : ChangeSpec := { name := "judgeFallen", fn := fun _ => fun
  | [d1, d2] => { results := [.lit (.bool false)], args := [d1, d2] }
  | _ => none }
def JudgeFallenWrongFalsely : Prop := judgeFallenRow.holds Tryz.pinned (OpenSpec.ofChange judgeFallenWrong)

/-- 'postillionlaw26.JudgeTurned': WHATEVER THE INPUT: true; the input reads as it did. -/
def judgeTurnedSpec : ChangeSpec := { name := "judgeTurned", fn := fun _ => fun
  | [d1, d2, d3] => { results := [.lit (.bool true)], args := [d1, d2, d3] }
  | _ => none }
def judgeTurnedRow : OpenClaim := { program := "ytafndmnbnmlklaagreat", sum := "4a8181c9a63b6a2814d2e19406b7c8019ada65b8e60a7d79c48bdcdb0dfe270d", func := "postillion/postillionlaw26.JudgeTurned", spec := "judgeTurned", inPlace := ["slices.overlaps[postillion/api.End]", "slices.overlaps[postillion/api.Branch]", "slices.overlaps[postillion/api.Pend]"], unfollowed := true, recurses := true, apart := false }
def JudgeTurnedSaid : Prop := judgeTurnedRow.holds Tryz.pinned (OpenSpec.ofChange judgeTurnedSpec)

/-- ITS FALSE NEIGHBOUR: 'it returns false'. Refute it at one input. -/
def judgeTurnedWrong : ChangeSpec := { name := "judgeTurned", fn := fun _ => fun
  | [d1, d2, d3] => { results := [.lit (.bool false)], args := [d1, d2, d3] }
  | _ => none }
def JudgeTurnedWrongFalsely : Prop := judgeTurnedRow.holds Tryz.pinned (OpenSpec.ofChange judgeTurnedWrong)

/- THE SECOND FORM. 'bulk': how many values and letters a reading holds, each counted each time it is reached (what is shared counts as often as it is met; a slice's spare places count too). A statement '..UptoSaid' is the law's where the arguments, and the package variables that the reading takes, are together of bulk at most 1048576: NARROWER than '..Said'. Prove '..Said' where nothing that the law and all that it calls make is longer than what came in: it says more and counts as full. Else prove '..UptoSaid'. A law counts once. -/
mutual
def uptoBulk {H : Type} : DataW H → Nat
  | .lit (.string bytes) => bytes.length + 1
  | .lit _ => 1
  | .nil => 1
  | .ptr d => uptoBulk d + 1
  | .slice elems spare => uptoBulkAll elems + uptoBulkAll spare + 1
  | .agg parts => uptoBulkAll parts + 1
  | .iface _ d => uptoBulk d + 1
  | .map entries => uptoBulkEntries entries + 1
  | .held _ => 1
def uptoBulkAll {H : Type} : List (DataW H) → Nat
  | [] => 0
  | d :: r => uptoBulk d + uptoBulkAll r
def uptoBulkEntries {H : Type} : List (Lit × DataW H) → Nat
  | [] => 0
  | x :: r => uptoBulkEntry x + uptoBulkEntries r
def uptoBulkEntry {H : Type} : Lit × DataW H → Nat
  | (.string bytes, d) => bytes.length + uptoBulk d + 1
  | (_, d) => uptoBulk d + 1
 end
def uptoSmall : (H : Type) → List (DataW H) → Bool := fun _ ds => decide (uptoBulkAll ds ≤ 1048576)
def OpenSpec.upto (s : _root_.Go.ChangeSpec) : _root_.Go.OpenSpec := { _root_.Go.OpenSpec.ofChange s with cond := some uptoSmall }

/-- 'postillionlaw10.StoreAll', WHERE WHAT IT READS IS OF BULK AT MOST 1048576: true; the input reads as it did. -/
def storeAllUptoRow : OpenClaim := { program := "ytafndmnbnmlklaagreat", sum := "4a8181c9a63b6a2814d2e19406b7c8019ada65b8e60a7d79c48bdcdb0dfe270d", func := "postillion/postillionlaw10.StoreAll", spec := "storeAll", inPlace := ["slices.overlaps[postillion/api.End]", "slices.overlaps[postillion/api.Branch]", "slices.overlaps[postillion/api.Pend]"], unfollowed := true, recurses := true, apart := false, narrowed := true }
def StoreAllUptoSaid : Prop := storeAllUptoRow.holds Tryz.pinned (OpenSpec.upto storeAllSpec)

/-- 'postillionlaw10.StoreAny', WHERE WHAT IT READS IS OF BULK AT MOST 1048576: true; the input reads as it did. -/
def storeAnyUptoRow : OpenClaim := { program := "ytafndmnbnmlklaagreat", sum := "4a8181c9a63b6a2814d2e19406b7c8019ada65b8e60a7d79c48bdcdb0dfe270d", func := "postillion/postillionlaw10.StoreAny", spec := "storeAny", inPlace := ["slices.overlaps[postillion/api.End]", "slices.overlaps[postillion/api.Branch]", "slices.overlaps[postillion/api.Pend]"], unfollowed := true, recurses := true, apart := false, narrowed := true }
def StoreAnyUptoSaid : Prop := storeAnyUptoRow.holds Tryz.pinned (OpenSpec.upto storeAnySpec)

/-- 'postillionlaw10.StoreNumbers', WHERE WHAT IT READS IS OF BULK AT MOST 1048576: true; the input reads as it did. -/
def storeNumbersUptoRow : OpenClaim := { program := "ytafndmnbnmlklaagreat", sum := "4a8181c9a63b6a2814d2e19406b7c8019ada65b8e60a7d79c48bdcdb0dfe270d", func := "postillion/postillionlaw10.StoreNumbers", spec := "storeNumbers", inPlace := ["slices.overlaps[postillion/api.End]", "slices.overlaps[postillion/api.Branch]", "slices.overlaps[postillion/api.Pend]"], unfollowed := true, recurses := true, apart := false, narrowed := true }
def StoreNumbersUptoSaid : Prop := storeNumbersUptoRow.holds Tryz.pinned (OpenSpec.upto storeNumbersSpec)

/-- 'postillionlaw10.OrderFirst', WHERE WHAT IT READS IS OF BULK AT MOST 1048576: true; the input reads as it did. -/
def orderFirstUptoRow : OpenClaim := { program := "ytafndmnbnmlklaagreat", sum := "4a8181c9a63b6a2814d2e19406b7c8019ada65b8e60a7d79c48bdcdb0dfe270d", func := "postillion/postillionlaw10.OrderFirst", spec := "orderFirst", inPlace := ["slices.overlaps[postillion/api.End]", "slices.overlaps[postillion/api.Branch]", "slices.overlaps[postillion/api.Pend]"], unfollowed := true, recurses := true, apart := false, narrowed := true }
def OrderFirstUptoSaid : Prop := orderFirstUptoRow.holds Tryz.pinned (OpenSpec.upto orderFirstSpec)

/-- 'postillionlaw10.StoreIds', WHERE WHAT IT READS IS OF BULK AT MOST 1048576: true; the input reads as it did. -/
def storeIdsUptoRow : OpenClaim := { program := "ytafndmnbnmlklaagreat", sum := "4a8181c9a63b6a2814d2e19406b7c8019ada65b8e60a7d79c48bdcdb0dfe270d", func := "postillion/postillionlaw10.StoreIds", spec := "storeIds", inPlace := ["slices.overlaps[postillion/api.End]", "slices.overlaps[postillion/api.Branch]", "slices.overlaps[postillion/api.Pend]"], unfollowed := true, recurses := true, apart := false, narrowed := true }
def StoreIdsUptoSaid : Prop := storeIdsUptoRow.holds Tryz.pinned (OpenSpec.upto storeIdsSpec)

/-- 'postillionlaw26.WhereAll', WHERE WHAT IT READS IS OF BULK AT MOST 1048576: true; the input reads as it did. -/
def whereAllUptoRow : OpenClaim := { program := "ytafndmnbnmlklaagreat", sum := "4a8181c9a63b6a2814d2e19406b7c8019ada65b8e60a7d79c48bdcdb0dfe270d", func := "postillion/postillionlaw26.WhereAll", spec := "whereAll", inPlace := ["slices.overlaps[postillion/api.End]", "slices.overlaps[postillion/api.Branch]", "slices.overlaps[postillion/api.Pend]"], unfollowed := true, recurses := true, apart := false, narrowed := true }
def WhereAllUptoSaid : Prop := whereAllUptoRow.holds Tryz.pinned (OpenSpec.upto whereAllSpec)

/-- 'postillionlaw26.JudgeAll', WHERE WHAT IT READS IS OF BULK AT MOST 1048576: true; the input reads as it did. -/
def judgeAllUptoRow : OpenClaim := { program := "ytafndmnbnmlklaagreat", sum := "4a8181c9a63b6a2814d2e19406b7c8019ada65b8e60a7d79c48bdcdb0dfe270d", func := "postillion/postillionlaw26.JudgeAll", spec := "judgeAll", inPlace := ["slices.overlaps[postillion/api.End]", "slices.overlaps[postillion/api.Branch]", "slices.overlaps[postillion/api.Pend]"], unfollowed := true, recurses := true, apart := false, narrowed := true }
def JudgeAllUptoSaid : Prop := judgeAllUptoRow.holds Tryz.pinned (OpenSpec.upto judgeAllSpec)

/-- 'postillionlaw26.JudgeGrown', WHERE WHAT IT READS IS OF BULK AT MOST 1048576: true; the input reads as it did. -/
def judgeGrownUptoRow : OpenClaim := { program := "ytafndmnbnmlklaagreat", sum := "4a8181c9a63b6a2814d2e19406b7c8019ada65b8e60a7d79c48bdcdb0dfe270d", func := "postillion/postillionlaw26.JudgeGrown", spec := "judgeGrown", inPlace := ["slices.overlaps[postillion/api.End]", "slices.overlaps[postillion/api.Branch]", "slices.overlaps[postillion/api.Pend]"], unfollowed := true, recurses := true, apart := false, narrowed := true }
def JudgeGrownUptoSaid : Prop := judgeGrownUptoRow.holds Tryz.pinned (OpenSpec.upto judgeGrownSpec)

/-- 'postillionlaw26.WherePlaces', WHERE WHAT IT READS IS OF BULK AT MOST 1048576: true; the input reads as it did. -/
def wherePlacesUptoRow : OpenClaim := { program := "ytafndmnbnmlklaagreat", sum := "4a8181c9a63b6a2814d2e19406b7c8019ada65b8e60a7d79c48bdcdb0dfe270d", func := "postillion/postillionlaw26.WherePlaces", spec := "wherePlaces", inPlace := ["slices.overlaps[postillion/api.End]", "slices.overlaps[postillion/api.Branch]", "slices.overlaps[postillion/api.Pend]"], unfollowed := true, recurses := true, apart := false, narrowed := true }
def WherePlacesUptoSaid : Prop := wherePlacesUptoRow.holds Tryz.pinned (OpenSpec.upto wherePlacesSpec)

/-- 'postillionlaw26.WhereLong', WHERE WHAT IT READS IS OF BULK AT MOST 1048576: true; the input reads as it did. -/
def whereLongUptoRow : OpenClaim := { program := "ytafndmnbnmlklaagreat", sum := "4a8181c9a63b6a2814d2e19406b7c8019ada65b8e60a7d79c48bdcdb0dfe270d", func := "postillion/postillionlaw26.WhereLong", spec := "whereLong", inPlace := ["slices.overlaps[postillion/api.End]", "slices.overlaps[postillion/api.Branch]", "slices.overlaps[postillion/api.Pend]"], unfollowed := true, recurses := true, apart := false, narrowed := true }
def WhereLongUptoSaid : Prop := whereLongUptoRow.holds Tryz.pinned (OpenSpec.upto whereLongSpec)

/-- 'postillionlaw26.WhereAgree', WHERE WHAT IT READS IS OF BULK AT MOST 1048576: true; the input reads as it did. -/
def whereAgreeUptoRow : OpenClaim := { program := "ytafndmnbnmlklaagreat", sum := "4a8181c9a63b6a2814d2e19406b7c8019ada65b8e60a7d79c48bdcdb0dfe270d", func := "postillion/postillionlaw26.WhereAgree", spec := "whereAgree", inPlace := ["slices.overlaps[postillion/api.End]", "slices.overlaps[postillion/api.Branch]", "slices.overlaps[postillion/api.Pend]"], unfollowed := true, recurses := true, apart := false, narrowed := true }
def WhereAgreeUptoSaid : Prop := whereAgreeUptoRow.holds Tryz.pinned (OpenSpec.upto whereAgreeSpec)

/-- 'postillionlaw26.JudgeFallen', WHERE WHAT IT READS IS OF BULK AT MOST 1048576: true; the input reads as it did. -/
def judgeFallenUptoRow : OpenClaim := { program := "ytafndmnbnmlklaagreat", sum := "4a8181c9a63b6a2814d2e19406b7c8019ada65b8e60a7d79c48bdcdb0dfe270d", func := "postillion/postillionlaw26.JudgeFallen", spec := "judgeFallen", inPlace := ["slices.overlaps[postillion/api.End]", "slices.overlaps[postillion/api.Branch]", "slices.overlaps[postillion/api.Pend]"], unfollowed := true, recurses := true, apart := false, narrowed := true }
def JudgeFallenUptoSaid : Prop := judgeFallenUptoRow.holds Tryz.pinned (OpenSpec.upto judgeFallenSpec)

/-- 'postillionlaw26.JudgeTurned', WHERE WHAT IT READS IS OF BULK AT MOST 1048576: true; the input reads as it did. -/
def judgeTurnedUptoRow : OpenClaim := { program := "ytafndmnbnmlklaagreat", sum := "4a8181c9a63b6a2814d2e19406b7c8019ada65b8e60a7d79c48bdcdb0dfe270d", func := "postillion/postillionlaw26.JudgeTurned", spec := "judgeTurned", inPlace := ["slices.overlaps[postillion/api.End]", "slices.overlaps[postillion/api.Branch]", "slices.overlaps[postillion/api.Pend]"], unfollowed := true, recurses := true, apart := false, narrowed := true }
def JudgeTurnedUptoSaid : Prop := judgeTurnedUptoRow.holds Tryz.pinned (OpenSpec.upto judgeTurnedSpec)

end Rows
end Go.Proofs.YtafndmnbnmlklaaGreat
