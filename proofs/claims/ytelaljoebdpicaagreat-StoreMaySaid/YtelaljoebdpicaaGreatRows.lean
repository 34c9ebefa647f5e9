/-
  No cell of these rows narrows 'for every input' (looked for: loops, veiled, ifaces, maps, wideKeys, modest, calm, conditions, laid).
  DERIVED. THE GIVEN ROWS OF THIS SEAT. 9 by the template 'for every input the law returns true; each argument reads behind the call as it read before'; 0 by the template 'total and deterministic' (their statements: YtelaljoebdpicaaGreatTotals.lean).
  GIVEN WITH THE SEED: the statements are not yours to turn. If you find one false, say at which input.
  Laid BY PROGRAM, IN A SANDBOX (cutbox-rows.mjs): the forced cells as the released guide's own fill.sh prints them over the translation e732173a64bb9fc6… (all of the seat's roots in one cut). By AI agents, Wed Nov 11 2026. No macro, syntax, notation, axiom, sorry.
-/
import Derived.Test.YtelaljoebdpicaaGreatChecked
import GoSem.Claim
import GoSem.ClaimJoined
import GoSem.ClaimMapViews
import Derived.JoinedTies
import Derived.KernelRfl
namespace Go.Proofs.YtelaljoebdpicaaGreat
/- THE CELL 'sum', in the pinned program and in every row, IS THE sha256 OF THE DUMP (.gsa) THAT YtelaljoebdpicaaGreatProg.lean LOADS. Nothing in Lean hashes anything: it is a label: what it is worth is what the hold of that sum in a sandbox is worth. -/
noncomputable def Tryz.pinned : Pinned := { name := "ytelaljoebdpicaagreat", sum := "e732173a64bb9fc62078f94e24dcc93a7623760a4566b9e8ba9d137b36edab2b", checked := Tryz.checked }
namespace Rows
def none {H : Type} : Left H := { results := [], args := [] }

/-- 'postillionlaw10.StoreMay': WHATEVER THE INPUT: true; the input reads as it did. -/
def storeMaySpec : ChangeSpec := { name := "storeMay", fn := fun _ => fun
  | [d1, d2] => { results := [.lit (.bool true)], args := [d1, d2] }
  | _ => none }
def storeMayRow : OpenClaim := { program := "ytelaljoebdpicaagreat", sum := "e732173a64bb9fc62078f94e24dcc93a7623760a4566b9e8ba9d137b36edab2b", func := "postillion/postillionlaw10.StoreMay", spec := "storeMay", inPlace := ["slices.overlaps[postillion/api.End]", "slices.overlaps[postillion/api.Branch]", "slices.overlaps[postillion/api.Pend]"], unfollowed := true, recurses := true, apart := false }
def StoreMaySaid : Prop := storeMayRow.holds Tryz.pinned (OpenSpec.ofChange storeMaySpec)

/-- ITS FALSE NEIGHBOUR: 'it returns false'. Refute it at one input. -/
def storeMayWrong : ChangeSpec := { name := "storeMay", fn := fun _ => fun
  | [d1, d2] => { results := [.lit (.bool false)], args := [d1, d2] }
  | _ => none }
def StoreMayWrongFalsely : Prop := storeMayRow.holds Tryz.pinned (OpenSpec.ofChange storeMayWrong)

/-- 'postillionlaw10.StoreAll': WHATEVER THE INPUT: true; the input reads as it did. -/
def storeAllSpec : ChangeSpec := { name := "storeAll", fn := fun _ => fun
  | [d1, d2] => { results := [.lit (.bool true)], args := [d1, d2] }
  | _ => none }
def storeAllRow : OpenClaim := { program := "ytelaljoebdpicaagreat", sum := "e732173a64bb9fc62078f94e24dcc93a7623760a4566b9e8ba9d137b36edab2b", func := "postillion/postillionlaw10.StoreAll", spec := "storeAll", inPlace := ["slices.overlaps[postillion/api.End]", "slices.overlaps[postillion/api.Branch]", "slices.overlaps[postillion/api.Pend]"], unfollowed := true, recurses := true, apart := false }
def StoreAllSaid : Prop := storeAllRow.holds Tryz.pinned (OpenSpec.ofChange storeAllSpec)

/-- ITS FALSE NEIGHBOUR: 'it returns false'. Refute it at one input. -/
def storeAllWrong : ChangeSpec := { name := "storeAll", fn := fun _ => fun
  | [d1, d2] => { results := [.lit (.bool false)], args := [d1, d2] }
  | _ => none }
def StoreAllWrongFalsely : Prop := storeAllRow.holds Tryz.pinned (OpenSpec.ofChange storeAllWrong)

/-- 'postillionlaw10.StoreAny': WHATEVER THE INPUT: true; the input reads as it did. -/
def storeAnySpec : ChangeSpec := { name := "storeAny", fn := fun _ => fun
  | [d1, d2] => { results := [.lit (.bool true)], args := [d1, d2] }
  | _ => none }
def storeAnyRow : OpenClaim := { program := "ytelaljoebdpicaagreat", sum := "e732173a64bb9fc62078f94e24dcc93a7623760a4566b9e8ba9d137b36edab2b", func := "postillion/postillionlaw10.StoreAny", spec := "storeAny", inPlace := ["slices.overlaps[postillion/api.End]", "slices.overlaps[postillion/api.Branch]", "slices.overlaps[postillion/api.Pend]"], unfollowed := true, recurses := true, apart := false }
def StoreAnySaid : Prop := storeAnyRow.holds Tryz.pinned (OpenSpec.ofChange storeAnySpec)

/-- ITS FALSE NEIGHBOUR: 'it returns false'. Refute it at one input. -/
def storeAnyWrong : ChangeSpec := { name := "storeAny", fn := fun _ => fun
  | [d1, d2] => { results := [.lit (.bool false)], args := [d1, d2] }
  | _ => none }
def StoreAnyWrongFalsely : Prop := storeAnyRow.holds Tryz.pinned (OpenSpec.ofChange storeAnyWrong)

/-- 'postillionlaw10.StoreNumbers': WHATEVER THE INPUT: true; the input reads as it did. -/
def storeNumbersSpec : ChangeSpec := { name := "storeNumbers", fn := fun _ => fun
  | [d1, d2, d3] => { results := [.lit (.bool true)], args := [d1, d2, d3] }
  | _ => none }
def storeNumbersRow : OpenClaim := { program := "ytelaljoebdpicaagreat", sum := "e732173a64bb9fc62078f94e24dcc93a7623760a4566b9e8ba9d137b36edab2b", func := "postillion/postillionlaw10.StoreNumbers", spec := "storeNumbers", inPlace := ["slices.overlaps[postillion/api.End]", "slices.overlaps[postillion/api.Branch]", "slices.overlaps[postillion/api.Pend]"], unfollowed := true, recurses := true, apart := false }
def StoreNumbersSaid : Prop := storeNumbersRow.holds Tryz.pinned (OpenSpec.ofChange storeNumbersSpec)

/-- ITS FALSE NEIGHBOUR: 'it returns false'. Refute it at one input. -/
def storeNumbersWrong : ChangeSpec := { name := "storeNumbers", fn := fun _ => fun
  | [d1, d2, d3] => { results := [.lit (.bool false)], args := [d1, d2, d3] }
  | _ => none }
def StoreNumbersWrongFalsely : Prop := storeNumbersRow.holds Tryz.pinned (OpenSpec.ofChange storeNumbersWrong)

/-- 'postillionlaw10.OrderFirst': WHATEVER THE INPUT: true; the input reads as it did. -/
def orderFirstSpec : ChangeSpec := { name := "orderFirst", fn := fun _ => fun
  | [d1, d2] => { results := [.lit (.bool true)], args := [d1, d2] }
  | _ => none }
def orderFirstRow : OpenClaim := { program := "ytelaljoebdpicaagreat", sum := "e732173a64bb9fc62078f94e24dcc93a7623760a4566b9e8ba9d137b36edab2b", func := "postillion/postillionlaw10.OrderFirst", spec := "orderFirst", inPlace := ["slices.overlaps[postillion/api.End]", "slices.overlaps[postillion/api.Branch]", "slices.overlaps[postillion/api.Pend]"], unfollowed := true, recurses := true, apart := false }
def OrderFirstSaid : Prop := orderFirstRow.holds Tryz.pinned (OpenSpec.ofChange orderFirstSpec)

/-- ITS FALSE NEIGHBOUR: 'it returns false'. Refute it at one input. -/
def orderFirstWrong : ChangeSpec := { name := "orderFirst", fn := fun _ => fun
  | [d1, d2] => { results := [.lit (.bool false)], args := [d1, d2] }
  | _ => none }
def OrderFirstWrongFalsely : Prop := orderFirstRow.holds Tryz.pinned (OpenSpec.ofChange orderFirstWrong)

/-- 'postillionlaw10.StoreIds': WHATEVER THE INPUT: true; the input reads as it did. -/
def storeIdsSpec : ChangeSpec := { name := "storeIds", fn := fun _ => fun
  | [d1, d2] => { results := [.lit (.bool true)], args := [d1, d2] }
  | _ => none }
def storeIdsRow : OpenClaim := { program := "ytelaljoebdpicaagreat", sum := "e732173a64bb9fc62078f94e24dcc93a7623760a4566b9e8ba9d137b36edab2b", func := "postillion/postillionlaw10.StoreIds", spec := "storeIds", inPlace := ["slices.overlaps[postillion/api.End]", "slices.overlaps[postillion/api.Branch]", "slices.overlaps[postillion/api.Pend]"], unfollowed := true, recurses := true, apart := false }
def StoreIdsSaid : Prop := storeIdsRow.holds Tryz.pinned (OpenSpec.ofChange storeIdsSpec)

/-- ITS FALSE NEIGHBOUR: 'it returns false'. Refute it at one input. -/
def storeIdsWrong : ChangeSpec := { name := "storeIds", fn := fun _ => fun
  | [d1, d2] => { results := [.lit (.bool false)], args := [d1, d2] }
  | _ => none }
def StoreIdsWrongFalsely : Prop := storeIdsRow.holds Tryz.pinned (OpenSpec.ofChange storeIdsWrong)

/-- 'postillionlaw10.StoreOver': WHATEVER THE INPUT: true; the input reads as it did. -/
def storeOverSpec : ChangeSpec := { name := "storeOver", fn := fun _ => fun
  | [d1, d2] => { results := [.lit (.bool true)], args := [d1, d2] }
  | _ => none }
def storeOverRow : OpenClaim := { program := "ytelaljoebdpicaagreat", sum := "e732173a64bb9fc62078f94e24dcc93a7623760a4566b9e8ba9d137b36edab2b", func := "postillion/postillionlaw10.StoreOver", spec := "storeOver", inPlace := ["slices.overlaps[postillion/api.End]", "slices.overlaps[postillion/api.Branch]", "slices.overlaps[postillion/api.Pend]"], unfollowed := true, recurses := true, apart := false }
def StoreOverSaid : Prop := storeOverRow.holds Tryz.pinned (OpenSpec.ofChange storeOverSpec)

/-- ITS FALSE NEIGHBOUR: 'it returns false'. Refute it at one input. -/
def storeOverWrong : ChangeSpec := { name := "storeOver", fn := fun _ => fun
  | [d1, d2] => { results := [.lit (.bool false)], args := [d1, d2] }
  | _ => none }
def StoreOverWrongFalsely : Prop := storeOverRow.holds Tryz.pinned (OpenSpec.ofChange storeOverWrong)

/-- 'postillionlaw10.OrderCounts': WHATEVER THE INPUT: true; the input reads as it did. -/
def orderCountsSpec : ChangeSpec := { name := "orderCounts", fn := fun _ => fun
  | [d] => { results := [.lit (.bool true)], args := [d] }
  | _ => none }
def orderCountsRow : OpenClaim := { program := "ytelaljoebdpicaagreat", sum := "e732173a64bb9fc62078f94e24dcc93a7623760a4566b9e8ba9d137b36edab2b", func := "postillion/postillionlaw10.OrderCounts", spec := "orderCounts", inPlace := ["slices.overlaps[postillion/api.End]", "slices.overlaps[postillion/api.Branch]", "slices.overlaps[postillion/api.Pend]"], unfollowed := true, recurses := true, apart := false }
def OrderCountsSaid : Prop := orderCountsRow.holds Tryz.pinned (OpenSpec.ofChange orderCountsSpec)

/-- ITS FALSE NEIGHBOUR: 'it returns false'. Refute it at one input. -/
def orderCountsWrong : ChangeSpec := { name := "orderCounts", fn := fun _ => fun
  | [d] => { results := [.lit (.bool false)], args := [d] }
  | _ => none }
def OrderCountsWrongFalsely : Prop := orderCountsRow.holds Tryz.pinned (OpenSpec.ofChange orderCountsWrong)

/-- 'postillionlaw10.OrderHolds': WHATEVER THE INPUT: true; the input reads as it did. -/
def orderHoldsSpec : ChangeSpec := { name := "orderHolds", fn := fun _ => fun
  | [d] => { results := [.lit (.bool true)], args := [d] }
  | _ => none }
def orderHoldsRow : OpenClaim := { program := "ytelaljoebdpicaagreat", sum := "e732173a64bb9fc62078f94e24dcc93a7623760a4566b9e8ba9d137b36edab2b", func := "postillion/postillionlaw10.OrderHolds", spec := "orderHolds", inPlace := ["slices.overlaps[postillion/api.End]", "slices.overlaps[postillion/api.Branch]", "slices.overlaps[postillion/api.Pend]"], unfollowed := true, recurses := true, apart := false }
def OrderHoldsSaid : Prop := orderHoldsRow.holds Tryz.pinned (OpenSpec.ofChange orderHoldsSpec)

/-- ITS FALSE NEIGHBOUR: 'it returns false'. Refute it at one input. -/
def orderHoldsWrong : ChangeSpec := { name := "orderHolds", fn := fun _ => fun
  | [d] => { results := [.lit (.bool false)], args := [d] }
  | _ => none }
def OrderHoldsWrongFalsely : Prop := orderHoldsRow.holds Tryz.pinned (OpenSpec.ofChange orderHoldsWrong)

/- THE SECOND FORM. 'bulk': how many values and letters a reading holds, each counted each time it is reached (what is shared counts as often as it is met; a slice's spare places count too). A statement '..UptoSaid' is the law's where the arguments, and the package variables that the reading takes, are together of bulk at most 1048576: NARROWER than '..Said'. Prove '..Said' where nothing that the law and all that it calls make is longer than what came in: it says more and counts as full. Else prove '..UptoSaid'. A law counts once. -/
mutual
def uptoBulk {H : Type} : DataW H → Nat
  | .lit (.string bytes) => bytes.length + 1
  | .lit _ => 1
  | .nil => 1
  | .ptr d => uptoBulk d + 1
  | .slice elems spare => uptoBulkAll elems + uptoBulkAll spare + 1
  | .agg parts => uptoBulkAll parts + 1
  | .iface _ d => uptoBulk d + 1
  | .map entries => uptoBulkEntries entries + 1
  | .held _ => 1
def uptoBulkAll {H : Type} : List (DataW H) → Nat
  | [] => 0
  | d :: r => uptoBulk d + uptoBulkAll r
def uptoBulkEntries {H : Type} : List (Lit × DataW H) → Nat
  | [] => 0
  | x :: r => uptoBulkEntry x + uptoBulkEntries r
def uptoBulkEntry {H : Type} : Lit × DataW H → Nat
  | (.string bytes, d) => bytes.length + uptoBulk d + 1
  | (_, d) => uptoBulk d + 1
 end
def uptoSmall : (H : Type) → List (DataW H) → Bool := fun _ ds => decide (uptoBulkAll ds ≤ 1048576)
def OpenSpec.upto (s : _root_.Go.ChangeSpec) : _root_.Go.OpenSpec := { _root_.Go.OpenSpec.ofChange s with cond := some uptoSmall }

/-- 'postillionlaw10.StoreMay', WHERE WHAT IT READS IS OF BULK AT MOST 1048576: true; the input reads as it did. -/
def storeMayUptoRow : OpenClaim := { program := "ytelaljoebdpicaagreat", sum := "e732173a64bb9fc62078f94e24dcc93a7623760a4566b9e8ba9d137b36edab2b", func := "postillion/postillionlaw10.StoreMay", spec := "storeMay", inPlace := ["slices.overlaps[postillion/api.End]", "slices.overlaps[postillion/api.Branch]", "slices.overlaps[postillion/api.Pend]"], unfollowed := true, recurses := true, apart := false, narrowed := true }
def StoreMayUptoSaid : Prop := storeMayUptoRow.holds Tryz.pinned (OpenSpec.upto storeMaySpec)

/-- 'postillionlaw10.StoreAll', WHERE WHAT IT READS IS OF BULK AT MOST 1048576: true; the input reads as it did. -/
def storeAllUptoRow : OpenClaim := { program := "ytelaljoebdpicaagreat", sum := "e732173a64bb9fc62078f94e24dcc93a7623760a4566b9e8ba9d137b36edab2b", func := "postillion/postillionlaw10.StoreAll", spec := "storeAll", inPlace := ["slices.overlaps[postillion/api.End]", "slices.overlaps[postillion/api.Branch]", "slices.overlaps[postillion/api.Pend]"], unfollowed := true, recurses := true, apart := false, narrowed := true }
def StoreAllUptoSaid : Prop := storeAllUptoRow.holds Tryz.pinned (OpenSpec.upto storeAllSpec)

/-- 'postillionlaw10.StoreAny', WHERE WHAT IT READS IS OF BULK AT MOST 1048576: true; the input reads as it did. -/
def storeAnyUptoRow : OpenClaim := { program := "ytelaljoebdpicaagreat", sum := "e732173a64bb9fc62078f94e24dcc93a7623760a4566b9e8ba9d137b36edab2b", func := "postillion/postillionlaw10.StoreAny", spec := "storeAny", inPlace := ["slices.overlaps[postillion/api.End]", "slices.overlaps[postillion/api.Branch]", "slices.overlaps[postillion/api.Pend]"], unfollowed := true, recurses := true, apart := false, narrowed := true }
def StoreAnyUptoSaid : Prop := storeAnyUptoRow.holds Tryz.pinned (OpenSpec.upto storeAnySpec)

/-- 'postillionlaw10.StoreNumbers', WHERE WHAT IT READS IS OF BULK AT MOST 1048576: true; the input reads as it did. -/
def storeNumbersUptoRow : OpenClaim := { program := "ytelaljoebdpicaagreat", sum := "e732173a64bb9fc62078f94e24dcc93a7623760a4566b9e8ba9d137b36edab2b", func := "postillion/postillionlaw10.StoreNumbers", spec := "storeNumbers", inPlace := ["slices.overlaps[postillion/api.End]", "slices.overlaps[postillion/api.Branch]", "slices.overlaps[postillion/api.Pend]"], unfollowed := true, recurses := true, apart := false, narrowed := true }
def StoreNumbersUptoSaid : Prop := storeNumbersUptoRow.holds Tryz.pinned (OpenSpec.upto storeNumbersSpec)

/-- 'postillionlaw10.OrderFirst', WHERE WHAT IT READS IS OF BULK AT MOST 1048576: true; the input reads as it did. -/
def orderFirstUptoRow : OpenClaim := { program := "ytelaljoebdpicaagreat", sum := "e732173a64bb9fc62078f94e24dcc93a7623760a4566b9e8ba9d137b36edab2b", func := "postillion/postillionlaw10.OrderFirst", spec := "orderFirst", inPlace := ["slices.overlaps[postillion/api.End]", "slices.overlaps[postillion/api.Branch]", "slices.overlaps[postillion/api.Pend]"], unfollowed := true, recurses := true, apart := false, narrowed := true }
def OrderFirstUptoSaid : Prop := orderFirstUptoRow.holds Tryz.pinned (OpenSpec.upto orderFirstSpec)

/-- 'postillionlaw10.StoreIds', WHERE WHAT IT READS IS OF BULK AT MOST 1048576: true; the input reads as it did. -/
def storeIdsUptoRow : OpenClaim := { program := "ytelaljoebdpicaagreat", sum := "e732173a64bb9fc62078f94e24dcc93a7623760a4566b9e8ba9d137b36edab2b", func := "postillion/postillionlaw10.StoreIds", spec := "storeIds", inPlace := ["slices.overlaps[postillion/api.End]", "slices.overlaps[postillion/api.Branch]", "slices.overlaps[postillion/api.Pend]"], unfollowed := true, recurses := true, apart := false, narrowed := true }
def StoreIdsUptoSaid : Prop := storeIdsUptoRow.holds Tryz.pinned (OpenSpec.upto storeIdsSpec)

/-- 'postillionlaw10.StoreOver', WHERE WHAT IT READS IS OF BULK AT MOST 1048576: true; the input reads as it did. -/
def storeOverUptoRow : OpenClaim := { program := "ytelaljoebdpicaagreat", sum := "e732173a64bb9fc62078f94e24dcc93a7623760a4566b9e8ba9d137b36edab2b", func := "postillion/postillionlaw10.StoreOver", spec := "storeOver", inPlace := ["slices.overlaps[postillion/api.End]", "slices.overlaps[postillion/api.Branch]", "slices.overlaps[postillion/api.Pend]"], unfollowed := true, recurses := true, apart := false, narrowed := true }
def StoreOverUptoSaid : Prop := storeOverUptoRow.holds Tryz.pinned (OpenSpec.upto storeOverSpec)

/-- 'postillionlaw10.OrderCounts', WHERE WHAT IT READS IS OF BULK AT MOST 1048576: true; the input reads as it did. -/
def orderCountsUptoRow : OpenClaim := { program := "ytelaljoebdpicaagreat", sum := "e732173a64bb9fc62078f94e24dcc93a7623760a4566b9e8ba9d137b36edab2b", func := "postillion/postillionlaw10.OrderCounts", spec := "orderCounts", inPlace := ["slices.overlaps[postillion/api.End]", "slices.overlaps[postillion/api.Branch]", "slices.overlaps[postillion/api.Pend]"], unfollowed := true, recurses := true, apart := false, narrowed := true }
def OrderCountsUptoSaid : Prop := orderCountsUptoRow.holds Tryz.pinned (OpenSpec.upto orderCountsSpec)

/-- 'postillionlaw10.OrderHolds', WHERE WHAT IT READS IS OF BULK AT MOST 1048576: true; the input reads as it did. -/
def orderHoldsUptoRow : OpenClaim := { program := "ytelaljoebdpicaagreat", sum := "e732173a64bb9fc62078f94e24dcc93a7623760a4566b9e8ba9d137b36edab2b", func := "postillion/postillionlaw10.OrderHolds", spec := "orderHolds", inPlace := ["slices.overlaps[postillion/api.End]", "slices.overlaps[postillion/api.Branch]", "slices.overlaps[postillion/api.Pend]"], unfollowed := true, recurses := true, apart := false, narrowed := true }
def OrderHoldsUptoSaid : Prop := orderHoldsUptoRow.holds Tryz.pinned (OpenSpec.upto orderHoldsSpec)

end Rows
end Go.Proofs.YtelaljoebdpicaaGreat
