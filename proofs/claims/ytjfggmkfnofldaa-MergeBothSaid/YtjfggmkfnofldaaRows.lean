/-
  No cell of these rows narrows 'for every input' (looked for: loops, veiled, ifaces, maps, wideKeys, modest, calm, conditions, laid).
  DERIVED. THE GIVEN ROWS OF THIS SEAT. 8 by the template 'for every input the law returns true; each argument reads behind the call as it read before'; 0 by the template 'total and deterministic' (their statements: YtjfggmkfnofldaaTotals.lean).
  GIVEN WITH THE SEED: the statements are not yours to turn. If you find one false, say at which input.
  Laid BY PROGRAM, IN A SANDBOX (cutbox-rows.mjs): the forced cells as the released guide's own fill.sh prints them over the translation 63e819cdc6b76db0… (all of the seat's roots in one cut). By AI agents, Wed Nov 11 2026. No macro, syntax, notation, axiom, sorry.
-/
import Derived.Test.YtjfggmkfnofldaaChecked
import GoSem.Claim
import GoSem.ClaimJoined
import GoSem.ClaimMapViews
import Derived.JoinedTies
import Derived.KernelRfl
namespace Go.Proofs.Ytjfggmkfnofldaa
/- THE CELL 'sum', in the pinned program and in every row, IS THE sha256 OF THE DUMP (.gsa) THAT YtjfggmkfnofldaaProg.lean LOADS. Nothing in Lean hashes anything: it is a label: what it is worth is what the hold of that sum in a sandbox is worth. -/
noncomputable def Try.pinned : Pinned := { name := "ytjfggmkfnofldaa", sum := "63e819cdc6b76db090e1352b0c1ed0f05b5b2a80863cde39efb45be781c443d2", checked := Try.checked }
namespace Rows
def none {H : Type} : Left H := { results := [], args := [] }

/-- 'icehouselaw07.MergeAll': WHATEVER THE INPUT: true; the input reads as it did. -/
def mergeAllSpec : ChangeSpec := { name := "mergeAll", fn := fun _ => fun
  | [d1, d2, d3] => { results := [.lit (.bool true)], args := [d1, d2, d3] }
  | _ => none }
def mergeAllRow : OpenClaim := { program := "ytjfggmkfnofldaa", sum := "63e819cdc6b76db090e1352b0c1ed0f05b5b2a80863cde39efb45be781c443d2", func := "icehouse/icehouselaw07.MergeAll", spec := "mergeAll", unfollowed := true, recurses := true, apart := false }
def MergeAllSaid : Prop := mergeAllRow.holds Try.pinned (OpenSpec.ofChange mergeAllSpec)

/-- ITS FALSE NEIGHBOUR: 'it returns false'. Refute it at one input. -/
def mergeAllWrong : ChangeSpec := { name := "mergeAll", fn := fun _ => fun
  | [d1, d2, d3] => { results := [.lit (.bool false)], args := [d1, d2, d3] }
  | _ => none }
def MergeAllWrongFalsely : Prop := mergeAllRow.holds Try.pinned (OpenSpec.ofChange mergeAllWrong)

/-- 'icehouselaw07.MergeOne': WHATEVER THE INPUT: true; the input reads as it did. -/
def mergeOneSpec : ChangeSpec := { name := "mergeOne", fn := fun _ => fun
  | [d1, d2] => { results := [.lit (.bool true)], args := [d1, d2] }
  | _ => none }
def mergeOneRow : OpenClaim := { program := "ytjfggmkfnofldaa", sum := "63e819cdc6b76db090e1352b0c1ed0f05b5b2a80863cde39efb45be781c443d2", func := "icehouse/icehouselaw07.MergeOne", spec := "mergeOne", unfollowed := true, recurses := true, apart := false }
def MergeOneSaid : Prop := mergeOneRow.holds Try.pinned (OpenSpec.ofChange mergeOneSpec)

/-- ITS FALSE NEIGHBOUR: 'it returns false'. Refute it at one input. -/
def mergeOneWrong : ChangeSpec := { name := "mergeOne", fn := fun _ => fun
  | [d1, d2] => { results := [.lit (.bool false)], args := [d1, d2] }
  | _ => none }
def MergeOneWrongFalsely : Prop := mergeOneRow.holds Try.pinned (OpenSpec.ofChange mergeOneWrong)

/-- 'icehouselaw07.MergePieces': WHATEVER THE INPUT: true; the input reads as it did. -/
def mergePiecesSpec : ChangeSpec := { name := "mergePieces", fn := fun _ => fun
  | [d1, d2, d3] => { results := [.lit (.bool true)], args := [d1, d2, d3] }
  | _ => none }
def mergePiecesRow : OpenClaim := { program := "ytjfggmkfnofldaa", sum := "63e819cdc6b76db090e1352b0c1ed0f05b5b2a80863cde39efb45be781c443d2", func := "icehouse/icehouselaw07.MergePieces", spec := "mergePieces", unfollowed := true, recurses := true, apart := false }
def MergePiecesSaid : Prop := mergePiecesRow.holds Try.pinned (OpenSpec.ofChange mergePiecesSpec)

/-- ITS FALSE NEIGHBOUR: 'it returns false'. Refute it at one input. -/
def mergePiecesWrong : ChangeSpec := { name := "mergePieces", fn := fun _ => fun
  | [d1, d2, d3] => { results := [.lit (.bool false)], args := [d1, d2, d3] }
  | _ => none }
def MergePiecesWrongFalsely : Prop := mergePiecesRow.holds Try.pinned (OpenSpec.ofChange mergePiecesWrong)

/-- 'icehouselaw07.MergeLimits': WHATEVER THE INPUT: true; the input reads as it did. -/
def mergeLimitsSpec : ChangeSpec := { name := "mergeLimits", fn := fun _ => fun
  | [d1, d2, d3] => { results := [.lit (.bool true)], args := [d1, d2, d3] }
  | _ => none }
def mergeLimitsRow : OpenClaim := { program := "ytjfggmkfnofldaa", sum := "63e819cdc6b76db090e1352b0c1ed0f05b5b2a80863cde39efb45be781c443d2", func := "icehouse/icehouselaw07.MergeLimits", spec := "mergeLimits", unfollowed := true, recurses := true, apart := false }
def MergeLimitsSaid : Prop := mergeLimitsRow.holds Try.pinned (OpenSpec.ofChange mergeLimitsSpec)

/-- ITS FALSE NEIGHBOUR: 'it returns false'. Refute it at one input. -/
def mergeLimitsWrong : ChangeSpec := { name := "mergeLimits", fn := fun _ => fun
  | [d1, d2, d3] => { results := [.lit (.bool false)], args := [d1, d2, d3] }
  | _ => none }
def MergeLimitsWrongFalsely : Prop := mergeLimitsRow.holds Try.pinned (OpenSpec.ofChange mergeLimitsWrong)

/-- 'icehouselaw07.MergeNext': WHATEVER THE INPUT: true; the input reads as it did. -/
def mergeNextSpec : ChangeSpec := { name := "mergeNext", fn := fun _ => fun
  | [d1, d2, d3] => { results := [.lit (.bool true)], args := [d1, d2, d3] }
  | _ => none }
def mergeNextRow : OpenClaim := { program := "ytjfggmkfnofldaa", sum := "63e819cdc6b76db090e1352b0c1ed0f05b5b2a80863cde39efb45be781c443d2", func := "icehouse/icehouselaw07.MergeNext", spec := "mergeNext", unfollowed := true, recurses := true, apart := false }
def MergeNextSaid : Prop := mergeNextRow.holds Try.pinned (OpenSpec.ofChange mergeNextSpec)

/-- ITS FALSE NEIGHBOUR: 'it returns false'. Refute it at one input. -/
def mergeNextWrong : ChangeSpec := { name := "mergeNext", fn := fun _ => fun
  | [d1, d2, d3] => { results := [.lit (.bool false)], args := [d1, d2, d3] }
  | _ => none }
def MergeNextWrongFalsely : Prop := mergeNextRow.holds Try.pinned (OpenSpec.ofChange mergeNextWrong)

/-- 'icehouselaw07.MergeNil': WHATEVER THE INPUT: true; the input reads as it did. -/
def mergeNilSpec : ChangeSpec := { name := "mergeNil", fn := fun _ => fun
  | [] => { results := [.lit (.bool true)], args := [] }
  | _ => none }
def mergeNilRow : OpenClaim := { program := "ytjfggmkfnofldaa", sum := "63e819cdc6b76db090e1352b0c1ed0f05b5b2a80863cde39efb45be781c443d2", func := "icehouse/icehouselaw07.MergeNil", spec := "mergeNil", unfollowed := true, recurses := true, apart := false }
def MergeNilSaid : Prop := mergeNilRow.holds Try.pinned (OpenSpec.ofChange mergeNilSpec)

/-- ITS FALSE NEIGHBOUR: 'it returns false'. Refute it at one input. -/
def mergeNilWrong : ChangeSpec := { name := "mergeNil", fn := fun _ => fun
  | [] => { results := [.lit (.bool false)], args := [] }
  | _ => none }
def MergeNilWrongFalsely : Prop := mergeNilRow.holds Try.pinned (OpenSpec.ofChange mergeNilWrong)

/-- 'icehouselaw07.MergeRows': WHATEVER THE INPUT: true; the input reads as it did. -/
def mergeRowsSpec : ChangeSpec := { name := "mergeRows", fn := fun _ => fun
  | [d1, d2] => { results := [.lit (.bool true)], args := [d1, d2] }
  | _ => none }
def mergeRowsRow : OpenClaim := { program := "ytjfggmkfnofldaa", sum := "63e819cdc6b76db090e1352b0c1ed0f05b5b2a80863cde39efb45be781c443d2", func := "icehouse/icehouselaw07.MergeRows", spec := "mergeRows", unfollowed := true, recurses := true, apart := false }
def MergeRowsSaid : Prop := mergeRowsRow.holds Try.pinned (OpenSpec.ofChange mergeRowsSpec)

/-- ITS FALSE NEIGHBOUR: 'it returns false'. Refute it at one input. -/
def mergeRowsWrong : ChangeSpec := { name := "mergeRows", fn := fun _ => fun
  | [d1, d2] => { results := [.lit (.bool false)], args := [d1, d2] }
  | _ => none }
def MergeRowsWrongFalsely : Prop := mergeRowsRow.holds Try.pinned (OpenSpec.ofChange mergeRowsWrong)

/-- 'icehouselaw07.MergeBoth': WHATEVER THE INPUT: true; the input reads as it did. -/
def mergeBothSpec : ChangeSpec := { name := "mergeBoth", fn := fun _ => fun
  | [d1, d2] => { results := [.lit (.bool true)], args := [d1, d2] }
  | _ => none }
def mergeBothRow : OpenClaim := { program := "ytjfggmkfnofldaa", sum := "63e819cdc6b76db090e1352b0c1ed0f05b5b2a80863cde39efb45be781c443d2", func := "icehouse/icehouselaw07.MergeBoth", spec := "mergeBoth", unfollowed := true, recurses := true, apart := false }
def MergeBothSaid : Prop := mergeBothRow.holds Try.pinned (OpenSpec.ofChange mergeBothSpec)

/-- ITS FALSE NEIGHBOUR: 'it returns false'. Refute it at one input. -/
def mergeBothWrong : ChangeSpec := { name := "mergeBoth", fn := fun _ => fun
  | [d1, d2] => { results := [.lit (.bool false)], args := [d1, d2] }
  | _ => none }
def MergeBothWrongFalsely : Prop := mergeBothRow.holds Try.pinned (OpenSpec.ofChange mergeBothWrong)

/- THE SECOND FORM. 'bulk': how many values and letters a reading holds, each counted each time it is reached (what is shared counts as often as it is met; a slice's spare places count too). A statement '..UptoSaid' is the law's where the arguments, and the package variables that the reading takes, are together of bulk at most 1048576: NARROWER than '..Said'. Prove '..Said' where nothing that the law and all that it calls make is longer than what came in: it says more and counts as full. Else prove '..UptoSaid'. A law counts once. -/
mutual
def uptoBulk {H : Type} : DataW H → Nat
  | .lit (.string bytes) => bytes.length + 1
  | .lit _ => 1
  | .nil => 1
  | .ptr d => uptoBulk d + 1
  | .slice elems spare => uptoBulkAll elems + uptoBulkAll spare + 1
  | .agg parts => uptoBulkAll parts + 1
  | .iface _ d => uptoBulk d + 1
  | .map entries => uptoBulkEntries entries + 1
  | .held _ => 1
def uptoBulkAll {H : Type} : List (DataW H) → Nat
  | [] => 0
  | d :: r => uptoBulk d + uptoBulkAll r
def uptoBulkEntries {H : Type} : List (Lit × DataW H) → Nat
  | [] => 0
  | x :: r => uptoBulkEntry x + uptoBulkEntries r
def uptoBulkEntry {H : Type} : Lit × DataW H → Nat
  | (.string bytes, d) => bytes.length + uptoBulk d + 1
  | (_, d) => uptoBulk d + 1
 end
def uptoSmall : (H : Type) → List (DataW H) → Bool := fun _ ds => decide (uptoBulkAll ds ≤ 1048576)
def OpenSpec.upto (s : _root_.Go.ChangeSpec) : _root_.Go.OpenSpec := { _root_.Go.OpenSpec.ofChange s with cond := some uptoSmall }

/-- 'icehouselaw07.MergeAll', WHERE WHAT IT READS IS OF BULK AT MOST 1048576: true; the input reads as it did. -/
def mergeAllUptoRow : OpenClaim := { program := "ytjfggmkfnofldaa", sum := "63e819cdc6b76db090e1352b0c1ed0f05b5b2a80863cde39efb45be781c443d2", func := "icehouse/icehouselaw07.MergeAll", spec := "mergeAll", unfollowed := true, recurses := true, apart := false, narrowed := true }
def MergeAllUptoSaid : Prop := mergeAllUptoRow.holds Try.pinned (OpenSpec.upto mergeAllSpec)

/-- 'icehouselaw07.MergeOne', WHERE WHAT IT READS IS OF BULK AT MOST 1048576: true; the input reads as it did. -/
def mergeOneUptoRow : OpenClaim := { program := "ytjfggmkfnofldaa", sum := "63e819cdc6b76db090e1352b0c1ed0f05b5b2a80863cde39efb45be781c443d2", func := "icehouse/icehouselaw07.MergeOne", spec := "mergeOne", unfollowed := true, recurses := true, apart := false, narrowed := true }
def MergeOneUptoSaid : Prop := mergeOneUptoRow.holds Try.pinned (OpenSpec.upto mergeOneSpec)

/-- 'icehouselaw07.MergePieces', WHERE WHAT IT READS IS OF BULK AT MOST 1048576: true; the input reads as it did. -/
def mergePiecesUptoRow : OpenClaim := { program := "ytjfggmkfnofldaa", sum := "63e819cdc6b76db090e1352b0c1ed0f05b5b2a80863cde39efb45be781c443d2", func := "icehouse/icehouselaw07.MergePieces", spec := "mergePieces", unfollowed := true, recurses := true, apart := false, narrowed := true }
def MergePiecesUptoSaid : Prop := mergePiecesUptoRow.holds Try.pinned (OpenSpec.upto mergePiecesSpec)

/-- 'icehouselaw07.MergeLimits', WHERE WHAT IT READS IS OF BULK AT MOST 1048576: true; the input reads as it did. -/
def mergeLimitsUptoRow : OpenClaim := { program := "ytjfggmkfnofldaa", sum := "63e819cdc6b76db090e1352b0c1ed0f05b5b2a80863cde39efb45be781c443d2", func := "icehouse/icehouselaw07.MergeLimits", spec := "mergeLimits", unfollowed := true, recurses := true, apart := false, narrowed := true }
def MergeLimitsUptoSaid : Prop := mergeLimitsUptoRow.holds Try.pinned (OpenSpec.upto mergeLimitsSpec)

/-- 'icehouselaw07.MergeNext', WHERE WHAT IT READS IS OF BULK AT MOST 1048576: true; the input reads as it did. -/
def mergeNextUptoRow : OpenClaim := { program := "ytjfggmkfnofldaa", sum := "63e819cdc6b76db090e1352b0c1ed0f05b5b2a80863cde39efb45be781c443d2", func := "icehouse/icehouselaw07.MergeNext", spec := "mergeNext", unfollowed := true, recurses := true, apart := false, narrowed := true }
def MergeNextUptoSaid : Prop := mergeNextUptoRow.holds Try.pinned (OpenSpec.upto mergeNextSpec)

/-- 'icehouselaw07.MergeNil', WHERE WHAT IT READS IS OF BULK AT MOST 1048576: true; the input reads as it did. -/
def mergeNilUptoRow : OpenClaim := { program := "ytjfggmkfnofldaa", sum := "63e819cdc6b76db090e1352b0c1ed0f05b5b2a80863cde39efb45be781c443d2", func := "icehouse/icehouselaw07.MergeNil", spec := "mergeNil", unfollowed := true, recurses := true, apart := false, narrowed := true }
def MergeNilUptoSaid : Prop := mergeNilUptoRow.holds Try.pinned (OpenSpec.upto mergeNilSpec)

/-- 'icehouselaw07.MergeRows', WHERE WHAT IT READS IS OF BULK AT MOST 1048576: true; the input reads as it did. -/
def mergeRowsUptoRow : OpenClaim := { program := "ytjfggmkfnofldaa", sum := "63e819cdc6b76db090e1352b0c1ed0f05b5b2a80863cde39efb45be781c443d2", func := "icehouse/icehouselaw07.MergeRows", spec := "mergeRows", unfollowed := true, recurses := true, apart := false, narrowed := true }
def MergeRowsUptoSaid : Prop := mergeRowsUptoRow.holds Try.pinned (OpenSpec.upto mergeRowsSpec)

/-- 'icehouselaw07.MergeBoth', WHERE WHAT IT READS IS OF BULK AT MOST 1048576: true; the input reads as it did. -/
def mergeBothUptoRow : OpenClaim := { program := "ytjfggmkfnofldaa", sum := "63e819cdc6b76db090e1352b0c1ed0f05b5b2a80863cde39efb45be781c443d2", func := "icehouse/icehouselaw07.MergeBoth", spec := "mergeBoth", unfollowed := true, recurses := true, apart := false, narrowed := true }
def MergeBothUptoSaid : Prop := mergeBothUptoRow.holds Try.pinned (OpenSpec.upto mergeBothSpec)

end Rows
end Go.Proofs.Ytjfggmkfnofldaa
