/-
  No cell of these rows narrows 'for every input' (looked for: loops, veiled, ifaces, maps, wideKeys, modest, calm, conditions, laid).
  DERIVED. THE GIVEN ROWS OF THIS SEAT. 11 by the template 'for every input the law returns true; each argument reads behind the call as it read before'; 0 by the template 'total and deterministic' (their statements: YtopeodclfooclaaTotals.lean).
  GIVEN WITH THE SEED: the statements are not yours to turn. If you find one false, say at which input.
  Laid BY PROGRAM, IN A SANDBOX (cutbox-rows.mjs): the forced cells as the released guide's own fill.sh prints them over the translation 9286c0ea84f3931a… (all of the seat's roots in one cut). By AI agents, Wed Nov 11 2026. No macro, syntax, notation, axiom, sorry.
-/
import Derived.Test.YtopeodclfooclaaChecked
import GoSem.Claim
import GoSem.ClaimJoined
import GoSem.ClaimMapViews
import Derived.JoinedTies
import Derived.KernelRfl
namespace Go.Proofs.Ytopeodclfooclaa
/- THE CELL 'sum', in the pinned program and in every row, IS THE sha256 OF THE DUMP (.gsa) THAT YtopeodclfooclaaProg.lean LOADS. Nothing in Lean hashes anything: it is a label: what it is worth is what the hold of that sum in a sandbox is worth. -/
noncomputable def Try.pinned : Pinned := { name := "ytopeodclfooclaa", sum := "9286c0ea84f3931a3f59399b3da6c3034f48706aef4e0610356d4e59c69dfcca", checked := Try.checked }
namespace Rows
def none {H : Type} : Left H := { results := [], args := [] }

/-- 'octavolaw28.TreeWays': WHATEVER THE INPUT: true; the input reads as it did. -/
def treeWaysSpec : ChangeSpec := { name := "treeWays", fn := fun _ => fun
  | [d] => { results := [.lit (.bool true)], args := [d] }
  | _ => none }
def treeWaysRow : OpenClaim := { program := "ytopeodclfooclaa", sum := "9286c0ea84f3931a3f59399b3da6c3034f48706aef4e0610356d4e59c69dfcca", func := "octavo/octavolaw28.TreeWays", spec := "treeWays", unfollowed := true, recurses := true, plainKeys := false, apart := false }
def TreeWaysSaid : Prop := treeWaysRow.holds Try.pinned (OpenSpec.ofChange treeWaysSpec)

/-- ITS FALSE NEIGHBOUR: 'it returns false'. Refute it at one input. -/
def treeWaysWrong : ChangeSpec := { name := "treeWays", fn := fun _ => fun
  | [d] => { results := [.lit (.bool false)], args := [d] }
  | _ => none }
def TreeWaysWrongFalsely : Prop := treeWaysRow.holds Try.pinned (OpenSpec.ofChange treeWaysWrong)

/-- 'octavolaw21.SnapAll': WHATEVER THE INPUT: true; the input reads as it did. -/
def snapAllSpec : ChangeSpec := { name := "snapAll", fn := fun _ => fun
  | [d] => { results := [.lit (.bool true)], args := [d] }
  | _ => none }
def snapAllRow : OpenClaim := { program := "ytopeodclfooclaa", sum := "9286c0ea84f3931a3f59399b3da6c3034f48706aef4e0610356d4e59c69dfcca", func := "octavo/octavolaw21.SnapAll", spec := "snapAll", plainKeys := false, apart := false }
def SnapAllSaid : Prop := snapAllRow.holds Try.pinned (OpenSpec.ofChange snapAllSpec)

/-- ITS FALSE NEIGHBOUR: 'it returns false'. Refute it at one input. -/
def snapAllWrong : ChangeSpec := { name := "snapAll", fn := fun _ => fun
  | [d] => { results := [.lit (.bool false)], args := [d] }
  | _ => none }
def SnapAllWrongFalsely : Prop := snapAllRow.holds Try.pinned (OpenSpec.ofChange snapAllWrong)

/-- 'octavolaw30.ModelNames': WHATEVER THE INPUT: true; the input reads as it did. -/
def modelNamesSpec : ChangeSpec := { name := "modelNames", fn := fun _ => fun
  | [] => { results := [.lit (.bool true)], args := [] }
  | _ => none }
def modelNamesRow : OpenClaim := { program := "ytopeodclfooclaa", sum := "9286c0ea84f3931a3f59399b3da6c3034f48706aef4e0610356d4e59c69dfcca", func := "octavo/octavolaw30.ModelNames", spec := "modelNames", unfollowed := true, recurses := true, plainKeys := false, apart := false }
def ModelNamesSaid : Prop := modelNamesRow.holds Try.pinned (OpenSpec.ofChange modelNamesSpec)

/-- ITS FALSE NEIGHBOUR: 'it returns false'. Refute it at one input. -/
def modelNamesWrong : ChangeSpec := { name := "modelNames", fn := fun _ => fun
  | [] => { results := [.lit (.bool false)], args := [] }
  | _ => none }
def ModelNamesWrongFalsely : Prop := modelNamesRow.holds Try.pinned (OpenSpec.ofChange modelNamesWrong)

/-- 'octavolaw30.ModelTells': WHATEVER THE INPUT: true; the input reads as it did. -/
def modelTellsSpec : ChangeSpec := { name := "modelTells", fn := fun _ => fun
  | [d1, d2] => { results := [.lit (.bool true)], args := [d1, d2] }
  | _ => none }
def modelTellsRow : OpenClaim := { program := "ytopeodclfooclaa", sum := "9286c0ea84f3931a3f59399b3da6c3034f48706aef4e0610356d4e59c69dfcca", func := "octavo/octavolaw30.ModelTells", spec := "modelTells", unfollowed := true, recurses := true, plainKeys := false, apart := false }
def ModelTellsSaid : Prop := modelTellsRow.holds Try.pinned (OpenSpec.ofChange modelTellsSpec)

/-- ITS FALSE NEIGHBOUR: 'it returns false'. Refute it at one input. -/
def modelTellsWrong : ChangeSpec := { name := "modelTells", fn := fun _ => fun
  | [d1, d2] => { results := [.lit (.bool false)], args := [d1, d2] }
  | _ => none }
def ModelTellsWrongFalsely : Prop := modelTellsRow.holds Try.pinned (OpenSpec.ofChange modelTellsWrong)

/-- 'octavolaw12.MarksOrder': WHATEVER THE INPUT: true; the input reads as it did. -/
def marksOrderSpec : ChangeSpec := { name := "marksOrder", fn := fun _ => fun
  | [d1, d2] => { results := [.lit (.bool true)], args := [d1, d2] }
  | _ => none }
def marksOrderRow : OpenClaim := { program := "ytopeodclfooclaa", sum := "9286c0ea84f3931a3f59399b3da6c3034f48706aef4e0610356d4e59c69dfcca", func := "octavo/octavolaw12.MarksOrder", spec := "marksOrder", unfollowed := true, recurses := true, plainKeys := false, apart := false }
def MarksOrderSaid : Prop := marksOrderRow.holds Try.pinned (OpenSpec.ofChange marksOrderSpec)

/-- ITS FALSE NEIGHBOUR: 'it returns false'. Refute it at one input. -/
def marksOrderWrong : ChangeSpec := { name := "marksOrder", fn := fun _ => fun
  | [d1, d2] => { results := [.lit (.bool false)], args := [d1, d2] }
  | _ => none }
def MarksOrderWrongFalsely : Prop := marksOrderRow.holds Try.pinned (OpenSpec.ofChange marksOrderWrong)

/-- 'octavolaw12.MarksGrow': WHATEVER THE INPUT: true; the input reads as it did. -/
def marksGrowSpec : ChangeSpec := { name := "marksGrow", fn := fun _ => fun
  | [d1, d2] => { results := [.lit (.bool true)], args := [d1, d2] }
  | _ => none }
def marksGrowRow : OpenClaim := { program := "ytopeodclfooclaa", sum := "9286c0ea84f3931a3f59399b3da6c3034f48706aef4e0610356d4e59c69dfcca", func := "octavo/octavolaw12.MarksGrow", spec := "marksGrow", inPlace := ["slices.overlaps[octavo/api.Op]"], unfollowed := true, recurses := true, plainKeys := false, apart := false }
def MarksGrowSaid : Prop := marksGrowRow.holds Try.pinned (OpenSpec.ofChange marksGrowSpec)

/-- ITS FALSE NEIGHBOUR: 'it returns false'. Refute it at one input. -/
def marksGrowWrong : ChangeSpec := { name := "marksGrow", fn := fun _ => fun
  | [d1, d2] => { results := [.lit (.bool false)], args := [d1, d2] }
  | _ => none }
def MarksGrowWrongFalsely : Prop := marksGrowRow.holds Try.pinned (OpenSpec.ofChange marksGrowWrong)

/-- 'octavolaw14.CoverAll': WHATEVER THE INPUT: true; the input reads as it did. -/
def coverAllSpec : ChangeSpec := { name := "coverAll", fn := fun _ => fun
  | [d] => { results := [.lit (.bool true)], args := [d] }
  | _ => none }
def coverAllRow : OpenClaim := { program := "ytopeodclfooclaa", sum := "9286c0ea84f3931a3f59399b3da6c3034f48706aef4e0610356d4e59c69dfcca", func := "octavo/octavolaw14.CoverAll", spec := "coverAll", unfollowed := true, recurses := true, plainKeys := false, apart := false }
def CoverAllSaid : Prop := coverAllRow.holds Try.pinned (OpenSpec.ofChange coverAllSpec)

/-- ITS FALSE NEIGHBOUR: 'it returns false'. Refute it at one input. -/
def coverAllWrong : ChangeSpec := { name := "coverAll", fn := fun _ => fun
  | [d] => { results := [.lit (.bool false)], args := [d] }
  | _ => none }
def CoverAllWrongFalsely : Prop := coverAllRow.holds Try.pinned (OpenSpec.ofChange coverAllWrong)

/-- 'octavolaw15.ViewNames': WHATEVER THE INPUT: true; the input reads as it did. -/
def viewNamesSpec : ChangeSpec := { name := "viewNames", fn := fun _ => fun
  | [] => { results := [.lit (.bool true)], args := [] }
  | _ => none }
def viewNamesRow : OpenClaim := { program := "ytopeodclfooclaa", sum := "9286c0ea84f3931a3f59399b3da6c3034f48706aef4e0610356d4e59c69dfcca", func := "octavo/octavolaw15.ViewNames", spec := "viewNames", inPlace := ["internal/abi.NoEscape"], unfollowed := true, recurses := true, plainKeys := false, apart := false }
def ViewNamesSaid : Prop := viewNamesRow.holds Try.pinned (OpenSpec.ofChange viewNamesSpec)

/-- ITS FALSE NEIGHBOUR: 'it returns false'. Refute it at one input. -/
def viewNamesWrong : ChangeSpec := { name := "viewNames", fn := fun _ => fun
  | [] => { results := [.lit (.bool false)], args := [] }
  | _ => none }
def ViewNamesWrongFalsely : Prop := viewNamesRow.holds Try.pinned (OpenSpec.ofChange viewNamesWrong)

/-- 'octavolaw15.ViewOrder': WHATEVER THE INPUT: true; the input reads as it did. -/
def viewOrderSpec : ChangeSpec := { name := "viewOrder", fn := fun _ => fun
  | [d] => { results := [.lit (.bool true)], args := [d] }
  | _ => none }
def viewOrderRow : OpenClaim := { program := "ytopeodclfooclaa", sum := "9286c0ea84f3931a3f59399b3da6c3034f48706aef4e0610356d4e59c69dfcca", func := "octavo/octavolaw15.ViewOrder", spec := "viewOrder", inPlace := ["internal/abi.NoEscape"], unfollowed := true, recurses := true, plainKeys := false, apart := false }
def ViewOrderSaid : Prop := viewOrderRow.holds Try.pinned (OpenSpec.ofChange viewOrderSpec)

/-- ITS FALSE NEIGHBOUR: 'it returns false'. Refute it at one input. -/
def viewOrderWrong : ChangeSpec := { name := "viewOrder", fn := fun _ => fun
  | [d] => { results := [.lit (.bool false)], args := [d] }
  | _ => none }
def ViewOrderWrongFalsely : Prop := viewOrderRow.holds Try.pinned (OpenSpec.ofChange viewOrderWrong)

/-- 'octavolaw15.ViewJoin': WHATEVER THE INPUT: true; the input reads as it did. -/
def viewJoinSpec : ChangeSpec := { name := "viewJoin", fn := fun _ => fun
  | [d1, d2] => { results := [.lit (.bool true)], args := [d1, d2] }
  | _ => none }
def viewJoinRow : OpenClaim := { program := "ytopeodclfooclaa", sum := "9286c0ea84f3931a3f59399b3da6c3034f48706aef4e0610356d4e59c69dfcca", func := "octavo/octavolaw15.ViewJoin", spec := "viewJoin", inPlace := ["internal/abi.NoEscape"], unfollowed := true, recurses := true, plainKeys := false, apart := false }
def ViewJoinSaid : Prop := viewJoinRow.holds Try.pinned (OpenSpec.ofChange viewJoinSpec)

/-- ITS FALSE NEIGHBOUR: 'it returns false'. Refute it at one input. -/
def viewJoinWrong : ChangeSpec := { name := "viewJoin", fn := fun _ => fun
  | [d1, d2] => { results := [.lit (.bool false)], args := [d1, d2] }
  | _ => none }
def ViewJoinWrongFalsely : Prop := viewJoinRow.holds Try.pinned (OpenSpec.ofChange viewJoinWrong)

/-- 'octavolaw30.ModelClose': WHATEVER THE INPUT: true; the input reads as it did. -/
def modelCloseSpec : ChangeSpec := { name := "modelClose", fn := fun _ => fun
  | [d1, d2] => { results := [.lit (.bool true)], args := [d1, d2] }
  | _ => none }
def modelCloseRow : OpenClaim := { program := "ytopeodclfooclaa", sum := "9286c0ea84f3931a3f59399b3da6c3034f48706aef4e0610356d4e59c69dfcca", func := "octavo/octavolaw30.ModelClose", spec := "modelClose", unfollowed := true, recurses := true, plainKeys := false, apart := false }
def ModelCloseSaid : Prop := modelCloseRow.holds Try.pinned (OpenSpec.ofChange modelCloseSpec)

/-- ITS FALSE NEIGHBOUR: 'it returns false'. Refute it at one input. -/
def modelCloseWrong : ChangeSpec := { name := "modelClose", fn := fun _ => fun
  | [d1, d2] => { results := [.lit (.bool false)], args := [d1, d2] }
  | _ => none }
def ModelCloseWrongFalsely : Prop := modelCloseRow.holds Try.pinned (OpenSpec.ofChange modelCloseWrong)

/- THE SECOND FORM. 'bulk': how many values and letters a reading holds, each counted each time it is reached (what is shared counts as often as it is met; a slice's spare places count too). A statement '..UptoSaid' is the law's where the arguments, and the package variables that the reading takes, are together of bulk at most 1048576: NARROWER than '..Said'. Prove '..Said' where nothing that the law and all that it calls make is longer than what came in: it says more and counts as full. Else prove '..UptoSaid'. A law counts once. -/
mutual
def uptoBulk {H : Type} : DataW H → Nat
  | .lit (.string bytes) => bytes.length + 1
  | .lit _ => 1
  | .nil => 1
  | .ptr d => uptoBulk d + 1
  | .slice elems spare => uptoBulkAll elems + uptoBulkAll spare + 1
  | .agg parts => uptoBulkAll parts + 1
  | .iface _ d => uptoBulk d + 1
  | .map entries => uptoBulkEntries entries + 1
  | .held _ => 1
def uptoBulkAll {H : Type} : List (DataW H) → Nat
  | [] => 0
  | d :: r => uptoBulk d + uptoBulkAll r
def uptoBulkEntries {H : Type} : List (Lit × DataW H) → Nat
  | [] => 0
  | x :: r => uptoBulkEntry x + uptoBulkEntries r
def uptoBulkEntry {H : Type} : Lit × DataW H → Nat
  | (.string bytes, d) => bytes.length + uptoBulk d + 1
  | (_, d) => uptoBulk d + 1
 end
def uptoSmall : (H : Type) → List (DataW H) → Bool := fun _ ds => decide (uptoBulkAll ds ≤ 1048576)
def OpenSpec.upto (s : _root_.Go.ChangeSpec) : _root_.Go.OpenSpec := { _root_.Go.OpenSpec.ofChange s with cond := some uptoSmall }

/-- 'octavolaw28.TreeWays', WHERE WHAT IT READS IS OF BULK AT MOST 1048576: true; the input reads as it did. -/
def treeWaysUptoRow : OpenClaim := { program := "ytopeodclfooclaa", sum := "9286c0ea84f3931a3f59399b3da6c3034f48706aef4e0610356d4e59c69dfcca", func := "octavo/octavolaw28.TreeWays", spec := "treeWays", unfollowed := true, recurses := true, plainKeys := false, apart := false, narrowed := true }
def TreeWaysUptoSaid : Prop := treeWaysUptoRow.holds Try.pinned (OpenSpec.upto treeWaysSpec)

/-- 'octavolaw21.SnapAll', WHERE WHAT IT READS IS OF BULK AT MOST 1048576: true; the input reads as it did. -/
def snapAllUptoRow : OpenClaim := { program := "ytopeodclfooclaa", sum := "9286c0ea84f3931a3f59399b3da6c3034f48706aef4e0610356d4e59c69dfcca", func := "octavo/octavolaw21.SnapAll", spec := "snapAll", plainKeys := false, apart := false, narrowed := true }
def SnapAllUptoSaid : Prop := snapAllUptoRow.holds Try.pinned (OpenSpec.upto snapAllSpec)

/-- 'octavolaw30.ModelNames', WHERE WHAT IT READS IS OF BULK AT MOST 1048576: true; the input reads as it did. -/
def modelNamesUptoRow : OpenClaim := { program := "ytopeodclfooclaa", sum := "9286c0ea84f3931a3f59399b3da6c3034f48706aef4e0610356d4e59c69dfcca", func := "octavo/octavolaw30.ModelNames", spec := "modelNames", unfollowed := true, recurses := true, plainKeys := false, apart := false, narrowed := true }
def ModelNamesUptoSaid : Prop := modelNamesUptoRow.holds Try.pinned (OpenSpec.upto modelNamesSpec)

/-- 'octavolaw30.ModelTells', WHERE WHAT IT READS IS OF BULK AT MOST 1048576: true; the input reads as it did. -/
def modelTellsUptoRow : OpenClaim := { program := "ytopeodclfooclaa", sum := "9286c0ea84f3931a3f59399b3da6c3034f48706aef4e0610356d4e59c69dfcca", func := "octavo/octavolaw30.ModelTells", spec := "modelTells", unfollowed := true, recurses := true, plainKeys := false, apart := false, narrowed := true }
def ModelTellsUptoSaid : Prop := modelTellsUptoRow.holds Try.pinned (OpenSpec.upto modelTellsSpec)

/-- 'octavolaw12.MarksOrder', WHERE WHAT IT READS IS OF BULK AT MOST 1048576: true; the input reads as it did. -/
def marksOrderUptoRow : OpenClaim := { program := "ytopeodclfooclaa", sum := "9286c0ea84f3931a3f59399b3da6c3034f48706aef4e0610356d4e59c69dfcca", func := "octavo/octavolaw12.MarksOrder", spec := "marksOrder", unfollowed := true, recurses := true, plainKeys := false, apart := false, narrowed := true }
def MarksOrderUptoSaid : Prop := marksOrderUptoRow.holds Try.pinned (OpenSpec.upto marksOrderSpec)

/-- 'octavolaw12.MarksGrow', WHERE WHAT IT READS IS OF BULK AT MOST 1048576: true; the input reads as it did. -/
def marksGrowUptoRow : OpenClaim := { program := "ytopeodclfooclaa", sum := "9286c0ea84f3931a3f59399b3da6c3034f48706aef4e0610356d4e59c69dfcca", func := "octavo/octavolaw12.MarksGrow", spec := "marksGrow", inPlace := ["slices.overlaps[octavo/api.Op]"], unfollowed := true, recurses := true, plainKeys := false, apart := false, narrowed := true }
def MarksGrowUptoSaid : Prop := marksGrowUptoRow.holds Try.pinned (OpenSpec.upto marksGrowSpec)

/-- 'octavolaw14.CoverAll', WHERE WHAT IT READS IS OF BULK AT MOST 1048576: true; the input reads as it did. -/
def coverAllUptoRow : OpenClaim := { program := "ytopeodclfooclaa", sum := "9286c0ea84f3931a3f59399b3da6c3034f48706aef4e0610356d4e59c69dfcca", func := "octavo/octavolaw14.CoverAll", spec := "coverAll", unfollowed := true, recurses := true, plainKeys := false, apart := false, narrowed := true }
def CoverAllUptoSaid : Prop := coverAllUptoRow.holds Try.pinned (OpenSpec.upto coverAllSpec)

/-- 'octavolaw15.ViewNames', WHERE WHAT IT READS IS OF BULK AT MOST 1048576: true; the input reads as it did. -/
def viewNamesUptoRow : OpenClaim := { program := "ytopeodclfooclaa", sum := "9286c0ea84f3931a3f59399b3da6c3034f48706aef4e0610356d4e59c69dfcca", func := "octavo/octavolaw15.ViewNames", spec := "viewNames", inPlace := ["internal/abi.NoEscape"], unfollowed := true, recurses := true, plainKeys := false, apart := false, narrowed := true }
def ViewNamesUptoSaid : Prop := viewNamesUptoRow.holds Try.pinned (OpenSpec.upto viewNamesSpec)

/-- 'octavolaw15.ViewOrder', WHERE WHAT IT READS IS OF BULK AT MOST 1048576: true; the input reads as it did. -/
def viewOrderUptoRow : OpenClaim := { program := "ytopeodclfooclaa", sum := "9286c0ea84f3931a3f59399b3da6c3034f48706aef4e0610356d4e59c69dfcca", func := "octavo/octavolaw15.ViewOrder", spec := "viewOrder", inPlace := ["internal/abi.NoEscape"], unfollowed := true, recurses := true, plainKeys := false, apart := false, narrowed := true }
def ViewOrderUptoSaid : Prop := viewOrderUptoRow.holds Try.pinned (OpenSpec.upto viewOrderSpec)

/-- 'octavolaw15.ViewJoin', WHERE WHAT IT READS IS OF BULK AT MOST 1048576: true; the input reads as it did. -/
def viewJoinUptoRow : OpenClaim := { program := "ytopeodclfooclaa", sum := "9286c0ea84f3931a3f59399b3da6c3034f48706aef4e0610356d4e59c69dfcca", func := "octavo/octavolaw15.ViewJoin", spec := "viewJoin", inPlace := ["internal/abi.NoEscape"], unfollowed := true, recurses := true, plainKeys := false, apart := false, narrowed := true }
def ViewJoinUptoSaid : Prop := viewJoinUptoRow.holds Try.pinned (OpenSpec.upto viewJoinSpec)

/-- 'octavolaw30.ModelClose', WHERE WHAT IT READS IS OF BULK AT MOST 1048576: true; the input reads as it did. -/
def modelCloseUptoRow : OpenClaim := { program := "ytopeodclfooclaa", sum := "9286c0ea84f3931a3f59399b3da6c3034f48706aef4e0610356d4e59c69dfcca", func := "octavo/octavolaw30.ModelClose", spec := "modelClose", unfollowed := true, recurses := true, plainKeys := false, apart := false, narrowed := true }
def ModelCloseUptoSaid : Prop := modelCloseUptoRow.holds Try.pinned (OpenSpec.upto modelCloseSpec)

end Rows
end Go.Proofs.Ytopeodclfooclaa
