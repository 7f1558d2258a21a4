/-
  No cell of these rows narrows 'for every input' (looked for: loops, veiled, ifaces, maps, wideKeys, modest, calm, conditions, laid).
  DERIVED. THE GIVEN ROWS OF THIS SEAT. 9 by the template 'for every input the law returns true; each argument reads behind the call as it read before'; 0 by the template 'total and deterministic' (their statements: YthknfcfdoccadaaGreatTotals.lean).
  GIVEN WITH THE SEED: the statements are not yours to turn. If you find one false, say at which input.
  Laid BY PROGRAM, IN A SANDBOX (cutbox-rows.mjs): the forced cells as the released guide's own fill.sh prints them over the translation c8a61d439cecfb45… (all of the seat's roots in one cut). By AI agents, Wed Nov 11 2026. No macro, syntax, notation, axiom, sorry.
-/
import Derived.Test.YthknfcfdoccadaaGreatChecked
import GoSem.Claim
import GoSem.ClaimJoined
import GoSem.ClaimMapViews
import Derived.JoinedTies
import Derived.KernelRfl
namespace Go.Proofs.YthknfcfdoccadaaGreat
/- THE CELL 'sum', in the pinned program and in every row, IS THE sha256 OF THE DUMP (.gsa) THAT YthknfcfdoccadaaGreatProg.lean LOADS. Nothing in Lean hashes anything: it is a label: what it is worth is what the hold of that sum in a sandbox is worth. -/
noncomputable def Tryz.pinned : Pinned := { name := "ythknfcfdoccadaagreat", sum := "c8a61d439cecfb45dab057a3b487ee2066405fe6929e78d7a2ee81850ff1f19c", checked := Tryz.checked }
namespace Rows
def none {H : Type} : Left H := { results := [], args := [] }

/-- 'octavolaw15.ViewEqual': WHATEVER THE INPUT: true; the input reads as it did. -/
def viewEqualSpec : ChangeSpec := { name := "viewEqual", fn := fun _ => fun
  | [d1, d2, d3] => { results := [.lit (.bool true)], args := [d1, d2, d3] }
  | _ => none }
def viewEqualRow : OpenClaim := { program := "ythknfcfdoccadaagreat", sum := "c8a61d439cecfb45dab057a3b487ee2066405fe6929e78d7a2ee81850ff1f19c", func := "octavo/octavolaw15.ViewEqual", spec := "viewEqual", inPlace := ["internal/abi.NoEscape"], unfollowed := true, recurses := true, plainKeys := false, apart := false }
def ViewEqualSaid : Prop := viewEqualRow.holds Tryz.pinned (OpenSpec.ofChange viewEqualSpec)

/-- ITS FALSE NEIGHBOUR: 'it returns false'. Refute it at one input. -/
def viewEqualWrong : ChangeSpec := { name := "viewEqual", fn := fun _ => fun
  | [d1, d2, d3] => { results := [.lit (.bool false)], args := [d1, d2, d3] }
  | _ => none }
def ViewEqualWrongFalsely : Prop := viewEqualRow.holds Tryz.pinned (OpenSpec.ofChange viewEqualWrong)

/-- 'octavolaw14.CoverClosed': WHATEVER THE INPUT: true; the input reads as it did. -/
def coverClosedSpec : ChangeSpec := { name := "coverClosed", fn := fun _ => fun
  | [d1, d2] => { results := [.lit (.bool true)], args := [d1, d2] }
  | _ => none }
def coverClosedRow : OpenClaim := { program := "ythknfcfdoccadaagreat", sum := "c8a61d439cecfb45dab057a3b487ee2066405fe6929e78d7a2ee81850ff1f19c", func := "octavo/octavolaw14.CoverClosed", spec := "coverClosed", unfollowed := true, recurses := true, plainKeys := false, apart := false }
def CoverClosedSaid : Prop := coverClosedRow.holds Tryz.pinned (OpenSpec.ofChange coverClosedSpec)

/-- ITS FALSE NEIGHBOUR: 'it returns false'. Refute it at one input. -/
def coverClosedWrong : ChangeSpec := { name := "coverClosed", fn := fun _ => fun
  | [d1, d2] => { results := [.lit (.bool false)], args := [d1, d2] }
  | _ => none }
def CoverClosedWrongFalsely : Prop := coverClosedRow.holds Tryz.pinned (OpenSpec.ofChange coverClosedWrong)

/-- 'octavolaw14.CoverGrows': WHATEVER THE INPUT: true; the input reads as it did. -/
def coverGrowsSpec : ChangeSpec := { name := "coverGrows", fn := fun _ => fun
  | [d1, d2, d3] => { results := [.lit (.bool true)], args := [d1, d2, d3] }
  | _ => none }
def coverGrowsRow : OpenClaim := { program := "ythknfcfdoccadaagreat", sum := "c8a61d439cecfb45dab057a3b487ee2066405fe6929e78d7a2ee81850ff1f19c", func := "octavo/octavolaw14.CoverGrows", spec := "coverGrows", inPlace := ["slices.overlaps[octavo/api.Op]"], unfollowed := true, recurses := true, plainKeys := false, apart := false }
def CoverGrowsSaid : Prop := coverGrowsRow.holds Tryz.pinned (OpenSpec.ofChange coverGrowsSpec)

/-- ITS FALSE NEIGHBOUR: 'it returns false'. Refute it at one input. -/
def coverGrowsWrong : ChangeSpec := { name := "coverGrows", fn := fun _ => fun
  | [d1, d2, d3] => { results := [.lit (.bool false)], args := [d1, d2, d3] }
  | _ => none }
def CoverGrowsWrongFalsely : Prop := coverGrowsRow.holds Tryz.pinned (OpenSpec.ofChange coverGrowsWrong)

/-- 'octavolaw21.SnapWhole': WHATEVER THE INPUT: true; the input reads as it did. -/
def snapWholeSpec : ChangeSpec := { name := "snapWhole", fn := fun _ => fun
  | [d1, d2] => { results := [.lit (.bool true)], args := [d1, d2] }
  | _ => none }
def snapWholeRow : OpenClaim := { program := "ythknfcfdoccadaagreat", sum := "c8a61d439cecfb45dab057a3b487ee2066405fe6929e78d7a2ee81850ff1f19c", func := "octavo/octavolaw21.SnapWhole", spec := "snapWhole", inPlace := ["slices.overlaps[octavo/api.Op]"], unfollowed := true, recurses := true, plainKeys := false, apart := false }
def SnapWholeSaid : Prop := snapWholeRow.holds Tryz.pinned (OpenSpec.ofChange snapWholeSpec)

/-- ITS FALSE NEIGHBOUR: 'it returns false'. Refute it at one input. -/
def snapWholeWrong : ChangeSpec := { name := "snapWhole", fn := fun _ => fun
  | [d1, d2] => { results := [.lit (.bool false)], args := [d1, d2] }
  | _ => none }
def SnapWholeWrongFalsely : Prop := snapWholeRow.holds Tryz.pinned (OpenSpec.ofChange snapWholeWrong)

/-- 'octavolaw16.EditDeletes': WHATEVER THE INPUT: true; the input reads as it did. -/
def editDeletesSpec : ChangeSpec := { name := "editDeletes", fn := fun _ => fun
  | [d1, d2, d3, d4, d5, d6] => { results := [.lit (.bool true)], args := [d1, d2, d3, d4, d5, d6] }
  | _ => none }
def editDeletesRow : OpenClaim := { program := "ythknfcfdoccadaagreat", sum := "c8a61d439cecfb45dab057a3b487ee2066405fe6929e78d7a2ee81850ff1f19c", func := "octavo/octavolaw16.EditDeletes", spec := "editDeletes", inPlace := ["slices.overlaps[octavo/api.Op]", "internal/abi.NoEscape"], unfollowed := true, recurses := true, plainKeys := false, apart := false }
def EditDeletesSaid : Prop := editDeletesRow.holds Tryz.pinned (OpenSpec.ofChange editDeletesSpec)

/-- ITS FALSE NEIGHBOUR: 'it returns false'. Refute it at one input. -/
def editDeletesWrong : ChangeSpec := { name := "editDeletes", fn := fun _ => fun
  | [d1, d2, d3, d4, d5, d6] => { results := [.lit (.bool false)], args := [d1, d2, d3, d4, d5, d6] }
  | _ => none }
def EditDeletesWrongFalsely : Prop := editDeletesRow.holds Tryz.pinned (OpenSpec.ofChange editDeletesWrong)

/-- 'octavolaw16.EditInserts': WHATEVER THE INPUT: true; the input reads as it did. -/
def editInsertsSpec : ChangeSpec := { name := "editInserts", fn := fun _ => fun
  | [d1, d2, d3, d4, d5, d6] => { results := [.lit (.bool true)], args := [d1, d2, d3, d4, d5, d6] }
  | _ => none }
def editInsertsRow : OpenClaim := { program := "ythknfcfdoccadaagreat", sum := "c8a61d439cecfb45dab057a3b487ee2066405fe6929e78d7a2ee81850ff1f19c", func := "octavo/octavolaw16.EditInserts", spec := "editInserts", inPlace := ["slices.overlaps[octavo/api.Op]", "internal/abi.NoEscape"], unfollowed := true, recurses := true, plainKeys := false, apart := false }
def EditInsertsSaid : Prop := editInsertsRow.holds Tryz.pinned (OpenSpec.ofChange editInsertsSpec)

/-- ITS FALSE NEIGHBOUR: 'it returns false'. Refute it at one input. -/
def editInsertsWrong : ChangeSpec := { name := "editInserts", fn := fun _ => fun
  | [d1, d2, d3, d4, d5, d6] => { results := [.lit (.bool false)], args := [d1, d2, d3, d4, d5, d6] }
  | _ => none }
def EditInsertsWrongFalsely : Prop := editInsertsRow.holds Tryz.pinned (OpenSpec.ofChange editInsertsWrong)

/-- 'octavolaw30.ModelAgrees': WHATEVER THE INPUT: true; the input reads as it did. -/
def modelAgreesSpec : ChangeSpec := { name := "modelAgrees", fn := fun _ => fun
  | [d] => { results := [.lit (.bool true)], args := [d] }
  | _ => none }
def modelAgreesRow : OpenClaim := { program := "ythknfcfdoccadaagreat", sum := "c8a61d439cecfb45dab057a3b487ee2066405fe6929e78d7a2ee81850ff1f19c", func := "octavo/octavolaw30.ModelAgrees", spec := "modelAgrees", inPlace := ["internal/abi.NoEscape"], unfollowed := true, recurses := true, plainKeys := false, apart := false }
def ModelAgreesSaid : Prop := modelAgreesRow.holds Tryz.pinned (OpenSpec.ofChange modelAgreesSpec)

/-- ITS FALSE NEIGHBOUR: 'it returns false'. Refute it at one input. -/
def modelAgreesWrong : ChangeSpec := { name := "modelAgrees", fn := fun _ => fun
  | [d] => { results := [.lit (.bool false)], args := [d] }
  | _ => none }
def ModelAgreesWrongFalsely : Prop := modelAgreesRow.holds Tryz.pinned (OpenSpec.ofChange modelAgreesWrong)

/-- 'octavolaw23.WishHas': WHATEVER THE INPUT: true; the input reads as it did. -/
def wishHasSpec : ChangeSpec := { name := "wishHas", fn := fun _ => fun
  | [d1, d2] => { results := [.lit (.bool true)], args := [d1, d2] }
  | _ => none }
def wishHasRow : OpenClaim := { program := "ythknfcfdoccadaagreat", sum := "c8a61d439cecfb45dab057a3b487ee2066405fe6929e78d7a2ee81850ff1f19c", func := "octavo/octavolaw23.WishHas", spec := "wishHas", inPlace := ["slices.overlaps[octavo/api.Entry]"], unfollowed := true, recurses := true, plainKeys := false, apart := false }
def WishHasSaid : Prop := wishHasRow.holds Tryz.pinned (OpenSpec.ofChange wishHasSpec)

/-- ITS FALSE NEIGHBOUR: 'it returns false'. Refute it at one input. -/
def wishHasWrong : ChangeSpec := { name := "wishHas", fn := fun _ => fun
  | [d1, d2] => { results := [.lit (.bool false)], args := [d1, d2] }
  | _ => none }
def WishHasWrongFalsely : Prop := wishHasRow.holds Tryz.pinned (OpenSpec.ofChange wishHasWrong)

/-- 'octavolaw23.WishAll': WHATEVER THE INPUT: true; the input reads as it did. -/
def wishAllSpec : ChangeSpec := { name := "wishAll", fn := fun _ => fun
  | [d1, d2, d3, d4] => { results := [.lit (.bool true)], args := [d1, d2, d3, d4] }
  | _ => none }
def wishAllRow : OpenClaim := { program := "ythknfcfdoccadaagreat", sum := "c8a61d439cecfb45dab057a3b487ee2066405fe6929e78d7a2ee81850ff1f19c", func := "octavo/octavolaw23.WishAll", spec := "wishAll", inPlace := ["slices.overlaps[octavo/api.Entry]"], unfollowed := true, recurses := true, plainKeys := false, apart := false }
def WishAllSaid : Prop := wishAllRow.holds Tryz.pinned (OpenSpec.ofChange wishAllSpec)

/-- ITS FALSE NEIGHBOUR: 'it returns false'. Refute it at one input. -/
def wishAllWrong : ChangeSpec := { name := "wishAll", fn := fun _ => fun
  | [d1, d2, d3, d4] => { results := [.lit (.bool false)], args := [d1, d2, d3, d4] }
  | _ => none }
def WishAllWrongFalsely : Prop := wishAllRow.holds Tryz.pinned (OpenSpec.ofChange wishAllWrong)

/- THE SECOND FORM. 'bulk': how many values and letters a reading holds, each counted each time it is reached (what is shared counts as often as it is met; a slice's spare places count too). A statement '..UptoSaid' is the law's where the arguments, and the package variables that the reading takes, are together of bulk at most 1048576: NARROWER than '..Said'. Prove '..Said' where nothing that the law and all that it calls make is longer than what came in: it says more and counts as full. Else prove '..UptoSaid'. A law counts once. -/
mutual
def uptoBulk {H : Type} : DataW H → Nat
  | .lit (.string bytes) => bytes.length + 1
  | .lit _ => 1
  | .nil => 1
  | .ptr d => uptoBulk d + 1
  | .slice elems spare => uptoBulkAll elems + uptoBulkAll spare + 1
  | .agg parts => uptoBulkAll parts + 1
  | .iface _ d => uptoBulk d + 1
  | .map entries => uptoBulkEntries entries + 1
  | .held _ => 1
def uptoBulkAll {H : Type} : List (DataW H) → Nat
  | [] => 0
  | d :: r => uptoBulk d + uptoBulkAll r
def uptoBulkEntries {H : Type} : List (Lit × DataW H) → Nat
  | [] => 0
  | x :: r => uptoBulkEntry x + uptoBulkEntries r
def uptoBulkEntry {H : Type} : Lit × DataW H → Nat
  | (.string bytes, d) => bytes.length + uptoBulk d + 1
  | (_, d) => uptoBulk d + 1
 end
def uptoSmall : (H : Type) → List (DataW H) → Bool := fun _ ds => decide (uptoBulkAll ds ≤ 1048576)
def OpenSpec.upto (s : _root_.Go.ChangeSpec) : _root_.Go.OpenSpec := { _root_.Go.OpenSpec.ofChange s with cond := some uptoSmall }

/-- 'octavolaw15.ViewEqual', WHERE WHAT IT READS IS OF BULK AT MOST 1048576: true; the input reads as it did. -/
def viewEqualUptoRow : OpenClaim := { program := "ythknfcfdoccadaagreat", sum := "c8a61d439cecfb45dab057a3b487ee2066405fe6929e78d7a2ee81850ff1f19c", func := "octavo/octavolaw15.ViewEqual", spec := "viewEqual", inPlace := ["internal/abi.NoEscape"], unfollowed := true, recurses := true, plainKeys := false, apart := false, narrowed := true }
def ViewEqualUptoSaid : Prop := viewEqualUptoRow.holds Tryz.pinned (OpenSpec.upto viewEqualSpec)

/-- 'octavolaw14.CoverClosed', WHERE WHAT IT READS IS OF BULK AT MOST 1048576: true; the input reads as it did. -/
def coverClosedUptoRow : OpenClaim := { program := "ythknfcfdoccadaagreat", sum := "c8a61d439cecfb45dab057a3b487ee2066405fe6929e78d7a2ee81850ff1f19c", func := "octavo/octavolaw14.CoverClosed", spec := "coverClosed", unfollowed := true, recurses := true, plainKeys := false, apart := false, narrowed := true }
def CoverClosedUptoSaid : Prop := coverClosedUptoRow.holds Tryz.pinned (OpenSpec.upto coverClosedSpec)

/-- 'octavolaw14.CoverGrows', WHERE WHAT IT READS IS OF BULK AT MOST 1048576: true; the input reads as it did. -/
def coverGrowsUptoRow : OpenClaim := { program := "ythknfcfdoccadaagreat", sum := "c8a61d439cecfb45dab057a3b487ee2066405fe6929e78d7a2ee81850ff1f19c", func := "octavo/octavolaw14.CoverGrows", spec := "coverGrows", inPlace := ["slices.overlaps[octavo/api.Op]"], unfollowed := true, recurses := true, plainKeys := false, apart := false, narrowed := true }
def CoverGrowsUptoSaid : Prop := coverGrowsUptoRow.holds Tryz.pinned (OpenSpec.upto coverGrowsSpec)

/-- 'octavolaw21.SnapWhole', WHERE WHAT IT READS IS OF BULK AT MOST 1048576: true; the input reads as it did. -/
def snapWholeUptoRow : OpenClaim := { program := "ythknfcfdoccadaagreat", sum := "c8a61d439cecfb45dab057a3b487ee2066405fe6929e78d7a2ee81850ff1f19c", func := "octavo/octavolaw21.SnapWhole", spec := "snapWhole", inPlace := ["slices.overlaps[octavo/api.Op]"], unfollowed := true, recurses := true, plainKeys := false, apart := false, narrowed := true }
def SnapWholeUptoSaid : Prop := snapWholeUptoRow.holds Tryz.pinned (OpenSpec.upto snapWholeSpec)

/-- 'octavolaw16.EditDeletes', WHERE WHAT IT READS IS OF BULK AT MOST 1048576: true; the input reads as it did. -/
def editDeletesUptoRow : OpenClaim := { program := "ythknfcfdoccadaagreat", sum := "c8a61d439cecfb45dab057a3b487ee2066405fe6929e78d7a2ee81850ff1f19c", func := "octavo/octavolaw16.EditDeletes", spec := "editDeletes", inPlace := ["slices.overlaps[octavo/api.Op]", "internal/abi.NoEscape"], unfollowed := true, recurses := true, plainKeys := false, apart := false, narrowed := true }
def EditDeletesUptoSaid : Prop := editDeletesUptoRow.holds Tryz.pinned (OpenSpec.upto editDeletesSpec)

/-- 'octavolaw16.EditInserts', WHERE WHAT IT READS IS OF BULK AT MOST 1048576: true; the input reads as it did. -/
def editInsertsUptoRow : OpenClaim := { program := "ythknfcfdoccadaagreat", sum := "c8a61d439cecfb45dab057a3b487ee2066405fe6929e78d7a2ee81850ff1f19c", func := "octavo/octavolaw16.EditInserts", spec := "editInserts", inPlace := ["slices.overlaps[octavo/api.Op]", "internal/abi.NoEscape"], unfollowed := true, recurses := true, plainKeys := false, apart := false, narrowed := true }
def EditInsertsUptoSaid : Prop := editInsertsUptoRow.holds Tryz.pinned (OpenSpec.upto editInsertsSpec)

/-- 'octavolaw30.ModelAgrees', WHERE WHAT IT READS IS OF BULK AT MOST 1048576: true; the input reads as it did. -/
def modelAgreesUptoRow : OpenClaim := { program := "ythknfcfdoccadaagreat", sum := "c8a61d439cecfb45dab057a3b487ee2066405fe6929e78d7a2ee81850ff1f19c", func := "octavo/octavolaw30.ModelAgrees", spec := "modelAgrees", inPlace := ["internal/abi.NoEscape"], unfollowed := true, recurses := true, plainKeys := false, apart := false, narrowed := true }
def ModelAgreesUptoSaid : Prop := modelAgreesUptoRow.holds Tryz.pinned (OpenSpec.upto modelAgreesSpec)

/-- 'octavolaw23.WishHas', WHERE WHAT IT READS IS OF BULK AT MOST 1048576: true; the input reads as it did. -/
def wishHasUptoRow : OpenClaim := { program := "ythknfcfdoccadaagreat", sum := "c8a61d439cecfb45dab057a3b487ee2066405fe6929e78d7a2ee81850ff1f19c", func := "octavo/octavolaw23.WishHas", spec := "wishHas", inPlace := ["slices.overlaps[octavo/api.Entry]"], unfollowed := true, recurses := true, plainKeys := false, apart := false, narrowed := true }
def WishHasUptoSaid : Prop := wishHasUptoRow.holds Tryz.pinned (OpenSpec.upto wishHasSpec)

/-- 'octavolaw23.WishAll', WHERE WHAT IT READS IS OF BULK AT MOST 1048576: true; the input reads as it did. -/
def wishAllUptoRow : OpenClaim := { program := "ythknfcfdoccadaagreat", sum := "c8a61d439cecfb45dab057a3b487ee2066405fe6929e78d7a2ee81850ff1f19c", func := "octavo/octavolaw23.WishAll", spec := "wishAll", inPlace := ["slices.overlaps[octavo/api.Entry]"], unfollowed := true, recurses := true, plainKeys := false, apart := false, narrowed := true }
def WishAllUptoSaid : Prop := wishAllUptoRow.holds Tryz.pinned (OpenSpec.upto wishAllSpec)

end Rows
end Go.Proofs.YthknfcfdoccadaaGreat
