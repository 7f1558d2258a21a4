/-
  No cell of these rows narrows 'for every input' (looked for: loops, veiled, ifaces, maps, wideKeys, modest, calm, conditions, laid).
  DERIVED. THE GIVEN ROWS OF THIS SEAT. 10 by the template 'for every input the law returns true; each argument reads behind the call as it read before'; 0 by the template 'total and deterministic' (their statements: YtfmhlfoemkjoiaaGreatTotals.lean).
  GIVEN WITH THE SEED: the statements are not yours to turn. If you find one false, say at which input.
  Laid BY PROGRAM, IN A SANDBOX (cutbox-rows.mjs): the forced cells as the released guide's own fill.sh prints them over the translation e4575ad6ac3ccb72… (all of the seat's roots in one cut). By AI agents, Wed Nov 11 2026. No macro, syntax, notation, axiom, sorry.
-/
import Derived.Test.YtfmhlfoemkjoiaaGreatChecked
import GoSem.Claim
import GoSem.ClaimJoined
import GoSem.ClaimMapViews
import Derived.JoinedTies
import Derived.KernelRfl
namespace Go.Proofs.YtfmhlfoemkjoiaaGreat
/- THE CELL 'sum', in the pinned program and in every row, IS THE sha256 OF THE DUMP (.gsa) THAT YtfmhlfoemkjoiaaGreatProg.lean LOADS. Nothing in Lean hashes anything: it is a label: what it is worth is what the hold of that sum in a sandbox is worth. -/
noncomputable def Tryz.pinned : Pinned := { name := "ytfmhlfoemkjoiaagreat", sum := "e4575ad6ac3ccb72e1dffa061be959d608745e20d553d4d938bcd8736552166b", checked := Tryz.checked }
namespace Rows
def none {H : Type} : Left H := { results := [], args := [] }

/-- 'octavolaw12.MarksTell': WHATEVER THE INPUT: true; the input reads as it did. -/
def marksTellSpec : ChangeSpec := { name := "marksTell", fn := fun _ => fun
  | [d1, d2] => { results := [.lit (.bool true)], args := [d1, d2] }
  | _ => none }
def marksTellRow : OpenClaim := { program := "ytfmhlfoemkjoiaagreat", sum := "e4575ad6ac3ccb72e1dffa061be959d608745e20d553d4d938bcd8736552166b", func := "octavo/octavolaw12.MarksTell", spec := "marksTell", unfollowed := true, recurses := true, plainKeys := false, apart := false }
def MarksTellSaid : Prop := marksTellRow.holds Tryz.pinned (OpenSpec.ofChange marksTellSpec)

/-- ITS FALSE NEIGHBOUR: 'it returns false'. Refute it at one input. -/
def marksTellWrong : ChangeSpec := { name := "marksTell", fn := fun _ => fun
  | [d1, d2] => { results := [.lit (.bool false)], args := [d1, d2] }
  | _ => none }
def MarksTellWrongFalsely : Prop := marksTellRow.holds Tryz.pinned (OpenSpec.ofChange marksTellWrong)

/-- 'octavolaw14.CoverTells': WHATEVER THE INPUT: true; the input reads as it did. -/
def coverTellsSpec : ChangeSpec := { name := "coverTells", fn := fun _ => fun
  | [d1, d2] => { results := [.lit (.bool true)], args := [d1, d2] }
  | _ => none }
def coverTellsRow : OpenClaim := { program := "ytfmhlfoemkjoiaagreat", sum := "e4575ad6ac3ccb72e1dffa061be959d608745e20d553d4d938bcd8736552166b", func := "octavo/octavolaw14.CoverTells", spec := "coverTells", unfollowed := true, recurses := true, plainKeys := false, apart := false }
def CoverTellsSaid : Prop := coverTellsRow.holds Tryz.pinned (OpenSpec.ofChange coverTellsSpec)

/-- ITS FALSE NEIGHBOUR: 'it returns false'. Refute it at one input. -/
def coverTellsWrong : ChangeSpec := { name := "coverTells", fn := fun _ => fun
  | [d1, d2] => { results := [.lit (.bool false)], args := [d1, d2] }
  | _ => none }
def CoverTellsWrongFalsely : Prop := coverTellsRow.holds Tryz.pinned (OpenSpec.ofChange coverTellsWrong)

/-- 'octavolaw15.ViewTells': WHATEVER THE INPUT: true; the input reads as it did. -/
def viewTellsSpec : ChangeSpec := { name := "viewTells", fn := fun _ => fun
  | [d1, d2, d3, d4] => { results := [.lit (.bool true)], args := [d1, d2, d3, d4] }
  | _ => none }
def viewTellsRow : OpenClaim := { program := "ytfmhlfoemkjoiaagreat", sum := "e4575ad6ac3ccb72e1dffa061be959d608745e20d553d4d938bcd8736552166b", func := "octavo/octavolaw15.ViewTells", spec := "viewTells", inPlace := ["internal/abi.NoEscape"], unfollowed := true, recurses := true, plainKeys := false, apart := false }
def ViewTellsSaid : Prop := viewTellsRow.holds Tryz.pinned (OpenSpec.ofChange viewTellsSpec)

/-- ITS FALSE NEIGHBOUR: 'it returns false'. Refute it at one input. -/
def viewTellsWrong : ChangeSpec := { name := "viewTells", fn := fun _ => fun
  | [d1, d2, d3, d4] => { results := [.lit (.bool false)], args := [d1, d2, d3, d4] }
  | _ => none }
def ViewTellsWrongFalsely : Prop := viewTellsRow.holds Tryz.pinned (OpenSpec.ofChange viewTellsWrong)

/-- 'octavolaw21.SnapTells': WHATEVER THE INPUT: true; the input reads as it did. -/
def snapTellsSpec : ChangeSpec := { name := "snapTells", fn := fun _ => fun
  | [d1, d2, d3, d4] => { results := [.lit (.bool true)], args := [d1, d2, d3, d4] }
  | _ => none }
def snapTellsRow : OpenClaim := { program := "ytfmhlfoemkjoiaagreat", sum := "e4575ad6ac3ccb72e1dffa061be959d608745e20d553d4d938bcd8736552166b", func := "octavo/octavolaw21.SnapTells", spec := "snapTells", unfollowed := true, recurses := true, plainKeys := false, apart := false }
def SnapTellsSaid : Prop := snapTellsRow.holds Tryz.pinned (OpenSpec.ofChange snapTellsSpec)

/-- ITS FALSE NEIGHBOUR: 'it returns false'. Refute it at one input. -/
def snapTellsWrong : ChangeSpec := { name := "snapTells", fn := fun _ => fun
  | [d1, d2, d3, d4] => { results := [.lit (.bool false)], args := [d1, d2, d3, d4] }
  | _ => none }
def SnapTellsWrongFalsely : Prop := snapTellsRow.holds Tryz.pinned (OpenSpec.ofChange snapTellsWrong)

/-- 'octavolaw16.EditTells': WHATEVER THE INPUT: true; the input reads as it did. -/
def editTellsSpec : ChangeSpec := { name := "editTells", fn := fun _ => fun
  | [d1, d2, d3, d4, d5, d6, d7] => { results := [.lit (.bool true)], args := [d1, d2, d3, d4, d5, d6, d7] }
  | _ => none }
def editTellsRow : OpenClaim := { program := "ytfmhlfoemkjoiaagreat", sum := "e4575ad6ac3ccb72e1dffa061be959d608745e20d553d4d938bcd8736552166b", func := "octavo/octavolaw16.EditTells", spec := "editTells", unfollowed := true, recurses := true, plainKeys := false, apart := false }
def EditTellsSaid : Prop := editTellsRow.holds Tryz.pinned (OpenSpec.ofChange editTellsSpec)

/-- ITS FALSE NEIGHBOUR: 'it returns false'. Refute it at one input. -/
def editTellsWrong : ChangeSpec := { name := "editTells", fn := fun _ => fun
  | [d1, d2, d3, d4, d5, d6, d7] => { results := [.lit (.bool false)], args := [d1, d2, d3, d4, d5, d6, d7] }
  | _ => none }
def EditTellsWrongFalsely : Prop := editTellsRow.holds Tryz.pinned (OpenSpec.ofChange editTellsWrong)

/-- 'octavolaw23.WishTells': WHATEVER THE INPUT: true; the input reads as it did. -/
def wishTellsSpec : ChangeSpec := { name := "wishTells", fn := fun _ => fun
  | [d1, d2, d3, d4, d5] => { results := [.lit (.bool true)], args := [d1, d2, d3, d4, d5] }
  | _ => none }
def wishTellsRow : OpenClaim := { program := "ytfmhlfoemkjoiaagreat", sum := "e4575ad6ac3ccb72e1dffa061be959d608745e20d553d4d938bcd8736552166b", func := "octavo/octavolaw23.WishTells", spec := "wishTells", inPlace := ["slices.overlaps[octavo/api.Entry]"], unfollowed := true, recurses := true, plainKeys := false, apart := false }
def WishTellsSaid : Prop := wishTellsRow.holds Tryz.pinned (OpenSpec.ofChange wishTellsSpec)

/-- ITS FALSE NEIGHBOUR: 'it returns false'. Refute it at one input. -/
def wishTellsWrong : ChangeSpec := { name := "wishTells", fn := fun _ => fun
  | [d1, d2, d3, d4, d5] => { results := [.lit (.bool false)], args := [d1, d2, d3, d4, d5] }
  | _ => none }
def WishTellsWrongFalsely : Prop := wishTellsRow.holds Tryz.pinned (OpenSpec.ofChange wishTellsWrong)

/-- 'octavolaw16.EditDeletes': WHATEVER THE INPUT: true; the input reads as it did. -/
def editDeletesSpec : ChangeSpec := { name := "editDeletes", fn := fun _ => fun
  | [d1, d2, d3, d4, d5, d6] => { results := [.lit (.bool true)], args := [d1, d2, d3, d4, d5, d6] }
  | _ => none }
def editDeletesRow : OpenClaim := { program := "ytfmhlfoemkjoiaagreat", sum := "e4575ad6ac3ccb72e1dffa061be959d608745e20d553d4d938bcd8736552166b", func := "octavo/octavolaw16.EditDeletes", spec := "editDeletes", inPlace := ["slices.overlaps[octavo/api.Op]", "internal/abi.NoEscape"], unfollowed := true, recurses := true, plainKeys := false, apart := false }
def EditDeletesSaid : Prop := editDeletesRow.holds Tryz.pinned (OpenSpec.ofChange editDeletesSpec)

/-- ITS FALSE NEIGHBOUR: 'it returns false'. Refute it at one input. -/
def editDeletesWrong : ChangeSpec := { name := "editDeletes", fn := fun _ => fun
  | [d1, d2, d3, d4, d5, d6] => { results := [.lit (.bool false)], args := [d1, d2, d3, d4, d5, d6] }
  | _ => none }
def EditDeletesWrongFalsely : Prop := editDeletesRow.holds Tryz.pinned (OpenSpec.ofChange editDeletesWrong)

/-- 'octavolaw16.EditInserts': WHATEVER THE INPUT: true; the input reads as it did. -/
def editInsertsSpec : ChangeSpec := { name := "editInserts", fn := fun _ => fun
  | [d1, d2, d3, d4, d5, d6] => { results := [.lit (.bool true)], args := [d1, d2, d3, d4, d5, d6] }
  | _ => none }
def editInsertsRow : OpenClaim := { program := "ytfmhlfoemkjoiaagreat", sum := "e4575ad6ac3ccb72e1dffa061be959d608745e20d553d4d938bcd8736552166b", func := "octavo/octavolaw16.EditInserts", spec := "editInserts", inPlace := ["slices.overlaps[octavo/api.Op]", "internal/abi.NoEscape"], unfollowed := true, recurses := true, plainKeys := false, apart := false }
def EditInsertsSaid : Prop := editInsertsRow.holds Tryz.pinned (OpenSpec.ofChange editInsertsSpec)

/-- ITS FALSE NEIGHBOUR: 'it returns false'. Refute it at one input. -/
def editInsertsWrong : ChangeSpec := { name := "editInserts", fn := fun _ => fun
  | [d1, d2, d3, d4, d5, d6] => { results := [.lit (.bool false)], args := [d1, d2, d3, d4, d5, d6] }
  | _ => none }
def EditInsertsWrongFalsely : Prop := editInsertsRow.holds Tryz.pinned (OpenSpec.ofChange editInsertsWrong)

/-- 'octavolaw30.ModelAgrees': WHATEVER THE INPUT: true; the input reads as it did. -/
def modelAgreesSpec : ChangeSpec := { name := "modelAgrees", fn := fun _ => fun
  | [d] => { results := [.lit (.bool true)], args := [d] }
  | _ => none }
def modelAgreesRow : OpenClaim := { program := "ytfmhlfoemkjoiaagreat", sum := "e4575ad6ac3ccb72e1dffa061be959d608745e20d553d4d938bcd8736552166b", func := "octavo/octavolaw30.ModelAgrees", spec := "modelAgrees", inPlace := ["internal/abi.NoEscape"], unfollowed := true, recurses := true, plainKeys := false, apart := false }
def ModelAgreesSaid : Prop := modelAgreesRow.holds Tryz.pinned (OpenSpec.ofChange modelAgreesSpec)

/-- ITS FALSE NEIGHBOUR: 'it returns false'. Refute it at one input. -/
def modelAgreesWrong : ChangeSpec := { name := "modelAgrees", fn := fun _ => fun
  | [d] => { results := [.lit (.bool false)], args := [d] }
  | _ => none }
def ModelAgreesWrongFalsely : Prop := modelAgreesRow.holds Tryz.pinned (OpenSpec.ofChange modelAgreesWrong)

/-- 'octavolaw26.TakeNames': WHATEVER THE INPUT: true; the input reads as it did. -/
def takeNamesSpec : ChangeSpec := { name := "takeNames", fn := fun _ => fun
  | [] => { results := [.lit (.bool true)], args := [] }
  | _ => none }
def takeNamesRow : OpenClaim := { program := "ytfmhlfoemkjoiaagreat", sum := "e4575ad6ac3ccb72e1dffa061be959d608745e20d553d4d938bcd8736552166b", func := "octavo/octavolaw26.TakeNames", spec := "takeNames", inPlace := ["slices.overlaps[octavo/api.Entry]", "slices.overlaps[octavo/api.Op]"], unfollowed := true, recurses := true, plainKeys := false, apart := false }
def TakeNamesSaid : Prop := takeNamesRow.holds Tryz.pinned (OpenSpec.ofChange takeNamesSpec)

/-- ITS FALSE NEIGHBOUR: 'it returns false'. Refute it at one input. -/
def takeNamesWrong : ChangeSpec := { name := "takeNames", fn := fun _ => fun
  | [] => { results := [.lit (.bool false)], args := [] }
  | _ => none }
def TakeNamesWrongFalsely : Prop := takeNamesRow.holds Tryz.pinned (OpenSpec.ofChange takeNamesWrong)

/- THE SECOND FORM. 'bulk': how many values and letters a reading holds, each counted each time it is reached (what is shared counts as often as it is met; a slice's spare places count too). A statement '..UptoSaid' is the law's where the arguments, and the package variables that the reading takes, are together of bulk at most 1048576: NARROWER than '..Said'. Prove '..Said' where nothing that the law and all that it calls make is longer than what came in: it says more and counts as full. Else prove '..UptoSaid'. A law counts once. -/
mutual
def uptoBulk {H : Type} : DataW H → Nat
  | .lit (.string bytes) => bytes.length + 1
  | .lit _ => 1
  | .nil => 1
  | .ptr d => uptoBulk d + 1
  | .slice elems spare => uptoBulkAll elems + uptoBulkAll spare + 1
  | .agg parts => uptoBulkAll parts + 1
  | .iface _ d => uptoBulk d + 1
  | .map entries => uptoBulkEntries entries + 1
  | .held _ => 1
def uptoBulkAll {H : Type} : List (DataW H) → Nat
  | [] => 0
  | d :: r => uptoBulk d + uptoBulkAll r
def uptoBulkEntries {H : Type} : List (Lit × DataW H) → Nat
  | [] => 0
  | x :: r => uptoBulkEntry x + uptoBulkEntries r
def uptoBulkEntry {H : Type} : Lit × DataW H → Nat
  | (.string bytes, d) => bytes.length + uptoBulk d + 1
  | (_, d) => uptoBulk d + 1
 end
def uptoSmall : (H : Type) → List (DataW H) → Bool := fun _ ds => decide (uptoBulkAll ds ≤ 1048576)
def OpenSpec.upto (s : _root_.Go.ChangeSpec) : _root_.Go.OpenSpec := { _root_.Go.OpenSpec.ofChange s with cond := some uptoSmall }

/-- 'octavolaw12.MarksTell', WHERE WHAT IT READS IS OF BULK AT MOST 1048576: true; the input reads as it did. -/
def marksTellUptoRow : OpenClaim := { program := "ytfmhlfoemkjoiaagreat", sum := "e4575ad6ac3ccb72e1dffa061be959d608745e20d553d4d938bcd8736552166b", func := "octavo/octavolaw12.MarksTell", spec := "marksTell", unfollowed := true, recurses := true, plainKeys := false, apart := false, narrowed := true }
def MarksTellUptoSaid : Prop := marksTellUptoRow.holds Tryz.pinned (OpenSpec.upto marksTellSpec)

/-- 'octavolaw14.CoverTells', WHERE WHAT IT READS IS OF BULK AT MOST 1048576: true; the input reads as it did. -/
def coverTellsUptoRow : OpenClaim := { program := "ytfmhlfoemkjoiaagreat", sum := "e4575ad6ac3ccb72e1dffa061be959d608745e20d553d4d938bcd8736552166b", func := "octavo/octavolaw14.CoverTells", spec := "coverTells", unfollowed := true, recurses := true, plainKeys := false, apart := false, narrowed := true }
def CoverTellsUptoSaid : Prop := coverTellsUptoRow.holds Tryz.pinned (OpenSpec.upto coverTellsSpec)

/-- 'octavolaw15.ViewTells', WHERE WHAT IT READS IS OF BULK AT MOST 1048576: true; the input reads as it did. -/
def viewTellsUptoRow : OpenClaim := { program := "ytfmhlfoemkjoiaagreat", sum := "e4575ad6ac3ccb72e1dffa061be959d608745e20d553d4d938bcd8736552166b", func := "octavo/octavolaw15.ViewTells", spec := "viewTells", inPlace := ["internal/abi.NoEscape"], unfollowed := true, recurses := true, plainKeys := false, apart := false, narrowed := true }
def ViewTellsUptoSaid : Prop := viewTellsUptoRow.holds Tryz.pinned (OpenSpec.upto viewTellsSpec)

/-- 'octavolaw21.SnapTells', WHERE WHAT IT READS IS OF BULK AT MOST 1048576: true; the input reads as it did. -/
def snapTellsUptoRow : OpenClaim := { program := "ytfmhlfoemkjoiaagreat", sum := "e4575ad6ac3ccb72e1dffa061be959d608745e20d553d4d938bcd8736552166b", func := "octavo/octavolaw21.SnapTells", spec := "snapTells", unfollowed := true, recurses := true, plainKeys := false, apart := false, narrowed := true }
def SnapTellsUptoSaid : Prop := snapTellsUptoRow.holds Tryz.pinned (OpenSpec.upto snapTellsSpec)

/-- 'octavolaw16.EditTells', WHERE WHAT IT READS IS OF BULK AT MOST 1048576: true; the input reads as it did. -/
def editTellsUptoRow : OpenClaim := { program := "ytfmhlfoemkjoiaagreat", sum := "e4575ad6ac3ccb72e1dffa061be959d608745e20d553d4d938bcd8736552166b", func := "octavo/octavolaw16.EditTells", spec := "editTells", unfollowed := true, recurses := true, plainKeys := false, apart := false, narrowed := true }
def EditTellsUptoSaid : Prop := editTellsUptoRow.holds Tryz.pinned (OpenSpec.upto editTellsSpec)

/-- 'octavolaw23.WishTells', WHERE WHAT IT READS IS OF BULK AT MOST 1048576: true; the input reads as it did. -/
def wishTellsUptoRow : OpenClaim := { program := "ytfmhlfoemkjoiaagreat", sum := "e4575ad6ac3ccb72e1dffa061be959d608745e20d553d4d938bcd8736552166b", func := "octavo/octavolaw23.WishTells", spec := "wishTells", inPlace := ["slices.overlaps[octavo/api.Entry]"], unfollowed := true, recurses := true, plainKeys := false, apart := false, narrowed := true }
def WishTellsUptoSaid : Prop := wishTellsUptoRow.holds Tryz.pinned (OpenSpec.upto wishTellsSpec)

/-- 'octavolaw16.EditDeletes', WHERE WHAT IT READS IS OF BULK AT MOST 1048576: true; the input reads as it did. -/
def editDeletesUptoRow : OpenClaim := { program := "ytfmhlfoemkjoiaagreat", sum := "e4575ad6ac3ccb72e1dffa061be959d608745e20d553d4d938bcd8736552166b", func := "octavo/octavolaw16.EditDeletes", spec := "editDeletes", inPlace := ["slices.overlaps[octavo/api.Op]", "internal/abi.NoEscape"], unfollowed := true, recurses := true, plainKeys := false, apart := false, narrowed := true }
def EditDeletesUptoSaid : Prop := editDeletesUptoRow.holds Tryz.pinned (OpenSpec.upto editDeletesSpec)

/-- 'octavolaw16.EditInserts', WHERE WHAT IT READS IS OF BULK AT MOST 1048576: true; the input reads as it did. -/
def editInsertsUptoRow : OpenClaim := { program := "ytfmhlfoemkjoiaagreat", sum := "e4575ad6ac3ccb72e1dffa061be959d608745e20d553d4d938bcd8736552166b", func := "octavo/octavolaw16.EditInserts", spec := "editInserts", inPlace := ["slices.overlaps[octavo/api.Op]", "internal/abi.NoEscape"], unfollowed := true, recurses := true, plainKeys := false, apart := false, narrowed := true }
def EditInsertsUptoSaid : Prop := editInsertsUptoRow.holds Tryz.pinned (OpenSpec.upto editInsertsSpec)

/-- 'octavolaw30.ModelAgrees', WHERE WHAT IT READS IS OF BULK AT MOST 1048576: true; the input reads as it did. -/
def modelAgreesUptoRow : OpenClaim := { program := "ytfmhlfoemkjoiaagreat", sum := "e4575ad6ac3ccb72e1dffa061be959d608745e20d553d4d938bcd8736552166b", func := "octavo/octavolaw30.ModelAgrees", spec := "modelAgrees", inPlace := ["internal/abi.NoEscape"], unfollowed := true, recurses := true, plainKeys := false, apart := false, narrowed := true }
def ModelAgreesUptoSaid : Prop := modelAgreesUptoRow.holds Tryz.pinned (OpenSpec.upto modelAgreesSpec)

/-- 'octavolaw26.TakeNames', WHERE WHAT IT READS IS OF BULK AT MOST 1048576: true; the input reads as it did. -/
def takeNamesUptoRow : OpenClaim := { program := "ytfmhlfoemkjoiaagreat", sum := "e4575ad6ac3ccb72e1dffa061be959d608745e20d553d4d938bcd8736552166b", func := "octavo/octavolaw26.TakeNames", spec := "takeNames", inPlace := ["slices.overlaps[octavo/api.Entry]", "slices.overlaps[octavo/api.Op]"], unfollowed := true, recurses := true, plainKeys := false, apart := false, narrowed := true }
def TakeNamesUptoSaid : Prop := takeNamesUptoRow.holds Tryz.pinned (OpenSpec.upto takeNamesSpec)

end Rows
end Go.Proofs.YtfmhlfoemkjoiaaGreat
