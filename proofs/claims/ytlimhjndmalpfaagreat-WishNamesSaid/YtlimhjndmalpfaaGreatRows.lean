/-
  No cell of these rows narrows 'for every input' (looked for: loops, veiled, ifaces, maps, wideKeys, modest, calm, conditions, laid).
  DERIVED. THE GIVEN ROWS OF THIS SEAT. 4 by the template 'for every input the law returns true; each argument reads behind the call as it read before'; 0 by the template 'total and deterministic' (their statements: YtlimhjndmalpfaaGreatTotals.lean).
  GIVEN WITH THE SEED: the statements are not yours to turn. If you find one false, say at which input.
  Laid BY PROGRAM, IN A SANDBOX (cutbox-rows.mjs): the forced cells as the released guide's own fill.sh prints them over the translation 29896c9b67a88e05… (all of the seat's roots in one cut). By AI agents, Wed Nov 11 2026. No macro, syntax, notation, axiom, sorry.
-/
import Derived.Test.YtlimhjndmalpfaaGreatChecked
import GoSem.Claim
import GoSem.ClaimJoined
import GoSem.ClaimMapViews
import Derived.JoinedTies
import Derived.KernelRfl
namespace Go.Proofs.YtlimhjndmalpfaaGreat
/- THE CELL 'sum', in the pinned program and in every row, IS THE sha256 OF THE DUMP (.gsa) THAT YtlimhjndmalpfaaGreatProg.lean LOADS. Nothing in Lean hashes anything: it is a label: what it is worth is what the hold of that sum in a sandbox is worth. -/
noncomputable def Tryz.pinned : Pinned := { name := "ytlimhjndmalpfaagreat", sum := "29896c9b67a88e05734c0ebed68998b090c3c0ae8961c9ccb72c2e86169692f9", checked := Tryz.checked }
namespace Rows
def none {H : Type} : Left H := { results := [], args := [] }

/-- 'octavolaw21.SnapNames': WHATEVER THE INPUT: true; the input reads as it did. -/
def snapNamesSpec : ChangeSpec := { name := "snapNames", fn := fun _ => fun
  | [] => { results := [.lit (.bool true)], args := [] }
  | _ => none }
def snapNamesRow : OpenClaim := { program := "ytlimhjndmalpfaagreat", sum := "29896c9b67a88e05734c0ebed68998b090c3c0ae8961c9ccb72c2e86169692f9", func := "octavo/octavolaw21.SnapNames", spec := "snapNames", unfollowed := true, recurses := true, plainKeys := false, apart := false }
def SnapNamesSaid : Prop := snapNamesRow.holds Tryz.pinned (OpenSpec.ofChange snapNamesSpec)

/-- ITS FALSE NEIGHBOUR: 'it returns false'. Refute it at one input. -/
def snapNamesWrong : ChangeSpec := { name := "snapNames", fn := fun _ => fun
  | [] => { results := [.lit (.bool false)], args := [] }
  | _ => none }
def SnapNamesWrongFalsely : Prop := snapNamesRow.holds Tryz.pinned (OpenSpec.ofChange snapNamesWrong)

/-- 'octavolaw23.WishNames': WHATEVER THE INPUT: true; the input reads as it did. -/
def wishNamesSpec : ChangeSpec := { name := "wishNames", fn := fun _ => fun
  | [] => { results := [.lit (.bool true)], args := [] }
  | _ => none }
def wishNamesRow : OpenClaim := { program := "ytlimhjndmalpfaagreat", sum := "29896c9b67a88e05734c0ebed68998b090c3c0ae8961c9ccb72c2e86169692f9", func := "octavo/octavolaw23.WishNames", spec := "wishNames", inPlace := ["slices.overlaps[octavo/api.Entry]"], unfollowed := true, recurses := true, plainKeys := false, apart := false }
def WishNamesSaid : Prop := wishNamesRow.holds Tryz.pinned (OpenSpec.ofChange wishNamesSpec)

/-- ITS FALSE NEIGHBOUR: 'it returns false'. Refute it at one input. -/
def wishNamesWrong : ChangeSpec := { name := "wishNames", fn := fun _ => fun
  | [] => { results := [.lit (.bool false)], args := [] }
  | _ => none }
def WishNamesWrongFalsely : Prop := wishNamesRow.holds Tryz.pinned (OpenSpec.ofChange wishNamesWrong)

/-- 'octavolaw28.TreeNames': WHATEVER THE INPUT: true; the input reads as it did. -/
def treeNamesSpec : ChangeSpec := { name := "treeNames", fn := fun _ => fun
  | [] => { results := [.lit (.bool true)], args := [] }
  | _ => none }
def treeNamesRow : OpenClaim := { program := "ytlimhjndmalpfaagreat", sum := "29896c9b67a88e05734c0ebed68998b090c3c0ae8961c9ccb72c2e86169692f9", func := "octavo/octavolaw28.TreeNames", spec := "treeNames", unfollowed := true, recurses := true, plainKeys := false, apart := false }
def TreeNamesSaid : Prop := treeNamesRow.holds Tryz.pinned (OpenSpec.ofChange treeNamesSpec)

/-- ITS FALSE NEIGHBOUR: 'it returns false'. Refute it at one input. -/
def treeNamesWrong : ChangeSpec := { name := "treeNames", fn := fun _ => fun
  | [] => { results := [.lit (.bool false)], args := [] }
  | _ => none }
def TreeNamesWrongFalsely : Prop := treeNamesRow.holds Tryz.pinned (OpenSpec.ofChange treeNamesWrong)

/-- 'octavolaw14.CoverNames': WHATEVER THE INPUT: true; the input reads as it did. -/
def coverNamesSpec : ChangeSpec := { name := "coverNames", fn := fun _ => fun
  | [] => { results := [.lit (.bool true)], args := [] }
  | _ => none }
def coverNamesRow : OpenClaim := { program := "ytlimhjndmalpfaagreat", sum := "29896c9b67a88e05734c0ebed68998b090c3c0ae8961c9ccb72c2e86169692f9", func := "octavo/octavolaw14.CoverNames", spec := "coverNames", unfollowed := true, recurses := true, plainKeys := false, apart := false }
def CoverNamesSaid : Prop := coverNamesRow.holds Tryz.pinned (OpenSpec.ofChange coverNamesSpec)

/-- ITS FALSE NEIGHBOUR: 'it returns false'. Refute it at one input. -/
def coverNamesWrong : ChangeSpec := { name := "coverNames", fn := fun _ => fun
  | [] => { results := [.lit (.bool false)], args := [] }
  | _ => none }
def CoverNamesWrongFalsely : Prop := coverNamesRow.holds Tryz.pinned (OpenSpec.ofChange coverNamesWrong)

/- THE SECOND FORM. 'bulk': how many values and letters a reading holds, each counted each time it is reached (what is shared counts as often as it is met; a slice's spare places count too). A statement '..UptoSaid' is the law's where the arguments, and the package variables that the reading takes, are together of bulk at most 1048576: NARROWER than '..Said'. Prove '..Said' where nothing that the law and all that it calls make is longer than what came in: it says more and counts as full. Else prove '..UptoSaid'. A law counts once. -/
mutual
def uptoBulk {H : Type} : DataW H → Nat
  | .lit (.string bytes) => bytes.length + 1
  | .lit _ => 1
  | .nil => 1
  | .ptr d => uptoBulk d + 1
  | .slice elems spare => uptoBulkAll elems + uptoBulkAll spare + 1
  | .agg parts => uptoBulkAll parts + 1
  | .iface _ d => uptoBulk d + 1
  | .map entries => uptoBulkEntries entries + 1
  | .held _ => 1
def uptoBulkAll {H : Type} : List (DataW H) → Nat
  | [] => 0
  | d :: r => uptoBulk d + uptoBulkAll r
def uptoBulkEntries {H : Type} : List (Lit × DataW H) → Nat
  | [] => 0
  | x :: r => uptoBulkEntry x + uptoBulkEntries r
def uptoBulkEntry {H : Type} : Lit × DataW H → Nat
  | (.string bytes, d) => bytes.length + uptoBulk d + 1
  | (_, d) => uptoBulk d + 1
 end
def uptoSmall : (H : Type) → List (DataW H) → Bool := fun _ ds => decide (uptoBulkAll ds ≤ 1048576)
def OpenSpec.upto (s : _root_.Go.ChangeSpec) : _root_.Go.OpenSpec := { _root_.Go.OpenSpec.ofChange s with cond := some uptoSmall }

/-- 'octavolaw21.SnapNames', WHERE WHAT IT READS IS OF BULK AT MOST 1048576: true; the input reads as it did. -/
def snapNamesUptoRow : OpenClaim := { program := "ytlimhjndmalpfaagreat", sum := "29896c9b67a88e05734c0ebed68998b090c3c0ae8961c9ccb72c2e86169692f9", func := "octavo/octavolaw21.SnapNames", spec := "snapNames", unfollowed := true, recurses := true, plainKeys := false, apart := false, narrowed := true }
def SnapNamesUptoSaid : Prop := snapNamesUptoRow.holds Tryz.pinned (OpenSpec.upto snapNamesSpec)

/-- 'octavolaw23.WishNames', WHERE WHAT IT READS IS OF BULK AT MOST 1048576: true; the input reads as it did. -/
def wishNamesUptoRow : OpenClaim := { program := "ytlimhjndmalpfaagreat", sum := "29896c9b67a88e05734c0ebed68998b090c3c0ae8961c9ccb72c2e86169692f9", func := "octavo/octavolaw23.WishNames", spec := "wishNames", inPlace := ["slices.overlaps[octavo/api.Entry]"], unfollowed := true, recurses := true, plainKeys := false, apart := false, narrowed := true }
def WishNamesUptoSaid : Prop := wishNamesUptoRow.holds Tryz.pinned (OpenSpec.upto wishNamesSpec)

/-- 'octavolaw28.TreeNames', WHERE WHAT IT READS IS OF BULK AT MOST 1048576: true; the input reads as it did. -/
def treeNamesUptoRow : OpenClaim := { program := "ytlimhjndmalpfaagreat", sum := "29896c9b67a88e05734c0ebed68998b090c3c0ae8961c9ccb72c2e86169692f9", func := "octavo/octavolaw28.TreeNames", spec := "treeNames", unfollowed := true, recurses := true, plainKeys := false, apart := false, narrowed := true }
def TreeNamesUptoSaid : Prop := treeNamesUptoRow.holds Tryz.pinned (OpenSpec.upto treeNamesSpec)

/-- 'octavolaw14.CoverNames', WHERE WHAT IT READS IS OF BULK AT MOST 1048576: true; the input reads as it did. -/
def coverNamesUptoRow : OpenClaim := { program := "ytlimhjndmalpfaagreat", sum := "29896c9b67a88e05734c0ebed68998b090c3c0ae8961c9ccb72c2e86169692f9", func := "octavo/octavolaw14.CoverNames", spec := "coverNames", unfollowed := true, recurses := true, plainKeys := false, apart := false, narrowed := true }
def CoverNamesUptoSaid : Prop := coverNamesUptoRow.holds Tryz.pinned (OpenSpec.upto coverNamesSpec)

end Rows
end Go.Proofs.YtlimhjndmalpfaaGreat
