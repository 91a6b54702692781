/-
  No cell of these rows narrows 'for every input' (looked for: loops, veiled, ifaces, maps, wideKeys, modest, calm, conditions, laid).
  DERIVED. THE GIVEN ROWS OF THIS SEAT. 8 by the template 'for every input the law returns true; each argument reads behind the call as it read before'; 0 by the template 'total and deterministic' (their statements: YtimefcnagilhlaaTotals.lean).
  GIVEN WITH THE SEED: the statements are not yours to turn. If you find one false, say at which input.
  Laid BY PROGRAM, IN A SANDBOX (cutbox-rows.mjs): the forced cells as the released guide's own fill.sh prints them over the translation 3fc3bd6cab1b8f7f… (all of the seat's roots in one cut). By AI agents, Wed Nov 11 2026. No macro, syntax, notation, axiom, sorry.
-/
import Derived.Test.YtimefcnagilhlaaChecked
import GoSem.Claim
import GoSem.ClaimJoined
import GoSem.ClaimMapViews
import Derived.JoinedTies
import Derived.KernelRfl
namespace Go.Proofs.Ytimefcnagilhlaa
/- THE CELL 'sum', in the pinned program and in every row, IS THE sha256 OF THE DUMP (.gsa) THAT YtimefcnagilhlaaProg.lean LOADS. Nothing in Lean hashes anything: it is a label: what it is worth is what the hold of that sum in a sandbox is worth. -/
noncomputable def Try.pinned : Pinned := { name := "ytimefcnagilhlaa", sum := "3fc3bd6cab1b8f7fe37d276474032d7e1a45fff8b22676460022079b5c98d696", checked := Try.checked }
namespace Rows
def none {H : Type} : Left H := { results := [], args := [] }

/-- 'woodcutlaw10.TreeExact': WHATEVER THE INPUT: true; the input reads as it did. -/
def treeExactSpec : ChangeSpec := { name := "treeExact", fn := fun _ => fun
  | [d1, d2, d3, d4, d5] => { results := [.lit (.bool true)], args := [d1, d2, d3, d4, d5] }
  | _ => none }
def treeExactRow : OpenClaim := { program := "ytimefcnagilhlaa", sum := "3fc3bd6cab1b8f7fe37d276474032d7e1a45fff8b22676460022079b5c98d696", func := "woodcut/woodcutlaw10.TreeExact", spec := "treeExact", unfollowed := true, recurses := true, apart := false }
def TreeExactSaid : Prop := treeExactRow.holds Try.pinned (OpenSpec.ofChange treeExactSpec)

/-- ITS FALSE NEIGHBOUR: 'it returns false'. Refute it at one input. -/
def treeExactWrong : ChangeSpec := { name := "treeExact", fn := fun _ => fun
  | [d1, d2, d3, d4, d5] => { results := [.lit (.bool false)], args := [d1, d2, d3, d4, d5] }
  | _ => none }
def TreeExactWrongFalsely : Prop := treeExactRow.holds Try.pinned (OpenSpec.ofChange treeExactWrong)

/-- 'woodcutlaw10.TreeOne': WHATEVER THE INPUT: true; the input reads as it did. -/
def treeOneSpec : ChangeSpec := { name := "treeOne", fn := fun _ => fun
  | [d1, d2, d3, d4] => { results := [.lit (.bool true)], args := [d1, d2, d3, d4] }
  | _ => none }
def treeOneRow : OpenClaim := { program := "ytimefcnagilhlaa", sum := "3fc3bd6cab1b8f7fe37d276474032d7e1a45fff8b22676460022079b5c98d696", func := "woodcut/woodcutlaw10.TreeOne", spec := "treeOne", unfollowed := true, recurses := true, apart := false }
def TreeOneSaid : Prop := treeOneRow.holds Try.pinned (OpenSpec.ofChange treeOneSpec)

/-- ITS FALSE NEIGHBOUR: 'it returns false'. Refute it at one input. -/
def treeOneWrong : ChangeSpec := { name := "treeOne", fn := fun _ => fun
  | [d1, d2, d3, d4] => { results := [.lit (.bool false)], args := [d1, d2, d3, d4] }
  | _ => none }
def TreeOneWrongFalsely : Prop := treeOneRow.holds Try.pinned (OpenSpec.ofChange treeOneWrong)

/-- 'woodcutlaw10.TreeBent': WHATEVER THE INPUT: true; the input reads as it did. -/
def treeBentSpec : ChangeSpec := { name := "treeBent", fn := fun _ => fun
  | [d1, d2, d3, d4] => { results := [.lit (.bool true)], args := [d1, d2, d3, d4] }
  | _ => none }
def treeBentRow : OpenClaim := { program := "ytimefcnagilhlaa", sum := "3fc3bd6cab1b8f7fe37d276474032d7e1a45fff8b22676460022079b5c98d696", func := "woodcut/woodcutlaw10.TreeBent", spec := "treeBent", unfollowed := true, recurses := true, apart := false }
def TreeBentSaid : Prop := treeBentRow.holds Try.pinned (OpenSpec.ofChange treeBentSpec)

/-- ITS FALSE NEIGHBOUR: 'it returns false'. Refute it at one input. -/
def treeBentWrong : ChangeSpec := { name := "treeBent", fn := fun _ => fun
  | [d1, d2, d3, d4] => { results := [.lit (.bool false)], args := [d1, d2, d3, d4] }
  | _ => none }
def TreeBentWrongFalsely : Prop := treeBentRow.holds Try.pinned (OpenSpec.ofChange treeBentWrong)

/-- 'woodcutlaw10.TreeWalks': WHATEVER THE INPUT: true; the input reads as it did. -/
def treeWalksSpec : ChangeSpec := { name := "treeWalks", fn := fun _ => fun
  | [d1, d2] => { results := [.lit (.bool true)], args := [d1, d2] }
  | _ => none }
def treeWalksRow : OpenClaim := { program := "ytimefcnagilhlaa", sum := "3fc3bd6cab1b8f7fe37d276474032d7e1a45fff8b22676460022079b5c98d696", func := "woodcut/woodcutlaw10.TreeWalks", spec := "treeWalks", unfollowed := true, recurses := true, apart := false }
def TreeWalksSaid : Prop := treeWalksRow.holds Try.pinned (OpenSpec.ofChange treeWalksSpec)

/-- ITS FALSE NEIGHBOUR: 'it returns false'. Refute it at one input. -/
def treeWalksWrong : ChangeSpec := { name := "treeWalks", fn := fun _ => fun
  | [d1, d2] => { results := [.lit (.bool false)], args := [d1, d2] }
  | _ => none }
def TreeWalksWrongFalsely : Prop := treeWalksRow.holds Try.pinned (OpenSpec.ofChange treeWalksWrong)

/-- 'woodcutlaw20.DiffExact': WHATEVER THE INPUT: true; the input reads as it did. -/
def diffExactSpec : ChangeSpec := { name := "diffExact", fn := fun _ => fun
  | [d1, d2, d3, d4, d5] => { results := [.lit (.bool true)], args := [d1, d2, d3, d4, d5] }
  | _ => none }
def diffExactRow : OpenClaim := { program := "ytimefcnagilhlaa", sum := "3fc3bd6cab1b8f7fe37d276474032d7e1a45fff8b22676460022079b5c98d696", func := "woodcut/woodcutlaw20.DiffExact", spec := "diffExact", unfollowed := true, recurses := true, apart := false }
def DiffExactSaid : Prop := diffExactRow.holds Try.pinned (OpenSpec.ofChange diffExactSpec)

/-- ITS FALSE NEIGHBOUR: 'it returns false'. Refute it at one input. -/
def diffExactWrong : ChangeSpec := { name := "diffExact", fn := fun _ => fun
  | [d1, d2, d3, d4, d5] => { results := [.lit (.bool false)], args := [d1, d2, d3, d4, d5] }
  | _ => none }
def DiffExactWrongFalsely : Prop := diffExactRow.holds Try.pinned (OpenSpec.ofChange diffExactWrong)

/-- 'woodcutlaw20.DiffMaps': WHATEVER THE INPUT: true; the input reads as it did. -/
def diffMapsSpec : ChangeSpec := { name := "diffMaps", fn := fun _ => fun
  | [d1, d2] => { results := [.lit (.bool true)], args := [d1, d2] }
  | _ => none }
def diffMapsRow : OpenClaim := { program := "ytimefcnagilhlaa", sum := "3fc3bd6cab1b8f7fe37d276474032d7e1a45fff8b22676460022079b5c98d696", func := "woodcut/woodcutlaw20.DiffMaps", spec := "diffMaps", unfollowed := true, recurses := true, apart := false }
def DiffMapsSaid : Prop := diffMapsRow.holds Try.pinned (OpenSpec.ofChange diffMapsSpec)

/-- ITS FALSE NEIGHBOUR: 'it returns false'. Refute it at one input. -/
def diffMapsWrong : ChangeSpec := { name := "diffMaps", fn := fun _ => fun
  | [d1, d2] => { results := [.lit (.bool false)], args := [d1, d2] }
  | _ => none }
def DiffMapsWrongFalsely : Prop := diffMapsRow.holds Try.pinned (OpenSpec.ofChange diffMapsWrong)

/-- 'woodcutlaw20.DiffTrees': WHATEVER THE INPUT: true; the input reads as it did. -/
def diffTreesSpec : ChangeSpec := { name := "diffTrees", fn := fun _ => fun
  | [d1, d2, d3] => { results := [.lit (.bool true)], args := [d1, d2, d3] }
  | _ => none }
def diffTreesRow : OpenClaim := { program := "ytimefcnagilhlaa", sum := "3fc3bd6cab1b8f7fe37d276474032d7e1a45fff8b22676460022079b5c98d696", func := "woodcut/woodcutlaw20.DiffTrees", spec := "diffTrees", unfollowed := true, recurses := true, apart := false }
def DiffTreesSaid : Prop := diffTreesRow.holds Try.pinned (OpenSpec.ofChange diffTreesSpec)

/-- ITS FALSE NEIGHBOUR: 'it returns false'. Refute it at one input. -/
def diffTreesWrong : ChangeSpec := { name := "diffTrees", fn := fun _ => fun
  | [d1, d2, d3] => { results := [.lit (.bool false)], args := [d1, d2, d3] }
  | _ => none }
def DiffTreesWrongFalsely : Prop := diffTreesRow.holds Try.pinned (OpenSpec.ofChange diffTreesWrong)

/-- 'woodcutlaw20.DiffBuilt': WHATEVER THE INPUT: true; the input reads as it did. -/
def diffBuiltSpec : ChangeSpec := { name := "diffBuilt", fn := fun _ => fun
  | [d1, d2] => { results := [.lit (.bool true)], args := [d1, d2] }
  | _ => none }
def diffBuiltRow : OpenClaim := { program := "ytimefcnagilhlaa", sum := "3fc3bd6cab1b8f7fe37d276474032d7e1a45fff8b22676460022079b5c98d696", func := "woodcut/woodcutlaw20.DiffBuilt", spec := "diffBuilt", unfollowed := true, recurses := true, apart := false }
def DiffBuiltSaid : Prop := diffBuiltRow.holds Try.pinned (OpenSpec.ofChange diffBuiltSpec)

/-- ITS FALSE NEIGHBOUR: 'it returns false'. Refute it at one input. -/
def diffBuiltWrong : ChangeSpec := { name := "diffBuilt", fn := fun _ => fun
  | [d1, d2] => { results := [.lit (.bool false)], args := [d1, d2] }
  | _ => none }
def DiffBuiltWrongFalsely : Prop := diffBuiltRow.holds Try.pinned (OpenSpec.ofChange diffBuiltWrong)

/- THE SECOND FORM. 'bulk': how many values and letters a reading holds, each counted each time it is reached (what is shared counts as often as it is met; a slice's spare places count too). A statement '..UptoSaid' is the law's where the arguments, and the package variables that the reading takes, are together of bulk at most 1048576: NARROWER than '..Said'. Prove '..Said' where nothing that the law and all that it calls make is longer than what came in: it says more and counts as full. Else prove '..UptoSaid'. A law counts once. -/
mutual
def uptoBulk {H : Type} : DataW H → Nat
  | .lit (.string bytes) => bytes.length + 1
  | .lit _ => 1
  | .nil => 1
  | .ptr d => uptoBulk d + 1
  | .slice elems spare => uptoBulkAll elems + uptoBulkAll spare + 1
  | .agg parts => uptoBulkAll parts + 1
  | .iface _ d => uptoBulk d + 1
  | .map entries => uptoBulkEntries entries + 1
  | .held _ => 1
def uptoBulkAll {H : Type} : List (DataW H) → Nat
  | [] => 0
  | d :: r => uptoBulk d + uptoBulkAll r
def uptoBulkEntries {H : Type} : List (Lit × DataW H) → Nat
  | [] => 0
  | x :: r => uptoBulkEntry x + uptoBulkEntries r
def uptoBulkEntry {H : Type} : Lit × DataW H → Nat
  | (.string bytes, d) => bytes.length + uptoBulk d + 1
  | (_, d) => uptoBulk d + 1
 end
def uptoSmall : (H : Type) → List (DataW H) → Bool := fun _ ds => decide (uptoBulkAll ds ≤ 1048576)
def OpenSpec.upto (s : _root_.Go.ChangeSpec) : _root_.Go.OpenSpec := { _root_.Go.OpenSpec.ofChange s with cond := some uptoSmall }

/-- 'woodcutlaw10.TreeExact', WHERE WHAT IT READS IS OF BULK AT MOST 1048576: true; the input reads as it did. -/
def treeExactUptoRow : OpenClaim := { program := "ytimefcnagilhlaa", sum := "3fc3bd6cab1b8f7fe37d276474032d7e1a45fff8b22676460022079b5c98d696", func := "woodcut/woodcutlaw10.TreeExact", spec := "treeExact", unfollowed := true, recurses := true, apart := false, narrowed := true }
def TreeExactUptoSaid : Prop := treeExactUptoRow.holds Try.pinned (OpenSpec.upto treeExactSpec)

/-- 'woodcutlaw10.TreeOne', WHERE WHAT IT READS IS OF BULK AT MOST 1048576: true; the input reads as it did. -/
def treeOneUptoRow : OpenClaim := { program := "ytimefcnagilhlaa", sum := "3fc3bd6cab1b8f7fe37d276474032d7e1a45fff8b22676460022079b5c98d696", func := "woodcut/woodcutlaw10.TreeOne", spec := "treeOne", unfollowed := true, recurses := true, apart := false, narrowed := true }
def TreeOneUptoSaid : Prop := treeOneUptoRow.holds Try.pinned (OpenSpec.upto treeOneSpec)

/-- 'woodcutlaw10.TreeBent', WHERE WHAT IT READS IS OF BULK AT MOST 1048576: true; the input reads as it did. -/
def treeBentUptoRow : OpenClaim := { program := "ytimefcnagilhlaa", sum := "3fc3bd6cab1b8f7fe37d276474032d7e1a45fff8b22676460022079b5c98d696", func := "woodcut/woodcutlaw10.TreeBent", spec := "treeBent", unfollowed := true, recurses := true, apart := false, narrowed := true }
def TreeBentUptoSaid : Prop := treeBentUptoRow.holds Try.pinned (OpenSpec.upto treeBentSpec)

/-- 'woodcutlaw10.TreeWalks', WHERE WHAT IT READS IS OF BULK AT MOST 1048576: true; the input reads as it did. -/
def treeWalksUptoRow : OpenClaim := { program := "ytimefcnagilhlaa", sum := "3fc3bd6cab1b8f7fe37d276474032d7e1a45fff8b22676460022079b5c98d696", func := "woodcut/woodcutlaw10.TreeWalks", spec := "treeWalks", unfollowed := true, recurses := true, apart := false, narrowed := true }
def TreeWalksUptoSaid : Prop := treeWalksUptoRow.holds Try.pinned (OpenSpec.upto treeWalksSpec)

/-- 'woodcutlaw20.DiffExact', WHERE WHAT IT READS IS OF BULK AT MOST 1048576: true; the input reads as it did. -/
def diffExactUptoRow : OpenClaim := { program := "ytimefcnagilhlaa", sum := "3fc3bd6cab1b8f7fe37d276474032d7e1a45fff8b22676460022079b5c98d696", func := "woodcut/woodcutlaw20.DiffExact", spec := "diffExact", unfollowed := true, recurses := true, apart := false, narrowed := true }
def DiffExactUptoSaid : Prop := diffExactUptoRow.holds Try.pinned (OpenSpec.upto diffExactSpec)

/-- 'woodcutlaw20.DiffMaps', WHERE WHAT IT READS IS OF BULK AT MOST 1048576: true; the input reads as it did. -/
def diffMapsUptoRow : OpenClaim := { program := "ytimefcnagilhlaa", sum := "3fc3bd6cab1b8f7fe37d276474032d7e1a45fff8b22676460022079b5c98d696", func := "woodcut/woodcutlaw20.DiffMaps", spec := "diffMaps", unfollowed := true, recurses := true, apart := false, narrowed := true }
def DiffMapsUptoSaid : Prop := diffMapsUptoRow.holds Try.pinned (OpenSpec.upto diffMapsSpec)

/-- 'woodcutlaw20.DiffTrees', WHERE WHAT IT READS IS OF BULK AT MOST 1048576: true; the input reads as it did. -/
def diffTreesUptoRow : OpenClaim := { program := "ytimefcnagilhlaa", sum := "3fc3bd6cab1b8f7fe37d276474032d7e1a45fff8b22676460022079b5c98d696", func := "woodcut/woodcutlaw20.DiffTrees", spec := "diffTrees", unfollowed := true, recurses := true, apart := false, narrowed := true }
def DiffTreesUptoSaid : Prop := diffTreesUptoRow.holds Try.pinned (OpenSpec.upto diffTreesSpec)

/-- 'woodcutlaw20.DiffBuilt', WHERE WHAT IT READS IS OF BULK AT MOST 1048576: true; the input reads as it did. -/
def diffBuiltUptoRow : OpenClaim := { program := "ytimefcnagilhlaa", sum := "3fc3bd6cab1b8f7fe37d276474032d7e1a45fff8b22676460022079b5c98d696", func := "woodcut/woodcutlaw20.DiffBuilt", spec := "diffBuilt", unfollowed := true, recurses := true, apart := false, narrowed := true }
def DiffBuiltUptoSaid : Prop := diffBuiltUptoRow.holds Try.pinned (OpenSpec.upto diffBuiltSpec)

end Rows
end Go.Proofs.Ytimefcnagilhlaa
