/-
  No cell of these rows narrows 'for every input' (looked for: loops, veiled, ifaces, maps, wideKeys, modest, calm, conditions, laid).
  DERIVED. THE GIVEN ROWS OF THIS SEAT. 11 by the template 'for every input the law returns true; each argument reads behind the call as it read before'; 0 by the template 'total and deterministic' (their statements: YtaaemamcdhebhaaTotals.lean).
  GIVEN WITH THE SEED: the statements are not yours to turn. If you find one false, say at which input.
  Laid BY PROGRAM, IN A SANDBOX (cutbox-rows.mjs): the forced cells as the released guide's own fill.sh prints them over the translation da2db9bb3ddc8799… (all of the seat's roots in one cut). By AI agents, Wed Nov 11 2026. No macro, syntax, notation, axiom, sorry.
-/
import Derived.Test.YtaaemamcdhebhaaChecked
import GoSem.Claim
import GoSem.ClaimJoined
import GoSem.ClaimMapViews
import Derived.JoinedTies
import Derived.KernelRfl
namespace Go.Proofs.Ytaaemamcdhebhaa
/- THE CELL 'sum', in the pinned program and in every row, IS THE sha256 OF THE DUMP (.gsa) THAT YtaaemamcdhebhaaProg.lean LOADS. Nothing in Lean hashes anything: it is a label: what it is worth is what the hold of that sum in a sandbox is worth. -/
noncomputable def Try.pinned : Pinned := { name := "ytaaemamcdhebhaa", sum := "da2db9bb3ddc8799f1c7398f8a535ef24064c3a0afb02187761db8ce5c068ce7", checked := Try.checked }
namespace Rows
def none {H : Type} : Left H := { results := [], args := [] }

/-- 'woodcutlaw08.RecordExact': WHATEVER THE INPUT: true; the input reads as it did. -/
def recordExactSpec : ChangeSpec := { name := "recordExact", fn := fun _ => fun
  | [d1, d2] => { results := [.lit (.bool true)], args := [d1, d2] }
  | _ => none }
def recordExactRow : OpenClaim := { program := "ytaaemamcdhebhaa", sum := "da2db9bb3ddc8799f1c7398f8a535ef24064c3a0afb02187761db8ce5c068ce7", func := "woodcut/woodcutlaw08.RecordExact", spec := "recordExact", apart := false }
def RecordExactSaid : Prop := recordExactRow.holds Try.pinned (OpenSpec.ofChange recordExactSpec)

/-- ITS FALSE NEIGHBOUR: 'it returns false'. Refute it at one input. -/
def recordExactWrong : ChangeSpec := { name := "recordExact", fn := fun _ => fun
  | [d1, d2] => { results := [.lit (.bool false)], args := [d1, d2] }
  | _ => none }
def RecordExactWrongFalsely : Prop := recordExactRow.holds Try.pinned (OpenSpec.ofChange recordExactWrong)

/-- 'woodcutlaw08.RecordBack': WHATEVER THE INPUT: true; the input reads as it did. -/
def recordBackSpec : ChangeSpec := { name := "recordBack", fn := fun _ => fun
  | [d1, d2, d3, d4] => { results := [.lit (.bool true)], args := [d1, d2, d3, d4] }
  | _ => none }
def recordBackRow : OpenClaim := { program := "ytaaemamcdhebhaa", sum := "da2db9bb3ddc8799f1c7398f8a535ef24064c3a0afb02187761db8ce5c068ce7", func := "woodcut/woodcutlaw08.RecordBack", spec := "recordBack", apart := false }
def RecordBackSaid : Prop := recordBackRow.holds Try.pinned (OpenSpec.ofChange recordBackSpec)

/-- ITS FALSE NEIGHBOUR: 'it returns false'. Refute it at one input. -/
def recordBackWrong : ChangeSpec := { name := "recordBack", fn := fun _ => fun
  | [d1, d2, d3, d4] => { results := [.lit (.bool false)], args := [d1, d2, d3, d4] }
  | _ => none }
def RecordBackWrongFalsely : Prop := recordBackRow.holds Try.pinned (OpenSpec.ofChange recordBackWrong)

/-- 'woodcutlaw08.RecordKinds': WHATEVER THE INPUT: true; the input reads as it did. -/
def recordKindsSpec : ChangeSpec := { name := "recordKinds", fn := fun _ => fun
  | [d1, d2, d3] => { results := [.lit (.bool true)], args := [d1, d2, d3] }
  | _ => none }
def recordKindsRow : OpenClaim := { program := "ytaaemamcdhebhaa", sum := "da2db9bb3ddc8799f1c7398f8a535ef24064c3a0afb02187761db8ce5c068ce7", func := "woodcut/woodcutlaw08.RecordKinds", spec := "recordKinds", apart := false }
def RecordKindsSaid : Prop := recordKindsRow.holds Try.pinned (OpenSpec.ofChange recordKindsSpec)

/-- ITS FALSE NEIGHBOUR: 'it returns false'. Refute it at one input. -/
def recordKindsWrong : ChangeSpec := { name := "recordKinds", fn := fun _ => fun
  | [d1, d2, d3] => { results := [.lit (.bool false)], args := [d1, d2, d3] }
  | _ => none }
def RecordKindsWrongFalsely : Prop := recordKindsRow.holds Try.pinned (OpenSpec.ofChange recordKindsWrong)

/-- 'woodcutlaw07.NodeExact': WHATEVER THE INPUT: true; the input reads as it did. -/
def nodeExactSpec : ChangeSpec := { name := "nodeExact", fn := fun _ => fun
  | [d1, d2, d3, d4] => { results := [.lit (.bool true)], args := [d1, d2, d3, d4] }
  | _ => none }
def nodeExactRow : OpenClaim := { program := "ytaaemamcdhebhaa", sum := "da2db9bb3ddc8799f1c7398f8a535ef24064c3a0afb02187761db8ce5c068ce7", func := "woodcut/woodcutlaw07.NodeExact", spec := "nodeExact", apart := false }
def NodeExactSaid : Prop := nodeExactRow.holds Try.pinned (OpenSpec.ofChange nodeExactSpec)

/-- ITS FALSE NEIGHBOUR: 'it returns false'. Refute it at one input. -/
def nodeExactWrong : ChangeSpec := { name := "nodeExact", fn := fun _ => fun
  | [d1, d2, d3, d4] => { results := [.lit (.bool false)], args := [d1, d2, d3, d4] }
  | _ => none }
def NodeExactWrongFalsely : Prop := nodeExactRow.holds Try.pinned (OpenSpec.ofChange nodeExactWrong)

/-- 'woodcutlaw07.NodeBack': WHATEVER THE INPUT: true; the input reads as it did. -/
def nodeBackSpec : ChangeSpec := { name := "nodeBack", fn := fun _ => fun
  | [d1, d2, d3, d4] => { results := [.lit (.bool true)], args := [d1, d2, d3, d4] }
  | _ => none }
def nodeBackRow : OpenClaim := { program := "ytaaemamcdhebhaa", sum := "da2db9bb3ddc8799f1c7398f8a535ef24064c3a0afb02187761db8ce5c068ce7", func := "woodcut/woodcutlaw07.NodeBack", spec := "nodeBack", apart := false }
def NodeBackSaid : Prop := nodeBackRow.holds Try.pinned (OpenSpec.ofChange nodeBackSpec)

/-- ITS FALSE NEIGHBOUR: 'it returns false'. Refute it at one input. -/
def nodeBackWrong : ChangeSpec := { name := "nodeBack", fn := fun _ => fun
  | [d1, d2, d3, d4] => { results := [.lit (.bool false)], args := [d1, d2, d3, d4] }
  | _ => none }
def NodeBackWrongFalsely : Prop := nodeBackRow.holds Try.pinned (OpenSpec.ofChange nodeBackWrong)

/-- 'woodcutlaw07.NodePlaces': WHATEVER THE INPUT: true; the input reads as it did. -/
def nodePlacesSpec : ChangeSpec := { name := "nodePlaces", fn := fun _ => fun
  | [d1, d2] => { results := [.lit (.bool true)], args := [d1, d2] }
  | _ => none }
def nodePlacesRow : OpenClaim := { program := "ytaaemamcdhebhaa", sum := "da2db9bb3ddc8799f1c7398f8a535ef24064c3a0afb02187761db8ce5c068ce7", func := "woodcut/woodcutlaw07.NodePlaces", spec := "nodePlaces", apart := false }
def NodePlacesSaid : Prop := nodePlacesRow.holds Try.pinned (OpenSpec.ofChange nodePlacesSpec)

/-- ITS FALSE NEIGHBOUR: 'it returns false'. Refute it at one input. -/
def nodePlacesWrong : ChangeSpec := { name := "nodePlaces", fn := fun _ => fun
  | [d1, d2] => { results := [.lit (.bool false)], args := [d1, d2] }
  | _ => none }
def NodePlacesWrongFalsely : Prop := nodePlacesRow.holds Try.pinned (OpenSpec.ofChange nodePlacesWrong)

/-- 'woodcutlaw07.NodeBounds': WHATEVER THE INPUT: true; the input reads as it did. -/
def nodeBoundsSpec : ChangeSpec := { name := "nodeBounds", fn := fun _ => fun
  | [d1, d2, d3] => { results := [.lit (.bool true)], args := [d1, d2, d3] }
  | _ => none }
def nodeBoundsRow : OpenClaim := { program := "ytaaemamcdhebhaa", sum := "da2db9bb3ddc8799f1c7398f8a535ef24064c3a0afb02187761db8ce5c068ce7", func := "woodcut/woodcutlaw07.NodeBounds", spec := "nodeBounds", apart := false }
def NodeBoundsSaid : Prop := nodeBoundsRow.holds Try.pinned (OpenSpec.ofChange nodeBoundsSpec)

/-- ITS FALSE NEIGHBOUR: 'it returns false'. Refute it at one input. -/
def nodeBoundsWrong : ChangeSpec := { name := "nodeBounds", fn := fun _ => fun
  | [d1, d2, d3] => { results := [.lit (.bool false)], args := [d1, d2, d3] }
  | _ => none }
def NodeBoundsWrongFalsely : Prop := nodeBoundsRow.holds Try.pinned (OpenSpec.ofChange nodeBoundsWrong)

/-- 'woodcutlaw06.SuperExact': WHATEVER THE INPUT: true; the input reads as it did. -/
def superExactSpec : ChangeSpec := { name := "superExact", fn := fun _ => fun
  | [d1, d2, d3] => { results := [.lit (.bool true)], args := [d1, d2, d3] }
  | _ => none }
def superExactRow : OpenClaim := { program := "ytaaemamcdhebhaa", sum := "da2db9bb3ddc8799f1c7398f8a535ef24064c3a0afb02187761db8ce5c068ce7", func := "woodcut/woodcutlaw06.SuperExact", spec := "superExact", apart := false }
def SuperExactSaid : Prop := superExactRow.holds Try.pinned (OpenSpec.ofChange superExactSpec)

/-- ITS FALSE NEIGHBOUR: 'it returns false'. Refute it at one input. -/
def superExactWrong : ChangeSpec := { name := "superExact", fn := fun _ => fun
  | [d1, d2, d3] => { results := [.lit (.bool false)], args := [d1, d2, d3] }
  | _ => none }
def SuperExactWrongFalsely : Prop := superExactRow.holds Try.pinned (OpenSpec.ofChange superExactWrong)

/-- 'woodcutlaw06.SuperBack': WHATEVER THE INPUT: true; the input reads as it did. -/
def superBackSpec : ChangeSpec := { name := "superBack", fn := fun _ => fun
  | [d1, d2, d3, d4] => { results := [.lit (.bool true)], args := [d1, d2, d3, d4] }
  | _ => none }
def superBackRow : OpenClaim := { program := "ytaaemamcdhebhaa", sum := "da2db9bb3ddc8799f1c7398f8a535ef24064c3a0afb02187761db8ce5c068ce7", func := "woodcut/woodcutlaw06.SuperBack", spec := "superBack", apart := false }
def SuperBackSaid : Prop := superBackRow.holds Try.pinned (OpenSpec.ofChange superBackSpec)

/-- ITS FALSE NEIGHBOUR: 'it returns false'. Refute it at one input. -/
def superBackWrong : ChangeSpec := { name := "superBack", fn := fun _ => fun
  | [d1, d2, d3, d4] => { results := [.lit (.bool false)], args := [d1, d2, d3, d4] }
  | _ => none }
def SuperBackWrongFalsely : Prop := superBackRow.holds Try.pinned (OpenSpec.ofChange superBackWrong)

/-- 'woodcutlaw06.SuperBounds': WHATEVER THE INPUT: true; the input reads as it did. -/
def superBoundsSpec : ChangeSpec := { name := "superBounds", fn := fun _ => fun
  | [d1, d2, d3, d4] => { results := [.lit (.bool true)], args := [d1, d2, d3, d4] }
  | _ => none }
def superBoundsRow : OpenClaim := { program := "ytaaemamcdhebhaa", sum := "da2db9bb3ddc8799f1c7398f8a535ef24064c3a0afb02187761db8ce5c068ce7", func := "woodcut/woodcutlaw06.SuperBounds", spec := "superBounds", apart := false }
def SuperBoundsSaid : Prop := superBoundsRow.holds Try.pinned (OpenSpec.ofChange superBoundsSpec)

/-- ITS FALSE NEIGHBOUR: 'it returns false'. Refute it at one input. -/
def superBoundsWrong : ChangeSpec := { name := "superBounds", fn := fun _ => fun
  | [d1, d2, d3, d4] => { results := [.lit (.bool false)], args := [d1, d2, d3, d4] }
  | _ => none }
def SuperBoundsWrongFalsely : Prop := superBoundsRow.holds Try.pinned (OpenSpec.ofChange superBoundsWrong)

/-- 'woodcutlaw06.SuperPick': WHATEVER THE INPUT: true; the input reads as it did. -/
def superPickSpec : ChangeSpec := { name := "superPick", fn := fun _ => fun
  | [d1, d2, d3] => { results := [.lit (.bool true)], args := [d1, d2, d3] }
  | _ => none }
def superPickRow : OpenClaim := { program := "ytaaemamcdhebhaa", sum := "da2db9bb3ddc8799f1c7398f8a535ef24064c3a0afb02187761db8ce5c068ce7", func := "woodcut/woodcutlaw06.SuperPick", spec := "superPick", unfollowed := true, recurses := true, apart := false }
def SuperPickSaid : Prop := superPickRow.holds Try.pinned (OpenSpec.ofChange superPickSpec)

/-- ITS FALSE NEIGHBOUR: 'it returns false'. Refute it at one input. -/
def superPickWrong : ChangeSpec := { name := "superPick", fn := fun _ => fun
  | [d1, d2, d3] => { results := [.lit (.bool false)], args := [d1, d2, d3] }
  | _ => none }
def SuperPickWrongFalsely : Prop := superPickRow.holds Try.pinned (OpenSpec.ofChange superPickWrong)

/- THE SECOND FORM. 'bulk': how many values and letters a reading holds, each counted each time it is reached (what is shared counts as often as it is met; a slice's spare places count too). A statement '..UptoSaid' is the law's where the arguments, and the package variables that the reading takes, are together of bulk at most 1048576: NARROWER than '..Said'. Prove '..Said' where nothing that the law and all that it calls make is longer than what came in: it says more and counts as full. Else prove '..UptoSaid'. A law counts once. -/
mutual
def uptoBulk {H : Type} : DataW H → Nat
  | .lit (.string bytes) => bytes.length + 1
  | .lit _ => 1
  | .nil => 1
  | .ptr d => uptoBulk d + 1
  | .slice elems spare => uptoBulkAll elems + uptoBulkAll spare + 1
  | .agg parts => uptoBulkAll parts + 1
  | .iface _ d => uptoBulk d + 1
  | .map entries => uptoBulkEntries entries + 1
  | .held _ => 1
def uptoBulkAll {H : Type} : List (DataW H) → Nat
  | [] => 0
  | d :: r => uptoBulk d + uptoBulkAll r
def uptoBulkEntries {H : Type} : List (Lit × DataW H) → Nat
  | [] => 0
  | x :: r => uptoBulkEntry x + uptoBulkEntries r
def uptoBulkEntry {H : Type} : Lit × DataW H → Nat
  | (.string bytes, d) => bytes.length + uptoBulk d + 1
  | (_, d) => uptoBulk d + 1
 end
def uptoSmall : (H : Type) → List (DataW H) → Bool := fun _ ds => decide (uptoBulkAll ds ≤ 1048576)
def OpenSpec.upto (s : _root_.Go.ChangeSpec) : _root_.Go.OpenSpec := { _root_.Go.OpenSpec.ofChange s with cond := some uptoSmall }

/-- 'woodcutlaw08.RecordExact', WHERE WHAT IT READS IS OF BULK AT MOST 1048576: true; the input reads as it did. -/
def recordExactUptoRow : OpenClaim := { program := "ytaaemamcdhebhaa", sum := "da2db9bb3ddc8799f1c7398f8a535ef24064c3a0afb02187761db8ce5c068ce7", func := "woodcut/woodcutlaw08.RecordExact", spec := "recordExact", apart := false, narrowed := true }
def RecordExactUptoSaid : Prop := recordExactUptoRow.holds Try.pinned (OpenSpec.upto recordExactSpec)

/-- 'woodcutlaw08.RecordBack', WHERE WHAT IT READS IS OF BULK AT MOST 1048576: true; the input reads as it did. -/
def recordBackUptoRow : OpenClaim := { program := "ytaaemamcdhebhaa", sum := "da2db9bb3ddc8799f1c7398f8a535ef24064c3a0afb02187761db8ce5c068ce7", func := "woodcut/woodcutlaw08.RecordBack", spec := "recordBack", apart := false, narrowed := true }
def RecordBackUptoSaid : Prop := recordBackUptoRow.holds Try.pinned (OpenSpec.upto recordBackSpec)

/-- 'woodcutlaw08.RecordKinds', WHERE WHAT IT READS IS OF BULK AT MOST 1048576: true; the input reads as it did. -/
def recordKindsUptoRow : OpenClaim := { program := "ytaaemamcdhebhaa", sum := "da2db9bb3ddc8799f1c7398f8a535ef24064c3a0afb02187761db8ce5c068ce7", func := "woodcut/woodcutlaw08.RecordKinds", spec := "recordKinds", apart := false, narrowed := true }
def RecordKindsUptoSaid : Prop := recordKindsUptoRow.holds Try.pinned (OpenSpec.upto recordKindsSpec)

/-- 'woodcutlaw07.NodeExact', WHERE WHAT IT READS IS OF BULK AT MOST 1048576: true; the input reads as it did. -/
def nodeExactUptoRow : OpenClaim := { program := "ytaaemamcdhebhaa", sum := "da2db9bb3ddc8799f1c7398f8a535ef24064c3a0afb02187761db8ce5c068ce7", func := "woodcut/woodcutlaw07.NodeExact", spec := "nodeExact", apart := false, narrowed := true }
def NodeExactUptoSaid : Prop := nodeExactUptoRow.holds Try.pinned (OpenSpec.upto nodeExactSpec)

/-- 'woodcutlaw07.NodeBack', WHERE WHAT IT READS IS OF BULK AT MOST 1048576: true; the input reads as it did. -/
def nodeBackUptoRow : OpenClaim := { program := "ytaaemamcdhebhaa", sum := "da2db9bb3ddc8799f1c7398f8a535ef24064c3a0afb02187761db8ce5c068ce7", func := "woodcut/woodcutlaw07.NodeBack", spec := "nodeBack", apart := false, narrowed := true }
def NodeBackUptoSaid : Prop := nodeBackUptoRow.holds Try.pinned (OpenSpec.upto nodeBackSpec)

/-- 'woodcutlaw07.NodePlaces', WHERE WHAT IT READS IS OF BULK AT MOST 1048576: true; the input reads as it did. -/
def nodePlacesUptoRow : OpenClaim := { program := "ytaaemamcdhebhaa", sum := "da2db9bb3ddc8799f1c7398f8a535ef24064c3a0afb02187761db8ce5c068ce7", func := "woodcut/woodcutlaw07.NodePlaces", spec := "nodePlaces", apart := false, narrowed := true }
def NodePlacesUptoSaid : Prop := nodePlacesUptoRow.holds Try.pinned (OpenSpec.upto nodePlacesSpec)

/-- 'woodcutlaw07.NodeBounds', WHERE WHAT IT READS IS OF BULK AT MOST 1048576: true; the input reads as it did. -/
def nodeBoundsUptoRow : OpenClaim := { program := "ytaaemamcdhebhaa", sum := "da2db9bb3ddc8799f1c7398f8a535ef24064c3a0afb02187761db8ce5c068ce7", func := "woodcut/woodcutlaw07.NodeBounds", spec := "nodeBounds", apart := false, narrowed := true }
def NodeBoundsUptoSaid : Prop := nodeBoundsUptoRow.holds Try.pinned (OpenSpec.upto nodeBoundsSpec)

/-- 'woodcutlaw06.SuperExact', WHERE WHAT IT READS IS OF BULK AT MOST 1048576: true; the input reads as it did. -/
def superExactUptoRow : OpenClaim := { program := "ytaaemamcdhebhaa", sum := "da2db9bb3ddc8799f1c7398f8a535ef24064c3a0afb02187761db8ce5c068ce7", func := "woodcut/woodcutlaw06.SuperExact", spec := "superExact", apart := false, narrowed := true }
def SuperExactUptoSaid : Prop := superExactUptoRow.holds Try.pinned (OpenSpec.upto superExactSpec)

/-- 'woodcutlaw06.SuperBack', WHERE WHAT IT READS IS OF BULK AT MOST 1048576: true; the input reads as it did. -/
def superBackUptoRow : OpenClaim := { program := "ytaaemamcdhebhaa", sum := "da2db9bb3ddc8799f1c7398f8a535ef24064c3a0afb02187761db8ce5c068ce7", func := "woodcut/woodcutlaw06.SuperBack", spec := "superBack", apart := false, narrowed := true }
def SuperBackUptoSaid : Prop := superBackUptoRow.holds Try.pinned (OpenSpec.upto superBackSpec)

/-- 'woodcutlaw06.SuperBounds', WHERE WHAT IT READS IS OF BULK AT MOST 1048576: true; the input reads as it did. -/
def superBoundsUptoRow : OpenClaim := { program := "ytaaemamcdhebhaa", sum := "da2db9bb3ddc8799f1c7398f8a535ef24064c3a0afb02187761db8ce5c068ce7", func := "woodcut/woodcutlaw06.SuperBounds", spec := "superBounds", apart := false, narrowed := true }
def SuperBoundsUptoSaid : Prop := superBoundsUptoRow.holds Try.pinned (OpenSpec.upto superBoundsSpec)

/-- 'woodcutlaw06.SuperPick', WHERE WHAT IT READS IS OF BULK AT MOST 1048576: true; the input reads as it did. -/
def superPickUptoRow : OpenClaim := { program := "ytaaemamcdhebhaa", sum := "da2db9bb3ddc8799f1c7398f8a535ef24064c3a0afb02187761db8ce5c068ce7", func := "woodcut/woodcutlaw06.SuperPick", spec := "superPick", unfollowed := true, recurses := true, apart := false, narrowed := true }
def SuperPickUptoSaid : Prop := superPickUptoRow.holds Try.pinned (OpenSpec.upto superPickSpec)

end Rows
end Go.Proofs.Ytaaemamcdhebhaa
