/-
  No cell of these rows narrows 'for every input' (looked for: loops, veiled, ifaces, maps, wideKeys, modest, calm, conditions, laid).
  DERIVED. THE GIVEN ROWS OF THIS SEAT. 6 by the template 'for every input the law returns true; each argument reads behind the call as it read before'; 0 by the template 'total and deterministic' (their statements: YtdcggjkcbheolaaTotals.lean).
  GIVEN WITH THE SEED: the statements are not yours to turn. If you find one false, say at which input.
  Laid BY PROGRAM, IN A SANDBOX (cutbox-rows.mjs): the forced cells as the released guide's own fill.sh prints them over the translation 682f0e6e10e59fe8… (all of the seat's roots in one cut). By AI agents, Wed Nov 11 2026. No macro, syntax, notation, axiom, sorry.
-/
import Derived.Test.YtdcggjkcbheolaaChecked
import GoSem.Claim
import GoSem.ClaimJoined
import GoSem.ClaimMapViews
import Derived.JoinedTies
import Derived.KernelRfl
namespace Go.Proofs.Ytdcggjkcbheolaa
/- THE CELL 'sum', in the pinned program and in every row, IS THE sha256 OF THE DUMP (.gsa) THAT YtdcggjkcbheolaaProg.lean LOADS. Nothing in Lean hashes anything: it is a label: what it is worth is what the hold of that sum in a sandbox is worth. -/
noncomputable def Try.pinned : Pinned := { name := "ytdcggjkcbheolaa", sum := "682f0e6e10e59fe874fb7598362b49c086d8dc3f7e4d66c1ad748a09ad74ff41", checked := Try.checked }
namespace Rows
def none {H : Type} : Left H := { results := [], args := [] }

/-- 'woodcutlaw24.FoldParts': WHATEVER THE INPUT: true; the input reads as it did. -/
def foldPartsSpec : ChangeSpec := { name := "foldParts", fn := fun _ => fun
  | [d1, d2, d3, d4] => { results := [.lit (.bool true)], args := [d1, d2, d3, d4] }
  | _ => none }
def foldPartsRow : OpenClaim := { program := "ytdcggjkcbheolaa", sum := "682f0e6e10e59fe874fb7598362b49c086d8dc3f7e4d66c1ad748a09ad74ff41", func := "woodcut/woodcutlaw24.FoldParts", spec := "foldParts", unfollowed := true, recurses := true, apart := false }
def FoldPartsSaid : Prop := foldPartsRow.holds Try.pinned (OpenSpec.ofChange foldPartsSpec)

/-- ITS FALSE NEIGHBOUR: 'it returns false'. Refute it at one input. -/
def foldPartsWrong : ChangeSpec := { name := "foldParts", fn := fun _ => fun
  | [d1, d2, d3, d4] => { results := [.lit (.bool false)], args := [d1, d2, d3, d4] }
  | _ => none }
def FoldPartsWrongFalsely : Prop := foldPartsRow.holds Try.pinned (OpenSpec.ofChange foldPartsWrong)

/-- 'woodcutlaw14.BuildExact': WHATEVER THE INPUT: true; the input reads as it did. -/
def buildExactSpec : ChangeSpec := { name := "buildExact", fn := fun _ => fun
  | [d1, d2, d3, d4] => { results := [.lit (.bool true)], args := [d1, d2, d3, d4] }
  | _ => none }
def buildExactRow : OpenClaim := { program := "ytdcggjkcbheolaa", sum := "682f0e6e10e59fe874fb7598362b49c086d8dc3f7e4d66c1ad748a09ad74ff41", func := "woodcut/woodcutlaw14.BuildExact", spec := "buildExact", unfollowed := true, recurses := true, apart := false }
def BuildExactSaid : Prop := buildExactRow.holds Try.pinned (OpenSpec.ofChange buildExactSpec)

/-- ITS FALSE NEIGHBOUR: 'it returns false'. Refute it at one input. -/
def buildExactWrong : ChangeSpec := { name := "buildExact", fn := fun _ => fun
  | [d1, d2, d3, d4] => { results := [.lit (.bool false)], args := [d1, d2, d3, d4] }
  | _ => none }
def BuildExactWrongFalsely : Prop := buildExactRow.holds Try.pinned (OpenSpec.ofChange buildExactWrong)

/-- 'woodcutlaw14.BuildSame': WHATEVER THE INPUT: true; the input reads as it did. -/
def buildSameSpec : ChangeSpec := { name := "buildSame", fn := fun _ => fun
  | [d1, d2] => { results := [.lit (.bool true)], args := [d1, d2] }
  | _ => none }
def buildSameRow : OpenClaim := { program := "ytdcggjkcbheolaa", sum := "682f0e6e10e59fe874fb7598362b49c086d8dc3f7e4d66c1ad748a09ad74ff41", func := "woodcut/woodcutlaw14.BuildSame", spec := "buildSame", unfollowed := true, recurses := true, apart := false }
def BuildSameSaid : Prop := buildSameRow.holds Try.pinned (OpenSpec.ofChange buildSameSpec)

/-- ITS FALSE NEIGHBOUR: 'it returns false'. Refute it at one input. -/
def buildSameWrong : ChangeSpec := { name := "buildSame", fn := fun _ => fun
  | [d1, d2] => { results := [.lit (.bool false)], args := [d1, d2] }
  | _ => none }
def BuildSameWrongFalsely : Prop := buildSameRow.holds Try.pinned (OpenSpec.ofChange buildSameWrong)

/-- 'woodcutlaw14.BuildSpace': WHATEVER THE INPUT: true; the input reads as it did. -/
def buildSpaceSpec : ChangeSpec := { name := "buildSpace", fn := fun _ => fun
  | [d1, d2] => { results := [.lit (.bool true)], args := [d1, d2] }
  | _ => none }
def buildSpaceRow : OpenClaim := { program := "ytdcggjkcbheolaa", sum := "682f0e6e10e59fe874fb7598362b49c086d8dc3f7e4d66c1ad748a09ad74ff41", func := "woodcut/woodcutlaw14.BuildSpace", spec := "buildSpace", unfollowed := true, recurses := true, apart := false }
def BuildSpaceSaid : Prop := buildSpaceRow.holds Try.pinned (OpenSpec.ofChange buildSpaceSpec)

/-- ITS FALSE NEIGHBOUR: 'it returns false'. Refute it at one input. -/
def buildSpaceWrong : ChangeSpec := { name := "buildSpace", fn := fun _ => fun
  | [d1, d2] => { results := [.lit (.bool false)], args := [d1, d2] }
  | _ => none }
def BuildSpaceWrongFalsely : Prop := buildSpaceRow.holds Try.pinned (OpenSpec.ofChange buildSpaceWrong)

/-- 'woodcutlaw14.BuildHas': WHATEVER THE INPUT: true; the input reads as it did. -/
def buildHasSpec : ChangeSpec := { name := "buildHas", fn := fun _ => fun
  | [d1, d2, d3] => { results := [.lit (.bool true)], args := [d1, d2, d3] }
  | _ => none }
def buildHasRow : OpenClaim := { program := "ytdcggjkcbheolaa", sum := "682f0e6e10e59fe874fb7598362b49c086d8dc3f7e4d66c1ad748a09ad74ff41", func := "woodcut/woodcutlaw14.BuildHas", spec := "buildHas", unfollowed := true, recurses := true, apart := false }
def BuildHasSaid : Prop := buildHasRow.holds Try.pinned (OpenSpec.ofChange buildHasSpec)

/-- ITS FALSE NEIGHBOUR: 'it returns false'. Refute it at one input. -/
def buildHasWrong : ChangeSpec := { name := "buildHas", fn := fun _ => fun
  | [d1, d2, d3] => { results := [.lit (.bool false)], args := [d1, d2, d3] }
  | _ => none }
def BuildHasWrongFalsely : Prop := buildHasRow.holds Try.pinned (OpenSpec.ofChange buildHasWrong)

/-- 'woodcutlaw24.FoldPlan': WHATEVER THE INPUT: true; the input reads as it did. -/
def foldPlanSpec : ChangeSpec := { name := "foldPlan", fn := fun _ => fun
  | [d1, d2, d3] => { results := [.lit (.bool true)], args := [d1, d2, d3] }
  | _ => none }
def foldPlanRow : OpenClaim := { program := "ytdcggjkcbheolaa", sum := "682f0e6e10e59fe874fb7598362b49c086d8dc3f7e4d66c1ad748a09ad74ff41", func := "woodcut/woodcutlaw24.FoldPlan", spec := "foldPlan", unfollowed := true, recurses := true, apart := false }
def FoldPlanSaid : Prop := foldPlanRow.holds Try.pinned (OpenSpec.ofChange foldPlanSpec)

/-- ITS FALSE NEIGHBOUR: 'it returns false'. Refute it at one input. -/
def foldPlanWrong : ChangeSpec := { name := "foldPlan", fn := fun _ => fun
  | [d1, d2, d3] => { results := [.lit (.bool false)], args := [d1, d2, d3] }
  | _ => none }
def FoldPlanWrongFalsely : Prop := foldPlanRow.holds Try.pinned (OpenSpec.ofChange foldPlanWrong)

/- THE SECOND FORM. 'bulk': how many values and letters a reading holds, each counted each time it is reached (what is shared counts as often as it is met; a slice's spare places count too). A statement '..UptoSaid' is the law's where the arguments, and the package variables that the reading takes, are together of bulk at most 1048576: NARROWER than '..Said'. Prove '..Said' where nothing that the law and all that it calls make is longer than what came in: it says more and counts as full. Else prove '..UptoSaid'. A law counts once. -/
mutual
def uptoBulk {H : Type} : DataW H → Nat
  | .lit (.string bytes) => bytes.length + 1
  | .lit _ => 1
  | .nil => 1
  | .ptr d => uptoBulk d + 1
  | .slice elems spare => uptoBulkAll elems + uptoBulkAll spare + 1
  | .agg parts => uptoBulkAll parts + 1
  | .iface _ d => uptoBulk d + 1
  | .map entries => uptoBulkEntries entries + 1
  | .held _ => 1
def uptoBulkAll {H : Type} : List (DataW H) → Nat
  | [] => 0
  | d :: r => uptoBulk d + uptoBulkAll r
def uptoBulkEntries {H : Type} : List (Lit × DataW H) → Nat
  | [] => 0
  | x :: r => uptoBulkEntry x + uptoBulkEntries r
def uptoBulkEntry {H : Type} : Lit × DataW H → Nat
  | (.string bytes, d) => bytes.length + uptoBulk d + 1
  | (_, d) => uptoBulk d + 1
 end
def uptoSmall : (H : Type) → List (DataW H) → Bool := fun _ ds => decide (uptoBulkAll ds ≤ 1048576)
def OpenSpec.upto (s : _root_.Go.ChangeSpec) : _root_.Go.OpenSpec := { _root_.Go.OpenSpec.ofChange s with cond := some uptoSmall }

/-- 'woodcutlaw24.FoldParts', WHERE WHAT IT READS IS OF BULK AT MOST 1048576: true; the input reads as it did. -/
def foldPartsUptoRow : OpenClaim := { program := "ytdcggjkcbheolaa", sum := "682f0e6e10e59fe874fb7598362b49c086d8dc3f7e4d66c1ad748a09ad74ff41", func := "woodcut/woodcutlaw24.FoldParts", spec := "foldParts", unfollowed := true, recurses := true, apart := false, narrowed := true }
def FoldPartsUptoSaid : Prop := foldPartsUptoRow.holds Try.pinned (OpenSpec.upto foldPartsSpec)

/-- 'woodcutlaw14.BuildExact', WHERE WHAT IT READS IS OF BULK AT MOST 1048576: true; the input reads as it did. -/
def buildExactUptoRow : OpenClaim := { program := "ytdcggjkcbheolaa", sum := "682f0e6e10e59fe874fb7598362b49c086d8dc3f7e4d66c1ad748a09ad74ff41", func := "woodcut/woodcutlaw14.BuildExact", spec := "buildExact", unfollowed := true, recurses := true, apart := false, narrowed := true }
def BuildExactUptoSaid : Prop := buildExactUptoRow.holds Try.pinned (OpenSpec.upto buildExactSpec)

/-- 'woodcutlaw14.BuildSame', WHERE WHAT IT READS IS OF BULK AT MOST 1048576: true; the input reads as it did. -/
def buildSameUptoRow : OpenClaim := { program := "ytdcggjkcbheolaa", sum := "682f0e6e10e59fe874fb7598362b49c086d8dc3f7e4d66c1ad748a09ad74ff41", func := "woodcut/woodcutlaw14.BuildSame", spec := "buildSame", unfollowed := true, recurses := true, apart := false, narrowed := true }
def BuildSameUptoSaid : Prop := buildSameUptoRow.holds Try.pinned (OpenSpec.upto buildSameSpec)

/-- 'woodcutlaw14.BuildSpace', WHERE WHAT IT READS IS OF BULK AT MOST 1048576: true; the input reads as it did. -/
def buildSpaceUptoRow : OpenClaim := { program := "ytdcggjkcbheolaa", sum := "682f0e6e10e59fe874fb7598362b49c086d8dc3f7e4d66c1ad748a09ad74ff41", func := "woodcut/woodcutlaw14.BuildSpace", spec := "buildSpace", unfollowed := true, recurses := true, apart := false, narrowed := true }
def BuildSpaceUptoSaid : Prop := buildSpaceUptoRow.holds Try.pinned (OpenSpec.upto buildSpaceSpec)

/-- 'woodcutlaw14.BuildHas', WHERE WHAT IT READS IS OF BULK AT MOST 1048576: true; the input reads as it did. -/
def buildHasUptoRow : OpenClaim := { program := "ytdcggjkcbheolaa", sum := "682f0e6e10e59fe874fb7598362b49c086d8dc3f7e4d66c1ad748a09ad74ff41", func := "woodcut/woodcutlaw14.BuildHas", spec := "buildHas", unfollowed := true, recurses := true, apart := false, narrowed := true }
def BuildHasUptoSaid : Prop := buildHasUptoRow.holds Try.pinned (OpenSpec.upto buildHasSpec)

/-- 'woodcutlaw24.FoldPlan', WHERE WHAT IT READS IS OF BULK AT MOST 1048576: true; the input reads as it did. -/
def foldPlanUptoRow : OpenClaim := { program := "ytdcggjkcbheolaa", sum := "682f0e6e10e59fe874fb7598362b49c086d8dc3f7e4d66c1ad748a09ad74ff41", func := "woodcut/woodcutlaw24.FoldPlan", spec := "foldPlan", unfollowed := true, recurses := true, apart := false, narrowed := true }
def FoldPlanUptoSaid : Prop := foldPlanUptoRow.holds Try.pinned (OpenSpec.upto foldPlanSpec)

end Rows
end Go.Proofs.Ytdcggjkcbheolaa
