/-
  No cell of these rows narrows 'for every input' (looked for: loops, veiled, ifaces, maps, wideKeys, modest, calm, conditions, laid).
  DERIVED. THE GIVEN ROWS OF THIS SEAT. 9 by the template 'for every input the law returns true; each argument reads behind the call as it read before'; 0 by the template 'total and deterministic' (their statements: YtijfghknjkegpaaTotals.lean).
  GIVEN WITH THE SEED: the statements are not yours to turn. If you find one false, say at which input.
  Laid BY PROGRAM, IN A SANDBOX (cutbox-rows.mjs): the forced cells as the released guide's own fill.sh prints them over the translation b02674c5fbc68683… (all of the seat's roots in one cut). By AI agents, Wed Nov 11 2026. No macro, syntax, notation, axiom, sorry.
-/
import Derived.Test.YtijfghknjkegpaaChecked
import GoSem.Claim
import GoSem.ClaimJoined
import GoSem.ClaimMapViews
import Derived.JoinedTies
import Derived.KernelRfl
namespace Go.Proofs.Ytijfghknjkegpaa
/- THE CELL 'sum', in the pinned program and in every row, IS THE sha256 OF THE DUMP (.gsa) THAT YtijfghknjkegpaaProg.lean LOADS. Nothing in Lean hashes anything: it is a label: what it is worth is what the hold of that sum in a sandbox is worth. -/
noncomputable def Try.pinned : Pinned := { name := "ytijfghknjkegpaa", sum := "b02674c5fbc68683d662370933827b341756315203bb63d081192f4bef9c8bfe", checked := Try.checked }
namespace Rows
def none {H : Type} : Left H := { results := [], args := [] }

/-- 'woodcutlaw21.RunsExact': WHATEVER THE INPUT: true; the input reads as it did. -/
def runsExactSpec : ChangeSpec := { name := "runsExact", fn := fun _ => fun
  | [d1, d2, d3] => { results := [.lit (.bool true)], args := [d1, d2, d3] }
  | _ => none }
def runsExactRow : OpenClaim := { program := "ytijfghknjkegpaa", sum := "b02674c5fbc68683d662370933827b341756315203bb63d081192f4bef9c8bfe", func := "woodcut/woodcutlaw21.RunsExact", spec := "runsExact", apart := false }
def RunsExactSaid : Prop := runsExactRow.holds Try.pinned (OpenSpec.ofChange runsExactSpec)

/-- ITS FALSE NEIGHBOUR: 'it returns false'. Refute it at one input. -/
def runsExactWrong : ChangeSpec := { name := "runsExact", fn := fun _ => fun
  | [d1, d2, d3] => { results := [.lit (.bool false)], args := [d1, d2, d3] }
  | _ => none }
def RunsExactWrongFalsely : Prop := runsExactRow.holds Try.pinned (OpenSpec.ofChange runsExactWrong)

/-- 'woodcutlaw21.RunsBack': WHATEVER THE INPUT: true; the input reads as it did. -/
def runsBackSpec : ChangeSpec := { name := "runsBack", fn := fun _ => fun
  | [d1, d2] => { results := [.lit (.bool true)], args := [d1, d2] }
  | _ => none }
def runsBackRow : OpenClaim := { program := "ytijfghknjkegpaa", sum := "b02674c5fbc68683d662370933827b341756315203bb63d081192f4bef9c8bfe", func := "woodcut/woodcutlaw21.RunsBack", spec := "runsBack", apart := false }
def RunsBackSaid : Prop := runsBackRow.holds Try.pinned (OpenSpec.ofChange runsBackSpec)

/-- ITS FALSE NEIGHBOUR: 'it returns false'. Refute it at one input. -/
def runsBackWrong : ChangeSpec := { name := "runsBack", fn := fun _ => fun
  | [d1, d2] => { results := [.lit (.bool false)], args := [d1, d2] }
  | _ => none }
def RunsBackWrongFalsely : Prop := runsBackRow.holds Try.pinned (OpenSpec.ofChange runsBackWrong)

/-- 'woodcutlaw21.RunsOne': WHATEVER THE INPUT: true; the input reads as it did. -/
def runsOneSpec : ChangeSpec := { name := "runsOne", fn := fun _ => fun
  | [d1, d2, d3] => { results := [.lit (.bool true)], args := [d1, d2, d3] }
  | _ => none }
def runsOneRow : OpenClaim := { program := "ytijfghknjkegpaa", sum := "b02674c5fbc68683d662370933827b341756315203bb63d081192f4bef9c8bfe", func := "woodcut/woodcutlaw21.RunsOne", spec := "runsOne", apart := false }
def RunsOneSaid : Prop := runsOneRow.holds Try.pinned (OpenSpec.ofChange runsOneSpec)

/-- ITS FALSE NEIGHBOUR: 'it returns false'. Refute it at one input. -/
def runsOneWrong : ChangeSpec := { name := "runsOne", fn := fun _ => fun
  | [d1, d2, d3] => { results := [.lit (.bool false)], args := [d1, d2, d3] }
  | _ => none }
def RunsOneWrongFalsely : Prop := runsOneRow.holds Try.pinned (OpenSpec.ofChange runsOneWrong)

/-- 'woodcutlaw21.RunsBad': WHATEVER THE INPUT: true; the input reads as it did. -/
def runsBadSpec : ChangeSpec := { name := "runsBad", fn := fun _ => fun
  | [d1, d2, d3] => { results := [.lit (.bool true)], args := [d1, d2, d3] }
  | _ => none }
def runsBadRow : OpenClaim := { program := "ytijfghknjkegpaa", sum := "b02674c5fbc68683d662370933827b341756315203bb63d081192f4bef9c8bfe", func := "woodcut/woodcutlaw21.RunsBad", spec := "runsBad", apart := false }
def RunsBadSaid : Prop := runsBadRow.holds Try.pinned (OpenSpec.ofChange runsBadSpec)

/-- ITS FALSE NEIGHBOUR: 'it returns false'. Refute it at one input. -/
def runsBadWrong : ChangeSpec := { name := "runsBad", fn := fun _ => fun
  | [d1, d2, d3] => { results := [.lit (.bool false)], args := [d1, d2, d3] }
  | _ => none }
def RunsBadWrongFalsely : Prop := runsBadRow.holds Try.pinned (OpenSpec.ofChange runsBadWrong)

/-- 'woodcutlaw05.DevExact': WHATEVER THE INPUT: true; the input reads as it did. -/
def devExactSpec : ChangeSpec := { name := "devExact", fn := fun _ => fun
  | [d1, d2, d3, d4, d5] => { results := [.lit (.bool true)], args := [d1, d2, d3, d4, d5] }
  | _ => none }
def devExactRow : OpenClaim := { program := "ytijfghknjkegpaa", sum := "b02674c5fbc68683d662370933827b341756315203bb63d081192f4bef9c8bfe", func := "woodcut/woodcutlaw05.DevExact", spec := "devExact", unfollowed := true, recurses := true, apart := false }
def DevExactSaid : Prop := devExactRow.holds Try.pinned (OpenSpec.ofChange devExactSpec)

/-- ITS FALSE NEIGHBOUR: 'it returns false'. Refute it at one input. -/
def devExactWrong : ChangeSpec := { name := "devExact", fn := fun _ => fun
  | [d1, d2, d3, d4, d5] => { results := [.lit (.bool false)], args := [d1, d2, d3, d4, d5] }
  | _ => none }
def DevExactWrongFalsely : Prop := devExactRow.holds Try.pinned (OpenSpec.ofChange devExactWrong)

/-- 'woodcutlaw05.DevParts': WHATEVER THE INPUT: true; the input reads as it did. -/
def devPartsSpec : ChangeSpec := { name := "devParts", fn := fun _ => fun
  | [d1, d2, d3] => { results := [.lit (.bool true)], args := [d1, d2, d3] }
  | _ => none }
def devPartsRow : OpenClaim := { program := "ytijfghknjkegpaa", sum := "b02674c5fbc68683d662370933827b341756315203bb63d081192f4bef9c8bfe", func := "woodcut/woodcutlaw05.DevParts", spec := "devParts", unfollowed := true, recurses := true, apart := false }
def DevPartsSaid : Prop := devPartsRow.holds Try.pinned (OpenSpec.ofChange devPartsSpec)

/-- ITS FALSE NEIGHBOUR: 'it returns false'. Refute it at one input. -/
def devPartsWrong : ChangeSpec := { name := "devParts", fn := fun _ => fun
  | [d1, d2, d3] => { results := [.lit (.bool false)], args := [d1, d2, d3] }
  | _ => none }
def DevPartsWrongFalsely : Prop := devPartsRow.holds Try.pinned (OpenSpec.ofChange devPartsWrong)

/-- 'woodcutlaw05.DevBlocks': WHATEVER THE INPUT: true; the input reads as it did. -/
def devBlocksSpec : ChangeSpec := { name := "devBlocks", fn := fun _ => fun
  | [d1, d2, d3, d4, d5] => { results := [.lit (.bool true)], args := [d1, d2, d3, d4, d5] }
  | _ => none }
def devBlocksRow : OpenClaim := { program := "ytijfghknjkegpaa", sum := "b02674c5fbc68683d662370933827b341756315203bb63d081192f4bef9c8bfe", func := "woodcut/woodcutlaw05.DevBlocks", spec := "devBlocks", unfollowed := true, recurses := true, apart := false }
def DevBlocksSaid : Prop := devBlocksRow.holds Try.pinned (OpenSpec.ofChange devBlocksSpec)

/-- ITS FALSE NEIGHBOUR: 'it returns false'. Refute it at one input. -/
def devBlocksWrong : ChangeSpec := { name := "devBlocks", fn := fun _ => fun
  | [d1, d2, d3, d4, d5] => { results := [.lit (.bool false)], args := [d1, d2, d3, d4, d5] }
  | _ => none }
def DevBlocksWrongFalsely : Prop := devBlocksRow.holds Try.pinned (OpenSpec.ofChange devBlocksWrong)

/-- 'woodcutlaw05.DevBad': WHATEVER THE INPUT: true; the input reads as it did. -/
def devBadSpec : ChangeSpec := { name := "devBad", fn := fun _ => fun
  | [d1, d2, d3] => { results := [.lit (.bool true)], args := [d1, d2, d3] }
  | _ => none }
def devBadRow : OpenClaim := { program := "ytijfghknjkegpaa", sum := "b02674c5fbc68683d662370933827b341756315203bb63d081192f4bef9c8bfe", func := "woodcut/woodcutlaw05.DevBad", spec := "devBad", unfollowed := true, recurses := true, apart := false }
def DevBadSaid : Prop := devBadRow.holds Try.pinned (OpenSpec.ofChange devBadSpec)

/-- ITS FALSE NEIGHBOUR: 'it returns false'. Refute it at one input. -/
def devBadWrong : ChangeSpec := { name := "devBad", fn := fun _ => fun
  | [d1, d2, d3] => { results := [.lit (.bool false)], args := [d1, d2, d3] }
  | _ => none }
def DevBadWrongFalsely : Prop := devBadRow.holds Try.pinned (OpenSpec.ofChange devBadWrong)

/-- 'woodcutlaw05.DevLast': WHATEVER THE INPUT: true; the input reads as it did. -/
def devLastSpec : ChangeSpec := { name := "devLast", fn := fun _ => fun
  | [d1, d2, d3] => { results := [.lit (.bool true)], args := [d1, d2, d3] }
  | _ => none }
def devLastRow : OpenClaim := { program := "ytijfghknjkegpaa", sum := "b02674c5fbc68683d662370933827b341756315203bb63d081192f4bef9c8bfe", func := "woodcut/woodcutlaw05.DevLast", spec := "devLast", unfollowed := true, recurses := true, apart := false }
def DevLastSaid : Prop := devLastRow.holds Try.pinned (OpenSpec.ofChange devLastSpec)

/-- ITS FALSE NEIGHBOUR: 'it returns false'. Refute it at one input. -/
def devLastWrong : ChangeSpec := { name := "devLast", fn := fun _ => fun
  | [d1, d2, d3] => { results := [.lit (.bool false)], args := [d1, d2, d3] }
  | _ => none }
def DevLastWrongFalsely : Prop := devLastRow.holds Try.pinned (OpenSpec.ofChange devLastWrong)

/- THE SECOND FORM. 'bulk': how many values and letters a reading holds, each counted each time it is reached (what is shared counts as often as it is met; a slice's spare places count too). A statement '..UptoSaid' is the law's where the arguments, and the package variables that the reading takes, are together of bulk at most 1048576: NARROWER than '..Said'. Prove '..Said' where nothing that the law and all that it calls make is longer than what came in: it says more and counts as full. Else prove '..UptoSaid'. A law counts once. -/
mutual
def uptoBulk {H : Type} : DataW H → Nat
  | .lit (.string bytes) => bytes.length + 1
  | .lit _ => 1
  | .nil => 1
  | .ptr d => uptoBulk d + 1
  | .slice elems spare => uptoBulkAll elems + uptoBulkAll spare + 1
  | .agg parts => uptoBulkAll parts + 1
  | .iface _ d => uptoBulk d + 1
  | .map entries => uptoBulkEntries entries + 1
  | .held _ => 1
def uptoBulkAll {H : Type} : List (DataW H) → Nat
  | [] => 0
  | d :: r => uptoBulk d + uptoBulkAll r
def uptoBulkEntries {H : Type} : List (Lit × DataW H) → Nat
  | [] => 0
  | x :: r => uptoBulkEntry x + uptoBulkEntries r
def uptoBulkEntry {H : Type} : Lit × DataW H → Nat
  | (.string bytes, d) => bytes.length + uptoBulk d + 1
  | (_, d) => uptoBulk d + 1
 end
def uptoSmall : (H : Type) → List (DataW H) → Bool := fun _ ds => decide (uptoBulkAll ds ≤ 1048576)
def OpenSpec.upto (s : _root_.Go.ChangeSpec) : _root_.Go.OpenSpec := { _root_.Go.OpenSpec.ofChange s with cond := some uptoSmall }

/-- 'woodcutlaw21.RunsExact', WHERE WHAT IT READS IS OF BULK AT MOST 1048576: true; the input reads as it did. -/
def runsExactUptoRow : OpenClaim := { program := "ytijfghknjkegpaa", sum := "b02674c5fbc68683d662370933827b341756315203bb63d081192f4bef9c8bfe", func := "woodcut/woodcutlaw21.RunsExact", spec := "runsExact", apart := false, narrowed := true }
def RunsExactUptoSaid : Prop := runsExactUptoRow.holds Try.pinned (OpenSpec.upto runsExactSpec)

/-- 'woodcutlaw21.RunsBack', WHERE WHAT IT READS IS OF BULK AT MOST 1048576: true; the input reads as it did. -/
def runsBackUptoRow : OpenClaim := { program := "ytijfghknjkegpaa", sum := "b02674c5fbc68683d662370933827b341756315203bb63d081192f4bef9c8bfe", func := "woodcut/woodcutlaw21.RunsBack", spec := "runsBack", apart := false, narrowed := true }
def RunsBackUptoSaid : Prop := runsBackUptoRow.holds Try.pinned (OpenSpec.upto runsBackSpec)

/-- 'woodcutlaw21.RunsOne', WHERE WHAT IT READS IS OF BULK AT MOST 1048576: true; the input reads as it did. -/
def runsOneUptoRow : OpenClaim := { program := "ytijfghknjkegpaa", sum := "b02674c5fbc68683d662370933827b341756315203bb63d081192f4bef9c8bfe", func := "woodcut/woodcutlaw21.RunsOne", spec := "runsOne", apart := false, narrowed := true }
def RunsOneUptoSaid : Prop := runsOneUptoRow.holds Try.pinned (OpenSpec.upto runsOneSpec)

/-- 'woodcutlaw21.RunsBad', WHERE WHAT IT READS IS OF BULK AT MOST 1048576: true; the input reads as it did. -/
def runsBadUptoRow : OpenClaim := { program := "ytijfghknjkegpaa", sum := "b02674c5fbc68683d662370933827b341756315203bb63d081192f4bef9c8bfe", func := "woodcut/woodcutlaw21.RunsBad", spec := "runsBad", apart := false, narrowed := true }
def RunsBadUptoSaid : Prop := runsBadUptoRow.holds Try.pinned (OpenSpec.upto runsBadSpec)

/-- 'woodcutlaw05.DevExact', WHERE WHAT IT READS IS OF BULK AT MOST 1048576: true; the input reads as it did. -/
def devExactUptoRow : OpenClaim := { program := "ytijfghknjkegpaa", sum := "b02674c5fbc68683d662370933827b341756315203bb63d081192f4bef9c8bfe", func := "woodcut/woodcutlaw05.DevExact", spec := "devExact", unfollowed := true, recurses := true, apart := false, narrowed := true }
def DevExactUptoSaid : Prop := devExactUptoRow.holds Try.pinned (OpenSpec.upto devExactSpec)

/-- 'woodcutlaw05.DevParts', WHERE WHAT IT READS IS OF BULK AT MOST 1048576: true; the input reads as it did. -/
def devPartsUptoRow : OpenClaim := { program := "ytijfghknjkegpaa", sum := "b02674c5fbc68683d662370933827b341756315203bb63d081192f4bef9c8bfe", func := "woodcut/woodcutlaw05.DevParts", spec := "devParts", unfollowed := true, recurses := true, apart := false, narrowed := true }
def DevPartsUptoSaid : Prop := devPartsUptoRow.holds Try.pinned (OpenSpec.upto devPartsSpec)

/-- 'woodcutlaw05.DevBlocks', WHERE WHAT IT READS IS OF BULK AT MOST 1048576: true; the input reads as it did. -/
def devBlocksUptoRow : OpenClaim := { program := "ytijfghknjkegpaa", sum := "b02674c5fbc68683d662370933827b341756315203bb63d081192f4bef9c8bfe", func := "woodcut/woodcutlaw05.DevBlocks", spec := "devBlocks", unfollowed := true, recurses := true, apart := false, narrowed := true }
def DevBlocksUptoSaid : Prop := devBlocksUptoRow.holds Try.pinned (OpenSpec.upto devBlocksSpec)

/-- 'woodcutlaw05.DevBad', WHERE WHAT IT READS IS OF BULK AT MOST 1048576: true; the input reads as it did. -/
def devBadUptoRow : OpenClaim := { program := "ytijfghknjkegpaa", sum := "b02674c5fbc68683d662370933827b341756315203bb63d081192f4bef9c8bfe", func := "woodcut/woodcutlaw05.DevBad", spec := "devBad", unfollowed := true, recurses := true, apart := false, narrowed := true }
def DevBadUptoSaid : Prop := devBadUptoRow.holds Try.pinned (OpenSpec.upto devBadSpec)

/-- 'woodcutlaw05.DevLast', WHERE WHAT IT READS IS OF BULK AT MOST 1048576: true; the input reads as it did. -/
def devLastUptoRow : OpenClaim := { program := "ytijfghknjkegpaa", sum := "b02674c5fbc68683d662370933827b341756315203bb63d081192f4bef9c8bfe", func := "woodcut/woodcutlaw05.DevLast", spec := "devLast", unfollowed := true, recurses := true, apart := false, narrowed := true }
def DevLastUptoSaid : Prop := devLastUptoRow.holds Try.pinned (OpenSpec.upto devLastSpec)

end Rows
end Go.Proofs.Ytijfghknjkegpaa
