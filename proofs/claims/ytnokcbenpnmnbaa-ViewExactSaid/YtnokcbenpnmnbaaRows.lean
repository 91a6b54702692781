/-
  No cell of these rows narrows 'for every input' (looked for: loops, veiled, ifaces, maps, wideKeys, modest, calm, conditions, laid).
  DERIVED. THE GIVEN ROWS OF THIS SEAT. 8 by the template 'for every input the law returns true; each argument reads behind the call as it read before'; 0 by the template 'total and deterministic' (their statements: YtnokcbenpnmnbaaTotals.lean).
  GIVEN WITH THE SEED: the statements are not yours to turn. If you find one false, say at which input.
  Laid BY PROGRAM, IN A SANDBOX (cutbox-rows.mjs): the forced cells as the released guide's own fill.sh prints them over the translation 376988ab41493ff6… (all of the seat's roots in one cut). By AI agents, Wed Nov 11 2026. No macro, syntax, notation, axiom, sorry.
-/
import Derived.Test.YtnokcbenpnmnbaaChecked
import GoSem.Claim
import GoSem.ClaimJoined
import GoSem.ClaimMapViews
import Derived.JoinedTies
import Derived.KernelRfl
namespace Go.Proofs.Ytnokcbenpnmnbaa
/- THE CELL 'sum', in the pinned program and in every row, IS THE sha256 OF THE DUMP (.gsa) THAT YtnokcbenpnmnbaaProg.lean LOADS. Nothing in Lean hashes anything: it is a label: what it is worth is what the hold of that sum in a sandbox is worth. -/
noncomputable def Try.pinned : Pinned := { name := "ytnokcbenpnmnbaa", sum := "376988ab41493ff62b2847dcfbe4d53c7d13fdbaef8a44619f1dc7e683c9c8d3", checked := Try.checked }
namespace Rows
def none {H : Type} : Left H := { results := [], args := [] }

/-- 'woodcutlaw16.FsckExact': WHATEVER THE INPUT: true; the input reads as it did. -/
def fsckExactSpec : ChangeSpec := { name := "fsckExact", fn := fun _ => fun
  | [d] => { results := [.lit (.bool true)], args := [d] }
  | _ => none }
def fsckExactRow : OpenClaim := { program := "ytnokcbenpnmnbaa", sum := "376988ab41493ff62b2847dcfbe4d53c7d13fdbaef8a44619f1dc7e683c9c8d3", func := "woodcut/woodcutlaw16.FsckExact", spec := "fsckExact", unfollowed := true, recurses := true, apart := false }
def FsckExactSaid : Prop := fsckExactRow.holds Try.pinned (OpenSpec.ofChange fsckExactSpec)

/-- ITS FALSE NEIGHBOUR: 'it returns false'. Refute it at one input. -/
def fsckExactWrong : ChangeSpec := { name := "fsckExact", fn := fun _ => fun
  | [d] => { results := [.lit (.bool false)], args := [d] }
  | _ => none }
def FsckExactWrongFalsely : Prop := fsckExactRow.holds Try.pinned (OpenSpec.ofChange fsckExactWrong)

/-- 'woodcutlaw17.ViewExact': WHATEVER THE INPUT: true; the input reads as it did. -/
def viewExactSpec : ChangeSpec := { name := "viewExact", fn := fun _ => fun
  | [d1, d2, d3, d4, d5] => { results := [.lit (.bool true)], args := [d1, d2, d3, d4, d5] }
  | _ => none }
def viewExactRow : OpenClaim := { program := "ytnokcbenpnmnbaa", sum := "376988ab41493ff62b2847dcfbe4d53c7d13fdbaef8a44619f1dc7e683c9c8d3", func := "woodcut/woodcutlaw17.ViewExact", spec := "viewExact", unfollowed := true, recurses := true, apart := false }
def ViewExactSaid : Prop := viewExactRow.holds Try.pinned (OpenSpec.ofChange viewExactSpec)

/-- ITS FALSE NEIGHBOUR: 'it returns false'. Refute it at one input. -/
def viewExactWrong : ChangeSpec := { name := "viewExact", fn := fun _ => fun
  | [d1, d2, d3, d4, d5] => { results := [.lit (.bool false)], args := [d1, d2, d3, d4, d5] }
  | _ => none }
def ViewExactWrongFalsely : Prop := viewExactRow.holds Try.pinned (OpenSpec.ofChange viewExactWrong)

/-- 'woodcutlaw16.FsckOpen': WHATEVER THE INPUT: true; the input reads as it did. -/
def fsckOpenSpec : ChangeSpec := { name := "fsckOpen", fn := fun _ => fun
  | [d] => { results := [.lit (.bool true)], args := [d] }
  | _ => none }
def fsckOpenRow : OpenClaim := { program := "ytnokcbenpnmnbaa", sum := "376988ab41493ff62b2847dcfbe4d53c7d13fdbaef8a44619f1dc7e683c9c8d3", func := "woodcut/woodcutlaw16.FsckOpen", spec := "fsckOpen", unfollowed := true, recurses := true, apart := false }
def FsckOpenSaid : Prop := fsckOpenRow.holds Try.pinned (OpenSpec.ofChange fsckOpenSpec)

/-- ITS FALSE NEIGHBOUR: 'it returns false'. Refute it at one input. -/
def fsckOpenWrong : ChangeSpec := { name := "fsckOpen", fn := fun _ => fun
  | [d] => { results := [.lit (.bool false)], args := [d] }
  | _ => none }
def FsckOpenWrongFalsely : Prop := fsckOpenRow.holds Try.pinned (OpenSpec.ofChange fsckOpenWrong)

/-- 'woodcutlaw16.FsckLost': WHATEVER THE INPUT: true; the input reads as it did. -/
def fsckLostSpec : ChangeSpec := { name := "fsckLost", fn := fun _ => fun
  | [d1, d2, d3] => { results := [.lit (.bool true)], args := [d1, d2, d3] }
  | _ => none }
def fsckLostRow : OpenClaim := { program := "ytnokcbenpnmnbaa", sum := "376988ab41493ff62b2847dcfbe4d53c7d13fdbaef8a44619f1dc7e683c9c8d3", func := "woodcut/woodcutlaw16.FsckLost", spec := "fsckLost", unfollowed := true, recurses := true, apart := false }
def FsckLostSaid : Prop := fsckLostRow.holds Try.pinned (OpenSpec.ofChange fsckLostSpec)

/-- ITS FALSE NEIGHBOUR: 'it returns false'. Refute it at one input. -/
def fsckLostWrong : ChangeSpec := { name := "fsckLost", fn := fun _ => fun
  | [d1, d2, d3] => { results := [.lit (.bool false)], args := [d1, d2, d3] }
  | _ => none }
def FsckLostWrongFalsely : Prop := fsckLostRow.holds Try.pinned (OpenSpec.ofChange fsckLostWrong)

/-- 'woodcutlaw16.FsckRecords': WHATEVER THE INPUT: true; the input reads as it did. -/
def fsckRecordsSpec : ChangeSpec := { name := "fsckRecords", fn := fun _ => fun
  | [d1, d2, d3, d4] => { results := [.lit (.bool true)], args := [d1, d2, d3, d4] }
  | _ => none }
def fsckRecordsRow : OpenClaim := { program := "ytnokcbenpnmnbaa", sum := "376988ab41493ff62b2847dcfbe4d53c7d13fdbaef8a44619f1dc7e683c9c8d3", func := "woodcut/woodcutlaw16.FsckRecords", spec := "fsckRecords", unfollowed := true, recurses := true, apart := false }
def FsckRecordsSaid : Prop := fsckRecordsRow.holds Try.pinned (OpenSpec.ofChange fsckRecordsSpec)

/-- ITS FALSE NEIGHBOUR: 'it returns false'. Refute it at one input. -/
def fsckRecordsWrong : ChangeSpec := { name := "fsckRecords", fn := fun _ => fun
  | [d1, d2, d3, d4] => { results := [.lit (.bool false)], args := [d1, d2, d3, d4] }
  | _ => none }
def FsckRecordsWrongFalsely : Prop := fsckRecordsRow.holds Try.pinned (OpenSpec.ofChange fsckRecordsWrong)

/-- 'woodcutlaw16.FsckTrees': WHATEVER THE INPUT: true; the input reads as it did. -/
def fsckTreesSpec : ChangeSpec := { name := "fsckTrees", fn := fun _ => fun
  | [d1, d2, d3] => { results := [.lit (.bool true)], args := [d1, d2, d3] }
  | _ => none }
def fsckTreesRow : OpenClaim := { program := "ytnokcbenpnmnbaa", sum := "376988ab41493ff62b2847dcfbe4d53c7d13fdbaef8a44619f1dc7e683c9c8d3", func := "woodcut/woodcutlaw16.FsckTrees", spec := "fsckTrees", unfollowed := true, recurses := true, apart := false }
def FsckTreesSaid : Prop := fsckTreesRow.holds Try.pinned (OpenSpec.ofChange fsckTreesSpec)

/-- ITS FALSE NEIGHBOUR: 'it returns false'. Refute it at one input. -/
def fsckTreesWrong : ChangeSpec := { name := "fsckTrees", fn := fun _ => fun
  | [d1, d2, d3] => { results := [.lit (.bool false)], args := [d1, d2, d3] }
  | _ => none }
def FsckTreesWrongFalsely : Prop := fsckTreesRow.holds Try.pinned (OpenSpec.ofChange fsckTreesWrong)

/-- 'woodcutlaw17.ViewReached': WHATEVER THE INPUT: true; the input reads as it did. -/
def viewReachedSpec : ChangeSpec := { name := "viewReached", fn := fun _ => fun
  | [d1, d2] => { results := [.lit (.bool true)], args := [d1, d2] }
  | _ => none }
def viewReachedRow : OpenClaim := { program := "ytnokcbenpnmnbaa", sum := "376988ab41493ff62b2847dcfbe4d53c7d13fdbaef8a44619f1dc7e683c9c8d3", func := "woodcut/woodcutlaw17.ViewReached", spec := "viewReached", unfollowed := true, recurses := true, apart := false }
def ViewReachedSaid : Prop := viewReachedRow.holds Try.pinned (OpenSpec.ofChange viewReachedSpec)

/-- ITS FALSE NEIGHBOUR: 'it returns false'. Refute it at one input. -/
def viewReachedWrong : ChangeSpec := { name := "viewReached", fn := fun _ => fun
  | [d1, d2] => { results := [.lit (.bool false)], args := [d1, d2] }
  | _ => none }
def ViewReachedWrongFalsely : Prop := viewReachedRow.holds Try.pinned (OpenSpec.ofChange viewReachedWrong)

/-- 'woodcutlaw17.ViewOne': WHATEVER THE INPUT: true; the input reads as it did. -/
def viewOneSpec : ChangeSpec := { name := "viewOne", fn := fun _ => fun
  | [d1, d2, d3, d4, d5] => { results := [.lit (.bool true)], args := [d1, d2, d3, d4, d5] }
  | _ => none }
def viewOneRow : OpenClaim := { program := "ytnokcbenpnmnbaa", sum := "376988ab41493ff62b2847dcfbe4d53c7d13fdbaef8a44619f1dc7e683c9c8d3", func := "woodcut/woodcutlaw17.ViewOne", spec := "viewOne", unfollowed := true, recurses := true, apart := false }
def ViewOneSaid : Prop := viewOneRow.holds Try.pinned (OpenSpec.ofChange viewOneSpec)

/-- ITS FALSE NEIGHBOUR: 'it returns false'. Refute it at one input. -/
def viewOneWrong : ChangeSpec := { name := "viewOne", fn := fun _ => fun
  | [d1, d2, d3, d4, d5] => { results := [.lit (.bool false)], args := [d1, d2, d3, d4, d5] }
  | _ => none }
def ViewOneWrongFalsely : Prop := viewOneRow.holds Try.pinned (OpenSpec.ofChange viewOneWrong)

/- THE SECOND FORM. 'bulk': how many values and letters a reading holds, each counted each time it is reached (what is shared counts as often as it is met; a slice's spare places count too). A statement '..UptoSaid' is the law's where the arguments, and the package variables that the reading takes, are together of bulk at most 1048576: NARROWER than '..Said'. Prove '..Said' where nothing that the law and all that it calls make is longer than what came in: it says more and counts as full. Else prove '..UptoSaid'. A law counts once. -/
mutual
def uptoBulk {H : Type} : DataW H → Nat
  | .lit (.string bytes) => bytes.length + 1
  | .lit _ => 1
  | .nil => 1
  | .ptr d => uptoBulk d + 1
  | .slice elems spare => uptoBulkAll elems + uptoBulkAll spare + 1
  | .agg parts => uptoBulkAll parts + 1
  | .iface _ d => uptoBulk d + 1
  | .map entries => uptoBulkEntries entries + 1
  | .held _ => 1
def uptoBulkAll {H : Type} : List (DataW H) → Nat
  | [] => 0
  | d :: r => uptoBulk d + uptoBulkAll r
def uptoBulkEntries {H : Type} : List (Lit × DataW H) → Nat
  | [] => 0
  | x :: r => uptoBulkEntry x + uptoBulkEntries r
def uptoBulkEntry {H : Type} : Lit × DataW H → Nat
  | (.string bytes, d) => bytes.length + uptoBulk d + 1
  | (_, d) => uptoBulk d + 1
 end
def uptoSmall : (H : Type) → List (DataW H) → Bool := fun _ ds => decide (uptoBulkAll ds ≤ 1048576)
def OpenSpec.upto (s : _root_.Go.ChangeSpec) : _root_.Go.OpenSpec := { _root_.Go.OpenSpec.ofChange s with cond := some uptoSmall }

/-- 'woodcutlaw16.FsckExact', WHERE WHAT IT READS IS OF BULK AT MOST 1048576: true; the input reads as it did. -/
def fsckExactUptoRow : OpenClaim := { program := "ytnokcbenpnmnbaa", sum := "376988ab41493ff62b2847dcfbe4d53c7d13fdbaef8a44619f1dc7e683c9c8d3", func := "woodcut/woodcutlaw16.FsckExact", spec := "fsckExact", unfollowed := true, recurses := true, apart := false, narrowed := true }
def FsckExactUptoSaid : Prop := fsckExactUptoRow.holds Try.pinned (OpenSpec.upto fsckExactSpec)

/-- 'woodcutlaw17.ViewExact', WHERE WHAT IT READS IS OF BULK AT MOST 1048576: true; the input reads as it did. -/
def viewExactUptoRow : OpenClaim := { program := "ytnokcbenpnmnbaa", sum := "376988ab41493ff62b2847dcfbe4d53c7d13fdbaef8a44619f1dc7e683c9c8d3", func := "woodcut/woodcutlaw17.ViewExact", spec := "viewExact", unfollowed := true, recurses := true, apart := false, narrowed := true }
def ViewExactUptoSaid : Prop := viewExactUptoRow.holds Try.pinned (OpenSpec.upto viewExactSpec)

/-- 'woodcutlaw16.FsckOpen', WHERE WHAT IT READS IS OF BULK AT MOST 1048576: true; the input reads as it did. -/
def fsckOpenUptoRow : OpenClaim := { program := "ytnokcbenpnmnbaa", sum := "376988ab41493ff62b2847dcfbe4d53c7d13fdbaef8a44619f1dc7e683c9c8d3", func := "woodcut/woodcutlaw16.FsckOpen", spec := "fsckOpen", unfollowed := true, recurses := true, apart := false, narrowed := true }
def FsckOpenUptoSaid : Prop := fsckOpenUptoRow.holds Try.pinned (OpenSpec.upto fsckOpenSpec)

/-- 'woodcutlaw16.FsckLost', WHERE WHAT IT READS IS OF BULK AT MOST 1048576: true; the input reads as it did. -/
def fsckLostUptoRow : OpenClaim := { program := "ytnokcbenpnmnbaa", sum := "376988ab41493ff62b2847dcfbe4d53c7d13fdbaef8a44619f1dc7e683c9c8d3", func := "woodcut/woodcutlaw16.FsckLost", spec := "fsckLost", unfollowed := true, recurses := true, apart := false, narrowed := true }
def FsckLostUptoSaid : Prop := fsckLostUptoRow.holds Try.pinned (OpenSpec.upto fsckLostSpec)

/-- 'woodcutlaw16.FsckRecords', WHERE WHAT IT READS IS OF BULK AT MOST 1048576: true; the input reads as it did. -/
def fsckRecordsUptoRow : OpenClaim := { program := "ytnokcbenpnmnbaa", sum := "376988ab41493ff62b2847dcfbe4d53c7d13fdbaef8a44619f1dc7e683c9c8d3", func := "woodcut/woodcutlaw16.FsckRecords", spec := "fsckRecords", unfollowed := true, recurses := true, apart := false, narrowed := true }
def FsckRecordsUptoSaid : Prop := fsckRecordsUptoRow.holds Try.pinned (OpenSpec.upto fsckRecordsSpec)

/-- 'woodcutlaw16.FsckTrees', WHERE WHAT IT READS IS OF BULK AT MOST 1048576: true; the input reads as it did. -/
def fsckTreesUptoRow : OpenClaim := { program := "ytnokcbenpnmnbaa", sum := "376988ab41493ff62b2847dcfbe4d53c7d13fdbaef8a44619f1dc7e683c9c8d3", func := "woodcut/woodcutlaw16.FsckTrees", spec := "fsckTrees", unfollowed := true, recurses := true, apart := false, narrowed := true }
def FsckTreesUptoSaid : Prop := fsckTreesUptoRow.holds Try.pinned (OpenSpec.upto fsckTreesSpec)

/-- 'woodcutlaw17.ViewReached', WHERE WHAT IT READS IS OF BULK AT MOST 1048576: true; the input reads as it did. -/
def viewReachedUptoRow : OpenClaim := { program := "ytnokcbenpnmnbaa", sum := "376988ab41493ff62b2847dcfbe4d53c7d13fdbaef8a44619f1dc7e683c9c8d3", func := "woodcut/woodcutlaw17.ViewReached", spec := "viewReached", unfollowed := true, recurses := true, apart := false, narrowed := true }
def ViewReachedUptoSaid : Prop := viewReachedUptoRow.holds Try.pinned (OpenSpec.upto viewReachedSpec)

/-- 'woodcutlaw17.ViewOne', WHERE WHAT IT READS IS OF BULK AT MOST 1048576: true; the input reads as it did. -/
def viewOneUptoRow : OpenClaim := { program := "ytnokcbenpnmnbaa", sum := "376988ab41493ff62b2847dcfbe4d53c7d13fdbaef8a44619f1dc7e683c9c8d3", func := "woodcut/woodcutlaw17.ViewOne", spec := "viewOne", unfollowed := true, recurses := true, apart := false, narrowed := true }
def ViewOneUptoSaid : Prop := viewOneUptoRow.holds Try.pinned (OpenSpec.upto viewOneSpec)

end Rows
end Go.Proofs.Ytnokcbenpnmnbaa
