/-
  No cell of these rows narrows 'for every input' (looked for: loops, veiled, ifaces, maps, wideKeys, modest, calm, conditions, laid).
  DERIVED. THE GIVEN ROWS OF THIS SEAT. 10 by the template 'for every input the law returns true; each argument reads behind the call as it read before'; 0 by the template 'total and deterministic' (their statements: YtbinkbdfoalbcaaTotals.lean).
  GIVEN WITH THE SEED: the statements are not yours to turn. If you find one false, say at which input.
  Laid BY PROGRAM, IN A SANDBOX (cutbox-rows.mjs): the forced cells as the released guide's own fill.sh prints them over the translation 9586863363033dba… (all of the seat's roots in one cut). By AI agents, Wed Nov 11 2026. No macro, syntax, notation, axiom, sorry.
-/
import Derived.Test.YtbinkbdfoalbcaaChecked
import GoSem.Claim
import GoSem.ClaimJoined
import GoSem.ClaimMapViews
import Derived.JoinedTies
import Derived.KernelRfl
namespace Go.Proofs.Ytbinkbdfoalbcaa
/- THE CELL 'sum', in the pinned program and in every row, IS THE sha256 OF THE DUMP (.gsa) THAT YtbinkbdfoalbcaaProg.lean LOADS. Nothing in Lean hashes anything: it is a label: what it is worth is what the hold of that sum in a sandbox is worth. -/
noncomputable def Try.pinned : Pinned := { name := "ytbinkbdfoalbcaa", sum := "9586863363033dba5a9d3263aa42e088887317c7f932ecab0bbc37ae1f15b18e", checked := Try.checked }
namespace Rows
def none {H : Type} : Left H := { results := [], args := [] }

/-- 'woodcutlaw11.OpenExact': WHATEVER THE INPUT: true; the input reads as it did. -/
def openExactSpec : ChangeSpec := { name := "openExact", fn := fun _ => fun
  | [d1, d2, d3, d4, d5] => { results := [.lit (.bool true)], args := [d1, d2, d3, d4, d5] }
  | _ => none }
def openExactRow : OpenClaim := { program := "ytbinkbdfoalbcaa", sum := "9586863363033dba5a9d3263aa42e088887317c7f932ecab0bbc37ae1f15b18e", func := "woodcut/woodcutlaw11.OpenExact", spec := "openExact", unfollowed := true, recurses := true, apart := false }
def OpenExactSaid : Prop := openExactRow.holds Try.pinned (OpenSpec.ofChange openExactSpec)

/-- ITS FALSE NEIGHBOUR: 'it returns false'. Refute it at one input. -/
def openExactWrong : ChangeSpec := { name := "openExact", fn := fun _ => fun
  | [d1, d2, d3, d4, d5] => { results := [.lit (.bool false)], args := [d1, d2, d3, d4, d5] }
  | _ => none }
def OpenExactWrongFalsely : Prop := openExactRow.holds Try.pinned (OpenSpec.ofChange openExactWrong)

/-- 'woodcutlaw11.OpenNew': WHATEVER THE INPUT: true; the input reads as it did. -/
def openNewSpec : ChangeSpec := { name := "openNew", fn := fun _ => fun
  | [d1, d2, d3] => { results := [.lit (.bool true)], args := [d1, d2, d3] }
  | _ => none }
def openNewRow : OpenClaim := { program := "ytbinkbdfoalbcaa", sum := "9586863363033dba5a9d3263aa42e088887317c7f932ecab0bbc37ae1f15b18e", func := "woodcut/woodcutlaw11.OpenNew", spec := "openNew", unfollowed := true, recurses := true, apart := false }
def OpenNewSaid : Prop := openNewRow.holds Try.pinned (OpenSpec.ofChange openNewSpec)

/-- ITS FALSE NEIGHBOUR: 'it returns false'. Refute it at one input. -/
def openNewWrong : ChangeSpec := { name := "openNew", fn := fun _ => fun
  | [d1, d2, d3] => { results := [.lit (.bool false)], args := [d1, d2, d3] }
  | _ => none }
def OpenNewWrongFalsely : Prop := openNewRow.holds Try.pinned (OpenSpec.ofChange openNewWrong)

/-- 'woodcutlaw11.OpenFinds': WHATEVER THE INPUT: true; the input reads as it did. -/
def openFindsSpec : ChangeSpec := { name := "openFinds", fn := fun _ => fun
  | [d1, d2] => { results := [.lit (.bool true)], args := [d1, d2] }
  | _ => none }
def openFindsRow : OpenClaim := { program := "ytbinkbdfoalbcaa", sum := "9586863363033dba5a9d3263aa42e088887317c7f932ecab0bbc37ae1f15b18e", func := "woodcut/woodcutlaw11.OpenFinds", spec := "openFinds", unfollowed := true, recurses := true, apart := false }
def OpenFindsSaid : Prop := openFindsRow.holds Try.pinned (OpenSpec.ofChange openFindsSpec)

/-- ITS FALSE NEIGHBOUR: 'it returns false'. Refute it at one input. -/
def openFindsWrong : ChangeSpec := { name := "openFinds", fn := fun _ => fun
  | [d1, d2] => { results := [.lit (.bool false)], args := [d1, d2] }
  | _ => none }
def OpenFindsWrongFalsely : Prop := openFindsRow.holds Try.pinned (OpenSpec.ofChange openFindsWrong)

/-- 'woodcutlaw12.WalkExact': WHATEVER THE INPUT: true; the input reads as it did. -/
def walkExactSpec : ChangeSpec := { name := "walkExact", fn := fun _ => fun
  | [d] => { results := [.lit (.bool true)], args := [d] }
  | _ => none }
def walkExactRow : OpenClaim := { program := "ytbinkbdfoalbcaa", sum := "9586863363033dba5a9d3263aa42e088887317c7f932ecab0bbc37ae1f15b18e", func := "woodcut/woodcutlaw12.WalkExact", spec := "walkExact", unfollowed := true, recurses := true, apart := false }
def WalkExactSaid : Prop := walkExactRow.holds Try.pinned (OpenSpec.ofChange walkExactSpec)

/-- ITS FALSE NEIGHBOUR: 'it returns false'. Refute it at one input. -/
def walkExactWrong : ChangeSpec := { name := "walkExact", fn := fun _ => fun
  | [d] => { results := [.lit (.bool false)], args := [d] }
  | _ => none }
def WalkExactWrongFalsely : Prop := walkExactRow.holds Try.pinned (OpenSpec.ofChange walkExactWrong)

/-- 'woodcutlaw12.WalkParts': WHATEVER THE INPUT: true; the input reads as it did. -/
def walkPartsSpec : ChangeSpec := { name := "walkParts", fn := fun _ => fun
  | [d1, d2] => { results := [.lit (.bool true)], args := [d1, d2] }
  | _ => none }
def walkPartsRow : OpenClaim := { program := "ytbinkbdfoalbcaa", sum := "9586863363033dba5a9d3263aa42e088887317c7f932ecab0bbc37ae1f15b18e", func := "woodcut/woodcutlaw12.WalkParts", spec := "walkParts", unfollowed := true, recurses := true, apart := false }
def WalkPartsSaid : Prop := walkPartsRow.holds Try.pinned (OpenSpec.ofChange walkPartsSpec)

/-- ITS FALSE NEIGHBOUR: 'it returns false'. Refute it at one input. -/
def walkPartsWrong : ChangeSpec := { name := "walkParts", fn := fun _ => fun
  | [d1, d2] => { results := [.lit (.bool false)], args := [d1, d2] }
  | _ => none }
def WalkPartsWrongFalsely : Prop := walkPartsRow.holds Try.pinned (OpenSpec.ofChange walkPartsWrong)

/-- 'woodcutlaw11.OpenRecords': WHATEVER THE INPUT: true; the input reads as it did. -/
def openRecordsSpec : ChangeSpec := { name := "openRecords", fn := fun _ => fun
  | [d1, d2, d3, d4] => { results := [.lit (.bool true)], args := [d1, d2, d3, d4] }
  | _ => none }
def openRecordsRow : OpenClaim := { program := "ytbinkbdfoalbcaa", sum := "9586863363033dba5a9d3263aa42e088887317c7f932ecab0bbc37ae1f15b18e", func := "woodcut/woodcutlaw11.OpenRecords", spec := "openRecords", unfollowed := true, recurses := true, apart := false }
def OpenRecordsSaid : Prop := openRecordsRow.holds Try.pinned (OpenSpec.ofChange openRecordsSpec)

/-- ITS FALSE NEIGHBOUR: 'it returns false'. Refute it at one input. -/
def openRecordsWrong : ChangeSpec := { name := "openRecords", fn := fun _ => fun
  | [d1, d2, d3, d4] => { results := [.lit (.bool false)], args := [d1, d2, d3, d4] }
  | _ => none }
def OpenRecordsWrongFalsely : Prop := openRecordsRow.holds Try.pinned (OpenSpec.ofChange openRecordsWrong)

/-- 'woodcutlaw11.OpenTrees': WHATEVER THE INPUT: true; the input reads as it did. -/
def openTreesSpec : ChangeSpec := { name := "openTrees", fn := fun _ => fun
  | [d1, d2, d3, d4] => { results := [.lit (.bool true)], args := [d1, d2, d3, d4] }
  | _ => none }
def openTreesRow : OpenClaim := { program := "ytbinkbdfoalbcaa", sum := "9586863363033dba5a9d3263aa42e088887317c7f932ecab0bbc37ae1f15b18e", func := "woodcut/woodcutlaw11.OpenTrees", spec := "openTrees", unfollowed := true, recurses := true, apart := false }
def OpenTreesSaid : Prop := openTreesRow.holds Try.pinned (OpenSpec.ofChange openTreesSpec)

/-- ITS FALSE NEIGHBOUR: 'it returns false'. Refute it at one input. -/
def openTreesWrong : ChangeSpec := { name := "openTrees", fn := fun _ => fun
  | [d1, d2, d3, d4] => { results := [.lit (.bool false)], args := [d1, d2, d3, d4] }
  | _ => none }
def OpenTreesWrongFalsely : Prop := openTreesRow.holds Try.pinned (OpenSpec.ofChange openTreesWrong)

/-- 'woodcutlaw11.OpenPending': WHATEVER THE INPUT: true; the input reads as it did. -/
def openPendingSpec : ChangeSpec := { name := "openPending", fn := fun _ => fun
  | [d1, d2, d3] => { results := [.lit (.bool true)], args := [d1, d2, d3] }
  | _ => none }
def openPendingRow : OpenClaim := { program := "ytbinkbdfoalbcaa", sum := "9586863363033dba5a9d3263aa42e088887317c7f932ecab0bbc37ae1f15b18e", func := "woodcut/woodcutlaw11.OpenPending", spec := "openPending", unfollowed := true, recurses := true, apart := false }
def OpenPendingSaid : Prop := openPendingRow.holds Try.pinned (OpenSpec.ofChange openPendingSpec)

/-- ITS FALSE NEIGHBOUR: 'it returns false'. Refute it at one input. -/
def openPendingWrong : ChangeSpec := { name := "openPending", fn := fun _ => fun
  | [d1, d2, d3] => { results := [.lit (.bool false)], args := [d1, d2, d3] }
  | _ => none }
def OpenPendingWrongFalsely : Prop := openPendingRow.holds Try.pinned (OpenSpec.ofChange openPendingWrong)

/-- 'woodcutlaw12.WalkReaches': WHATEVER THE INPUT: true; the input reads as it did. -/
def walkReachesSpec : ChangeSpec := { name := "walkReaches", fn := fun _ => fun
  | [d] => { results := [.lit (.bool true)], args := [d] }
  | _ => none }
def walkReachesRow : OpenClaim := { program := "ytbinkbdfoalbcaa", sum := "9586863363033dba5a9d3263aa42e088887317c7f932ecab0bbc37ae1f15b18e", func := "woodcut/woodcutlaw12.WalkReaches", spec := "walkReaches", unfollowed := true, recurses := true, apart := false }
def WalkReachesSaid : Prop := walkReachesRow.holds Try.pinned (OpenSpec.ofChange walkReachesSpec)

/-- ITS FALSE NEIGHBOUR: 'it returns false'. Refute it at one input. -/
def walkReachesWrong : ChangeSpec := { name := "walkReaches", fn := fun _ => fun
  | [d] => { results := [.lit (.bool false)], args := [d] }
  | _ => none }
def WalkReachesWrongFalsely : Prop := walkReachesRow.holds Try.pinned (OpenSpec.ofChange walkReachesWrong)

/-- 'woodcutlaw12.WalkChain': WHATEVER THE INPUT: true; the input reads as it did. -/
def walkChainSpec : ChangeSpec := { name := "walkChain", fn := fun _ => fun
  | [d1, d2, d3] => { results := [.lit (.bool true)], args := [d1, d2, d3] }
  | _ => none }
def walkChainRow : OpenClaim := { program := "ytbinkbdfoalbcaa", sum := "9586863363033dba5a9d3263aa42e088887317c7f932ecab0bbc37ae1f15b18e", func := "woodcut/woodcutlaw12.WalkChain", spec := "walkChain", unfollowed := true, recurses := true, apart := false }
def WalkChainSaid : Prop := walkChainRow.holds Try.pinned (OpenSpec.ofChange walkChainSpec)

/-- ITS FALSE NEIGHBOUR: 'it returns false'. Refute it at one input. -/
def walkChainWrong : ChangeSpec := { name := "walkChain", fn := fun _ => fun
  | [d1, d2, d3] => { results := [.lit (.bool false)], args := [d1, d2, d3] }
  | _ => none }
def WalkChainWrongFalsely : Prop := walkChainRow.holds Try.pinned (OpenSpec.ofChange walkChainWrong)

/- THE SECOND FORM. 'bulk': how many values and letters a reading holds, each counted each time it is reached (what is shared counts as often as it is met; a slice's spare places count too). A statement '..UptoSaid' is the law's where the arguments, and the package variables that the reading takes, are together of bulk at most 1048576: NARROWER than '..Said'. Prove '..Said' where nothing that the law and all that it calls make is longer than what came in: it says more and counts as full. Else prove '..UptoSaid'. A law counts once. -/
mutual
def uptoBulk {H : Type} : DataW H → Nat
  | .lit (.string bytes) => bytes.length + 1
  | .lit _ => 1
  | .nil => 1
  | .ptr d => uptoBulk d + 1
  | .slice elems spare => uptoBulkAll elems + uptoBulkAll spare + 1
  | .agg parts => uptoBulkAll parts + 1
  | .iface _ d => uptoBulk d + 1
  | .map entries => uptoBulkEntries entries + 1
  | .held _ => 1
def uptoBulkAll {H : Type} : List (DataW H) → Nat
  | [] => 0
  | d :: r => uptoBulk d + uptoBulkAll r
def uptoBulkEntries {H : Type} : List (Lit × DataW H) → Nat
  | [] => 0
  | x :: r => uptoBulkEntry x + uptoBulkEntries r
def uptoBulkEntry {H : Type} : Lit × DataW H → Nat
  | (.string bytes, d) => bytes.length + uptoBulk d + 1
  | (_, d) => uptoBulk d + 1
 end
def uptoSmall : (H : Type) → List (DataW H) → Bool := fun _ ds => decide (uptoBulkAll ds ≤ 1048576)
def OpenSpec.upto (s : _root_.Go.ChangeSpec) : _root_.Go.OpenSpec := { _root_.Go.OpenSpec.ofChange s with cond := some uptoSmall }

/-- 'woodcutlaw11.OpenExact', WHERE WHAT IT READS IS OF BULK AT MOST 1048576: true; the input reads as it did. -/
def openExactUptoRow : OpenClaim := { program := "ytbinkbdfoalbcaa", sum := "9586863363033dba5a9d3263aa42e088887317c7f932ecab0bbc37ae1f15b18e", func := "woodcut/woodcutlaw11.OpenExact", spec := "openExact", unfollowed := true, recurses := true, apart := false, narrowed := true }
def OpenExactUptoSaid : Prop := openExactUptoRow.holds Try.pinned (OpenSpec.upto openExactSpec)

/-- 'woodcutlaw11.OpenNew', WHERE WHAT IT READS IS OF BULK AT MOST 1048576: true; the input reads as it did. -/
def openNewUptoRow : OpenClaim := { program := "ytbinkbdfoalbcaa", sum := "9586863363033dba5a9d3263aa42e088887317c7f932ecab0bbc37ae1f15b18e", func := "woodcut/woodcutlaw11.OpenNew", spec := "openNew", unfollowed := true, recurses := true, apart := false, narrowed := true }
def OpenNewUptoSaid : Prop := openNewUptoRow.holds Try.pinned (OpenSpec.upto openNewSpec)

/-- 'woodcutlaw11.OpenFinds', WHERE WHAT IT READS IS OF BULK AT MOST 1048576: true; the input reads as it did. -/
def openFindsUptoRow : OpenClaim := { program := "ytbinkbdfoalbcaa", sum := "9586863363033dba5a9d3263aa42e088887317c7f932ecab0bbc37ae1f15b18e", func := "woodcut/woodcutlaw11.OpenFinds", spec := "openFinds", unfollowed := true, recurses := true, apart := false, narrowed := true }
def OpenFindsUptoSaid : Prop := openFindsUptoRow.holds Try.pinned (OpenSpec.upto openFindsSpec)

/-- 'woodcutlaw12.WalkExact', WHERE WHAT IT READS IS OF BULK AT MOST 1048576: true; the input reads as it did. -/
def walkExactUptoRow : OpenClaim := { program := "ytbinkbdfoalbcaa", sum := "9586863363033dba5a9d3263aa42e088887317c7f932ecab0bbc37ae1f15b18e", func := "woodcut/woodcutlaw12.WalkExact", spec := "walkExact", unfollowed := true, recurses := true, apart := false, narrowed := true }
def WalkExactUptoSaid : Prop := walkExactUptoRow.holds Try.pinned (OpenSpec.upto walkExactSpec)

/-- 'woodcutlaw12.WalkParts', WHERE WHAT IT READS IS OF BULK AT MOST 1048576: true; the input reads as it did. -/
def walkPartsUptoRow : OpenClaim := { program := "ytbinkbdfoalbcaa", sum := "9586863363033dba5a9d3263aa42e088887317c7f932ecab0bbc37ae1f15b18e", func := "woodcut/woodcutlaw12.WalkParts", spec := "walkParts", unfollowed := true, recurses := true, apart := false, narrowed := true }
def WalkPartsUptoSaid : Prop := walkPartsUptoRow.holds Try.pinned (OpenSpec.upto walkPartsSpec)

/-- 'woodcutlaw11.OpenRecords', WHERE WHAT IT READS IS OF BULK AT MOST 1048576: true; the input reads as it did. -/
def openRecordsUptoRow : OpenClaim := { program := "ytbinkbdfoalbcaa", sum := "9586863363033dba5a9d3263aa42e088887317c7f932ecab0bbc37ae1f15b18e", func := "woodcut/woodcutlaw11.OpenRecords", spec := "openRecords", unfollowed := true, recurses := true, apart := false, narrowed := true }
def OpenRecordsUptoSaid : Prop := openRecordsUptoRow.holds Try.pinned (OpenSpec.upto openRecordsSpec)

/-- 'woodcutlaw11.OpenTrees', WHERE WHAT IT READS IS OF BULK AT MOST 1048576: true; the input reads as it did. -/
def openTreesUptoRow : OpenClaim := { program := "ytbinkbdfoalbcaa", sum := "9586863363033dba5a9d3263aa42e088887317c7f932ecab0bbc37ae1f15b18e", func := "woodcut/woodcutlaw11.OpenTrees", spec := "openTrees", unfollowed := true, recurses := true, apart := false, narrowed := true }
def OpenTreesUptoSaid : Prop := openTreesUptoRow.holds Try.pinned (OpenSpec.upto openTreesSpec)

/-- 'woodcutlaw11.OpenPending', WHERE WHAT IT READS IS OF BULK AT MOST 1048576: true; the input reads as it did. -/
def openPendingUptoRow : OpenClaim := { program := "ytbinkbdfoalbcaa", sum := "9586863363033dba5a9d3263aa42e088887317c7f932ecab0bbc37ae1f15b18e", func := "woodcut/woodcutlaw11.OpenPending", spec := "openPending", unfollowed := true, recurses := true, apart := false, narrowed := true }
def OpenPendingUptoSaid : Prop := openPendingUptoRow.holds Try.pinned (OpenSpec.upto openPendingSpec)

/-- 'woodcutlaw12.WalkReaches', WHERE WHAT IT READS IS OF BULK AT MOST 1048576: true; the input reads as it did. -/
def walkReachesUptoRow : OpenClaim := { program := "ytbinkbdfoalbcaa", sum := "9586863363033dba5a9d3263aa42e088887317c7f932ecab0bbc37ae1f15b18e", func := "woodcut/woodcutlaw12.WalkReaches", spec := "walkReaches", unfollowed := true, recurses := true, apart := false, narrowed := true }
def WalkReachesUptoSaid : Prop := walkReachesUptoRow.holds Try.pinned (OpenSpec.upto walkReachesSpec)

/-- 'woodcutlaw12.WalkChain', WHERE WHAT IT READS IS OF BULK AT MOST 1048576: true; the input reads as it did. -/
def walkChainUptoRow : OpenClaim := { program := "ytbinkbdfoalbcaa", sum := "9586863363033dba5a9d3263aa42e088887317c7f932ecab0bbc37ae1f15b18e", func := "woodcut/woodcutlaw12.WalkChain", spec := "walkChain", unfollowed := true, recurses := true, apart := false, narrowed := true }
def WalkChainUptoSaid : Prop := walkChainUptoRow.holds Try.pinned (OpenSpec.upto walkChainSpec)

end Rows
end Go.Proofs.Ytbinkbdfoalbcaa
