/-
  No cell of these rows narrows 'for every input' (looked for: loops, veiled, ifaces, maps, wideKeys, modest, calm, conditions, laid).
  DERIVED. THE GIVEN ROWS OF THIS SEAT. 9 by the template 'for every input the law returns true; each argument reads behind the call as it read before'; 0 by the template 'total and deterministic' (their statements: YtcbakhanpiemhaaTotals.lean).
  GIVEN WITH THE SEED: the statements are not yours to turn. If you find one false, say at which input.
  Laid BY PROGRAM, IN A SANDBOX (cutbox-rows.mjs): the forced cells as the released guide's own fill.sh prints them over the translation 91a3572368f6421f… (all of the seat's roots in one cut). By AI agents, Wed Nov 11 2026. No macro, syntax, notation, axiom, sorry.
-/
import Derived.Test.YtcbakhanpiemhaaChecked
import GoSem.Claim
import GoSem.ClaimJoined
import GoSem.ClaimMapViews
import Derived.JoinedTies
import Derived.KernelRfl
namespace Go.Proofs.Ytcbakhanpiemhaa
/- THE CELL 'sum', in the pinned program and in every row, IS THE sha256 OF THE DUMP (.gsa) THAT YtcbakhanpiemhaaProg.lean LOADS. Nothing in Lean hashes anything: it is a label: what it is worth is what the hold of that sum in a sandbox is worth. -/
noncomputable def Try.pinned : Pinned := { name := "ytcbakhanpiemhaa", sum := "91a3572368f6421f22c6650865a3b2211e6da08fe0d684f303cbe7e8043f5b70", checked := Try.checked }
namespace Rows
def none {H : Type} : Left H := { results := [], args := [] }

/-- 'woodcutlaw13.AllocExact': WHATEVER THE INPUT: true; the input reads as it did. -/
def allocExactSpec : ChangeSpec := { name := "allocExact", fn := fun _ => fun
  | [d1, d2, d3, d4] => { results := [.lit (.bool true)], args := [d1, d2, d3, d4] }
  | _ => none }
def allocExactRow : OpenClaim := { program := "ytcbakhanpiemhaa", sum := "91a3572368f6421f22c6650865a3b2211e6da08fe0d684f303cbe7e8043f5b70", func := "woodcut/woodcutlaw13.AllocExact", spec := "allocExact", unfollowed := true, recurses := true, apart := false }
def AllocExactSaid : Prop := allocExactRow.holds Try.pinned (OpenSpec.ofChange allocExactSpec)

/-- ITS FALSE NEIGHBOUR: 'it returns false'. Refute it at one input. -/
def allocExactWrong : ChangeSpec := { name := "allocExact", fn := fun _ => fun
  | [d1, d2, d3, d4] => { results := [.lit (.bool false)], args := [d1, d2, d3, d4] }
  | _ => none }
def AllocExactWrongFalsely : Prop := allocExactRow.holds Try.pinned (OpenSpec.ofChange allocExactWrong)

/-- 'woodcutlaw13.AllocParts': WHATEVER THE INPUT: true; the input reads as it did. -/
def allocPartsSpec : ChangeSpec := { name := "allocParts", fn := fun _ => fun
  | [d1, d2, d3] => { results := [.lit (.bool true)], args := [d1, d2, d3] }
  | _ => none }
def allocPartsRow : OpenClaim := { program := "ytcbakhanpiemhaa", sum := "91a3572368f6421f22c6650865a3b2211e6da08fe0d684f303cbe7e8043f5b70", func := "woodcut/woodcutlaw13.AllocParts", spec := "allocParts", unfollowed := true, recurses := true, apart := false }
def AllocPartsSaid : Prop := allocPartsRow.holds Try.pinned (OpenSpec.ofChange allocPartsSpec)

/-- ITS FALSE NEIGHBOUR: 'it returns false'. Refute it at one input. -/
def allocPartsWrong : ChangeSpec := { name := "allocParts", fn := fun _ => fun
  | [d1, d2, d3] => { results := [.lit (.bool false)], args := [d1, d2, d3] }
  | _ => none }
def AllocPartsWrongFalsely : Prop := allocPartsRow.holds Try.pinned (OpenSpec.ofChange allocPartsWrong)

/-- 'woodcutlaw13.AllocBack': WHATEVER THE INPUT: true; the input reads as it did. -/
def allocBackSpec : ChangeSpec := { name := "allocBack", fn := fun _ => fun
  | [d1, d2] => { results := [.lit (.bool true)], args := [d1, d2] }
  | _ => none }
def allocBackRow : OpenClaim := { program := "ytcbakhanpiemhaa", sum := "91a3572368f6421f22c6650865a3b2211e6da08fe0d684f303cbe7e8043f5b70", func := "woodcut/woodcutlaw13.AllocBack", spec := "allocBack", unfollowed := true, recurses := true, apart := false }
def AllocBackSaid : Prop := allocBackRow.holds Try.pinned (OpenSpec.ofChange allocBackSpec)

/-- ITS FALSE NEIGHBOUR: 'it returns false'. Refute it at one input. -/
def allocBackWrong : ChangeSpec := { name := "allocBack", fn := fun _ => fun
  | [d1, d2] => { results := [.lit (.bool false)], args := [d1, d2] }
  | _ => none }
def AllocBackWrongFalsely : Prop := allocBackRow.holds Try.pinned (OpenSpec.ofChange allocBackWrong)

/-- 'woodcutlaw13.AllocLeft': WHATEVER THE INPUT: true; the input reads as it did. -/
def allocLeftSpec : ChangeSpec := { name := "allocLeft", fn := fun _ => fun
  | [d] => { results := [.lit (.bool true)], args := [d] }
  | _ => none }
def allocLeftRow : OpenClaim := { program := "ytcbakhanpiemhaa", sum := "91a3572368f6421f22c6650865a3b2211e6da08fe0d684f303cbe7e8043f5b70", func := "woodcut/woodcutlaw13.AllocLeft", spec := "allocLeft", unfollowed := true, recurses := true, apart := false }
def AllocLeftSaid : Prop := allocLeftRow.holds Try.pinned (OpenSpec.ofChange allocLeftSpec)

/-- ITS FALSE NEIGHBOUR: 'it returns false'. Refute it at one input. -/
def allocLeftWrong : ChangeSpec := { name := "allocLeft", fn := fun _ => fun
  | [d] => { results := [.lit (.bool false)], args := [d] }
  | _ => none }
def AllocLeftWrongFalsely : Prop := allocLeftRow.holds Try.pinned (OpenSpec.ofChange allocLeftWrong)

/-- 'woodcutlaw15.CommitExact': WHATEVER THE INPUT: true; the input reads as it did. -/
def commitExactSpec : ChangeSpec := { name := "commitExact", fn := fun _ => fun
  | [d1, d2, d3, d4, d5, d6, d7, d8] => { results := [.lit (.bool true)], args := [d1, d2, d3, d4, d5, d6, d7, d8] }
  | _ => none }
def commitExactRow : OpenClaim := { program := "ytcbakhanpiemhaa", sum := "91a3572368f6421f22c6650865a3b2211e6da08fe0d684f303cbe7e8043f5b70", func := "woodcut/woodcutlaw15.CommitExact", spec := "commitExact", unfollowed := true, recurses := true, apart := false }
def CommitExactSaid : Prop := commitExactRow.holds Try.pinned (OpenSpec.ofChange commitExactSpec)

/-- ITS FALSE NEIGHBOUR: 'it returns false'. Refute it at one input. -/
def commitExactWrong : ChangeSpec := { name := "commitExact", fn := fun _ => fun
  | [d1, d2, d3, d4, d5, d6, d7, d8] => { results := [.lit (.bool false)], args := [d1, d2, d3, d4, d5, d6, d7, d8] }
  | _ => none }
def CommitExactWrongFalsely : Prop := commitExactRow.holds Try.pinned (OpenSpec.ofChange commitExactWrong)

/-- 'woodcutlaw15.CommitTurns': WHATEVER THE INPUT: true; the input reads as it did. -/
def commitTurnsSpec : ChangeSpec := { name := "commitTurns", fn := fun _ => fun
  | [d1, d2, d3] => { results := [.lit (.bool true)], args := [d1, d2, d3] }
  | _ => none }
def commitTurnsRow : OpenClaim := { program := "ytcbakhanpiemhaa", sum := "91a3572368f6421f22c6650865a3b2211e6da08fe0d684f303cbe7e8043f5b70", func := "woodcut/woodcutlaw15.CommitTurns", spec := "commitTurns", unfollowed := true, recurses := true, apart := false }
def CommitTurnsSaid : Prop := commitTurnsRow.holds Try.pinned (OpenSpec.ofChange commitTurnsSpec)

/-- ITS FALSE NEIGHBOUR: 'it returns false'. Refute it at one input. -/
def commitTurnsWrong : ChangeSpec := { name := "commitTurns", fn := fun _ => fun
  | [d1, d2, d3] => { results := [.lit (.bool false)], args := [d1, d2, d3] }
  | _ => none }
def CommitTurnsWrongFalsely : Prop := commitTurnsRow.holds Try.pinned (OpenSpec.ofChange commitTurnsWrong)

/-- 'woodcutlaw15.CommitLinks': WHATEVER THE INPUT: true; the input reads as it did. -/
def commitLinksSpec : ChangeSpec := { name := "commitLinks", fn := fun _ => fun
  | [d1, d2, d3] => { results := [.lit (.bool true)], args := [d1, d2, d3] }
  | _ => none }
def commitLinksRow : OpenClaim := { program := "ytcbakhanpiemhaa", sum := "91a3572368f6421f22c6650865a3b2211e6da08fe0d684f303cbe7e8043f5b70", func := "woodcut/woodcutlaw15.CommitLinks", spec := "commitLinks", unfollowed := true, recurses := true, apart := false }
def CommitLinksSaid : Prop := commitLinksRow.holds Try.pinned (OpenSpec.ofChange commitLinksSpec)

/-- ITS FALSE NEIGHBOUR: 'it returns false'. Refute it at one input. -/
def commitLinksWrong : ChangeSpec := { name := "commitLinks", fn := fun _ => fun
  | [d1, d2, d3] => { results := [.lit (.bool false)], args := [d1, d2, d3] }
  | _ => none }
def CommitLinksWrongFalsely : Prop := commitLinksRow.holds Try.pinned (OpenSpec.ofChange commitLinksWrong)

/-- 'woodcutlaw15.CommitChain': WHATEVER THE INPUT: true; the input reads as it did. -/
def commitChainSpec : ChangeSpec := { name := "commitChain", fn := fun _ => fun
  | [d1, d2, d3, d4, d5, d6] => { results := [.lit (.bool true)], args := [d1, d2, d3, d4, d5, d6] }
  | _ => none }
def commitChainRow : OpenClaim := { program := "ytcbakhanpiemhaa", sum := "91a3572368f6421f22c6650865a3b2211e6da08fe0d684f303cbe7e8043f5b70", func := "woodcut/woodcutlaw15.CommitChain", spec := "commitChain", unfollowed := true, recurses := true, apart := false }
def CommitChainSaid : Prop := commitChainRow.holds Try.pinned (OpenSpec.ofChange commitChainSpec)

/-- ITS FALSE NEIGHBOUR: 'it returns false'. Refute it at one input. -/
def commitChainWrong : ChangeSpec := { name := "commitChain", fn := fun _ => fun
  | [d1, d2, d3, d4, d5, d6] => { results := [.lit (.bool false)], args := [d1, d2, d3, d4, d5, d6] }
  | _ => none }
def CommitChainWrongFalsely : Prop := commitChainRow.holds Try.pinned (OpenSpec.ofChange commitChainWrong)

/-- 'woodcutlaw15.CommitCrash': WHATEVER THE INPUT: true; the input reads as it did. -/
def commitCrashSpec : ChangeSpec := { name := "commitCrash", fn := fun _ => fun
  | [d1, d2, d3, d4, d5, d6] => { results := [.lit (.bool true)], args := [d1, d2, d3, d4, d5, d6] }
  | _ => none }
def commitCrashRow : OpenClaim := { program := "ytcbakhanpiemhaa", sum := "91a3572368f6421f22c6650865a3b2211e6da08fe0d684f303cbe7e8043f5b70", func := "woodcut/woodcutlaw15.CommitCrash", spec := "commitCrash", unfollowed := true, recurses := true, apart := false }
def CommitCrashSaid : Prop := commitCrashRow.holds Try.pinned (OpenSpec.ofChange commitCrashSpec)

/-- ITS FALSE NEIGHBOUR: 'it returns false'. Refute it at one input. -/
def commitCrashWrong : ChangeSpec := { name := "commitCrash", fn := fun _ => fun
  | [d1, d2, d3, d4, d5, d6] => { results := [.lit (.bool false)], args := [d1, d2, d3, d4, d5, d6] }
  | _ => none }
def CommitCrashWrongFalsely : Prop := commitCrashRow.holds Try.pinned (OpenSpec.ofChange commitCrashWrong)

/- THE SECOND FORM. 'bulk': how many values and letters a reading holds, each counted each time it is reached (what is shared counts as often as it is met; a slice's spare places count too). A statement '..UptoSaid' is the law's where the arguments, and the package variables that the reading takes, are together of bulk at most 1048576: NARROWER than '..Said'. Prove '..Said' where nothing that the law and all that it calls make is longer than what came in: it says more and counts as full. Else prove '..UptoSaid'. A law counts once. -/
mutual
def uptoBulk {H : Type} : DataW H → Nat
  | .lit (.string bytes) => bytes.length + 1
  | .lit _ => 1
  | .nil => 1
  | .ptr d => uptoBulk d + 1
  | .slice elems spare => uptoBulkAll elems + uptoBulkAll spare + 1
  | .agg parts => uptoBulkAll parts + 1
  | .iface _ d => uptoBulk d + 1
  | .map entries => uptoBulkEntries entries + 1
  | .held _ => 1
def uptoBulkAll {H : Type} : List (DataW H) → Nat
  | [] => 0
  | d :: r => uptoBulk d + uptoBulkAll r
def uptoBulkEntries {H : Type} : List (Lit × DataW H) → Nat
  | [] => 0
  | x :: r => uptoBulkEntry x + uptoBulkEntries r
def uptoBulkEntry {H : Type} : Lit × DataW H → Nat
  | (.string bytes, d) => bytes.length + uptoBulk d + 1
  | (_, d) => uptoBulk d + 1
 end
def uptoSmall : (H : Type) → List (DataW H) → Bool := fun _ ds => decide (uptoBulkAll ds ≤ 1048576)
def OpenSpec.upto (s : _root_.Go.ChangeSpec) : _root_.Go.OpenSpec := { _root_.Go.OpenSpec.ofChange s with cond := some uptoSmall }

/-- 'woodcutlaw13.AllocExact', WHERE WHAT IT READS IS OF BULK AT MOST 1048576: true; the input reads as it did. -/
def allocExactUptoRow : OpenClaim := { program := "ytcbakhanpiemhaa", sum := "91a3572368f6421f22c6650865a3b2211e6da08fe0d684f303cbe7e8043f5b70", func := "woodcut/woodcutlaw13.AllocExact", spec := "allocExact", unfollowed := true, recurses := true, apart := false, narrowed := true }
def AllocExactUptoSaid : Prop := allocExactUptoRow.holds Try.pinned (OpenSpec.upto allocExactSpec)

/-- 'woodcutlaw13.AllocParts', WHERE WHAT IT READS IS OF BULK AT MOST 1048576: true; the input reads as it did. -/
def allocPartsUptoRow : OpenClaim := { program := "ytcbakhanpiemhaa", sum := "91a3572368f6421f22c6650865a3b2211e6da08fe0d684f303cbe7e8043f5b70", func := "woodcut/woodcutlaw13.AllocParts", spec := "allocParts", unfollowed := true, recurses := true, apart := false, narrowed := true }
def AllocPartsUptoSaid : Prop := allocPartsUptoRow.holds Try.pinned (OpenSpec.upto allocPartsSpec)

/-- 'woodcutlaw13.AllocBack', WHERE WHAT IT READS IS OF BULK AT MOST 1048576: true; the input reads as it did. -/
def allocBackUptoRow : OpenClaim := { program := "ytcbakhanpiemhaa", sum := "91a3572368f6421f22c6650865a3b2211e6da08fe0d684f303cbe7e8043f5b70", func := "woodcut/woodcutlaw13.AllocBack", spec := "allocBack", unfollowed := true, recurses := true, apart := false, narrowed := true }
def AllocBackUptoSaid : Prop := allocBackUptoRow.holds Try.pinned (OpenSpec.upto allocBackSpec)

/-- 'woodcutlaw13.AllocLeft', WHERE WHAT IT READS IS OF BULK AT MOST 1048576: true; the input reads as it did. -/
def allocLeftUptoRow : OpenClaim := { program := "ytcbakhanpiemhaa", sum := "91a3572368f6421f22c6650865a3b2211e6da08fe0d684f303cbe7e8043f5b70", func := "woodcut/woodcutlaw13.AllocLeft", spec := "allocLeft", unfollowed := true, recurses := true, apart := false, narrowed := true }
def AllocLeftUptoSaid : Prop := allocLeftUptoRow.holds Try.pinned (OpenSpec.upto allocLeftSpec)

/-- 'woodcutlaw15.CommitExact', WHERE WHAT IT READS IS OF BULK AT MOST 1048576: true; the input reads as it did. -/
def commitExactUptoRow : OpenClaim := { program := "ytcbakhanpiemhaa", sum := "91a3572368f6421f22c6650865a3b2211e6da08fe0d684f303cbe7e8043f5b70", func := "woodcut/woodcutlaw15.CommitExact", spec := "commitExact", unfollowed := true, recurses := true, apart := false, narrowed := true }
def CommitExactUptoSaid : Prop := commitExactUptoRow.holds Try.pinned (OpenSpec.upto commitExactSpec)

/-- 'woodcutlaw15.CommitTurns', WHERE WHAT IT READS IS OF BULK AT MOST 1048576: true; the input reads as it did. -/
def commitTurnsUptoRow : OpenClaim := { program := "ytcbakhanpiemhaa", sum := "91a3572368f6421f22c6650865a3b2211e6da08fe0d684f303cbe7e8043f5b70", func := "woodcut/woodcutlaw15.CommitTurns", spec := "commitTurns", unfollowed := true, recurses := true, apart := false, narrowed := true }
def CommitTurnsUptoSaid : Prop := commitTurnsUptoRow.holds Try.pinned (OpenSpec.upto commitTurnsSpec)

/-- 'woodcutlaw15.CommitLinks', WHERE WHAT IT READS IS OF BULK AT MOST 1048576: true; the input reads as it did. -/
def commitLinksUptoRow : OpenClaim := { program := "ytcbakhanpiemhaa", sum := "91a3572368f6421f22c6650865a3b2211e6da08fe0d684f303cbe7e8043f5b70", func := "woodcut/woodcutlaw15.CommitLinks", spec := "commitLinks", unfollowed := true, recurses := true, apart := false, narrowed := true }
def CommitLinksUptoSaid : Prop := commitLinksUptoRow.holds Try.pinned (OpenSpec.upto commitLinksSpec)

/-- 'woodcutlaw15.CommitChain', WHERE WHAT IT READS IS OF BULK AT MOST 1048576: true; the input reads as it did. -/
def commitChainUptoRow : OpenClaim := { program := "ytcbakhanpiemhaa", sum := "91a3572368f6421f22c6650865a3b2211e6da08fe0d684f303cbe7e8043f5b70", func := "woodcut/woodcutlaw15.CommitChain", spec := "commitChain", unfollowed := true, recurses := true, apart := false, narrowed := true }
def CommitChainUptoSaid : Prop := commitChainUptoRow.holds Try.pinned (OpenSpec.upto commitChainSpec)

/-- 'woodcutlaw15.CommitCrash', WHERE WHAT IT READS IS OF BULK AT MOST 1048576: true; the input reads as it did. -/
def commitCrashUptoRow : OpenClaim := { program := "ytcbakhanpiemhaa", sum := "91a3572368f6421f22c6650865a3b2211e6da08fe0d684f303cbe7e8043f5b70", func := "woodcut/woodcutlaw15.CommitCrash", spec := "commitCrash", unfollowed := true, recurses := true, apart := false, narrowed := true }
def CommitCrashUptoSaid : Prop := commitCrashUptoRow.holds Try.pinned (OpenSpec.upto commitCrashSpec)

end Rows
end Go.Proofs.Ytcbakhanpiemhaa
