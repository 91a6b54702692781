/- Wakes06: part of a calculus over an abstract machine that stands beside the model, and contracts of functions by it.
Conditions: what each theorem says of its arguments. -/
import Derived.Test.YtaaemamcdhebhaaPick
import Derived.Test.YtaaemamcdhebhaaBlk
set_option linter.unusedVariables false
set_option maxRecDepth 100000
open Go Go.Am
namespace Go.Proofs.Ytaaemamcdhebhaa
open Go.Proofs.Try
theorem super_eq (a b c d e a' b' c' d' e' : Int) : abinop prog .eql 56 (.agg ⟨sc a b c d e⟩) (.agg ⟨sc a' b' c' d' e'⟩) = some (.bool (a == a' && (b == b' && (c == c' && (d == d' && e == e'))))) := by
  have h : abinop prog .eql 56 (.agg ⟨sc a b c d e⟩) (.agg ⟨sc a' b' c' d' e'⟩) = eqOp .eql (match some (a == a') with
    | some true => (match some (b == b') with
      | some true => (match some (c == c') with
        | some true => (match some (d == d') with
          | some true => (match some (e == e') with
            | some true => some true
            | some false => some false
            | none => none)
          | some false => some false
          | none => none)
        | some false => some false
        | none => none)
      | some false => some false
      | none => none)
    | some false => some false
    | none => none) := by kernel_rfl
  rw [h]
  cases (a == a') <;> cases (b == b') <;> cases (c == c') <;> cases (d == d') <;> cases (e == e') <;> rfl
theorem super_ne (a b c d e a' b' c' d' e' : Int) : abinop prog .neq 56 (.agg ⟨sc a b c d e⟩) (.agg ⟨sc a' b' c' d' e'⟩) = some (.bool (!(a == a' && (b == b' && (c == c' && (d == d' && e == e')))))) := by
  have h : eqOp .eql (aequal prog 56 (.agg ⟨sc a b c d e⟩) (.agg ⟨sc a' b' c' d' e'⟩)) = some (.bool (a == a' && (b == b' && (c == c' && (d == d' && e == e'))))) := super_eq a b c d e a' b' c' d' e'
  show eqOp .neq (aequal prog 56 (.agg ⟨sc a b c d e⟩) (.agg ⟨sc a' b' c' d' e'⟩)) = _
  generalize aequal prog 56 (.agg ⟨sc a b c d e⟩) (.agg ⟨sc a' b' c' d' e'⟩) = r at h ⊢
  match r, h with
  | some x, h =>
    have h : some (Value.bool x) = _ := h
    cases h; rfl
  | none, h => cases h
end Go.Proofs.Ytaaemamcdhebhaa
