/- NodS: part of a calculus over an abstract machine that stands beside the model, and contracts of functions by it.
Conditions: what each theorem says of its arguments. -/
import Derived.Test.YtaaemamcdhebhaaNodR
set_option linter.unusedVariables false
set_option maxRecDepth 100000
open Go Go.Am Go.RowKit
namespace Go.Proofs.Ytaaemamcdhebhaa
open Go.Proofs.Try
theorem nod_aeq (lv lw p0 p1 p2 p3 p4 p5 p6 p7 q0 q1 q2 q3 q4 q5 q6 q7 : Int) : aequal prog 43 (.agg ⟨nc lv [p0, p1, p2, p3, p4, p5, p6, p7]⟩) (.agg ⟨nc lw [q0, q1, q2, q3, q4, q5, q6, q7]⟩) = some (lv == lw && (p0 == q0 && (p1 == q1 && (p2 == q2 && (p3 == q3 && (p4 == q4 && (p5 == q5 && (p6 == q6 && (p7 == q7))))))))) := by
  have h : aequal prog 43 (.agg ⟨nc lv [p0, p1, p2, p3, p4, p5, p6, p7]⟩) (.agg ⟨nc lw [q0, q1, q2, q3, q4, q5, q6, q7]⟩) = (match some (lv == lw) with
    | some true => (match (match some (p0 == q0) with
    | some true => (match some (p1 == q1) with
    | some true => (match some (p2 == q2) with
    | some true => (match some (p3 == q3) with
    | some true => (match some (p4 == q4) with
    | some true => (match some (p5 == q5) with
    | some true => (match some (p6 == q6) with
    | some true => (match some (p7 == q7) with
    | some true => some true
    | some false => some false
    | none => none)
    | some false => some false
    | none => none)
    | some false => some false
    | none => none)
    | some false => some false
    | none => none)
    | some false => some false
    | none => none)
    | some false => some false
    | none => none)
    | some false => some false
    | none => none)
    | some false => some false
    | none => none) with
      | some true => some true
      | some false => some false
      | none => none)
    | some false => some false
    | none => none) := by kernel_rfl
  rw [h]
  cases (lv == lw) <;> cases (p0 == q0) <;> cases (p1 == q1) <;> cases (p2 == q2) <;> cases (p3 == q3) <;> cases (p4 == q4) <;> cases (p5 == q5) <;> cases (p6 == q6) <;> cases (p7 == q7) <;> rfl
theorem nod_eq (lv lw p0 p1 p2 p3 p4 p5 p6 p7 q0 q1 q2 q3 q4 q5 q6 q7 : Int) : abinop prog .eql 43 (.agg ⟨nc lv [p0, p1, p2, p3, p4, p5, p6, p7]⟩) (.agg ⟨nc lw [q0, q1, q2, q3, q4, q5, q6, q7]⟩) = some (.bool (lv == lw && (p0 == q0 && (p1 == q1 && (p2 == q2 && (p3 == q3 && (p4 == q4 && (p5 == q5 && (p6 == q6 && (p7 == q7)))))))))) := by
  show eqOp .eql (aequal prog 43 (.agg ⟨nc lv [p0, p1, p2, p3, p4, p5, p6, p7]⟩) (.agg ⟨nc lw [q0, q1, q2, q3, q4, q5, q6, q7]⟩)) = _
  rw [nod_aeq]; rfl
theorem nod_ne (lv lw p0 p1 p2 p3 p4 p5 p6 p7 q0 q1 q2 q3 q4 q5 q6 q7 : Int) : abinop prog .neq 43 (.agg ⟨nc lv [p0, p1, p2, p3, p4, p5, p6, p7]⟩) (.agg ⟨nc lw [q0, q1, q2, q3, q4, q5, q6, q7]⟩) = some (.bool (!(lv == lw && (p0 == q0 && (p1 == q1 && (p2 == q2 && (p3 == q3 && (p4 == q4 && (p5 == q5 && (p6 == q6 && (p7 == q7))))))))))) := by
  show eqOp .neq (aequal prog 43 (.agg ⟨nc lv [p0, p1, p2, p3, p4, p5, p6, p7]⟩) (.agg ⟨nc lw [q0, q1, q2, q3, q4, q5, q6, q7]⟩)) = _
  rw [nod_aeq]; rfl
end Go.Proofs.Ytaaemamcdhebhaa
