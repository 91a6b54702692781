import Derived.Test.YtaaemamcdhebhaaPREx0
import Derived.Test.YtaaemamcdhebhaaPRExF16
import Derived.Test.YtaaemamcdhebhaaPRExF19
import Derived.Test.YtaaemamcdhebhaaRec
import Derived.Test.YtaaemamcdhebhaaDreRec
namespace Go.Proofs.Ytaaemamcdhebhaa.PRE
open Go.RowKit Go.Proofs.YtaaemamcdhebhaaW.PrintWords Go.Proofs.YtaaemamcdhebhaaW.PrintLast Go.Proofs.YtaaemamcdhebhaaW.PrintMore
set_option linter.unusedVariables false
set_option linter.unusedSimpArgs false
theorem refIn_f (x a b : Int) : woodcutref01_In.f x a b = some (decide (a ≤ x) && decide (x ≤ b)) := by
  unfold woodcutref01_In.f
  by_cases h1 : x ≥ a
  · rw [if_pos h1, decide_eq_true h1]; rfl
  · rw [if_neg h1, decide_eq_false h1]; rfl
theorem refId_f (x : Int) : woodcutref01_Id.f x = some (Rec.isId x) := by
  unfold woodcutref01_Id.f Rec.isId
  rw [refIn_f]; rfl
theorem okR_iff' (nx id pa rt sz kd fr dg : Int) : Rec.okR [nx, id, pa, rt, sz, kd, fr, dg] = true ↔ ((nx = 0 ∨ 2 ≤ nx ∧ nx < 4096) ∧ (rt = 0 ∨ 2 ≤ rt ∧ rt < 4096) ∧ (1 ≤ id ∧ id ≤ 4611686018427387903) ∧ pa ≠ id ∧ (pa = 0 ∨ 1 ≤ pa ∧ pa ≤ 4611686018427387903) ∧ 0 ≤ sz ∧ sz ≤ 512 ∧ ((kd = 0 ∧ fr = 0 ∧ dg = 0) ∨ (kd = 1 ∧ 1 ≤ fr ∧ fr ≤ 65535 ∧ 0 ≤ dg ∧ dg ≤ 4294967295))) := by
  unfold Rec.okR Nod.isPtr Rec.isId
  simp only [Bool.and_eq_true, decide_eq_true_eq, Bool.or_eq_true, beq_iff_eq, bne_iff_ne, and_assoc]
/-- What the page says of a record is what the code says. -/
theorem refRecord_ok (nx id pa rt sz kd fr dg : Int) : Ev (fun k => woodcutref01_Record.f k nx id pa rt sz kd fr dg) (Rec.okR [nx, id, pa, rt, sz, kd, fr, dg]) := by
  refine ⟨1, fun k hk => ?_⟩
  obtain ⟨j, rfl⟩ : ∃ j, k = j + 1 := ⟨k - 1, by omega⟩
  have hf : woodcutref01_Record.j0 (j + 1) true nx id pa rt sz kd fr dg = some false := rfl
  have ht : woodcutref01_Record.j0 (j + 1) false nx id pa rt sz kd fr dg = some (decide ((kd = 0 ∧ fr = 0 ∧ dg = 0) ∨ (kd = 1 ∧ 1 ≤ fr ∧ fr ≤ 65535 ∧ 0 ≤ dg ∧ dg ≤ 4294967295))) := by
    rw [woodcutref01_Record.j0]
    simp only [refIn_f, Option.bind_some, Bool.false_eq_true, if_false, Bool.and_eq_true, decide_eq_true_eq]
    repeat' split
    all_goals first
      | (congr 1; rw [Bool.eq_iff_iff]; simp only [Bool.and_eq_true, decide_eq_true_eq, beq_iff_eq, Bool.false_eq_true]; omega)
      | (congr 1; rw [Bool.eq_iff_iff]; simp only [Bool.and_eq_true, decide_eq_true_eq, beq_iff_eq]; omega)
      | (congr 1; symm; rw [decide_eq_false_iff_not]; omega)
  show woodcutref01_Record.f (j + 1) nx id pa rt sz kd fr dg = _
  rw [show Rec.okR [nx, id, pa, rt, sz, kd, fr, dg] = decide ((nx = 0 ∨ 2 ≤ nx ∧ nx < 4096) ∧ (rt = 0 ∨ 2 ≤ rt ∧ rt < 4096) ∧ (1 ≤ id ∧ id ≤ 4611686018427387903) ∧ pa ≠ id ∧ (pa = 0 ∨ 1 ≤ pa ∧ pa ≤ 4611686018427387903) ∧ 0 ≤ sz ∧ sz ≤ 512 ∧ ((kd = 0 ∧ fr = 0 ∧ dg = 0) ∨ (kd = 1 ∧ 1 ≤ fr ∧ fr ≤ 65535 ∧ 0 ≤ dg ∧ dg ≤ 4294967295))) by rw [Bool.eq_iff_iff, okR_iff', decide_eq_true_iff]]
  unfold woodcutref01_Record.f
  simp only [link_f, refId_f, refIn_f, Option.bind_some, Nod.isPtr, Rec.isId, Bool.or_eq_true, Bool.and_eq_true, decide_eq_true_eq, beq_iff_eq]
  by_cases c1 : nx = 0 ∨ 2 ≤ nx ∧ nx < 4096
  case neg => rw [if_neg c1, hf, decide_eq_false (fun h => c1 h.1)]
  rw [if_pos c1]
  by_cases c2 : rt = 0 ∨ 2 ≤ rt ∧ rt < 4096
  case neg => rw [if_neg c2, hf, decide_eq_false (fun h => c2 h.2.1)]
  rw [if_pos c2]
  by_cases c3 : 1 ≤ id ∧ id ≤ 4611686018427387903
  case neg => rw [if_neg c3, hf, decide_eq_false (fun h => c3 h.2.2.1)]
  rw [if_pos c3]
  by_cases c6 : 0 ≤ sz ∧ sz ≤ 512
  case neg =>
    have e : (!(decide (0 ≤ sz) && decide (sz ≤ 512))) = true := by
      rw [Bool.not_eq_true', Bool.eq_false_iff, ne_eq, Bool.and_eq_true, decide_eq_true_eq, decide_eq_true_eq]; exact c6
    rw [e, hf, decide_eq_false (fun h => c6 ⟨h.2.2.2.2.2.1, h.2.2.2.2.2.2.1⟩)]
    repeat' split
    all_goals rfl
  have e : (!(decide (0 ≤ sz) && decide (sz ≤ 512))) = false := by
    rw [Bool.not_eq_false', Bool.and_eq_true, decide_eq_true_eq, decide_eq_true_eq]; exact c6
  rw [e, hf, ht]
  repeat' split
  all_goals first
    | (congr 1; rw [Bool.eq_iff_iff]; simp only [decide_eq_true_eq]; omega)
    | (congr 1; symm; rw [decide_eq_false_iff_not]; omega)

end Go.Proofs.Ytaaemamcdhebhaa.PRE
