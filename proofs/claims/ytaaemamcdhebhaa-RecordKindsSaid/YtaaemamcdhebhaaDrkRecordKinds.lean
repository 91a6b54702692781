import Derived.Test.YtaaemamcdhebhaaPRKx0
import Derived.Test.YtaaemamcdhebhaaPRKxF21
import Derived.Test.YtaaemamcdhebhaaPRKxF53
import Derived.Test.YtaaemamcdhebhaaPRKxF85
import Derived.Test.YtaaemamcdhebhaaRec
import Derived.Test.YtaaemamcdhebhaaBlk2
import Derived.Test.YtaaemamcdhebhaaDrkRec
namespace Go.Proofs.Ytaaemamcdhebhaa.PRK
open Go.RowKit Go.Proofs.YtaaemamcdhebhaaW.PrintWords Go.Proofs.YtaaemamcdhebhaaW.PrintLast Go.Proofs.YtaaemamcdhebhaaW.PrintMore
set_option linter.unusedVariables false
set_option linter.unusedSimpArgs false
theorem u64_nn (a : Int) : 0 ≤ IntKind.u64.wrap a := by
  simp only [IntKind.wrap]
  first | omega | (simp only [IntKind.bits, IntKind.signed]; omega) | (simp [IntKind.bits, IntKind.signed]; omega)
theorem umod (a m : Int) (hm : 0 < m) : 0 ≤ Int.tmod (IntKind.u64.wrap a) m ∧ Int.tmod (IntKind.u64.wrap a) m < m := by
  rw [Int.tmod_eq_emod_of_nonneg (u64_nn a)]
  exact ⟨Int.emod_nonneg _ (by omega), Int.emod_lt_of_pos _ hm⟩
theorem okR_iff (nx id pa rt sz kd fr dg : Int) : Rec.okR [nx, id, pa, rt, sz, kd, fr, dg] = true ↔ ((nx = 0 ∨ 2 ≤ nx ∧ nx < 4096) ∧ (rt = 0 ∨ 2 ≤ rt ∧ rt < 4096) ∧ (1 ≤ id ∧ id ≤ 4611686018427387903) ∧ pa ≠ id ∧ (pa = 0 ∨ 1 ≤ pa ∧ pa ≤ 4611686018427387903) ∧ 0 ≤ sz ∧ sz ≤ 512 ∧ ((kd = 0 ∧ fr = 0 ∧ dg = 0) ∨ (kd = 1 ∧ 1 ≤ fr ∧ fr ≤ 65535 ∧ 0 ≤ dg ∧ dg ≤ 4294967295))) := by
  unfold Rec.okR Nod.isPtr Rec.isId
  simp only [Bool.and_eq_true, decide_eq_true_eq, Bool.or_eq_true, beq_iff_eq, bne_iff_ne, and_assoc]
theorem okR_no {nx id pa rt sz kd fr dg : Int} (h : ¬ ((nx = 0 ∨ 2 ≤ nx ∧ nx < 4096) ∧ (rt = 0 ∨ 2 ≤ rt ∧ rt < 4096) ∧ (1 ≤ id ∧ id ≤ 4611686018427387903) ∧ pa ≠ id ∧ (pa = 0 ∨ 1 ≤ pa ∧ pa ≤ 4611686018427387903) ∧ 0 ≤ sz ∧ sz ≤ 512 ∧ ((kd = 0 ∧ fr = 0 ∧ dg = 0) ∨ (kd = 1 ∧ 1 ≤ fr ∧ fr ≤ 65535 ∧ 0 ≤ dg ∧ dg ≤ 4294967295)))) : Rec.okR [nx, id, pa, rt, sz, kd, fr, dg] = false := by
  rw [Bool.eq_false_iff, ne_eq, okR_iff]; exact h
theorem kinds_j {x0 x1 x2 x3 x4 x5 x6 x7 y0 y1 y2 y3 y4 y5 y6 y7 : Int} (h : Rec.okR [x0, x1, x2, x3, x4, x5, x6, x7] = true) (h' : Rec.okR [y0, y1, y2, y3, y4, y5, y6, y7] = false) : Ev (fun k => woodcutlaw08_RecordKinds.j0 k x0 x1 x2 x3 x4 x5 x6 x7 y0 y1 y2 y3 y4 y5 y6 y7) true := by
  refine Ev.step (f := fun k => _) (fun k => rfl) ?_
  refine Ev.bind (record_Bytes_ok y0 y1 y2 y3 y4 y5 y6 y7) ?_
  refine Ev.bind (record_Check_ok x0 x1 x2 x3 x4 x5 x6 x7) ?_
  rw [if_neg (show ¬ Rec.okR [y0, y1, y2, y3, y4, y5, y6, y7] = true by rw [h']; decide)]
  rw [show Rec.chkG Rec.okR [x0, x1, x2, x3, x4, x5, x6, x7] = 0 by unfold Rec.chkG; rw [if_pos h]]
  simp only [if_true]
  have hc := record_Check_ok y0 y1 y2 y3 y4 y5 y6 y7
  rw [show Rec.chkG Rec.okR [y0, y1, y2, y3, y4, y5, y6, y7] = 1 by unfold Rec.chkG; rw [if_neg (by rw [h']; decide)]] at hc ⊢
  refine Ev.bind hc ?_
  exact Ev.bind wakes08_ok (Ev.now _)
theorem RecordKinds : woodcutlaw08_RecordKinds.Pure := by
  intro a0 a1 a2 _ _ _
  refine Ev.rounds (?_ : Ev (fun k => woodcutlaw08_RecordKinds.f k a0 a1 a2) true)
  unfold woodcutlaw08_RecordKinds.f
  have b0 := umod a0 1000 (by decide)
  have b1 := umod a1 65535 (by decide)
  generalize Int.tmod (IntKind.u64.wrap a0) 1000 = p at *
  generalize Int.tmod (IntKind.u64.wrap a1) 65535 = q at *
  generalize Int.tmod (IntKind.u64.wrap a2) 9 = r
  have e0 : wrap64 (1 + wrap64 p) = 1 + p := by rw [w64' (x := p) (by omega) (by omega), w64' (by omega) (by omega)]
  have e1 : wrap64 (1 + wrap64 q) = 1 + q := by rw [w64' (x := q) (by omega) (by omega), w64' (by omega) (by omega)]
  rw [e0, e1]
  have b2 : 0 ≤ Int.tmod (1 + q) 513 ∧ Int.tmod (1 + q) 513 < 513 := by
    rw [Int.tmod_eq_emod_of_nonneg (by omega)]
    exact ⟨Int.emod_nonneg _ (by omega), Int.emod_lt_of_pos _ (by omega)⟩
  generalize Int.tmod (1 + q) 513 = s at *
  have hg : Rec.okR [0, 1 + p, 0, 0, s, 1, 1 + q, 1 + q] = true := by rw [okR_iff]; omega
  repeat' split
  all_goals exact kinds_j hg (okR_no (by omega))

end Go.Proofs.Ytaaemamcdhebhaa.PRK
