import Derived.Test.YtaaemamcdhebhaaPREx0
import Derived.Test.YtaaemamcdhebhaaPRExF14
import Derived.Test.YtaaemamcdhebhaaPRExF15
import Derived.Test.YtaaemamcdhebhaaPRExF16
import Derived.Test.YtaaemamcdhebhaaPRExF18
import Derived.Test.YtaaemamcdhebhaaPRExF67
import Derived.Test.YtaaemamcdhebhaaRec
import Derived.Test.YtaaemamcdhebhaaBlk2
namespace Go.Proofs.Ytaaemamcdhebhaa.PRE
open Go.RowKit Go.Proofs.YtaaemamcdhebhaaW.PrintWords Go.Proofs.YtaaemamcdhebhaaW.PrintLast Go.Proofs.YtaaemamcdhebhaaW.PrintMore
set_option linter.unusedVariables false
set_option linter.unusedSimpArgs false
theorem evAll {α : Type} {g : Nat → Option α} {r : α} (hg : ∀ k, LeO (g k) (g (k + 1))) (h : ∃ k, g k = some r) : Ev g r := by obtain ⟨k, hk⟩ := h; exact Ev.of hg hk
theorem recMake (l : List Int) (h : l.length = 8) : super_Make.f (⟨#[83, 78, 65, 80]⟩ : ByteArray) recLay l = some (Blk.blk Rec.magR Rec.sizR l) := by
  unfold super_Make.f
  rw [if_pos (by unfold makeOk; rw [h]; decide)]
  rfl
theorem record_Bytes_ok (nx id pa rt sz kd fr dg : Int) : Ev (fun k => record_Bytes.f k nx id pa rt sz kd fr dg) (if Rec.okR [nx, id, pa, rt, sz, kd, fr, dg] = true then Blk.blk Rec.magR Rec.sizR [nx, id, pa, rt, sz, kd, fr, dg] else [], Rec.chkG Rec.okR [nx, id, pa, rt, sz, kd, fr, dg]) := by
  unfold record_Bytes.f
  refine Ev.bind (record_Check_ok nx id pa rt sz kd fr dg) ?_
  unfold Rec.chkG
  rcases Bool.eq_false_or_eq_true (Rec.okR [nx, id, pa, rt, sz, kd, fr, dg]) with h | h
  · rw [if_pos h, if_pos h]
    simp only [if_true]
    refine Ev.bind record_layout_ok ?_
    simp only [recMake [nx, id, pa, rt, sz, kd, fr, dg] rfl, Option.bind_some]
    exact Ev.now _
  · rw [if_neg (by rw [h]; decide), if_neg (by rw [h]; decide)]
    exact Ev.now _
theorem record_Parse_ok (b : List Int) (hb : Blk.bytesOk b = true) : record_Parse.f b = some (Rec.tup8 (Rec.parseR b).2 (Rec.parseR b).1) := by
  unfold record_Parse.f
  rw [if_pos hb]
theorem recBlk_bytes (l : List Int) : Blk.bytesOk (Blk.blk Rec.magR Rec.sizR l) = true := Blk.blk_bytes (by decide)
theorem wakes08_ok : Ev (fun k => woodcutlaw08_wakes.f k) true := by
  unfold woodcutlaw08_wakes.f
  refine Ev.bind (record_Bytes_ok 0 9 3 0 4 0 0 0) ?_
  have h : Rec.okR [0, 9, 3, 0, 4, 0, 0, 0] = true := by decide
  rw [if_pos h]
  simp only [record_Parse_ok _ (recBlk_bytes _), Rec.parseR_blk h, Option.bind_some]
  have hl : ((Blk.blk Rec.magR Rec.sizR [0, 9, 3, 0, 4, 0, 0, 0]).length : Int) = 64 := by rw [Blk.blk_len rfl (by decide) (Rec.okR_fits h)]; rfl
  have hc : Rec.chkG Rec.okR [0, 9, 3, 0, 4, 0, 0, 0] = 0 := by decide
  simp only [hl, hc, if_true]
  refine Ev.congr (f := fun k => (record_Check.f k 0 0 0 0 0 0 0 0).bind fun t116 => if t116 = 1 then (record_Check.f k 0 1 1 0 0 0 0 0).bind fun t117 => some (t117 == 1) else some false) (fun k => rfl) ?_
  refine Ev.bind (record_Check_ok 0 0 0 0 0 0 0 0) ?_
  refine Ev.congr (f := fun k => (record_Check.f k 0 1 1 0 0 0 0 0).bind fun t117 => some (t117 == 1)) (fun k => rfl) ?_
  exact Ev.bind (record_Check_ok 0 1 1 0 0 0 0 0) (Ev.now _)

end Go.Proofs.Ytaaemamcdhebhaa.PRE
