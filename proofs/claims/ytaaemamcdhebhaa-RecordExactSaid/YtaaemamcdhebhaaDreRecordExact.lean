import Derived.Test.YtaaemamcdhebhaaPREx0
import Derived.Test.YtaaemamcdhebhaaPRExF14
import Derived.Test.YtaaemamcdhebhaaPRExF18
import Derived.Test.YtaaemamcdhebhaaPRExF3
import Derived.Test.YtaaemamcdhebhaaRec
import Derived.Test.YtaaemamcdhebhaaBlk2
import Derived.Test.YtaaemamcdhebhaaDreRec
import Derived.Test.YtaaemamcdhebhaaDreRecRef
import Derived.Test.YtaaemamcdhebhaaDreRecParse
import Derived.Test.YtaaemamcdhebhaaDreKeep
namespace Go.Proofs.Ytaaemamcdhebhaa.PRE
open Go.RowKit Go.Proofs.YtaaemamcdhebhaaW.PrintWords Go.Proofs.YtaaemamcdhebhaaW.PrintLast Go.Proofs.YtaaemamcdhebhaaW.PrintMore
set_option linter.unusedVariables false
set_option linter.unusedSimpArgs false
theorem okR_nn {nx id pa rt sz kd fr dg : Int} (h : Rec.okR [nx, id, pa, rt, sz, kd, fr, dg] = true) : allNN [nx, id, pa, rt, sz, kd, fr, dg] = true := by
  rw [okR_iff'] at h
  unfold allNN
  simp only [List.all_cons, List.all_nil, Bool.and_true, Bool.and_eq_true, decide_eq_true_eq]
  refine ⟨?_, ?_, ?_, ?_, ?_, ?_, ?_, ?_⟩ <;> omega
theorem exact_j (nx id pa rt sz kd fr dg : Int) : Ev (fun k => woodcutlaw08_RecordExact.j0 k (if Rec.okR [nx, id, pa, rt, sz, kd, fr, dg] = true then Blk.blk Rec.magR Rec.sizR [nx, id, pa, rt, sz, kd, fr, dg] else []) (Rec.chkG Rec.okR [nx, id, pa, rt, sz, kd, fr, dg]) false nx id pa rt sz kd fr dg) true := by
  refine Ev.step (f := fun k => _) (fun k => rfl) ?_
  refine Ev.bind (refRecord_ok nx id pa rt sz kd fr dg) ?_
  have hc := record_Check_ok nx id pa rt sz kd fr dg
  rcases Bool.eq_false_or_eq_true (Rec.okR [nx, id, pa, rt, sz, kd, fr, dg]) with h | h
  · rw [h]
    simp only [if_true]
    refine Ev.bind hc ?_
    have h0 : Rec.chkG Rec.okR [nx, id, pa, rt, sz, kd, fr, dg] = 0 := by unfold Rec.chkG; rw [if_pos h]
    have hb : woodcutref01_RecordBytes.f nx id pa rt sz kd fr dg = some (Blk.blk Rec.magR Rec.sizR [nx, id, pa, rt, sz, kd, fr, dg]) := by
      unfold woodcutref01_RecordBytes.f
      rw [if_pos (okR_nn h)]
      rfl
    simp only [h0, if_true, hb, Option.bind_some]
    refine Ev.bind (keepBytes_same _ (by rw [Blk.blk_len rfl (by decide) (Rec.okR_fits h)]; omega)) ?_
    simp only [if_true]
    exact Ev.bind wakes08_ok (Ev.now _)
  · rw [h]
    simp only [Bool.false_eq_true, if_false]
    refine Ev.bind hc ?_
    have h1 : Rec.chkG Rec.okR [nx, id, pa, rt, sz, kd, fr, dg] = 1 := by unfold Rec.chkG; rw [if_neg (by rw [h]; decide)]
    simp only [h1, if_true, List.length_nil]
    exact Ev.bind wakes08_ok (Ev.now _)
theorem RecordExact (nx id pa rt sz kd fr dg : Int) (l : List Int) (hb : Blk.bytesOk l = true) : ∃ k, woodcutlaw08_RecordExact.f k nx id pa rt sz kd fr dg l = some true := by
  refine Ev.rounds (?_ : Ev (fun k => woodcutlaw08_RecordExact.f k nx id pa rt sz kd fr dg l) true)
  unfold woodcutlaw08_RecordExact.f
  by_cases hl : (l.length : Int) > 300
  · simp only [if_pos hl]
    exact Ev.now _
  simp only [if_neg hl, twin_ok l (by omega), Option.bind_some]
  refine Ev.bind (record_Bytes_ok nx id pa rt sz kd fr dg) ?_
  simp only [record_Parse_ok l hb, Option.bind_some]
  refine Ev.bind (refParseRecord_ok l hb) ?_
  simp only [beq_self_eq_true, Bool.not_true, Bool.or_self, Bool.false_eq_true, if_false, if_true]
  refine Ev.bind (keepBytes_same l (by omega)) ?_
  exact exact_j nx id pa rt sz kd fr dg
theorem recordExact_walk (a0_0 a0_1 a0_2 a0_3 a0_4 a0_5 a0_6 a0_7 : Int) (A1 : Option Addr) (c1 : Nat) (l1 : List Int) (w : World) (hr1 : Kd.C (Kd.int .u8) w A1 l1.length l1) (hc1 : l1.length ≤ c1) (hG1 : ∀ p ∈ l1, (Lit.int .u8 p).wf = true) :
    Calls Try.prog 3 #[.agg #[.int .i64 a0_0, .int .i64 a0_1, .int .i64 a0_2, .int .i64 a0_3, .int .i64 a0_4, .int .i64 a0_5, .int .i64 a0_6, .int .i64 a0_7], .slice A1 l1.length c1] w fun e w' => e = .returned (.bool true) ∧ Below w.heap.size w w' := by
  have hb : Blk.bytesOk l1 = true := Blk.bytesOk_iff.2 fun x hx => ⟨(bounds_u8 (hG1 x hx)).1, Int.lt_add_one_of_le (bounds_u8 (hG1 x hx)).2⟩
  obtain ⟨k, hk⟩ := RecordExact a0_0 a0_1 a0_2 a0_3 a0_4 a0_5 a0_6 a0_7 l1 hb
  exact woodcutlaw08_RecordExact.calls k a0_0 a0_1 a0_2 a0_3 a0_4 a0_5 a0_6 a0_7 A1 c1 l1 true w hr1 hc1 hk

end Go.Proofs.Ytaaemamcdhebhaa.PRE
