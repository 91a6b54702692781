/- Numbers without a sign, and nodes' blocks: what is written is read. Nothing here names the program. -/
import Derived.Test.YtaaemamcdhebhaaBlk2
import Derived.Test.YtaaemamcdhebhaaNod
namespace Go.Proofs.Ytaaemamcdhebhaa.Num
open Go.RowKit Go.Proofs.YtaaemamcdhebhaaW.PrintWords
theorem u64_nn (a : Int) : 0 ≤ IntKind.u64.wrap a := by
  simp only [IntKind.wrap]
  first | omega | (simp only [IntKind.bits, IntKind.signed]; omega) | (simp [IntKind.bits, IntKind.signed]; omega)
theorem umod (a m : Int) (hm : 0 < m) : 0 ≤ Int.tmod (IntKind.u64.wrap a) m ∧ Int.tmod (IntKind.u64.wrap a) m < m := by
  rw [Int.tmod_eq_emod_of_nonneg (u64_nn a)]
  exact ⟨Int.emod_nonneg _ (by omega), Int.emod_lt_of_pos _ hm⟩
theorem isPtr_b {x : Int} (h : Nod.isPtr x = true) : 0 ≤ x ∧ x < 4096 := by
  unfold Nod.isPtr at h
  simp only [Bool.or_eq_true, beq_iff_eq, Bool.and_eq_true, decide_eq_true_eq] at h
  omega
theorem fit4 {x : Int} (h : 0 ≤ x ∧ x < 4096) {ss : List Nat} {vs : List Int} (hr : Blk.fitsB ss vs = true) : Blk.fitsB (4 :: ss) (x :: vs) = true := by
  unfold Blk.fitsB
  rw [hr, decide_eq_true h.1, decide_eq_true (show x < 256 ^ 4 by rw [show (256 : Int) ^ 4 = 4294967296 by decide]; omega), decide_eq_true (show x ≤ Blk.maxId by unfold Blk.maxId; omega)]
  rfl
theorem fits_ptrs : ∀ ps : List Int, ps.all Nod.isPtr = true → Blk.fitsB (List.replicate ps.length 4) ps = true := by
  intro ps
  induction ps with
  | nil => intro _; rfl
  | cons x t ih =>
    intro h
    rw [List.all_cons, Bool.and_eq_true] at h
    exact fit4 (isPtr_b h.1) (ih h.2)
theorem okNode_fits {lv : Int} {ps : List Int} (h : Nod.okNode lv ps = true) (hl : ps.length = 8) : Blk.fitsB Nod.sizes (lv :: ps) = true := by
  unfold Nod.okNode at h
  simp only [Bool.and_eq_true, decide_eq_true_eq] at h
  have := fits_ptrs ps h.1.2
  rw [hl] at this
  exact fit4 (by omega) this
theorem parse_blk {lv : Int} {ps : List Int} (h : Nod.okNode lv ps = true) (hl : ps.length = 8) : Nod.parse (Blk.blk Nod.magic Nod.sizes (lv :: ps)) = (0, lv :: ps) := by
  unfold Nod.parse
  rw [Blk.readB_blk rfl (by decide) (okNode_fits h hl)]
  exact Nod.parseOf_ok h
theorem blk_len {lv : Int} {ps : List Int} (h : Nod.okNode lv ps = true) (hl : ps.length = 8) : (Blk.blk Nod.magic Nod.sizes (lv :: ps)).length = 64 := Blk.blk_len rfl (by decide) (okNode_fits h hl)
theorem blk_bytes (l : List Int) : Blk.bytesOk (Blk.blk Nod.magic Nod.sizes l) = true := Blk.blk_bytes (by decide)
end Go.Proofs.Ytaaemamcdhebhaa.Num
