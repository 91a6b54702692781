/- NodR: part of a calculus over an abstract machine that stands beside the model, and contracts of functions by it.
Conditions: what each theorem says of its arguments. -/
import Derived.Test.YtaaemamcdhebhaaNodQ
import Derived.Test.YtaaemamcdhebhaaChg
import Derived.Test.YtaaemamcdhebhaaKeep
set_option linter.unusedVariables false
set_option maxRecDepth 100000
open Go Go.Am Go.RowKit
namespace Go.Proofs.Ytaaemamcdhebhaa
open Go.Proofs.Try
theorem nod_fits {lv : Int} {ps : List Int} (hp : ps.length = 8) (h : nodOk lv ps = true) : Fits nodLay (lv :: ps) := by
  unfold nodOk at h
  simp only [Bool.and_eq_true, List.all_eq_true] at h
  obtain ⟨ha, hl0, hl1, _⟩ := h
  have e4 : (256 : Int) ^ 4 = 4294967296 := by decide
  have key : ∀ x ∈ ps, 0 ≤ x ∧ x < 256 ^ 4 ∧ x ≤ 4611686018427387903 := by
    intro x hx
    have := ha x hx
    unfold ptrB at this
    simp at this
    rw [e4]; omega
  have hl0 : ¬ lv < 0 := by simpa using hl0
  have hl1 : ¬ lv > 2 := by simpa using hl1
  match ps, hp with
  | [p0, p1, p2, p3, p4, p5, p6, p7], _ =>
    exact ⟨⟨by omega, by rw [e4]; omega, by omega⟩, key _ (by simp), key _ (by simp), key _ (by simp), key _ (by simp), key _ (by simp), key _ (by simp), key _ (by simp), key _ (by simp), trivial⟩
theorem nodBlock_len {lv : Int} {ps : List Int} (hp : ps.length = 8) : (nodBlock lv ps).length = 64 := makeB_len rfl (by rw [List.length_cons, hp]; rfl) (by decide)
theorem nodBlock_byt {lv : Int} {ps : List Int} (hp : ps.length = 8) : Byt (nodBlock lv ps) := makeB_byt (by unfold Byt; decide) rfl (by rw [List.length_cons, hp]; rfl) (by decide)
theorem nod_back {lv : Int} {ps : List Int} (hp : ps.length = 8) (h : nodOk lv ps = true) : nCode (nodBlock lv ps) = 0 ∧ nCells (nodBlock lv ps) = nc lv ps := by
  obtain ⟨h1, h2⟩ := read_make (mb := nMag) rfl (nod_fits hp h) (by decide)
  have h1 : readB nMag nLay (nodBlock lv ps) = 0 := h1
  have h2 : numsB nLay (nodBlock lv ps) = lv :: ps := h2
  rw [nPs_eq] at h2
  simp only [List.cons.injEq] at h2
  have hc : nCode (nodBlock lv ps) = 0 := by
    unfold nCode
    rw [if_pos h1, h2.1, h2.2, h]; rfl
  refine ⟨hc, ?_⟩
  unfold nCells
  rw [if_pos hc, h2.1, h2.2]
end Go.Proofs.Ytaaemamcdhebhaa
