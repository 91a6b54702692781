/- RecQ: part of a calculus over an abstract machine that stands beside the model, and contracts of functions by it.
Conditions: what each theorem says of its arguments. -/
import Derived.Test.YtaaemamcdhebhaaRecP
import Derived.Test.YtaaemamcdhebhaaKeep
import Derived.Test.YtaaemamcdhebhaaChg
import Derived.Test.YtaaemamcdhebhaaAm17
set_option linter.unusedVariables false
set_option maxRecDepth 100000
open Go Go.Am Go.RowKit
namespace Go.Proofs.Ytaaemamcdhebhaa
open Go.Proofs.Try
theorem rec_aeq (n id pa ro sz ki fr di n' id' pa' ro' sz' ki' fr' di' : Int) : aequal prog 23 (.agg ⟨rc n id pa ro sz ki fr di⟩) (.agg ⟨rc n' id' pa' ro' sz' ki' fr' di'⟩) = some (n == n' && (id == id' && (pa == pa' && (ro == ro' && (sz == sz' && (ki == ki' && (fr == fr' && (di == di')))))))) := by
  have h : aequal prog 23 (.agg ⟨rc n id pa ro sz ki fr di⟩) (.agg ⟨rc n' id' pa' ro' sz' ki' fr' di'⟩) = (match some (n == n') with
    | some true => (match some (id == id') with
    | some true => (match some (pa == pa') with
    | some true => (match some (ro == ro') with
    | some true => (match some (sz == sz') with
    | some true => (match some (ki == ki') with
    | some true => (match some (fr == fr') with
    | some true => (match some (di == di') with
    | some true => some true
    | some false => some false
    | none => none)
    | some false => some false
    | none => none)
    | some false => some false
    | none => none)
    | some false => some false
    | none => none)
    | some false => some false
    | none => none)
    | some false => some false
    | none => none)
    | some false => some false
    | none => none)
    | some false => some false
    | none => none) := by kernel_rfl
  rw [h]
  cases (n == n') <;> cases (id == id') <;> cases (pa == pa') <;> cases (ro == ro') <;> cases (sz == sz') <;> cases (ki == ki') <;> cases (fr == fr') <;> cases (di == di') <;> rfl
theorem rec_eq (n id pa ro sz ki fr di n' id' pa' ro' sz' ki' fr' di' : Int) : abinop prog .eql 23 (.agg ⟨rc n id pa ro sz ki fr di⟩) (.agg ⟨rc n' id' pa' ro' sz' ki' fr' di'⟩) = some (.bool (n == n' && (id == id' && (pa == pa' && (ro == ro' && (sz == sz' && (ki == ki' && (fr == fr' && (di == di'))))))))) := by
  show eqOp .eql (aequal prog 23 (.agg ⟨rc n id pa ro sz ki fr di⟩) (.agg ⟨rc n' id' pa' ro' sz' ki' fr' di'⟩)) = _
  rw [rec_aeq]; rfl
theorem rec_ne (n id pa ro sz ki fr di n' id' pa' ro' sz' ki' fr' di' : Int) : abinop prog .neq 23 (.agg ⟨rc n id pa ro sz ki fr di⟩) (.agg ⟨rc n' id' pa' ro' sz' ki' fr' di'⟩) = some (.bool (!(n == n' && (id == id' && (pa == pa' && (ro == ro' && (sz == sz' && (ki == ki' && (fr == fr' && (di == di')))))))))) := by
  show eqOp .neq (aequal prog 23 (.agg ⟨rc n id pa ro sz ki fr di⟩) (.agg ⟨rc n' id' pa' ro' sz' ki' fr' di'⟩)) = _
  rw [rec_aeq]; rfl
theorem ptrB_b {n : Int} (h : ptrB n = true) : 0 ≤ n ∧ n < 4096 := by
  unfold ptrB at h; simp at h; omega
theorem idB_b {n : Int} (h : idB n = true) : 1 ≤ n ∧ n ≤ 4611686018427387903 := by
  unfold idB at h; simp at h; omega
theorem rec_fits {n id pa ro sz ki fr di : Int} (h : recOk n id pa ro sz ki fr di = true) : Fits rSiz [n, id, pa, ro, sz, ki, fr, di] := by
  have hb : (ptrB n = true ∧ ptrB ro = true ∧ parB id pa = true ∧ inB sz 0 512 = true) ∧ (0 ≤ ki ∧ ki ≤ 1) ∧ (0 ≤ fr ∧ fr ≤ 65535) ∧ (0 ≤ di ∧ di ≤ 4294967295) := by
    unfold recOk at h
    split at h
    · unfold recIs at h
      simp only [Bool.and_eq_true, beq_iff_eq] at h
      obtain ⟨⟨⟨⟨⟨h1, h2⟩, h3⟩, h4⟩, h5⟩, h6⟩ := h
      exact ⟨⟨h1, h2, h3, h4⟩, by omega, by omega, by omega⟩
    · split at h
      · unfold recIs at h
        simp only [Bool.and_eq_true, inB_iff] at h
        obtain ⟨⟨⟨⟨⟨h1, h2⟩, h3⟩, h4⟩, h5⟩, h6⟩ := h
        exact ⟨⟨h1, h2, h3, (inB_iff _ _ _).2 h4⟩, by omega, by omega, by omega⟩
      · cases h
  obtain ⟨⟨h1, h2, h3, h4⟩, h5, h6, h7⟩ := hb
  have b1 := ptrB_b h1
  have b2 := ptrB_b h2
  have b4 := (inB_iff _ _ _).1 h4
  unfold parB at h3
  simp only [Bool.and_eq_true, Bool.or_eq_true, beq_iff_eq] at h3
  have b3 := idB_b h3.1
  have b5 : 0 ≤ pa ∧ pa ≤ 4611686018427387903 := by
    rcases h3.2.2 with e | e
    · omega
    · have := idB_b e; omega
  have e8 : (256 : Int) ^ 8 = 18446744073709551616 := by decide
  have e4 : (256 : Int) ^ 4 = 4294967296 := by decide
  exact ⟨⟨by omega, by rw [e4]; omega, by omega⟩, ⟨by omega, by rw [e8]; omega, by omega⟩, ⟨by omega, by rw [e8]; omega, by omega⟩, ⟨by omega, by rw [e4]; omega, by omega⟩, ⟨by omega, by rw [e4]; omega, by omega⟩, ⟨by omega, by rw [e4]; omega, by omega⟩, ⟨by omega, by rw [e4]; omega, by omega⟩, ⟨by omega, by rw [e4]; omega, by omega⟩, trivial⟩
theorem recBlock_len (n id pa ro sz ki fr di : Int) : (recBlock n id pa ro sz ki fr di).length = 64 := makeB_len rfl rfl (by decide)
theorem recBlock_byt (n id pa ro sz ki fr di : Int) : Byt (recBlock n id pa ro sz ki fr di) := makeB_byt (by unfold Byt; decide) rfl rfl (by decide)
theorem rec_back {n id pa ro sz ki fr di : Int} (h : recOk n id pa ro sz ki fr di = true) : rCode (recBlock n id pa ro sz ki fr di) = 0 ∧ rCells (recBlock n id pa ro sz ki fr di) = rc n id pa ro sz ki fr di := by
  obtain ⟨h1, h2⟩ := read_make (mb := rMag) rfl (rec_fits h) (by decide)
  have h1 : readB rMag rLay (recBlock n id pa ro sz ki fr di) = 0 := h1
  have h2 : numsB rLay (recBlock n id pa ro sz ki fr di) = [n, id, pa, ro, sz, ki, fr, di] := h2
  have hc : rCode (recBlock n id pa ro sz ki fr di) = 0 := by
    unfold rCode rOkL rNum
    rw [if_pos h1, h2]
    show (if recOk n id pa ro sz ki fr di = true then (0 : Int) else 1) = 0
    rw [h]; rfl
  refine ⟨hc, ?_⟩
  unfold rCells rNum
  rw [if_pos hc, h2]
  rfl
theorem rCells_ex (l : List Int) : ∃ a0 a1 a2 a3 a4 a5 a6 a7, rCells l = rc a0 a1 a2 a3 a4 a5 a6 a7 := by
  unfold rCells
  split
  · exact ⟨_, _, _, _, _, _, _, _, rfl⟩
  · exact ⟨_, _, _, _, _, _, _, _, rfl⟩
end Go.Proofs.Ytaaemamcdhebhaa
