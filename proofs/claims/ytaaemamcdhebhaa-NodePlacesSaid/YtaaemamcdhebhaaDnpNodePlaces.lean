import Derived.Test.YtaaemamcdhebhaaPNPx0
import Derived.Test.YtaaemamcdhebhaaPNPxF29
import Derived.Test.YtaaemamcdhebhaaPNPxF59
import Derived.Test.YtaaemamcdhebhaaNum
import Derived.Test.YtaaemamcdhebhaaDnpNode
namespace Go.Proofs.Ytaaemamcdhebhaa.PNP
open Go.RowKit Go.Proofs.YtaaemamcdhebhaaW.PrintWords Go.Proofs.YtaaemamcdhebhaaW.PrintLast Go.Proofs.YtaaemamcdhebhaaW.PrintMore
set_option linter.unusedVariables false
set_option linter.unusedSimpArgs false
theorem place2 (a : Int) (h0 : 0 ≤ a) (h1 : a < 512) : node_Place.f a 2 = some (a / 64, a % 64, 0) := by
  unfold node_Place.f placeE
  rw [if_pos]
  · rfl
  · unfold placeOk
    simp only [Bool.and_eq_true, decide_eq_true_eq]
    refine ⟨⟨⟨by omega, by omega⟩, h0⟩, ?_⟩
    rw [show under ((2 : Int).toNat + 1) = 512 by decide]; exact h1
theorem place1 (a : Int) (h0 : 0 ≤ a) (h1 : a < 64) : node_Place.f a 1 = some (a / 8, a % 8, 0) := by
  unfold node_Place.f placeE
  rw [if_pos]
  · rfl
  · unfold placeOk
    simp only [Bool.and_eq_true, decide_eq_true_eq]
    refine ⟨⟨⟨by omega, by omega⟩, h0⟩, ?_⟩
    rw [show under ((1 : Int).toNat + 1) = 64 by decide]; exact h1
theorem place0 (a : Int) (h0 : 0 ≤ a) (h1 : a < 8) : node_Place.f a 0 = some (a, 0, 0) := by
  unfold node_Place.f placeE
  rw [if_pos]
  · show some (a / 1, a % 1, (0 : Int)) = _
    rw [Int.ediv_one, Int.emod_one]
  · unfold placeOk
    simp only [Bool.and_eq_true, decide_eq_true_eq]
    refine ⟨⟨⟨by omega, by omega⟩, h0⟩, ?_⟩
    rw [show under ((0 : Int).toNat + 1) = 8 by decide]; exact h1
theorem places_j (a b : Int) (ha : 0 ≤ a ∧ a < 512) (hb : 0 ≤ b ∧ b < 512) : woodcutlaw07_NodePlaces.j0 1 a b (a / 64) (a % 64 / 8) (a % 64 % 8) (b / 64) (b % 64 / 8) (b % 64 % 8) false = some true := by
  rw [woodcutlaw07_NodePlaces.j0, wakes07_ok]
  have hw : wrap64 (wrap64 (wrap64 (wrap64 (a / 64 * 8) + a % 64 / 8) * 8) + a % 64 % 8) = a := by
    rw [w64' (x := a / 64 * 8) (by omega) (by omega), w64' (x := a / 64 * 8 + a % 64 / 8) (by omega) (by omega), w64' (x := (a / 64 * 8 + a % 64 / 8) * 8) (by omega) (by omega), w64' (by omega) (by omega)]
    omega
  rw [hw, if_neg (by decide), if_neg (by omega), if_neg (by omega), if_neg (by omega), if_neg (by omega), if_neg (by omega), if_neg (by omega)]
  simp only [Option.bind_some, if_true]
  by_cases c1 : a / 64 = b / 64
  · rw [if_pos c1]
    by_cases c2 : a % 64 / 8 = b % 64 / 8
    · rw [if_pos c2, if_pos]
      rw [beq_iff_eq, Bool.eq_iff_iff, beq_iff_eq, beq_iff_eq]
      omega
    · rw [if_neg c2, if_pos]
      rw [beq_iff_eq, eq_comm, Bool.eq_false_iff, ne_eq, beq_iff_eq]
      omega
  · rw [if_neg c1, if_pos]
    rw [beq_iff_eq, eq_comm, Bool.eq_false_iff, ne_eq, beq_iff_eq]
    omega
theorem NodePlaces : woodcutlaw07_NodePlaces.Pure := by
  intro a0 a1 _ _
  refine ⟨1, ?_⟩
  unfold woodcutlaw07_NodePlaces.f
  have b0 := Num.umod a0 512 (by decide)
  have b1 := Num.umod a1 512 (by decide)
  generalize Int.tmod (IntKind.u64.wrap a0) 512 = a at *
  generalize Int.tmod (IntKind.u64.wrap a1) 512 = b at *
  rw [w64' (x := a) (by omega) (by omega), w64' (x := b) (by omega) (by omega)]
  simp only [place2 a b0.1 b0.2, place2 b b1.1 b1.2, Option.bind_some]
  simp only [place1 (a % 64) (by omega) (by omega), place1 (b % 64) (by omega) (by omega), Option.bind_some]
  simp only [place0 (a % 64 % 8) (by omega) (by omega), place0 (b % 64 % 8) (by omega) (by omega), Option.bind_some, if_true]
  exact places_j a b b0 b1

end Go.Proofs.Ytaaemamcdhebhaa.PNP
