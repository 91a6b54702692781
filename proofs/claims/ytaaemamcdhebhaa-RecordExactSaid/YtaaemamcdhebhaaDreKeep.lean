import Derived.Test.YtaaemamcdhebhaaPREx0
import Derived.Test.YtaaemamcdhebhaaPRExF14
import Derived.Test.YtaaemamcdhebhaaPRExF18
namespace Go.Proofs.Ytaaemamcdhebhaa.PRE
open Go.RowKit Go.Proofs.YtaaemamcdhebhaaW.PrintWords Go.Proofs.YtaaemamcdhebhaaW.PrintLast Go.Proofs.YtaaemamcdhebhaaW.PrintMore
set_option linter.unusedVariables false
set_option linter.unusedSimpArgs false
theorem keep_loop (a b : List Int) (hl : a.length = b.length) (hm : a.length ≤ 140737488355328) : ∀ (d i k : Nat), a.length - i = d → i ≤ a.length → d < k → woodcutkeep_Bytes.l0 k a b (i : Int) = some (decide (a.drop i = b.drop i)) := by
  intro d
  induction d with
  | zero =>
    intro i k hd hi hk
    obtain ⟨j, rfl⟩ : ∃ j, k = j + 1 := ⟨k - 1, by omega⟩
    rw [woodcutkeep_Bytes.l0, if_neg (by omega), List.drop_eq_nil_of_le (by omega), List.drop_eq_nil_of_le (by omega)]
    rfl
  | succ d ih =>
    intro i k hd hi hk
    obtain ⟨j, rfl⟩ : ∃ j, k = j + 1 := ⟨k - 1, by omega⟩
    have h1 : i < a.length := by omega
    have h2 : i < b.length := by omega
    have e1 : rd a (i : Int) = a[i] := by unfold rd; rw [Int.toNat_natCast, List.getD_eq_getElem?_getD, List.getElem?_eq_getElem h1]; rfl
    have e2 : rd b (i : Int) = b[i] := by unfold rd; rw [Int.toNat_natCast, List.getD_eq_getElem?_getD, List.getElem?_eq_getElem h2]; rfl
    rw [woodcutkeep_Bytes.l0, if_pos (by omega), if_pos (by omega), if_pos (by omega), e1, e2, List.drop_eq_getElem_cons h1, List.drop_eq_getElem_cons h2]
    by_cases c : a[i] = b[i]
    · rw [if_pos c, show wrap64 ((i : Int) + 1) = ((i + 1 : Nat) : Int) by unfold wrap64; omega, ih (i + 1) j (by omega) (by omega) (by omega)]
      congr 1
      exact decide_eq_decide.2 ⟨fun h => by rw [c, h], fun h => (List.cons.inj h).2⟩
    · rw [if_neg c]
      congr 1
      symm
      rw [decide_eq_false_iff_not]
      exact fun h => c (List.cons.inj h).1
/-- Do two lists hold the same bytes? -/
theorem keepBytes_ok (a b : List Int) (hm : a.length ≤ 140737488355328) : Ev (fun k => woodcutkeep_Bytes.f k a b) (decide (a = b)) := by
  by_cases hl : a.length = b.length
  · refine ⟨a.length + 1, fun k hk => ?_⟩
    show woodcutkeep_Bytes.f k a b = _
    unfold woodcutkeep_Bytes.f
    rw [if_pos (by omega)]
    exact keep_loop a b hl hm a.length 0 k (by omega) (by omega) (by omega)
  · refine ⟨0, fun k hk => ?_⟩
    show woodcutkeep_Bytes.f k a b = _
    unfold woodcutkeep_Bytes.f
    rw [if_neg (by omega)]
    congr 1
    symm
    rw [decide_eq_false_iff_not]
    exact fun h => hl (by rw [h])
theorem keepBytes_same (a : List Int) (hm : a.length ≤ 140737488355328) : Ev (fun k => woodcutkeep_Bytes.f k a a) true := by
  have := keepBytes_ok a a hm
  rwa [decide_eq_true rfl] at this
theorem twin_ok (l : List Int) (h : l.length ≤ 300) : woodcutkeep_Twin.f l = some l := by
  unfold woodcutkeep_Twin.f
  rw [if_pos (by simp only [List.length_nil]; omega)]
  rfl

end Go.Proofs.Ytaaemamcdhebhaa.PRE
