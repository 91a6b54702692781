/- NodC: part of a calculus over an abstract machine that stands beside the model, and contracts of functions by it.
Conditions: what each theorem says of its arguments. -/
import Derived.Test.YtaaemamcdhebhaaRecC
set_option linter.unusedVariables false
set_option maxRecDepth 100000
open Go Go.Am Go.RowKit
namespace Go.Proofs.Ytaaemamcdhebhaa
open Go.Proofs.Try
def nodLay : List Nat := [4, 4, 4, 4, 4, 4, 4, 4, 4]
theorem nodLay_ok {h : Heap} : RunF prog 58 [] h fun v h' => Row h.next h' v 2 9 (fcs (layF 4 nodLay)) ∧ Fr no h h' := by
  refine RunF.walk func58 rfl rfl ?_
  refine RunC.seq (RunC.region (RunO.all rfl ?_))
  refine RunC.seq (RunC.region (RunO.part 1 (h1 := h.push ⟨ns nodLay, true⟩) rfl ?_))
  refine RunO.callD (superLayout_ok (ss := nodLay) (c := exc 9) (Ow.push h (ns nodLay)).all (by decide) (by decide)) rfl rfl rfl ?_
  rintro v h' ⟨hr, hf⟩
  refine RunO.all rfl (RunC.ret ⟨_, rfl, ?_, ?_⟩)
  · refine ⟨hr.1, hr.2.imp (fun x => x) ?_⟩
    rintro ⟨b, h1, h2⟩
    exact ⟨b, Nat.le_trans (Nat.le_succ _) h1, h2⟩
  · exact (Fr.push no _ _).same hf
/-- A node's cells: its level, its pointers. -/
def nc (lv : Int) (ps : List Int) : List Value := .int .i64 lv :: is ps
def anyP (ps : List Int) : Bool := ps.any (· != 0)
def nodOk (lv : Int) (ps : List Int) : Bool := ps.all ptrB && (!(decide (lv < 0)) && (!(decide (lv > 2)) && anyP ps))
theorem nodCheck_ok {h : Heap} {lv : Int} {ps : List Int} (hp : ps.length = 8) : RunF prog 28 [.agg ⟨nc lv ps⟩] h fun v h' => v = .int .i64 (if nodOk lv ps then 0 else 1) ∧ Fr no h h' := by
  refine RunF.walk func28 rfl rfl ?_
  refine RunC.seq (RunC.region (RunO.all (h1 := h.push ⟨nc lv ps, true⟩) rfl ?_))
  have ow : Ow (h.push ⟨nc lv ps, true⟩) h.next (nc lv ps) := Ow.push _ _
  have f1 : Fr no h (h.push ⟨nc lv ps, true⟩) := Fr.push _ _ _
  generalize h.push ⟨nc lv ps, true⟩ = h1 at *
  generalize h.next = p at *
  refine RunC.seq (RunC.region (RunO.all rfl ?_))
  refine RunC.seq (RunC.seq (RunC.region (RunO.part 1 rfl ?_)))
  have hload : aload prog h1 41 ⟨p, 1, none⟩ = some (.agg ⟨is ps⟩) := by
    refine ow.all.part (k := 1) ?_
    show (match takeN 8 (dropN 1 (nc lv ps)) with | some l => some (Value.agg ⟨l⟩) | none => none) = _
    rw [takeN_eq, dropN_eq, if_pos (by simp [nc, is_len, hp])]
    simp only [nc, List.drop_succ_cons, List.drop_zero]
    rw [List.take_of_length_le (by rw [is_len]; omega)]
  refine RunO.load rfl hload rfl ?_
  refine RunO.all rfl ?_
  refine RunC.block ?_
  let I : Nat → Env → Heap → Prop := fun k E h' => ∃ i : Nat, i + k = 8 ∧ (ps.take i).all ptrB = true ∧ h1 = h' ∧ Le (upd (upd (upd (upd E0 1 (.pointer (some ⟨p, 0, none⟩))) 3 (.bool (anyP (ps.take i)))) 7 (.agg ⟨is ps⟩)) 8 (.int .i64 i)) E
  refine RunC.loop I ?_ (k := 8) ?_
  · rintro k E h' ⟨i, hi, hall, rfl, hE⟩
    refine RunC.le hE ?_
    clear hE
    refine RunC.seq (RunC.region (RunO.all rfl ?_))
    refine RunC.seq (RunC.cond rfl (fun hlt => ?_) (fun hge => ?_))
    · have hlt := of_decide_eq_true hlt
      have hi2 : i < ps.length := by omega
      have hat : anyP (ps.take (i + 1)) = (anyP (ps.take i) || ps[i] != 0) := by
        unfold anyP; rw [List.take_succ_eq_append_getElem hi2, List.any_append]; simp
      have hal : (ps.take (i + 1)).all ptrB = ptrB ps[i] := by
        rw [List.take_succ_eq_append_getElem hi2, List.all_append, hall]; simp
      have hmem := List.getElem_mem hi2
      have hnth := is_nth hi2
      refine RunC.skip ?_
      refine RunC.seq (RunC.block ?_)
      refine RunC.seq (RunC.region ?_)
      refine RunO.one rfl (v := .int .i64 ps[i]) (E1 := upd _ 10 (.int .i64 ps[i])) (h1 := h1) ?_ rfl ?_
      · show pureR h1 (cond (Nat.ble (Nat.succ i) 8) (nth (is ps) (Nat.mul i 1)) none) = _
        rw [Nat.ble_eq_true_of_le (by omega), cond_true, show Nat.mul i 1 = i from Nat.mul_one i, hnth]; rfl
      refine RunO.all rfl ?_
      generalize ps[i] = x at *
      refine RunC.seq (RunC.seq (RunC.region (RunO.part 1 rfl ?_)))
      refine RunO.callD nodePointer_ok rfl rfl rfl ?_
      rintro _ _ ⟨rfl, rfl⟩
      refine RunO.all rfl ?_
      cases hx : ptrB x with
      | false =>
        refine RunC.cond rfl (fun _ => ?_) (fun g => by cases g)
        have hno : nodOk lv ps = false := by
          unfold nodOk
          have : ps.all ptrB = false := by
            rw [List.all_eq_false]
            exact ⟨x, hmem, by rw [hx]; decide⟩
          rw [this]; rfl
        rw [hno]
        exact RunC.seq (RunC.region (RunO.all rfl (RunC.ret ⟨_, rfl, rfl, f1⟩)))
      | true =>
        rw [hx] at hal
        refine RunC.cond rfl (fun g => by cases g) (fun _ => RunC.skip ?_)
        have hdone : ∀ E', Le (upd (upd (upd (upd E0 1 (.pointer (some ⟨p, 0, none⟩))) 3 (.bool (anyP (ps.take (i + 1))))) 7 (.agg ⟨is ps⟩)) 8 (.int .i64 (i + 1 : Nat))) E' → ∃ k', k' < k ∧ I k' E' h1 := fun E' hE => ⟨k - 1, by omega, i + 1, by omega, hal, rfl, hE⟩
        generalize anyP (ps.take i) = an at *
        cases an with
        | true =>
          refine RunC.region (RunO.all rfl ?_)
          refine RunC.region (RunO.all rfl ?_)
          refine hdone _ ?_
          rw [hat]
          exact Le.cons (inc64 (by omega)) (Le.cons rfl (Le.cons rfl (Le.cons rfl (Le.nil _))))
        | false =>
          refine RunC.region (RunO.all rfl ?_)
          refine RunC.region (RunO.all rfl ?_)
          refine hdone _ ?_
          rw [hat]
          exact Le.cons (inc64 (by omega)) (Le.cons rfl (Le.cons rfl (Le.cons rfl (Le.nil _))))
    · have hge := of_decide_eq_false hge
      refine RunC.exit ?_
      have hi3 : i = 8 := by omega
      subst hi3
      rw [List.take_of_length_le (by omega)] at hall ⊢
      have hok : nodOk lv ps = (!(decide (lv < 0)) && (!(decide (lv > 2)) && anyP ps)) := by unfold nodOk; rw [hall]; rfl
      rw [hok]
      generalize anyP ps = an at *
      refine RunC.seq (RunC.seq (RunC.region (RunO.part 1 rfl ?_)))
      refine RunO.load (v := .int .i64 lv) rfl (ow.all.cell1 (k := 0) rfl rfl) rfl ?_
      refine RunO.part 2 rfl ?_
      cases decide (lv < 0) with
      | true =>
        refine RunO.all rfl (RunC.cond rfl (fun _ => ?_) (fun g => by cases g))
        exact RunC.seq (RunC.region (RunO.all rfl (RunC.ret ⟨_, rfl, rfl, f1⟩)))
      | false =>
      refine RunO.part 1 rfl ?_
      refine RunO.loadG (v := .int .i64 lv) rfl rfl (ow.all.cell1 (k := 0) rfl rfl) rfl ?_
      refine RunO.part 3 rfl ?_
      cases decide (lv > 2) with
      | true =>
        refine RunO.all rfl (RunC.cond rfl (fun _ => ?_) (fun g => by cases g))
        exact RunC.seq (RunC.region (RunO.all rfl (RunC.ret ⟨_, rfl, rfl, f1⟩)))
      | false =>
      cases an with
      | true =>
        refine RunO.all rfl (RunC.cond rfl (fun g => by cases g) (fun _ => RunC.skip ?_))
        exact RunC.seq (RunC.region (RunO.all rfl (RunC.ret ⟨_, rfl, rfl, f1⟩)))
      | false =>
        refine RunO.all rfl (RunC.cond rfl (fun _ => ?_) (fun g => by cases g))
        exact RunC.seq (RunC.region (RunO.all rfl (RunC.ret ⟨_, rfl, rfl, f1⟩)))
  · exact ⟨0, by omega, rfl, rfl, Le.cons rfl (Le.cons rfl (Le.cons rfl (Le.cons rfl (Le.nil _))))⟩
end Go.Proofs.Ytaaemamcdhebhaa
