/- NodP: part of a calculus over an abstract machine that stands beside the model, and contracts of functions by it.
Conditions: what each theorem says of its arguments. -/
import Derived.Test.YtaaemamcdhebhaaNodC
import Derived.Test.YtaaemamcdhebhaaAm18
set_option linter.unusedVariables false
set_option maxRecDepth 100000
open Go Go.Am Go.RowKit
namespace Go.Proofs.Ytaaemamcdhebhaa
open Go.Proofs.Try
def nMag : List Int := [78, 79, 68, 69]
def nLay : List (Nat × Nat) := layF 4 nodLay
/-- A node's block. -/
def nodBlock (lv : Int) (ps : List Int) : List Int := makeB nMag nLay (lv :: ps)
theorem nodBytes_ok {h : Heap} {lv : Int} {ps : List Int} (hp : ps.length = 8) : RunF prog 23 [.agg ⟨nc lv ps⟩] h fun v h' => Fr no h h' ∧ ((nodOk lv ps = true ∧ ∃ b, h.next ≤ b ∧ v = .tuple #[.slice (some ⟨b, 0, none⟩) 64 (exc 64), .int .i64 0] ∧ Ow h' b (us (nodBlock lv ps))) ∨ (nodOk lv ps = false ∧ v = .tuple #[.slice none 0 0, .int .i64 1])) := by
  refine RunF.walk func23 rfl rfl ?_
  refine RunC.seq (RunC.region (RunO.all (h1 := h.push ⟨nc lv ps, true⟩) rfl ?_))
  have ow : Ow (h.push ⟨nc lv ps, true⟩) h.next (nc lv ps) := Ow.push _ _
  have f1 : Fr no h (h.push ⟨nc lv ps, true⟩) := Fr.push _ _ _
  generalize h.push ⟨nc lv ps, true⟩ = h1 at *
  refine RunC.seq (RunC.region ?_)
  have hnl : (nc lv ps).length = 9 := by simp [nc, is_len, hp]
  have hload : aload prog h1 43 ⟨h.next, 0, none⟩ = some (.agg ⟨nc lv ps⟩) := by
    refine ow.all.part (k := 0) ?_
    show (match takeN 9 (dropN 0 (nc lv ps)) with | some l => some (Value.agg ⟨l⟩) | none => none) = _
    rw [takeN_eq, dropN_eq, if_pos (by simp [hnl])]
    simp only [List.drop_zero]
    rw [List.take_of_length_le (by omega)]
  refine RunO.load rfl hload rfl ?_
  refine RunO.callD (nodCheck_ok hp) rfl rfl rfl ?_
  rintro v h2 ⟨rfl, hf2⟩
  have f2 := f1.same hf2
  have ow2 := ow.fr hf2 (fun g => g)
  refine RunO.all rfl ?_
  cases hok : nodOk lv ps with
  | false =>
    refine RunC.seq (RunC.seq (RunC.region (RunO.all rfl (RunC.cond rfl (fun _ => ?_) (fun g => by cases g)))))
    exact RunC.seq (RunC.region (RunO.all rfl (RunC.ret ⟨_, rfl, f2, .inr ⟨rfl, rfl⟩⟩)))
  | true =>
    refine RunC.seq (RunC.seq (RunC.region (RunO.all rfl (RunC.cond rfl (fun g => by cases g) (fun _ => RunC.skip ?_)))))
    refine RunC.seq (RunC.draw (l0 := min h2.low h2.next) (Nat.min_le_left _ _) rfl ?_)
    refine RunD.callD nodLay_ok rfl rfl rfl ?_
    rintro v h3 ⟨hr, hf3⟩
    have hl3 : min h2.low h2.next ≤ h3.low := hf3.from (Nat.min_le_right _ _) (fun _ g => g.elim)
    refine ⟨hl3, ?_⟩
    have ow3 : Ow h3 h.next (nc lv ps) := Ow.fr (h := h2.lo h2.next) ow2 hf3 (fun g => g)
    have hn3 : min h2.low h2.next ≤ h3.next := Nat.le_trans (Nat.min_le_right _ _) hf3.next
    obtain ⟨bf, hbf, rfl, owf⟩ := rowOut hr (by decide)
    rw [hf3.quietB]
    refine RunD.pure hn3 rfl rfl (fun _ => rfl) rfl ?_
    refine RunD.load (v := .int .i64 lv) hn3 rfl (ow3.all.cell1 (k := 0) rfl rfl) rfl ?_
    refine RunD.one (h1 := (h3.lo h3.next).push ⟨is [lv], true⟩) rfl rfl (fun _ => rfl) hn3 rfl ?_
    have ow4 := Ow.push (h3.lo h3.next) (is [lv])
    have f4 : Fr no h3 ((h3.lo h3.next).push ⟨is [lv], true⟩) := ⟨Nat.le_succ _, (Fr.push no (h3.lo h3.next) _).get, fun l a b c => b⟩
    have owf4 := owf.fr f4 (fun g => g)
    have owa4 := ow3.fr f4 (fun g => g)
    generalize (h3.lo h3.next).push ⟨is [lv], true⟩ = h4 at *
    generalize hb4 : (h3.lo h3.next).next = b4 at *
    have hn4 : min h2.low h2.next ≤ h4.next := Nat.le_trans hn3 f4.next
    refine RunD.pure hn4 rfl rfl (fun _ => rfl) rfl ?_
    refine RunD.pure hn4 rfl rfl (fun _ => rfl) rfl ?_
    have rdp : Rd (h4.lo h4.next) ⟨h.next, 1, none⟩ (is ps) := Ow.rd (h := h4) owa4 (by simp only [nc, List.drop_succ_cons, List.drop_zero]; rw [List.take_of_length_le (Nat.le_refl _)])
    have happ := append_full (P := prog) (t := 80) (h := h4.lo h4.next) (c := exc 1) (c' := exc 8) (k := 1) (m := 8) (b := ⟨b4, 0, none⟩) (a := ⟨h.next, 1, none⟩) rfl rfl rfl rfl rfl (by decide) (Ow.all (h := h4) ow4) rfl rfl (by decide) rdp (by rw [is_len, hp]; rfl) (by decide) (by decide) (by decide)
    refine RunD.one (h1 := (h4.lo h4.next).push ⟨is (lv :: ps), true⟩) (v := .slice (some ⟨h4.next, 0, none⟩) 9 (unkc 1)) (E1 := upd _ 16 (.slice (some ⟨h4.next, 0, none⟩) 9 (unkc 1))) rfl (by show aappend prog (h4.lo h4.next) 80 80 (.slice (some ⟨b4, 0, none⟩) 1 (exc 1)) (.slice (some ⟨h.next, 1, none⟩) 8 (exc 8)) = _; exact happ) (fun _ => rfl) hn4 rfl ?_
    have ow5 := Ow.push (h4.lo h4.next) (is (lv :: ps))
    have f5 : Fr no h4 ((h4.lo h4.next).push ⟨is (lv :: ps), true⟩) := ⟨Nat.le_succ _, (Fr.push no (h4.lo h4.next) _).get, fun l a b c => b⟩
    have owf5 := owf4.fr f5 (fun g => g)
    generalize (h4.lo h4.next).push ⟨is (lv :: ps), true⟩ = h5 at *
    have hn5 : min h2.low h2.next ≤ h5.next := Nat.le_trans hn4 f5.next
    refine RunD.callD (superMake_ok (h := h5.lo h5.next) (mb := nMag) (fl := nLay) (nums := lv :: ps) (cn := unkc 1) rfl rfl owf5.all ow5.all (by rw [List.length_cons, hp]; rfl) (by decide) (by decide)) rfl (by rw [List.length_cons, hp]; rfl) rfl ?_
    rintro v h6 ⟨b, hb, rfl, ow6, hf6⟩
    refine ⟨hf6.from hn5 (fun _ g => g.elim), ?_⟩
    rw [hf6.quietB]
    have hn6 : min h2.low h2.next ≤ h6.next := Nat.le_trans hn5 hf6.next
    refine RunD.pure hn6 rfl rfl (fun _ => rfl) rfl ?_
    refine RunD.pure hn6 rfl rfl (fun _ => rfl) rfl ?_
    refine RunD.nil ⟨rfl, fun lw hlw => ?_⟩
    refine RunC.ret ⟨_, rfl, ?_, .inl ⟨rfl, b, ?_, rfl, ow6⟩⟩
    · exact ((f2.fg0.same hf3.fg).same ((f4.fg0.same f5.fg0).same hf6.fg)).close (fun l h1 h2 h3 => Nat.le_trans (Nat.le_min.2 ⟨f2.low l h1 h2 h3, Nat.le_trans h2 f2.next⟩) hlw)
    · exact Nat.le_trans (Nat.le_trans f2.next (Nat.le_trans hf3.next (Nat.le_trans f4.next f5.next))) hb
end Go.Proofs.Ytaaemamcdhebhaa
