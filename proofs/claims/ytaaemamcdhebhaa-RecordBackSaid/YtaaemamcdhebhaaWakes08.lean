/- Wakes08: part of a calculus over an abstract machine that stands beside the model, and contracts of functions by it.
Conditions: what each theorem says of its arguments. -/
import Derived.Test.YtaaemamcdhebhaaRecQ
set_option linter.unusedVariables false
set_option maxRecDepth 100000
open Go Go.Am Go.RowKit
namespace Go.Proofs.Ytaaemamcdhebhaa
open Go.Proofs.Try
theorem wakes08_ok {h : Heap} : RunF prog 21 [] h fun v h' => v = .bool true ∧ Fr no h h' := by
  refine RunF.walk func21 rfl rfl ?_
  refine RunC.seq (RunC.region (RunO.all rfl ?_))
  refine RunC.seq (RunC.region (RunO.part 2 (h1 := h.push ⟨rc 0 0 0 0 0 0 0 0, true⟩) rfl ?_))
  refine RunO.store rfl rfl (store_ow (s := 8) (Ow.push h (rc 0 0 0 0 0 0 0 0)) rfl rfl rfl (by decide)) (RunO.nil ?_)
  change RunC _ _ _ _ ((h.push ⟨rc 0 0 0 0 0 0 0 0, true⟩).put h.next (some ⟨rc 0 9 3 0 4 0 0 0, true⟩)) _ _ _
  have ow1 : Ow ((h.push ⟨rc 0 0 0 0 0 0 0 0, true⟩).put h.next (some ⟨rc 0 9 3 0 4 0 0 0, true⟩)) h.next (rc 0 9 3 0 4 0 0 0) := Ow.put _ (Nat.lt_succ_self _)
  have f1 : Fr no h ((h.push ⟨rc 0 0 0 0 0 0 0 0, true⟩).put h.next (some ⟨rc 0 9 3 0 4 0 0 0, true⟩)) := (Fr.push _ _ _).trans (Fr.put (m := (· = h.next)) _ (.inl rfl)) (fun j hj => .inr (by omega))
  generalize (h.push ⟨rc 0 0 0 0 0 0 0 0, true⟩).put h.next (some ⟨rc 0 9 3 0 4 0 0 0, true⟩) = h1 at *
  generalize h.next = p1 at *
  refine RunC.seq (RunC.region ?_)
  refine RunO.load (v := .agg ⟨rc 0 9 3 0 4 0 0 0⟩) rfl (ow1.all.part (k := 0) rfl) rfl ?_
  refine RunO.callD recBytes_ok rfl rfl rfl ?_
  rintro v h2 ⟨f2, hv⟩
  have hok : recOk 0 9 3 0 4 0 0 0 = true := by decide
  rcases hv with ⟨_, b, hb, rfl, ob⟩ | ⟨hno, _⟩
  case inr => rw [hok] at hno; cases hno
  have ow2 := ow1.fr f2 (fun g => g)
  have f12 := f1.same f2
  refine RunO.all rfl ?_
  have hback := rec_back hok
  refine RunC.seq (RunC.region (RunO.part 1 rfl ?_))
  have hparse := recParse_ok (h := h2) (A := some ⟨b, 0, none⟩) (c := exc 64) (l := recBlock 0 9 3 0 4 0 0 0) (fun _ => ⟨_, rfl, ob.all⟩) (recBlock_byt _ _ _ _ _ _ _ _) (Cp.exc (by rw [recBlock_len]; exact Nat.le_refl _))
  rw [recBlock_len] at hparse
  refine RunO.callD hparse rfl rfl rfl ?_
  rintro v h3 ⟨rfl, f3⟩
  rw [hback.1, hback.2]
  have ow3 := ow2.fr f3 (fun g => g)
  have f13 := f12.same f3
  refine RunO.part 4 (h1 := h3.push ⟨rc 0 0 0 0 0 0 0 0, true⟩) rfl ?_
  refine RunO.store rfl rfl (store_ow (s := 8) (Ow.push h3 (rc 0 0 0 0 0 0 0 0)) rfl rfl rfl (by decide)) ?_
  refine RunO.all rfl ?_
  change RunC _ _ _ _ ((h3.push ⟨rc 0 0 0 0 0 0 0 0, true⟩).put h3.next (some ⟨rc 0 9 3 0 4 0 0 0, true⟩)) _ _ _
  have ow4 : Ow ((h3.push ⟨rc 0 0 0 0 0 0 0 0, true⟩).put h3.next (some ⟨rc 0 9 3 0 4 0 0 0, true⟩)) h3.next (rc 0 9 3 0 4 0 0 0) := Ow.put _ (Nat.lt_succ_self _)
  have f4 : Fr no h3 ((h3.push ⟨rc 0 0 0 0 0 0 0 0, true⟩).put h3.next (some ⟨rc 0 9 3 0 4 0 0 0, true⟩)) := (Fr.push _ _ _).trans (Fr.put (m := (· = h3.next)) _ (.inl rfl)) (fun j hj => .inr (by omega))
  generalize (h3.push ⟨rc 0 0 0 0 0 0 0 0, true⟩).put h3.next (some ⟨rc 0 9 3 0 4 0 0 0, true⟩) = h4 at *
  generalize h3.next = p3 at *
  have ow14 := ow3.fr f4 (fun g => g)
  have f14 := f13.same f4
  refine RunC.seq (RunC.region (RunO.part 12 rfl ?_))
  refine RunO.loadG (v := .agg ⟨rc 0 9 3 0 4 0 0 0⟩) rfl rfl (ow4.all.part (k := 0) rfl) rfl ?_
  refine RunO.loadG (v := .agg ⟨rc 0 9 3 0 4 0 0 0⟩) rfl rfl (ow14.all.part (k := 0) rfl) rfl ?_
  refine RunO.oneG (v := .bool true) (E1 := upd _ 31 (.bool true)) (h1 := h4) rfl (by show pureR h4 (abinop prog .eql 23 (.agg ⟨rc 0 9 3 0 4 0 0 0⟩) (.agg ⟨rc 0 9 3 0 4 0 0 0⟩)) = _; rw [rec_eq]; rfl) rfl ?_
  refine RunO.part 3 rfl ?_
  refine RunO.callDG rfl (recCheck_ok (n := 0) (id := 0) (pa := 0) (ro := 0) (sz := 0) (ki := 0) (fr := 0) (di := 0)) rfl rfl rfl ?_
  rintro v h8 ⟨rfl, f8⟩
  rw [show (if recOk 0 0 0 0 0 0 0 0 then (0 : Int) else 1) = 1 by decide]
  refine RunO.part 4 rfl ?_
  refine RunO.callDG rfl (recCheck_ok (n := 0) (id := 1) (pa := 1) (ro := 0) (sz := 0) (ki := 0) (fr := 0) (di := 0)) rfl rfl rfl ?_
  rintro v h9 ⟨rfl, f9⟩
  rw [show (if recOk 0 1 1 0 0 0 0 0 then (0 : Int) else 1) = 1 by decide]
  exact RunO.all rfl (RunC.ret ⟨_, rfl, rfl, (f14.same f8).same f9⟩)
end Go.Proofs.Ytaaemamcdhebhaa
