/- Parse: part of a calculus over an abstract machine that stands beside the model, and contracts of functions by it.
Conditions: what each theorem says of its arguments. -/
import Derived.Test.YtaaemamcdhebhaaSuperB
set_option linter.unusedVariables false
set_option maxRecDepth 100000
open Go Go.Am
namespace Go.Proofs.Ytaaemamcdhebhaa
open Go.Proofs.Try
def sLay : List (Nat × Nat) := layF 4 [8, 4, 4, 4, 4]
def sMag : List Int := [87, 67, 85, 84]
def sGet (l : List Int) (k s : Nat) : Int := (leGet l k s).1
/-- Why bytes are no superblock; 0: they are one. -/
def sCode (l : List Int) : Int :=
  if readB sMag sLay l = 0 then (if superOk (sGet l 4 8) (sGet l 12 4) (sGet l 16 4) (sGet l 20 4) (sGet l 24 4) then 0 else 1) else readB sMag sLay l
/-- The superblock that bytes tell, as cells. -/
def sCells (l : List Int) : List Value :=
  if sCode l = 0 then sc (sGet l 4 8) (sGet l 12 4) (sGet l 16 4) (sGet l 20 4) (sGet l 24 4) else sc 0 0 0 0 0
theorem superParse_ok {h : Heap} {A : Option Addr} {c : Nat} {l : List Int} (ra : l.length = 64 → ∃ a, A = some a ∧ Rd h a (us l)) (hb : Byt l) (hc : Cp 1 l.length c) :
    RunF prog 33 [.slice A l.length c] h fun v h' => v = .tuple #[.agg ⟨sCells l⟩, .int .i64 (sCode l)] ∧ Fr no h h' := by
  refine RunF.walk func33 rfl rfl ?_
  refine RunC.seq (RunC.region (RunO.all (h1 := h.push ⟨sc 0 0 0 0 0, true⟩) rfl ?_))
  have ow : Ow (h.push ⟨sc 0 0 0 0 0, true⟩) h.next (sc 0 0 0 0 0) := Ow.push _ _
  have f1 : Fr no h (h.push ⟨sc 0 0 0 0 0, true⟩) := Fr.push _ _ _
  generalize h.push ⟨sc 0 0 0 0 0, true⟩ = h1 at *
  refine RunC.seq (RunC.region (RunO.part 1 rfl ?_))
  refine RunO.callD superLay_ok rfl rfl rfl ?_
  rintro v h2 ⟨hr, hf2⟩
  have ow2 := ow.fr hf2 (fun g => g)
  have f2 := f1.same hf2
  obtain ⟨bf, hbf, rfl, owf⟩ := rowOut hr (by decide)
  refine RunO.callD (superRead_ok (mb := sMag) (mg := ⟨#[87, 67, 85, 84]⟩) (fl := sLay) rfl (fun e => (ra e).imp (fun a x => ⟨x.1, x.2.fr f2 (fun g => g)⟩)) hb owf.all (by decide) (by decide) hc) rfl rfl rfl ?_
  rintro v h3 ⟨o, rfl, hk0, hk1, hf3⟩
  have ow3 := ow2.fr hf3 (fun g => g)
  have f3 := f2.same hf3
  refine RunO.all rfl ?_
  by_cases hr : readB sMag sLay l = 0
  case neg =>
    have hcode : sCode l = readB sMag sLay l := if_neg hr
    have hcells : sCells l = sc 0 0 0 0 0 := if_neg (by rw [hcode]; exact hr)
    rw [hcells, hcode]
    generalize readB sMag sLay l = r at *
    refine RunC.seq (RunC.seq (RunC.region (RunO.all rfl ?_)))
    rw [show (r != 0) = true by simpa using hr]
    refine RunC.cond rfl (fun _ => ?_) (fun g => by cases g)
    refine RunC.seq (RunC.region (RunO.part 2 rfl ?_))
    refine RunO.store rfl rfl (store_ow (s := 5) ow3 rfl rfl rfl (by decide)) ?_
    refine RunO.all rfl ?_
    refine RunC.ret ⟨_, eresults_cell rfl ((Ow.put (cs := sc 0 0 0 0 0) ow3.1).all.part (k := 0) rfl) rfl, rfl, ?_⟩
    exact f3.trans (Fr.put (m := (· = h.next)) _ (.inl rfl)) (fun j hj => .inr (by omega))
  rw [hr]
  have hrow := hk0 hr
  obtain ⟨bn, hbn, rfl, own⟩ := rowOut hrow (by decide)
  have hbn2 : h.next ≤ bn := Nat.le_trans f2.next hbn
  have hcode : sCode l = if superOk (sGet l 4 8) (sGet l 12 4) (sGet l 16 4) (sGet l 20 4) (sGet l 24 4) then 0 else 1 := if_pos hr
  have hcells : sCells l = if sCode l = 0 then sc (sGet l 4 8) (sGet l 12 4) (sGet l 16 4) (sGet l 20 4) (sGet l 24 4) else sc 0 0 0 0 0 := rfl
  change Ow h3 bn (is [sGet l 4 8, sGet l 12 4, sGet l 16 4, sGet l 20 4, sGet l 24 4]) at own
  change RunC _ _ _ (upd (upd (upd (upd _ 11 (.slice (some ⟨bn, 0, none⟩) 5 (unkc 1))) 12 (.int .i64 0)) 4 (.slice (some ⟨bn, 0, none⟩) 5 (unkc 1))) 5 (.int .i64 0)) _ _ _ _
  refine RunC.seq (RunC.seq (RunC.region (RunO.all rfl ?_)))
  refine RunC.cond rfl (fun g => by cases g) (fun _ => RunC.skip ?_)
  generalize sGet l 4 8 = n0 at *
  generalize sGet l 12 4 = n1 at *
  generalize sGet l 16 4 = n2 at *
  generalize sGet l 20 4 = n3 at *
  generalize sGet l 24 4 = n4 at *
  refine RunC.seq (RunC.draw0 rfl (RunO.part 1 rfl ?_))
  refine RunO.index (s := 1) (k := 0) rfl rfl rfl rfl (by decide) rfl ?_
  refine RunO.load (v := .int .i64 n0) rfl (own.all.cell1 (k := 0) rfl rfl) rfl ?_
  refine RunO.part 1 rfl ?_
  refine RunO.index (s := 1) (k := 1) rfl rfl rfl rfl (by decide) rfl ?_
  refine RunO.load (v := .int .i64 n1) rfl (own.all.cell1 (k := 1) rfl rfl) rfl ?_
  refine RunO.part 1 rfl ?_
  refine RunO.index (s := 1) (k := 2) rfl rfl rfl rfl (by decide) rfl ?_
  refine RunO.load (v := .int .i64 n2) rfl (own.all.cell1 (k := 2) rfl rfl) rfl ?_
  refine RunO.part 1 rfl ?_
  refine RunO.index (s := 1) (k := 3) rfl rfl rfl rfl (by decide) rfl ?_
  refine RunO.load (v := .int .i64 n3) rfl (own.all.cell1 (k := 3) rfl rfl) rfl ?_
  refine RunO.part 1 rfl ?_
  refine RunO.index (s := 1) (k := 4) rfl rfl rfl rfl (by decide) rfl ?_
  refine RunO.load (v := .int .i64 n4) rfl (own.all.cell1 (k := 4) rfl rfl) rfl ?_
  refine RunO.part 2 (h1 := h3.push ⟨sc 0 0 0 0 0, true⟩) rfl ?_
  refine RunO.store rfl rfl (store_ow (s := 5) (Ow.push h3 (sc 0 0 0 0 0)) rfl rfl rfl (by decide)) (RunO.nil ?_)
  change RunC _ _ _ _ ((h3.push ⟨sc 0 0 0 0 0, true⟩).put h3.next (some ⟨sc n0 n1 n2 n3 n4, true⟩)) _ _ _
  have ow4 : Ow ((h3.push ⟨sc 0 0 0 0 0, true⟩).put h3.next (some ⟨sc n0 n1 n2 n3 n4, true⟩)) h3.next (sc n0 n1 n2 n3 n4) := Ow.put _ (Nat.lt_succ_self _)
  have f4 : Fr no h3 ((h3.push ⟨sc 0 0 0 0 0, true⟩).put h3.next (some ⟨sc n0 n1 n2 n3 n4, true⟩)) := (Fr.push _ _ _).trans (Fr.put (m := (· = h3.next)) _ (.inl rfl)) (fun j hj => .inr (by omega))
  generalize (h3.push ⟨sc 0 0 0 0 0, true⟩).put h3.next (some ⟨sc n0 n1 n2 n3 n4, true⟩) = h4 at *
  have ow34 := ow3.fr f4 (fun g => g)
  have f5 := f3.same f4
  refine RunC.seq (RunC.region ?_)
  refine RunO.load (v := .agg ⟨sc n0 n1 n2 n3 n4⟩) rfl (ow4.all.part (k := 0) rfl) rfl ?_
  refine RunO.callD superCheck_ok rfl rfl rfl ?_
  rintro v h5 ⟨rfl, hf5⟩
  have ow5 := ow34.fr hf5 (fun g => g)
  have owx := ow4.fr hf5 (fun g => g)
  have f6 := f5.same hf5
  refine RunO.all rfl ?_
  rw [hcells, hcode]
  cases superOk n0 n1 n2 n3 n4 with
  | false =>
    refine RunC.seq (RunC.seq (RunC.region (RunO.all rfl (RunC.cond rfl (fun _ => ?_) (fun g => by cases g)))))
    refine RunC.seq (RunC.region (RunO.part 2 rfl ?_))
    refine RunO.store rfl rfl (store_ow (s := 5) ow5 rfl rfl rfl (by decide)) ?_
    refine RunO.all rfl ?_
    refine RunC.ret ⟨_, eresults_cell rfl ((Ow.put (cs := sc 0 0 0 0 0) ow5.1).all.part (k := 0) rfl) rfl, rfl, ?_⟩
    exact f6.trans (Fr.put (m := (· = h.next)) _ (.inl rfl)) (fun j hj => .inr (by omega))
  | true =>
    refine RunC.seq (RunC.seq (RunC.region (RunO.all rfl (RunC.cond rfl (fun g => by cases g) (fun _ => RunC.skip ?_)))))
    refine RunC.seq (RunC.region ?_)
    refine RunO.load (v := .agg ⟨sc n0 n1 n2 n3 n4⟩) rfl (owx.all.part (k := 0) rfl) rfl ?_
    refine RunO.store rfl rfl (store_ow (s := 5) ow5 rfl rfl rfl (by decide)) ?_
    refine RunO.all rfl ?_
    refine RunC.ret ⟨_, eresults_cell rfl ((Ow.put (cs := sc n0 n1 n2 n3 n4) ow5.1).all.part (k := 0) rfl) rfl, rfl, ?_⟩
    exact f6.trans (Fr.put (m := (· = h.next)) _ (.inl rfl)) (fun j hj => .inr (by omega))
end Go.Proofs.Ytaaemamcdhebhaa
