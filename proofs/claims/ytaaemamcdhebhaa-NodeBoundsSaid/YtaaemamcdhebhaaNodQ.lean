/- NodQ: part of a calculus over an abstract machine that stands beside the model, and contracts of functions by it.
Conditions: what each theorem says of its arguments. -/
import Derived.Test.YtaaemamcdhebhaaNodP
set_option linter.unusedVariables false
set_option maxRecDepth 100000
open Go Go.Am Go.RowKit
namespace Go.Proofs.Ytaaemamcdhebhaa
open Go.Proofs.Try
def nLv (l : List Int) : Int := (leGet l 4 4).1
def nPs (l : List Int) : List Int := [(leGet l 8 4).1, (leGet l 12 4).1, (leGet l 16 4).1, (leGet l 20 4).1, (leGet l 24 4).1, (leGet l 28 4).1, (leGet l 32 4).1, (leGet l 36 4).1]
theorem nPs_eq (l : List Int) : numsB nLay l = nLv l :: nPs l := rfl
def nZero : List Int := [0, 0, 0, 0, 0, 0, 0, 0]
def nCode (l : List Int) : Int := if readB nMag nLay l = 0 then (if nodOk (nLv l) (nPs l) then 0 else 1) else readB nMag nLay l
def nCells (l : List Int) : List Value := if nCode l = 0 then nc (nLv l) (nPs l) else nc 0 nZero
theorem nc_load {h : Heap} {b : Nat} {lv : Int} {ps : List Int} (hp : ps.length = 8) (ow : Ow h b (nc lv ps)) : aload prog h 43 ⟨b, 0, none⟩ = some (.agg ⟨nc lv ps⟩) := by
  have hnl : (nc lv ps).length = 9 := by simp [nc, is_len, hp]
  refine ow.all.part (k := 0) ?_
  show (match takeN 9 (dropN 0 (nc lv ps)) with | some l => some (Value.agg ⟨l⟩) | none => none) = _
  rw [takeN_eq, dropN_eq, if_pos (by simp [hnl])]
  simp only [List.drop_zero]
  rw [List.take_of_length_le (by omega)]
theorem nodParse_ok {h : Heap} {A : Option Addr} {c : Nat} {l : List Int} (ra : l.length = 64 → ∃ a, A = some a ∧ Rd h a (us l)) (hb : Byt l) (hc : Cp 1 l.length c) :
    RunF prog 24 [.slice A l.length c] h fun v h' => v = .tuple #[.agg ⟨nCells l⟩, .int .i64 (nCode l)] ∧ Fr no h h' := by
  refine RunF.walk func24 rfl rfl ?_
  refine RunC.seq (RunC.region (RunO.all (h1 := h.push ⟨nc 0 nZero, true⟩) rfl ?_))
  have ow : Ow (h.push ⟨nc 0 nZero, true⟩) h.next (nc 0 nZero) := Ow.push _ _
  have f1 : Fr no h (h.push ⟨nc 0 nZero, true⟩) := Fr.push _ _ _
  generalize h.push ⟨nc 0 nZero, true⟩ = h1 at *
  refine RunC.seq (RunC.region (RunO.part 1 rfl ?_))
  refine RunO.callD nodLay_ok rfl rfl rfl ?_
  rintro v h2 ⟨hr, hf2⟩
  have ow2 := ow.fr hf2 (fun g => g)
  have f2 := f1.same hf2
  obtain ⟨bf, hbf, rfl, owf⟩ := rowOut hr (by decide)
  refine RunO.callD (superRead_ok (mb := nMag) (mg := ⟨#[78, 79, 68, 69]⟩) (fl := nLay) rfl (fun e => (ra e).imp (fun a x => ⟨x.1, x.2.fr f2 (fun g => g)⟩)) hb owf.all (by decide) (by decide) hc) rfl rfl rfl ?_
  rintro v h3 ⟨o, rfl, hk0, hk1, hf3⟩
  have ow3 := ow2.fr hf3 (fun g => g)
  have f3 := f2.same hf3
  refine RunO.all rfl ?_
  by_cases hr : readB nMag nLay l = 0
  case neg =>
    have hcode : nCode l = readB nMag nLay l := if_neg hr
    have hcells : nCells l = nc 0 nZero := if_neg (by rw [hcode]; exact hr)
    rw [hcells, hcode]
    generalize readB nMag nLay l = r at *
    refine RunC.seq (RunC.seq (RunC.region (RunO.all rfl ?_)))
    rw [show (r != 0) = true by simpa using hr]
    refine RunC.cond rfl (fun _ => ?_) (fun g => by cases g)
    refine RunC.seq (RunC.region (RunO.part 2 rfl ?_))
    refine RunO.store rfl rfl (store_ow (s := 9) ow3 rfl rfl rfl (by decide)) ?_
    refine RunO.all rfl ?_
    refine RunC.ret ⟨_, eresults_cell rfl ((Ow.put (cs := nc 0 nZero) ow3.1).all.part (k := 0) rfl) rfl, rfl, ?_⟩
    exact f3.trans (Fr.put (m := (· = h.next)) _ (.inl rfl)) (fun j hj => .inr (by omega))
  rw [hr]
  have hrow := hk0 hr
  obtain ⟨bn, hbn, rfl, own⟩ := rowOut hrow (by decide)
  have hcode : nCode l = if nodOk (nLv l) (nPs l) then 0 else 1 := if_pos hr
  have hcells : nCells l = if nCode l = 0 then nc (nLv l) (nPs l) else nc 0 nZero := rfl
  rw [nPs_eq] at own
  have hp8 : (nPs l).length = 8 := rfl
  change RunC _ _ _ (upd (upd (upd (upd _ 11 (.slice (some ⟨bn, 0, none⟩) 9 (unkc 1))) 12 (.int .i64 0)) 4 (.slice (some ⟨bn, 0, none⟩) 9 (unkc 1))) 5 (.int .i64 0)) _ _ _ _
  refine RunC.seq (RunC.seq (RunC.region (RunO.all rfl ?_)))
  refine RunC.cond rfl (fun g => by cases g) (fun _ => RunC.skip ?_)
  generalize nLv l = lv at *
  generalize nPs l = ps at *
  have hal : ∀ q : List Int, allCells (is q) = true := fun q => by
    induction q with
    | nil => rfl
    | cons x t ih => exact ih
  refine RunC.seq (RunC.region (RunO.part 1 rfl ?_))
  refine RunO.index (s := 1) (k := 0) rfl rfl rfl rfl (by decide) rfl ?_
  refine RunO.load (v := .int .i64 lv) rfl (own.all.cell1 (k := 0) rfl rfl) rfl ?_
  refine RunO.part 2 (h1 := h3.push ⟨nc 0 nZero, true⟩) rfl ?_
  refine RunO.store rfl rfl (store_ow (s := 9) (Ow.push h3 (nc 0 nZero)) rfl rfl rfl (by decide)) (RunO.nil ?_)
  change RunC _ _ _ _ ((h3.push ⟨nc 0 nZero, true⟩).put h3.next (some ⟨nc lv nZero, true⟩)) _ _ _
  have ow4 : Ow ((h3.push ⟨nc 0 nZero, true⟩).put h3.next (some ⟨nc lv nZero, true⟩)) h3.next (nc lv nZero) := Ow.put _ (Nat.lt_succ_self _)
  have f4 : Fr no h3 ((h3.push ⟨nc 0 nZero, true⟩).put h3.next (some ⟨nc lv nZero, true⟩)) := (Fr.push _ _ _).trans (Fr.put (m := (· = h3.next)) _ (.inl rfl)) (fun j hj => .inr (by omega))
  generalize (h3.push ⟨nc 0 nZero, true⟩).put h3.next (some ⟨nc lv nZero, true⟩) = h4 at *
  have own4 := own.fr f4 (fun g => g)
  have ow34 := ow3.fr f4 (fun g => g)
  have hb6 := own.1
  have hb7 := ow3.1
  have hb8 := f3.next
  have f34 := f3.same f4
  generalize h3.next = b6 at *
  have e1 : aread h4 ⟨bn, 1, none⟩ 8 = some (is ps) := by
    have rd : Rd h4 ⟨bn, 1, none⟩ (is ps) := own4.rd (by show ((Value.int .i64 lv :: is ps).drop 1).take _ = _; simp)
    have := rd.read0 (m := 8) (by rw [is_len, hp8]; exact Nat.le_refl _)
    rwa [List.take_of_length_le (by rw [is_len, hp8]; exact Nat.le_refl _)] at this
  have e2 : astoreL h4 ⟨b6, 1, none⟩ (is ps) = some (h4.put b6 (some ⟨nc lv ps, true⟩)) := by
    rw [storeL_ow ow4 (hal ps) (by rw [is_len, hp8]; exact Nat.le_refl 9), is_len, hp8]
    simp [nc, nZero, is]
  refine RunC.seq (RunC.draw0 rfl (RunO.part 4 rfl ?_))
  refine RunO.one rfl (v := goInt 8) (E1 := upd _ 25 (goInt 8)) (h1 := h4.put b6 (some ⟨nc lv ps, true⟩)) ?_ rfl (RunO.nil ?_)
  · show (match aread h4 ⟨bn, 1, none⟩ 8 with | some cs => (match astoreL h4 ⟨b6, 1, none⟩ cs with | some h' => some (goInt 8, h') | none => none) | none => none) = _
    rw [e1]
    simp only [e2]
  have ow5 := Ow.put (nc lv ps) ow4.1
  have f5 : Fr (fun j => j = b6) h4 (h4.put b6 (some ⟨nc lv ps, true⟩)) := Fr.put _ (.inl rfl)
  generalize h4.put b6 (some ⟨nc lv ps, true⟩) = h5 at *
  have ow35 := ow34.fr f5 (by omega)
  have f35 : Fr no h h5 := f34.trans f5 (fun j hj => .inr (by omega))
  refine RunC.seq (RunC.region ?_)
  refine RunO.load rfl (nc_load hp8 ow5) rfl ?_
  refine RunO.callD (nodCheck_ok hp8) rfl rfl rfl ?_
  rintro v h6 ⟨rfl, hf6⟩
  have ow6 := ow35.fr hf6 (fun g => g)
  have owx := ow5.fr hf6 (fun g => g)
  have f6 := f35.same hf6
  refine RunO.all rfl ?_
  rw [hcells, hcode]
  cases nodOk lv ps with
  | false =>
    refine RunC.seq (RunC.seq (RunC.region (RunO.all rfl (RunC.cond rfl (fun _ => ?_) (fun g => by cases g)))))
    refine RunC.seq (RunC.region (RunO.part 2 rfl ?_))
    refine RunO.store rfl rfl (store_ow (s := 9) ow6 rfl rfl rfl (by decide)) ?_
    refine RunO.all rfl ?_
    refine RunC.ret ⟨_, eresults_cell rfl ((Ow.put (cs := nc 0 nZero) ow6.1).all.part (k := 0) rfl) rfl, rfl, ?_⟩
    exact f6.trans (Fr.put (m := (· = h.next)) _ (.inl rfl)) (fun j hj => .inr (by omega))
  | true =>
    refine RunC.seq (RunC.seq (RunC.region (RunO.all rfl (RunC.cond rfl (fun g => by cases g) (fun _ => RunC.skip ?_)))))
    refine RunC.seq (RunC.region ?_)
    refine RunO.load rfl (nc_load hp8 owx) rfl ?_
    have hst : (cellsOf (.agg ⟨nc lv ps⟩)).length = 9 := by show (nc lv ps).length = 9; simp [nc, is_len, hp8]
    refine RunO.store rfl rfl (store_ow (s := 9) ow6 rfl hst (hal (0 :: ps)) (by decide)) ?_
    refine RunO.all rfl ?_
    have hcs : (nc 0 nZero).take 0 ++ cellsOf (.agg ⟨nc lv ps⟩) ++ (nc 0 nZero).drop (0 + 9) = nc lv ps := by simp [cellsOf, nc, nZero, is]
    refine RunC.ret ⟨_, eresults_cell rfl (nc_load hp8 (by rw [hcs]; exact Ow.put (nc lv ps) ow6.1)) rfl, rfl, ?_⟩
    exact f6.trans (Fr.put (m := (· = h.next)) _ (.inl rfl)) (fun j hj => .inr (by omega))
end Go.Proofs.Ytaaemamcdhebhaa
