/- WalkExact: a calculus over an abstract machine that stands beside the model, and contracts of functions by it (part 5).
Conditions: what each theorem says of its arguments. -/
import Derived.Test.YtbinkbdfoalbcaaGWalkExact4
section
set_option linter.unusedVariables false
set_option maxRecDepth 100000
open Go Go.Am
namespace Go.Proofs.Ytbinkbdfoalbcaa
open Go.Proofs.Try
theorem superLay_ok {h : Heap} : RunF prog 68 [] h fun v h' => Row h.next h' v 2 5 (fcs (layF 4 [8, 4, 4, 4, 4])) ∧ Fr no h h' := by
  refine RunF.walk func68 rfl rfl ?_
  refine RunC.seq (RunC.region (RunO.all rfl ?_))
  refine RunC.seq (RunC.region (RunO.part 1 (h1 := h.push ⟨ns [8, 4, 4, 4, 4], true⟩) rfl ?_))
  refine RunO.callD (superLayout_ok (ss := [8, 4, 4, 4, 4]) (c := exc 5) (Ow.push h (ns [8, 4, 4, 4, 4])).all (by decide) (by decide)) rfl rfl rfl ?_
  rintro v h' ⟨hr, hf⟩
  refine RunO.all rfl (RunC.ret ⟨_, rfl, ?_, ?_⟩)
  · refine ⟨hr.1, hr.2.imp (fun x => x) ?_⟩
    rintro ⟨b, h1, h2⟩
    exact ⟨b, Nat.le_trans (Nat.le_succ _) h1, h2⟩
  · exact (Fr.push no _ _).same hf
theorem superIn_ok {h : Heap} {a lo hi : Int} : RunF prog 99 [.int .i64 a, .int .i64 lo, .int .i64 hi] h fun v h' => v = .bool (inB a lo hi) ∧ h = h' := by
  refine RunF.walk func99 rfl rfl ?_
  refine RunC.seq (RunC.region (RunO.all rfl ?_))
  refine RunC.seq (RunC.region (RunO.part 4 rfl ?_))
  unfold inB
  cases decide (a ≥ lo) with
  | true => exact RunO.all rfl (RunC.ret ⟨_, rfl, by simp, rfl⟩)
  | false => exact RunO.all rfl (RunC.ret ⟨_, rfl, by simp, rfl⟩)
/-- A superblock's cells. -/
def sc (g bl rt sz fi : Int) : List Value := [.int .i64 g, .int .i64 bl, .int .i64 rt, .int .i64 sz, .int .i64 fi]
def superOk (g bl rt sz fi : Int) : Bool :=
  ((inB g 1 1099511627776 && inB bl 4 4096) && inB sz 0 512) && ((rt == 0 || inB rt 2 (fwrap .i64 (bl - 1))) && (fi == 0 || inB fi 2 (fwrap .i64 (bl - 1))))
theorem superCheck_ok {h : Heap} {g bl rt sz fi : Int} : RunF prog 67 [.agg ⟨sc g bl rt sz fi⟩] h fun v h' => v = .int .i64 (if superOk g bl rt sz fi then 0 else 1) ∧ Fr no h h' := by
  refine RunF.walk func67 rfl rfl ?_
  refine RunC.seq (RunC.region (RunO.all (h1 := h.push ⟨sc g bl rt sz fi, true⟩) rfl ?_))
  have ow : Ow (h.push ⟨sc g bl rt sz fi, true⟩) h.next (sc g bl rt sz fi) := Ow.push _ _
  have f1 : Fr no h (h.push ⟨sc g bl rt sz fi, true⟩) := Fr.push _ _ _
  generalize h.push ⟨sc g bl rt sz fi, true⟩ = h1 at *
  refine RunC.seqE (upd (upd E0 1 (.pointer (some ⟨h.next, 0, none⟩))) 3 (.bool ((inB g 1 1099511627776 && inB bl 4 4096) && inB sz 0 512))) ?_ ?_
  · refine RunC.region (RunO.part 1 rfl ?_)
    refine RunO.load (v := .int .i64 g) rfl (ow.all.cell1 (k := 0) rfl rfl) rfl ?_
    refine RunO.callD superIn_ok rfl rfl rfl ?_
    rintro _ _ ⟨rfl, rfl⟩
    refine RunO.part 1 rfl ?_
    cases inB g 1 1099511627776 with
    | false => exact RunO.all rfl ⟨rfl, Le.cons rfl (Le.cons rfl (Le.nil _))⟩
    | true =>
      refine RunO.part 1 rfl ?_
      refine RunO.loadG (v := .int .i64 bl) rfl rfl (ow.all.cell1 (k := 1) rfl rfl) rfl ?_
      refine RunO.callDG rfl superIn_ok rfl rfl rfl ?_
      rintro _ _ ⟨rfl, rfl⟩
      refine RunO.part 2 rfl ?_
      cases inB bl 4 4096 with
      | false => exact RunO.all rfl ⟨rfl, Le.cons rfl (Le.cons rfl (Le.nil _))⟩
      | true =>
        refine RunO.part 1 rfl ?_
        refine RunO.loadG (v := .int .i64 sz) rfl rfl (ow.all.cell1 (k := 3) rfl rfl) rfl ?_
        refine RunO.callDG rfl superIn_ok rfl rfl rfl ?_
        rintro _ _ ⟨rfl, rfl⟩
        exact RunO.all rfl ⟨rfl, Le.cons rfl (Le.cons rfl (Le.nil _))⟩
  refine RunC.seqE (upd (upd (upd E0 1 (.pointer (some ⟨h.next, 0, none⟩))) 3 (.bool ((inB g 1 1099511627776 && inB bl 4 4096) && inB sz 0 512))) 4 (.bool (rt == 0 || inB rt 2 (fwrap .i64 (bl - 1))))) ?_ ?_
  · refine RunC.region (RunO.part 1 rfl ?_)
    refine RunO.load (v := .int .i64 rt) rfl (ow.all.cell1 (k := 2) rfl rfl) rfl ?_
    refine RunO.part 2 rfl ?_
    cases (rt == 0) with
    | true => exact RunO.all rfl ⟨rfl, Le.cons rfl (Le.cons rfl (Le.cons rfl (Le.nil _)))⟩
    | false =>
      refine RunO.part 1 rfl ?_
      refine RunO.loadG (v := .int .i64 rt) rfl rfl (ow.all.cell1 (k := 2) rfl rfl) rfl ?_
      refine RunO.part 1 rfl ?_
      refine RunO.loadG (v := .int .i64 bl) rfl rfl (ow.all.cell1 (k := 1) rfl rfl) rfl ?_
      refine RunO.part 1 rfl ?_
      refine RunO.callDG rfl superIn_ok rfl rfl rfl ?_
      rintro _ _ ⟨rfl, rfl⟩
      exact RunO.all rfl ⟨rfl, Le.cons rfl (Le.cons rfl (Le.cons rfl (Le.nil _)))⟩
  refine RunC.seqE (upd (upd (upd E0 3 (.bool ((inB g 1 1099511627776 && inB bl 4 4096) && inB sz 0 512))) 4 (.bool (rt == 0 || inB rt 2 (fwrap .i64 (bl - 1))))) 5 (.bool (fi == 0 || inB fi 2 (fwrap .i64 (bl - 1))))) ?_ ?_
  · refine RunC.region (RunO.part 1 rfl ?_)
    refine RunO.load (v := .int .i64 fi) rfl (ow.all.cell1 (k := 4) rfl rfl) rfl ?_
    refine RunO.part 2 rfl ?_
    cases (fi == 0) with
    | true => exact RunO.all rfl ⟨rfl, Le.cons rfl (Le.cons rfl (Le.cons rfl (Le.nil _)))⟩
    | false =>
      refine RunO.part 1 rfl ?_
      refine RunO.loadG (v := .int .i64 fi) rfl rfl (ow.all.cell1 (k := 4) rfl rfl) rfl ?_
      refine RunO.part 1 rfl ?_
      refine RunO.loadG (v := .int .i64 bl) rfl rfl (ow.all.cell1 (k := 1) rfl rfl) rfl ?_
      refine RunO.part 1 rfl ?_
      refine RunO.callDG rfl superIn_ok rfl rfl rfl ?_
      rintro _ _ ⟨rfl, rfl⟩
      exact RunO.all rfl ⟨rfl, Le.cons rfl (Le.cons rfl (Le.cons rfl (Le.nil _)))⟩
  unfold superOk
  generalize ((inB g 1 1099511627776 && inB bl 4 4096) && inB sz 0 512) = b1
  generalize (rt == 0 || inB rt 2 (fwrap .i64 (bl - 1))) = b2
  generalize (fi == 0 || inB fi 2 (fwrap .i64 (bl - 1))) = b3
  cases b1 <;> cases b2 <;> cases b3 <;> refine RunC.seq (RunC.seq (RunC.region (RunO.all rfl (RunC.cond rfl (fun g => ?_) (fun g => ?_))))) <;> first
    | (cases g; done)
    | exact RunC.seq (RunC.region (RunO.all rfl (RunC.ret ⟨_, rfl, rfl, f1⟩)))
    | exact RunC.skip (RunC.seq (RunC.region (RunO.all rfl (RunC.ret ⟨_, rfl, rfl, f1⟩))))
/-- A superblock's block. -/
def superBlock (g bl rt sz fi : Int) : List Int := makeB [87, 67, 85, 84] (layF 4 [8, 4, 4, 4, 4]) [g, bl, rt, sz, fi]
theorem superBytes_ok {h : Heap} {g bl rt sz fi : Int} : RunF prog 40 [.agg ⟨sc g bl rt sz fi⟩] h fun v h' => Fr no h h' ∧ ((superOk g bl rt sz fi = true ∧ ∃ b, h.next ≤ b ∧ v = .tuple #[.slice (some ⟨b, 0, none⟩) 64 (exc 64), .int .i64 0] ∧ Ow h' b (us (superBlock g bl rt sz fi))) ∨ (superOk g bl rt sz fi = false ∧ v = .tuple #[.slice none 0 0, .int .i64 1])) := by
  refine RunF.walk func40 rfl rfl ?_
  refine RunC.seq (RunC.region (RunO.all (h1 := h.push ⟨sc g bl rt sz fi, true⟩) rfl ?_))
  have ow : Ow (h.push ⟨sc g bl rt sz fi, true⟩) h.next (sc g bl rt sz fi) := Ow.push _ _
  have f1 : Fr no h (h.push ⟨sc g bl rt sz fi, true⟩) := Fr.push _ _ _
  generalize h.push ⟨sc g bl rt sz fi, true⟩ = h1 at *
  refine RunC.seq (RunC.region ?_)
  refine RunO.load (v := .agg ⟨sc g bl rt sz fi⟩) rfl (ow.all.part (k := 0) rfl) rfl ?_
  refine RunO.callD superCheck_ok rfl rfl rfl ?_
  rintro v h2 ⟨rfl, hf2⟩
  have f2 := f1.same hf2
  have ow2 := ow.fr hf2 (fun g => g)
  refine RunO.all rfl ?_
  cases hok : superOk g bl rt sz fi with
  | false =>
    refine RunC.seq (RunC.seq (RunC.region (RunO.all rfl (RunC.cond rfl (fun _ => ?_) (fun g => by cases g)))))
    exact RunC.seq (RunC.region (RunO.all rfl (RunC.ret ⟨_, rfl, f2, .inr ⟨rfl, rfl⟩⟩)))
  | true =>
    refine RunC.seq (RunC.seq (RunC.region (RunO.all rfl (RunC.cond rfl (fun g => by cases g) (fun _ => RunC.skip ?_)))))
    refine RunC.seq (RunC.draw (l0 := min h2.low h2.next) (Nat.min_le_left _ _) rfl ?_)
    refine RunD.callD superLay_ok rfl rfl rfl ?_
    rintro v h3 ⟨hr, hf3⟩
    have hl3 : min h2.low h2.next ≤ h3.low := hf3.from (Nat.min_le_right _ _) (fun _ g => g.elim)
    refine ⟨hl3, ?_⟩
    have ow3 : Ow h3 h.next (sc g bl rt sz fi) := Ow.fr (h := h2.lo h2.next) ow2 hf3 (fun g => g)
    have hn3 : min h2.low h2.next ≤ h3.next := Nat.le_trans (Nat.min_le_right _ _) hf3.next
    obtain ⟨bf, hbf, rfl, owf⟩ := rowOut hr (by decide)
    have hq := hf3.quietB
    rw [hq]
    refine RunD.pure hn3 rfl rfl (fun _ => rfl) rfl ?_
    refine RunD.load (v := .int .i64 g) hn3 rfl (ow3.all.cell1 (k := 0) rfl rfl) rfl ?_
    refine RunD.pure hn3 rfl rfl (fun _ => rfl) rfl ?_
    refine RunD.load (v := .int .i64 bl) hn3 rfl (ow3.all.cell1 (k := 1) rfl rfl) rfl ?_
    refine RunD.pure hn3 rfl rfl (fun _ => rfl) rfl ?_
    refine RunD.load (v := .int .i64 rt) hn3 rfl (ow3.all.cell1 (k := 2) rfl rfl) rfl ?_
    refine RunD.pure hn3 rfl rfl (fun _ => rfl) rfl ?_
    refine RunD.load (v := .int .i64 sz) hn3 rfl (ow3.all.cell1 (k := 3) rfl rfl) rfl ?_
    refine RunD.pure hn3 rfl rfl (fun _ => rfl) rfl ?_
    refine RunD.load (v := .int .i64 fi) hn3 rfl (ow3.all.cell1 (k := 4) rfl rfl) rfl ?_
    refine RunD.one (h1 := (h3.lo h3.next).push ⟨is [g, bl, rt, sz, fi], true⟩) rfl rfl (fun _ => rfl) hn3 rfl ?_
    have ow4 := Ow.push (h3.lo h3.next) (is [g, bl, rt, sz, fi])
    have f4 : Fr no h3 ((h3.lo h3.next).push ⟨is [g, bl, rt, sz, fi], true⟩) := ⟨Nat.le_succ _, (Fr.push no (h3.lo h3.next) _).get, fun l a b c => b⟩
    have owf4 := owf.fr f4 (fun g => g)
    generalize (h3.lo h3.next).push ⟨is [g, bl, rt, sz, fi], true⟩ = h4 at *
    refine RunD.callD (superMake_ok (h := h4.lo h4.next) (mb := [87, 67, 85, 84]) (fl := layF 4 [8, 4, 4, 4, 4]) (nums := [g, bl, rt, sz, fi]) rfl rfl owf4.all ow4.all rfl (by decide) (by decide)) rfl rfl rfl ?_
    rintro v h5 ⟨b, hb, rfl, ow5, hf5⟩
    have hn4 : min h2.low h2.next ≤ h4.next := Nat.le_trans hn3 f4.next
    refine ⟨hf5.from hn4 (fun _ g => g.elim), ?_⟩
    rw [hf5.quietB]
    have hn5 : min h2.low h2.next ≤ h5.next := Nat.le_trans hn4 hf5.next
    refine RunD.pure hn5 rfl rfl (fun _ => rfl) rfl ?_
    refine RunD.pure hn5 rfl rfl (fun _ => rfl) rfl ?_
    refine RunD.nil ⟨rfl, fun lw hlw => ?_⟩
    refine RunC.ret ⟨_, rfl, ?_, .inl ⟨rfl, b, ?_, rfl, ow5⟩⟩
    · exact ((f2.fg0.same hf3.fg).same (f4.fg0.same hf5.fg)).close (fun l h1 h2 h3 => Nat.le_trans (Nat.le_min.2 ⟨f2.low l h1 h2 h3, Nat.le_trans h2 f2.next⟩) hlw)
    · exact Nat.le_trans (Nat.le_trans f2.next (Nat.le_trans hf3.next f4.next)) hb
end Go.Proofs.Ytbinkbdfoalbcaa
end
section
set_option linter.unusedVariables false
set_option maxRecDepth 100000
open Go Go.Am
namespace Go.Proofs.Ytbinkbdfoalbcaa
open Go.Proofs.Try
def sLay : List (Nat × Nat) := layF 4 [8, 4, 4, 4, 4]
def sMag : List Int := [87, 67, 85, 84]
def sGet (l : List Int) (k s : Nat) : Int := (leGet l k s).1
/-- Why bytes are no superblock; 0: they are one. -/
def sCode (l : List Int) : Int :=
  if readB sMag sLay l = 0 then (if superOk (sGet l 4 8) (sGet l 12 4) (sGet l 16 4) (sGet l 20 4) (sGet l 24 4) then 0 else 1) else readB sMag sLay l
/-- The superblock that bytes tell, as cells. -/
def sCells (l : List Int) : List Value :=
  if sCode l = 0 then sc (sGet l 4 8) (sGet l 12 4) (sGet l 16 4) (sGet l 20 4) (sGet l 24 4) else sc 0 0 0 0 0
theorem superParse_ok {h : Heap} {A : Option Addr} {c : Nat} {l : List Int} (ra : l.length = 64 → ∃ a, A = some a ∧ Rd h a (us l)) (hb : Byt l) (hc : Cp 1 l.length c) :
    RunF prog 56 [.slice A l.length c] h fun v h' => v = .tuple #[.agg ⟨sCells l⟩, .int .i64 (sCode l)] ∧ Fr no h h' := by
  refine RunF.walk func56 rfl rfl ?_
  refine RunC.seq (RunC.region (RunO.all (h1 := h.push ⟨sc 0 0 0 0 0, true⟩) rfl ?_))
  have ow : Ow (h.push ⟨sc 0 0 0 0 0, true⟩) h.next (sc 0 0 0 0 0) := Ow.push _ _
  have f1 : Fr no h (h.push ⟨sc 0 0 0 0 0, true⟩) := Fr.push _ _ _
  generalize h.push ⟨sc 0 0 0 0 0, true⟩ = h1 at *
  refine RunC.seq (RunC.region (RunO.part 1 rfl ?_))
  refine RunO.callD superLay_ok rfl rfl rfl ?_
  rintro v h2 ⟨hr, hf2⟩
  have ow2 := ow.fr hf2 (fun g => g)
  have f2 := f1.same hf2
  obtain ⟨bf, hbf, rfl, owf⟩ := rowOut hr (by decide)
  refine RunO.callD (superRead_ok (mb := sMag) (mg := ⟨#[87, 67, 85, 84]⟩) (fl := sLay) rfl (fun e => (ra e).imp (fun a x => ⟨x.1, x.2.fr f2 (fun g => g)⟩)) hb owf.all (by decide) (by decide) hc) rfl rfl rfl ?_
  rintro v h3 ⟨o, rfl, hk0, hk1, hf3⟩
  have ow3 := ow2.fr hf3 (fun g => g)
  have f3 := f2.same hf3
  refine RunO.all rfl ?_
  by_cases hr : readB sMag sLay l = 0
  case neg =>
    have hcode : sCode l = readB sMag sLay l := if_neg hr
    have hcells : sCells l = sc 0 0 0 0 0 := if_neg (by rw [hcode]; exact hr)
    rw [hcells, hcode]
    generalize readB sMag sLay l = r at *
    refine RunC.seq (RunC.seq (RunC.region (RunO.all rfl ?_)))
    rw [show (r != 0) = true by simpa using hr]
    refine RunC.cond rfl (fun _ => ?_) (fun g => by cases g)
    refine RunC.seq (RunC.region (RunO.part 2 rfl ?_))
    refine RunO.store rfl rfl (store_ow (s := 5) ow3 rfl rfl rfl (by decide)) ?_
    refine RunO.all rfl ?_
    refine RunC.ret ⟨_, eresults_cell rfl ((Ow.put (cs := sc 0 0 0 0 0) ow3.1).all.part (k := 0) rfl) rfl, rfl, ?_⟩
    exact f3.trans (Fr.put (m := (· = h.next)) _ (.inl rfl)) (fun j hj => .inr (by omega))
  rw [hr]
  have hrow := hk0 hr
  obtain ⟨bn, hbn, rfl, own⟩ := rowOut hrow (by decide)
  have hbn2 : h.next ≤ bn := Nat.le_trans f2.next hbn
  have hcode : sCode l = if superOk (sGet l 4 8) (sGet l 12 4) (sGet l 16 4) (sGet l 20 4) (sGet l 24 4) then 0 else 1 := if_pos hr
  have hcells : sCells l = if sCode l = 0 then sc (sGet l 4 8) (sGet l 12 4) (sGet l 16 4) (sGet l 20 4) (sGet l 24 4) else sc 0 0 0 0 0 := rfl
  change Ow h3 bn (is [sGet l 4 8, sGet l 12 4, sGet l 16 4, sGet l 20 4, sGet l 24 4]) at own
  change RunC _ _ _ (upd (upd (upd (upd _ 11 (.slice (some ⟨bn, 0, none⟩) 5 (unkc 1))) 12 (.int .i64 0)) 4 (.slice (some ⟨bn, 0, none⟩) 5 (unkc 1))) 5 (.int .i64 0)) _ _ _ _
  refine RunC.seq (RunC.seq (RunC.region (RunO.all rfl ?_)))
  refine RunC.cond rfl (fun g => by cases g) (fun _ => RunC.skip ?_)
  generalize sGet l 4 8 = n0 at *
  generalize sGet l 12 4 = n1 at *
  generalize sGet l 16 4 = n2 at *
  generalize sGet l 20 4 = n3 at *
  generalize sGet l 24 4 = n4 at *
  refine RunC.seq (RunC.draw0 rfl (RunO.part 1 rfl ?_))
  refine RunO.index (s := 1) (k := 0) rfl rfl rfl rfl (by decide) rfl ?_
  refine RunO.load (v := .int .i64 n0) rfl (own.all.cell1 (k := 0) rfl rfl) rfl ?_
  refine RunO.part 1 rfl ?_
  refine RunO.index (s := 1) (k := 1) rfl rfl rfl rfl (by decide) rfl ?_
  refine RunO.load (v := .int .i64 n1) rfl (own.all.cell1 (k := 1) rfl rfl) rfl ?_
  refine RunO.part 1 rfl ?_
  refine RunO.index (s := 1) (k := 2) rfl rfl rfl rfl (by decide) rfl ?_
  refine RunO.load (v := .int .i64 n2) rfl (own.all.cell1 (k := 2) rfl rfl) rfl ?_
  refine RunO.part 1 rfl ?_
  refine RunO.index (s := 1) (k := 3) rfl rfl rfl rfl (by decide) rfl ?_
  refine RunO.load (v := .int .i64 n3) rfl (own.all.cell1 (k := 3) rfl rfl) rfl ?_
  refine RunO.part 1 rfl ?_
  refine RunO.index (s := 1) (k := 4) rfl rfl rfl rfl (by decide) rfl ?_
  refine RunO.load (v := .int .i64 n4) rfl (own.all.cell1 (k := 4) rfl rfl) rfl ?_
  refine RunO.part 2 (h1 := h3.push ⟨sc 0 0 0 0 0, true⟩) rfl ?_
  refine RunO.store rfl rfl (store_ow (s := 5) (Ow.push h3 (sc 0 0 0 0 0)) rfl rfl rfl (by decide)) (RunO.nil ?_)
  change RunC _ _ _ _ ((h3.push ⟨sc 0 0 0 0 0, true⟩).put h3.next (some ⟨sc n0 n1 n2 n3 n4, true⟩)) _ _ _
  have ow4 : Ow ((h3.push ⟨sc 0 0 0 0 0, true⟩).put h3.next (some ⟨sc n0 n1 n2 n3 n4, true⟩)) h3.next (sc n0 n1 n2 n3 n4) := Ow.put _ (Nat.lt_succ_self _)
  have f4 : Fr no h3 ((h3.push ⟨sc 0 0 0 0 0, true⟩).put h3.next (some ⟨sc n0 n1 n2 n3 n4, true⟩)) := (Fr.push _ _ _).trans (Fr.put (m := (· = h3.next)) _ (.inl rfl)) (fun j hj => .inr (by omega))
  generalize (h3.push ⟨sc 0 0 0 0 0, true⟩).put h3.next (some ⟨sc n0 n1 n2 n3 n4, true⟩) = h4 at *
  have ow34 := ow3.fr f4 (fun g => g)
  have f5 := f3.same f4
  refine RunC.seq (RunC.region ?_)
  refine RunO.load (v := .agg ⟨sc n0 n1 n2 n3 n4⟩) rfl (ow4.all.part (k := 0) rfl) rfl ?_
  refine RunO.callD superCheck_ok rfl rfl rfl ?_
  rintro v h5 ⟨rfl, hf5⟩
  have ow5 := ow34.fr hf5 (fun g => g)
  have owx := ow4.fr hf5 (fun g => g)
  have f6 := f5.same hf5
  refine RunO.all rfl ?_
  rw [hcells, hcode]
  cases superOk n0 n1 n2 n3 n4 with
  | false =>
    refine RunC.seq (RunC.seq (RunC.region (RunO.all rfl (RunC.cond rfl (fun _ => ?_) (fun g => by cases g)))))
    refine RunC.seq (RunC.region (RunO.part 2 rfl ?_))
    refine RunO.store rfl rfl (store_ow (s := 5) ow5 rfl rfl rfl (by decide)) ?_
    refine RunO.all rfl ?_
    refine RunC.ret ⟨_, eresults_cell rfl ((Ow.put (cs := sc 0 0 0 0 0) ow5.1).all.part (k := 0) rfl) rfl, rfl, ?_⟩
    exact f6.trans (Fr.put (m := (· = h.next)) _ (.inl rfl)) (fun j hj => .inr (by omega))
  | true =>
    refine RunC.seq (RunC.seq (RunC.region (RunO.all rfl (RunC.cond rfl (fun g => by cases g) (fun _ => RunC.skip ?_)))))
    refine RunC.seq (RunC.region ?_)
    refine RunO.load (v := .agg ⟨sc n0 n1 n2 n3 n4⟩) rfl (owx.all.part (k := 0) rfl) rfl ?_
    refine RunO.store rfl rfl (store_ow (s := 5) ow5 rfl rfl rfl (by decide)) ?_
    refine RunO.all rfl ?_
    refine RunC.ret ⟨_, eresults_cell rfl ((Ow.put (cs := sc n0 n1 n2 n3 n4) ow5.1).all.part (k := 0) rfl) rfl, rfl, ?_⟩
    exact f6.trans (Fr.put (m := (· = h.next)) _ (.inl rfl)) (fun j hj => .inr (by omega))
end Go.Proofs.Ytbinkbdfoalbcaa
end
section
set_option linter.unusedVariables false
set_option maxRecDepth 100000
open Go Go.Am
namespace Go.Proofs.Ytbinkbdfoalbcaa
open Go.Proofs.Try
abbrev S5 := Int × Int × Int × Int × Int
def sc5 (s : S5) : List Value := sc s.1 s.2.1 s.2.2.1 s.2.2.2.1 s.2.2.2.2
def sVal (l : List Int) : S5 := if sCode l = 0 then (sGet l 4 8, sGet l 12 4, sGet l 16 4, sGet l 20 4, sGet l 24 4) else (0, 0, 0, 0, 0)
theorem sCells_eq (l : List Int) : sCells l = sc5 (sVal l) := by unfold sCells sVal; split <;> rfl
/-- A slot looked at. -/
def pickStep (l : List Int) (st : S5 × Int × Bool) (i : Nat) : S5 × Int × Bool :=
  if (sCode (blkI l i) == 0 && ((sVal (blkI l i)).2.1 == ((l.length / 64 : Nat) : Int) && (!st.2.2 || decide ((sVal (blkI l i)).1 > st.1.1)))) = true then (sVal (blkI l i), (i : Int), true) else st
def pickS (l : List Int) : S5 × Int × Bool := (List.range 2).foldl (pickStep l) ((0, 0, 0, 0, 0), 0, false)
/-- Which superblock stands, in which slot; why none does. -/
def pickCode (l : List Int) : Int := if devOk l.length then (if (pickS l).2.2 then 0 else 8) else 2
theorem superPick_ok {h : Heap} {A : Option Addr} {c : Nat} {l : List Int} (ra : devOk l.length = true → ∃ a, A = some a ∧ Rd h a (us l)) (hb : Byt l) (hc : Cp 1 l.length c) (hm : l.length ≤ 4611686018427387904) :
    RunF prog 28 [.slice A l.length c] h fun v h' => v = .tuple #[.agg ⟨sc5 (if pickCode l = 0 then (pickS l).1 else (0, 0, 0, 0, 0))⟩, .int .i64 (if pickCode l = 0 then (pickS l).2.1 else 0), .int .i64 (pickCode l)] ∧ Fr no h h' := by
  refine RunF.walk func28 rfl rfl ?_
  refine RunC.seq (RunC.region (RunO.all (h1 := h.push ⟨sc 0 0 0 0 0, true⟩) rfl ?_))
  have ow : Ow (h.push ⟨sc 0 0 0 0 0, true⟩) h.next (sc 0 0 0 0 0) := Ow.push _ _
  have f1 : Fr (fun b => h.next ≤ b) h (h.push ⟨sc 0 0 0 0 0, true⟩) := Fr.push _ _ _
  generalize h.push ⟨sc 0 0 0 0 0, true⟩ = h1 at *
  refine RunC.seq (RunC.region (RunO.part 1 rfl ?_))
  refine RunO.callD (devCheck_ok hm) rfl rfl rfl ?_
  rintro _ _ ⟨rfl, rfl⟩
  refine RunO.all rfl ?_
  cases hd : devOk l.length with
  | false =>
    have hp : pickCode l = 2 := by unfold pickCode; rw [hd]; rfl
    rw [hp]
    refine RunC.seq (RunC.seq (RunC.region (RunO.all rfl (RunC.cond rfl (fun _ => ?_) (fun g => by cases g)))))
    refine RunC.seq (RunC.region (RunO.part 2 rfl ?_))
    refine RunO.store rfl rfl (store_ow (s := 5) ow rfl rfl rfl (Nat.le_refl 5)) ?_
    refine RunO.all rfl ?_
    refine RunC.ret ⟨_, eresults_cell2 rfl ((Ow.put (cs := sc 0 0 0 0 0) ow.1).all.part (k := 0) rfl) rfl rfl, rfl, ?_⟩
    exact frNo (f1.same (Fr.put _ (.inl (Nat.le_refl _))))
  | true =>
  obtain ⟨⟨b, o, sp⟩, rfl, rd⟩ := ra hd
  have hsp : sp = none := rd.1
  subst hsp
  have hb0 : b < h.next := rd.2.1
  have hp : pickCode l = if (pickS l).2.2 then 0 else 8 := by unfold pickCode; rw [hd]; rfl
  have hlen : 256 ≤ l.length := by
    unfold devOk at hd
    simp at hd
    omega
  refine RunC.seq (RunC.seq (RunC.region (RunO.all rfl (RunC.cond rfl (fun g => by cases g) (fun _ => RunC.skip ?_)))))
  refine RunC.seq (RunC.region (RunO.all rfl ?_))
  refine RunC.seq (RunC.seq (RunC.region (RunO.all rfl ?_)))
  refine RunC.block ?_
  let I : Nat → Env → Heap → Prop := fun d E h' => ∃ (i : Nat) (st : S5 × Int × Bool), i + d = 2 ∧ st = (List.range i).foldl (pickStep l) ((0, 0, 0, 0, 0), 0, false) ∧ Ow h' h.next (sc5 st.1) ∧ Fr (fun b => h.next ≤ b) h h' ∧ Le (upd (upd (upd (upd (upd (upd E0 0 (.slice (some ⟨b, o, none⟩) l.length c)) 2 (.pointer (some ⟨h.next, 0, none⟩))) 3 (.int .i64 st.2.1)) 5 (.int .i64 (l.length / 64 : Nat))) 6 (.bool st.2.2)) 19 (.int .i64 i)) E
  refine RunC.loop I ?_ (k := 2) ?_
  · rintro d E h' ⟨i, ⟨sv, slot, met⟩, hi, hst, ow, hf, hE⟩
    refine RunC.le hE ?_
    clear hE
    refine RunC.seq (RunC.region (RunO.all rfl ?_))
    refine RunC.seq (RunC.cond rfl (fun hlt => ?_) (fun hge => ?_))
    · have hlt := of_decide_eq_true hlt
      have hlt2 : i < 2 := by omega
      have hstep : (List.range (i + 1)).foldl (pickStep l) ((0, 0, 0, 0, 0), 0, false) = pickStep l (sv, slot, met) i := by rw [foldl_range_succ, ← hst]
      have hil : (i + 1) * 64 ≤ l.length := by omega
      refine RunC.skip ?_
      refine RunC.seq (RunC.block ?_)
      refine RunC.seq (RunC.region (RunO.all rfl ?_))
      refine RunC.seq (RunC.region (RunO.part 2 rfl ?_))
      refine RunO.callD (devOf_ok hil hm hc) rfl rfl rfl ?_
      rintro _ _ ⟨⟨c', hc', rfl⟩, rfl⟩
      have hbl := blkI_len hil
      have rdb := rdBlk (rd.fr hf (by show ¬ h.next ≤ b; omega)) hil
      have hparse := superParse_ok (A := some ⟨b, o + i * 64, none⟩) (c := c') (fun _ => ⟨_, rfl, rdb⟩) (byt_blk hb i) (by rw [hbl]; exact hc')
      rw [hbl] at hparse
      refine RunO.callD hparse rfl rfl rfl ?_
      rintro v h2 ⟨rfl, hf2⟩
      have ow2 := ow.fr hf2 (fun g => g)
      have hfh2 := hf.quiet hf2
      rw [sCells_eq]
      have hps : pickStep l (sv, slot, met) i = if (sCode (blkI l i) == 0 && ((sVal (blkI l i)).2.1 == ((l.length / 64 : Nat) : Int) && (!met || decide ((sVal (blkI l i)).1 > sv.1)))) = true then (sVal (blkI l i), (i : Int), true) else (sv, slot, met) := rfl
      generalize sVal (blkI l i) = x at *
      generalize sCode (blkI l i) = cd at *
      obtain ⟨xg, xb, xr, xs, xf⟩ := x
      change RunO _ _ _ _ (upd _ 26 (.tuple #[.agg ⟨sc xg xb xr xs xf⟩, .int .i64 cd])) _ _
      refine RunO.part 4 (h1 := h2.push ⟨sc 0 0 0 0 0, true⟩) rfl ?_
      refine RunO.store rfl rfl (store_ow (s := 5) (Ow.push h2 (sc 0 0 0 0 0)) rfl rfl rfl (by decide)) ?_
      change RunO _ _ _ _ _ ((h2.push ⟨sc 0 0 0 0 0, true⟩).put h2.next (some ⟨sc xg xb xr xs xf, true⟩)) _
      have ow4 : Ow ((h2.push ⟨sc 0 0 0 0 0, true⟩).put h2.next (some ⟨sc xg xb xr xs xf, true⟩)) h2.next (sc xg xb xr xs xf) := Ow.put _ (Nat.lt_succ_self _)
      have f4 : Fr no h2 ((h2.push ⟨sc 0 0 0 0 0, true⟩).put h2.next (some ⟨sc xg xb xr xs xf, true⟩)) := (Fr.push _ _ _).trans (Fr.put (m := (· = h2.next)) _ (.inl rfl)) (fun j hj => .inr (by omega))
      generalize (h2.push ⟨sc 0 0 0 0 0, true⟩).put h2.next (some ⟨sc xg xb xr xs xf, true⟩) = h4 at *
      have ow5 := ow2.fr f4 (fun g => g)
      have hfh4 := hfh2.quiet f4
      have hn2 : h.next ≤ h2.next := hfh2.next
      have hne : h2.next ≠ h.next := by have := ow2.1; omega
      generalize h2.next = p at *
      refine RunO.all rfl ?_
      refine RunC.seqE (upd (upd (upd (upd (upd (upd (upd (upd (upd E0 0 (.slice (some ⟨b, o, none⟩) l.length c)) 2 (.pointer (some ⟨h.next, 0, none⟩))) 3 (.int .i64 slot)) 5 (.int .i64 (l.length / 64 : Nat))) 6 (.bool met)) 7 (.int .i64 i)) 8 (.pointer (some ⟨p, 0, none⟩))) 19 (.int .i64 i)) 47 (.bool (cd == 0 && (xb == ((l.length / 64 : Nat) : Int) && (!met || decide (xg > sv.1)))))) ?_ ?_
      · refine RunC.region (RunO.part 3 rfl ?_)
        cases (cd == 0) with
        | false => exact RunO.all rfl ⟨rfl, Le.cons rfl (Le.cons rfl (Le.cons rfl (Le.cons rfl (Le.cons rfl (Le.cons rfl (Le.cons rfl (Le.cons rfl (Le.cons rfl (Le.nil _)))))))))⟩
        | true =>
          refine RunO.part 1 rfl ?_
          refine RunO.loadG (v := .int .i64 xb) rfl rfl (ow4.all.cell1 (k := 1) rfl rfl) rfl ?_
          refine RunO.part 2 rfl ?_
          cases (xb == ((l.length / 64 : Nat) : Int)) with
          | false => exact RunO.all rfl ⟨rfl, Le.cons rfl (Le.cons rfl (Le.cons rfl (Le.cons rfl (Le.cons rfl (Le.cons rfl (Le.cons rfl (Le.cons rfl (Le.cons rfl (Le.nil _)))))))))⟩
          | true =>
            refine RunO.part 2 rfl ?_
            cases met with
            | false => exact RunO.all rfl ⟨rfl, Le.cons rfl (Le.cons rfl (Le.cons rfl (Le.cons rfl (Le.cons rfl (Le.cons rfl (Le.cons rfl (Le.cons rfl (Le.cons rfl (Le.nil _)))))))))⟩
            | true =>
              refine RunO.part 4 rfl ?_
              refine RunO.loadG (v := .int .i64 xg) rfl rfl (ow4.all.cell1 (k := 0) rfl rfl) rfl ?_
              refine RunO.part 1 rfl ?_
              refine RunO.loadG (v := .int .i64 sv.1) rfl rfl (ow5.all.cell1 (k := 0) rfl rfl) rfl ?_
              exact RunO.all rfl ⟨rfl, Le.cons rfl (Le.cons rfl (Le.cons rfl (Le.cons rfl (Le.cons rfl (Le.cons rfl (Le.cons rfl (Le.cons rfl (Le.cons rfl (Le.nil _)))))))))⟩
      change pickStep l (sv, slot, met) i = if (cd == 0 && (xb == ((l.length / 64 : Nat) : Int) && (!met || decide (xg > sv.1)))) = true then ((xg, xb, xr, xs, xf), (i : Int), true) else (sv, slot, met) at hps
      generalize (cd == 0 && (xb == ((l.length / 64 : Nat) : Int) && (!met || decide (xg > sv.1)))) = B at *
      cases B with
      | true =>
        refine RunC.cond rfl (fun _ => ?_) (fun g => by cases g)
        refine RunC.region ?_
        refine RunO.load (v := .agg ⟨sc xg xb xr xs xf⟩) rfl (ow4.all.part (k := 0) rfl) rfl ?_
        refine RunO.part 1 rfl ?_
        refine RunO.store rfl rfl (store_ow (s := 5) ow5 rfl rfl rfl (Nat.le_refl 5)) ?_
        refine RunO.all rfl ?_
        refine RunC.region (RunO.all rfl ?_)
        refine ⟨d - 1, by omega, i + 1, _, by omega, rfl, ?_, ?_, ?_⟩
        · rw [hstep, hps]; exact Ow.put _ ow5.1
        · exact hfh4.same (Fr.put _ (.inl (Nat.le_refl _)))
        · rw [hstep, hps]
          exact Le.cons (inc64 (by omega)) (Le.cons rfl (Le.cons rfl (Le.cons rfl (Le.cons rfl (Le.cons rfl (Le.nil _))))))
      | false =>
        refine RunC.cond rfl (fun g => by cases g) (fun _ => RunC.skip ?_)
        refine RunC.region (RunO.all rfl ?_)
        refine ⟨d - 1, by omega, i + 1, _, by omega, rfl, ?_, ?_, ?_⟩
        · rw [hstep, hps]; exact ow5
        · exact hfh4
        · rw [hstep, hps]
          exact Le.cons (inc64 (by omega)) (Le.cons rfl (Le.cons rfl (Le.cons rfl (Le.cons rfl (Le.cons rfl (Le.nil _))))))
    · have hge := of_decide_eq_false hge
      refine RunC.exit ?_
      have hi2 : i = 2 := by omega
      subst hi2
      have hpk : pickS l = (sv, slot, met) := hst.symm
      rw [hp, hpk]
      cases met with
      | false =>
        refine RunC.seq (RunC.seq (RunC.region (RunO.all rfl (RunC.cond rfl (fun _ => ?_) (fun g => by cases g)))))
        refine RunC.seq (RunC.region (RunO.part 1 rfl ?_))
        refine RunO.store rfl rfl (store_ow (s := 5) ow rfl rfl rfl (Nat.le_refl 5)) ?_
        refine RunO.all rfl ?_
        refine RunC.ret ⟨_, eresults_cell2 rfl ((Ow.put (cs := sc 0 0 0 0 0) ow.1).all.part (k := 0) rfl) rfl rfl, rfl, ?_⟩
        exact frNo (hf.same (Fr.put _ (.inl (Nat.le_refl _))))
      | true =>
        refine RunC.seq (RunC.seq (RunC.region (RunO.all rfl (RunC.cond rfl (fun g => by cases g) (fun _ => RunC.skip ?_)))))
        refine RunC.seq (RunC.region ?_)
        refine RunO.load (v := .agg ⟨sc5 sv⟩) rfl (ow.all.part (k := 0) rfl) rfl ?_
        refine RunO.part 1 rfl ?_
        refine RunO.store rfl rfl (store_ow (s := 5) ow rfl rfl rfl (Nat.le_refl 5)) ?_
        refine RunO.all rfl ?_
        refine RunC.ret ⟨_, eresults_cell2 rfl ((Ow.put (cs := sc5 sv) ow.1).all.part (k := 0) rfl) rfl rfl, rfl, ?_⟩
        exact frNo (hf.same (Fr.put _ (.inl (Nat.le_refl _))))
  · exact ⟨0, ((0, 0, 0, 0, 0), 0, false), by omega, rfl, ow, f1, Le.cons rfl (Le.cons rfl (Le.cons rfl (Le.cons rfl (Le.cons rfl (Le.cons rfl (Le.nil _))))))⟩
end Go.Proofs.Ytbinkbdfoalbcaa
end
section
set_option linter.unusedVariables false
set_option maxRecDepth 100000
open Go Go.Am
namespace Go.Proofs.Ytbinkbdfoalbcaa
open Go.Proofs.Try
theorem super_eq (a b c d e a' b' c' d' e' : Int) : abinop prog .eql 24 (.agg ⟨sc a b c d e⟩) (.agg ⟨sc a' b' c' d' e'⟩) = some (.bool (a == a' && (b == b' && (c == c' && (d == d' && e == e'))))) := by
  have h : abinop prog .eql 24 (.agg ⟨sc a b c d e⟩) (.agg ⟨sc a' b' c' d' e'⟩) = eqOp .eql (match some (a == a') with
    | some true => (match some (b == b') with
      | some true => (match some (c == c') with
        | some true => (match some (d == d') with
          | some true => (match some (e == e') with
            | some true => some true
            | some false => some false
            | none => none)
          | some false => some false
          | none => none)
        | some false => some false
        | none => none)
      | some false => some false
      | none => none)
    | some false => some false
    | none => none) := by kernel_rfl
  rw [h]
  cases (a == a') <;> cases (b == b') <;> cases (c == c') <;> cases (d == d') <;> cases (e == e') <;> rfl
theorem super_ne (a b c d e a' b' c' d' e' : Int) : abinop prog .neq 24 (.agg ⟨sc a b c d e⟩) (.agg ⟨sc a' b' c' d' e'⟩) = some (.bool (!(a == a' && (b == b' && (c == c' && (d == d' && e == e')))))) := by
  have h : eqOp .eql (aequal prog 24 (.agg ⟨sc a b c d e⟩) (.agg ⟨sc a' b' c' d' e'⟩)) = some (.bool (a == a' && (b == b' && (c == c' && (d == d' && e == e'))))) := super_eq a b c d e a' b' c' d' e'
  show eqOp .neq (aequal prog 24 (.agg ⟨sc a b c d e⟩) (.agg ⟨sc a' b' c' d' e'⟩)) = _
  generalize aequal prog 24 (.agg ⟨sc a b c d e⟩) (.agg ⟨sc a' b' c' d' e'⟩) = r at h ⊢
  match r, h with
  | some x, h =>
    have h : some (Value.bool x) = _ := h
    cases h; rfl
  | none, h => cases h
end Go.Proofs.Ytbinkbdfoalbcaa
end
section
set_option linter.unusedVariables false
set_option maxRecDepth 100000
open Go Go.Am
namespace Go.Proofs.Ytbinkbdfoalbcaa
open Go.Proofs.Try
theorem superOk_iff (g bl rt sz fi : Int) : superOk g bl rt sz fi = true ↔ (1 ≤ g ∧ g ≤ 1099511627776) ∧ (4 ≤ bl ∧ bl ≤ 4096) ∧ (0 ≤ sz ∧ sz ≤ 512) ∧ (rt = 0 ∨ 2 ≤ rt ∧ rt ≤ bl - 1) ∧ (fi = 0 ∨ 2 ≤ fi ∧ fi ≤ bl - 1) := by
  unfold superOk
  rw [Bool.and_eq_true, Bool.and_eq_true, Bool.and_eq_true, Bool.and_eq_true, Bool.or_eq_true, Bool.or_eq_true, inB_iff, inB_iff, inB_iff, inB_iff, inB_iff, beq_iff_eq, beq_iff_eq]
  constructor
  · rintro ⟨⟨⟨h1, h2⟩, h3⟩, h4, h5⟩
    rw [fw64 (by omega) (by omega)] at h4 h5
    exact ⟨h1, h2, h3, h4, h5⟩
  · rintro ⟨h1, h2, h3, h4, h5⟩
    rw [fw64 (by omega) (by omega)]
    exact ⟨⟨⟨h1, h2⟩, h3⟩, h4, h5⟩
theorem super_fits {g bl rt sz fi : Int} (h : superOk g bl rt sz fi = true) : Fits [8, 4, 4, 4, 4] [g, bl, rt, sz, fi] := by
  rw [superOk_iff] at h
  obtain ⟨h1, h2, h3, h4, h5⟩ := h
  have e8 : (256 : Int) ^ 8 = 18446744073709551616 := by decide
  have e4 : (256 : Int) ^ 4 = 4294967296 := by decide
  refine ⟨⟨by omega, by rw [e8]; omega, by omega⟩, ⟨by omega, by rw [e4]; omega, by omega⟩, ⟨by omega, by rw [e4]; omega, by omega⟩, ⟨by omega, by rw [e4]; omega, by omega⟩, ⟨by omega, by rw [e4]; omega, by omega⟩, trivial⟩
theorem superBlock_len (g bl rt sz fi : Int) : (superBlock g bl rt sz fi).length = 64 := makeB_len rfl rfl (by decide)
theorem superBlock_byt (g bl rt sz fi : Int) : Byt (superBlock g bl rt sz fi) := makeB_byt (by unfold Byt; decide) rfl rfl (by decide)
/-- What is written is read. -/
theorem super_back {g bl rt sz fi : Int} (h : superOk g bl rt sz fi = true) : sCode (superBlock g bl rt sz fi) = 0 ∧ sVal (superBlock g bl rt sz fi) = (g, bl, rt, sz, fi) := by
  obtain ⟨h1, h2⟩ := read_make (mb := [87, 67, 85, 84]) rfl (super_fits h) (by decide)
  have h1 : readB sMag sLay (superBlock g bl rt sz fi) = 0 := h1
  have h2 : [sGet (superBlock g bl rt sz fi) 4 8, sGet (superBlock g bl rt sz fi) 12 4, sGet (superBlock g bl rt sz fi) 16 4, sGet (superBlock g bl rt sz fi) 20 4, sGet (superBlock g bl rt sz fi) 24 4] = [g, bl, rt, sz, fi] := h2
  simp only [List.cons.injEq, and_true] at h2
  obtain ⟨e0, e1, e2, e3, e4⟩ := h2
  have hc : sCode (superBlock g bl rt sz fi) = 0 := by
    unfold sCode
    rw [if_pos h1, e0, e1, e2, e3, e4, h]; rfl
  refine ⟨hc, ?_⟩
  unfold sVal
  rw [if_pos hc, e0, e1, e2, e3, e4]
theorem rep_blk (n i : Nat) (h : (i + 1) * 64 ≤ n) : blkI (List.replicate n 0) i = List.replicate 64 0 := by
  unfold blkI
  rw [List.drop_replicate, List.take_replicate]
  congr 1; omega
theorem sCode_zeros : sCode (List.replicate 64 0) = 4 := by
  have h : readB sMag sLay (List.replicate 64 0) = 4 := by
    unfold readB
    rw [if_neg (by simp), if_pos (by decide)]
  unfold sCode
  rw [h]; rfl
theorem pick_zeros : pickCode (List.replicate 256 0) = 8 := by
  have h : pickS (List.replicate 256 0) = ((0, 0, 0, 0, 0), 0, false) := by
    unfold pickS
    rw [show List.range 2 = [0, 1] by decide]
    simp only [List.foldl]
    unfold pickStep
    rw [rep_blk 256 0 (by decide), rep_blk 256 1 (by decide), sCode_zeros]
    rfl
  unfold pickCode
  rw [h]; rfl
end Go.Proofs.Ytbinkbdfoalbcaa
end
section
set_option linter.unusedVariables false
set_option maxRecDepth 100000
open Go Go.Am
namespace Go.Proofs.Ytbinkbdfoalbcaa
open Go.Proofs.Try
theorem recIn_ok {h : Heap} {a lo hi : Int} : RunF prog 89 [.int .i64 a, .int .i64 lo, .int .i64 hi] h fun v h' => v = .bool (inB a lo hi) ∧ h = h' := by
  refine RunF.walk func89 rfl rfl ?_
  refine RunC.seq (RunC.region (RunO.all rfl ?_))
  refine RunC.seq (RunC.region (RunO.part 4 rfl ?_))
  unfold inB
  cases decide (a ≥ lo) with
  | true => exact RunO.all rfl (RunC.ret ⟨_, rfl, by simp, rfl⟩)
  | false => exact RunO.all rfl (RunC.ret ⟨_, rfl, by simp, rfl⟩)
theorem recLay_ok {h : Heap} : RunF prog 59 [] h fun v h' => Row h.next h' v 2 8 (fcs (layF 4 [4, 8, 8, 4, 4, 4, 4, 4])) ∧ Fr no h h' := by
  refine RunF.walk func59 rfl rfl ?_
  refine RunC.seq (RunC.region (RunO.all rfl ?_))
  refine RunC.seq (RunC.region (RunO.part 1 (h1 := h.push ⟨ns [4, 8, 8, 4, 4, 4, 4, 4], true⟩) rfl ?_))
  refine RunO.callD (superLayout_ok (ss := [4, 8, 8, 4, 4, 4, 4, 4]) (c := exc 8) (Ow.push h (ns [4, 8, 8, 4, 4, 4, 4, 4])).all (by decide) (by decide)) rfl rfl rfl ?_
  rintro v h' ⟨hr, hf⟩
  refine RunO.all rfl (RunC.ret ⟨_, rfl, ?_, ?_⟩)
  · refine ⟨hr.1, hr.2.imp (fun x => x) ?_⟩
    rintro ⟨b, h1, h2⟩
    exact ⟨b, Nat.le_trans (Nat.le_succ _) h1, h2⟩
  · exact (Fr.push no _ _).same hf
def idB (n : Int) : Bool := !(decide (n < 1)) && !(decide (n > 4611686018427387903))
theorem idsCheck_ok {h : Heap} {n : Int} : RunF prog 116 [.int .i64 n] h fun v h' => v = .int .i64 (if idB n then 0 else 1) ∧ h = h' := by
  refine RunF.walk func116 rfl rfl ?_
  refine RunC.seq (RunC.region (RunO.all rfl ?_))
  refine RunC.seq (RunC.seq (RunC.region (RunO.part 3 rfl ?_)))
  unfold idB
  cases decide (n < 1) with
  | true =>
    refine RunO.all rfl (RunC.cond rfl (fun _ => ?_) (fun g => by cases g))
    exact RunC.seq (RunC.region (RunO.all rfl (RunC.ret ⟨_, rfl, rfl, rfl⟩)))
  | false =>
    refine RunO.part 2 rfl ?_
    cases decide (n > 4611686018427387903) with
    | true =>
      refine RunO.all rfl (RunC.cond rfl (fun _ => ?_) (fun g => by cases g))
      exact RunC.seq (RunC.region (RunO.all rfl (RunC.ret ⟨_, rfl, rfl, rfl⟩)))
    | false =>
      refine RunO.all rfl (RunC.cond rfl (fun g => by cases g) (fun _ => RunC.skip ?_))
      exact RunC.seq (RunC.region (RunO.all rfl (RunC.ret ⟨_, rfl, rfl, rfl⟩)))
def parB (id pa : Int) : Bool := idB id && ((pa != id) && (pa == 0 || idB pa))
theorem recParents_ok {h : Heap} {id pa : Int} : RunF prog 88 [.int .i64 id, .int .i64 pa] h fun v h' => v = .bool (parB id pa) ∧ h = h' := by
  refine RunF.walk func88 rfl rfl ?_
  refine RunC.seq (RunC.region (RunO.all rfl ?_))
  refine RunC.seq (RunC.region (RunO.part 1 rfl ?_))
  refine RunO.callD idsCheck_ok rfl rfl rfl ?_
  rintro _ _ ⟨rfl, rfl⟩
  refine RunO.part 1 rfl ?_
  rw [if_eq0]
  refine RunO.part 1 rfl ?_
  unfold parB
  cases idB id with
  | false => exact RunO.all rfl (RunC.ret ⟨_, rfl, rfl, rfl⟩)
  | true =>
    refine RunO.part 4 rfl ?_
    refine RunO.part 1 rfl ?_
    cases (pa != id) with
    | false => exact RunO.all rfl (RunC.ret ⟨_, rfl, rfl, rfl⟩)
    | true =>
      refine RunO.part 3 rfl ?_
      cases (pa == 0) with
      | true => exact RunO.all rfl (RunC.ret ⟨_, rfl, rfl, rfl⟩)
      | false =>
        refine RunO.part 1 rfl ?_
        refine RunO.callDG rfl idsCheck_ok rfl rfl rfl ?_
        rintro _ _ ⟨rfl, rfl⟩
        refine RunO.part 1 rfl ?_
        rw [if_eq0]
        refine RunO.all rfl (RunC.ret ⟨_, rfl, ?_, rfl⟩)
        simp
/-- A record's cells. -/
def rc (n id pa ro sz ki fr di : Int) : List Value := [.int .i64 n, .int .i64 id, .int .i64 pa, .int .i64 ro, .int .i64 sz, .int .i64 ki, .int .i64 fr, .int .i64 di]
def recIs (n id pa ro sz : Int) : Bool := (((ptrB n && ptrB ro) && parB id pa) && inB sz 0 512)
def recOk (n id pa ro sz ki fr di : Int) : Bool :=
  if ki = 0 then ((recIs n id pa ro sz && fr == 0) && di == 0) else if ki = 1 then ((recIs n id pa ro sz && inB fr 1 65535) && inB di 0 4294967295) else false
theorem recCheck_ok {h : Heap} {n id pa ro sz ki fr di : Int} : RunF prog 60 [.agg ⟨rc n id pa ro sz ki fr di⟩] h fun v h' => v = .int .i64 (if recOk n id pa ro sz ki fr di then 0 else 1) ∧ Fr no h h' := by
  refine RunF.walk func60 rfl rfl ?_
  refine RunC.seq (RunC.region (RunO.all (h1 := h.push ⟨rc n id pa ro sz ki fr di, true⟩) rfl ?_))
  have ow : Ow (h.push ⟨rc n id pa ro sz ki fr di, true⟩) h.next (rc n id pa ro sz ki fr di) := Ow.push _ _
  have f1 : Fr no h (h.push ⟨rc n id pa ro sz ki fr di, true⟩) := Fr.push _ _ _
  generalize h.push ⟨rc n id pa ro sz ki fr di, true⟩ = h1 at *
  generalize h.next = p at *
  refine RunC.seqE (upd (upd E0 1 (.pointer (some ⟨p, 0, none⟩))) 3 (.bool (recIs n id pa ro sz))) ?_ ?_
  · unfold recIs
    refine RunC.region (RunO.part 1 rfl ?_)
    refine RunO.load (v := .int .i64 n) rfl (ow.all.cell1 (k := 0) rfl rfl) rfl ?_
    refine RunO.callD nodePointer_ok rfl rfl rfl ?_
    rintro _ _ ⟨rfl, rfl⟩
    refine RunO.part 1 rfl ?_
    cases ptrB n with
    | false => exact RunO.all rfl ⟨rfl, Le.cons rfl (Le.cons rfl (Le.nil _))⟩
    | true =>
    refine RunO.part 1 rfl ?_
    refine RunO.loadG (v := .int .i64 ro) rfl rfl (ow.all.cell1 (k := 3) rfl rfl) rfl ?_
    refine RunO.callDG rfl nodePointer_ok rfl rfl rfl ?_
    rintro _ _ ⟨rfl, rfl⟩
    refine RunO.part 2 rfl ?_
    cases ptrB ro with
    | false => exact RunO.all rfl ⟨rfl, Le.cons rfl (Le.cons rfl (Le.nil _))⟩
    | true =>
    refine RunO.part 1 rfl ?_
    refine RunO.loadG (v := .int .i64 id) rfl rfl (ow.all.cell1 (k := 1) rfl rfl) rfl ?_
    refine RunO.part 1 rfl ?_
    refine RunO.loadG (v := .int .i64 pa) rfl rfl (ow.all.cell1 (k := 2) rfl rfl) rfl ?_
    refine RunO.callDG rfl recParents_ok rfl rfl rfl ?_
    rintro _ _ ⟨rfl, rfl⟩
    refine RunO.part 2 rfl ?_
    cases parB id pa with
    | false => exact RunO.all rfl ⟨rfl, Le.cons rfl (Le.cons rfl (Le.nil _))⟩
    | true =>
    refine RunO.part 1 rfl ?_
    refine RunO.loadG (v := .int .i64 sz) rfl rfl (ow.all.cell1 (k := 4) rfl rfl) rfl ?_
    refine RunO.callDG rfl recIn_ok rfl rfl rfl ?_
    rintro _ _ ⟨rfl, rfl⟩
    exact RunO.all rfl ⟨rfl, Le.cons rfl (Le.cons rfl (Le.nil _))⟩
  refine RunC.seqE (upd E0 3 (.bool (recOk n id pa ro sz ki fr di))) ?_ ?_
  · unfold recOk
    generalize recIs n id pa ro sz = b0
    refine RunC.seq (RunC.region (RunO.part 1 rfl ?_))
    refine RunO.load (v := .int .i64 ki) rfl (ow.all.cell1 (k := 5) rfl rfl) rfl ?_
    refine RunO.nil ?_
    refine RunC.block ?_
    refine RunC.seq (RunC.region (RunO.all rfl (RunC.cond rfl (fun c0 => ?_) (fun c0 => ?_))))
    · have c0 : ki = 0 := by simpa using c0
      rw [if_pos c0]
      refine RunC.region (RunO.part 2 rfl ?_)
      cases b0 with
      | false => exact RunO.all rfl ⟨rfl, Le.cons rfl (Le.nil _)⟩
      | true =>
      refine RunO.part 1 rfl ?_
      refine RunO.loadG (v := .int .i64 fr) rfl rfl (ow.all.cell1 (k := 6) rfl rfl) rfl ?_
      refine RunO.part 3 rfl ?_
      cases (fr == 0) with
      | false => exact RunO.all rfl ⟨rfl, Le.cons rfl (Le.nil _)⟩
      | true =>
      refine RunO.part 1 rfl ?_
      refine RunO.loadG (v := .int .i64 di) rfl rfl (ow.all.cell1 (k := 7) rfl rfl) rfl ?_
      exact RunO.all rfl ⟨rfl, Le.cons rfl (Le.nil _)⟩
    have c0 : ¬ ki = 0 := by simpa using c0
    rw [if_neg c0]
    refine RunC.seq (RunC.region (RunO.all rfl (RunC.cond rfl (fun c1 => ?_) (fun c1 => ?_))))
    · have c1 : ki = 1 := by simpa using c1
      rw [if_pos c1]
      refine RunC.region (RunO.part 2 rfl ?_)
      cases b0 with
      | false => exact RunO.all rfl ⟨rfl, Le.cons rfl (Le.nil _)⟩
      | true =>
      refine RunO.part 1 rfl ?_
      refine RunO.loadG (v := .int .i64 fr) rfl rfl (ow.all.cell1 (k := 6) rfl rfl) rfl ?_
      refine RunO.callDG rfl recIn_ok rfl rfl rfl ?_
      rintro _ _ ⟨rfl, rfl⟩
      refine RunO.part 2 rfl ?_
      cases inB fr 1 65535 with
      | false => exact RunO.all rfl ⟨rfl, Le.cons rfl (Le.nil _)⟩
      | true =>
      refine RunO.part 1 rfl ?_
      refine RunO.loadG (v := .int .i64 di) rfl rfl (ow.all.cell1 (k := 7) rfl rfl) rfl ?_
      refine RunO.callDG rfl recIn_ok rfl rfl rfl ?_
      rintro _ _ ⟨rfl, rfl⟩
      exact RunO.all rfl ⟨rfl, Le.cons rfl (Le.nil _)⟩
    have c1 : ¬ ki = 1 := by simpa using c1
    rw [if_neg c1]
    exact RunC.region (RunO.all rfl ⟨rfl, Le.cons rfl (Le.nil _)⟩)
  cases recOk n id pa ro sz ki fr di <;> refine RunC.seq (RunC.seq (RunC.region (RunO.all rfl (RunC.cond rfl (fun g => ?_) (fun g => ?_))))) <;> first
    | (cases g; done)
    | exact RunC.seq (RunC.region (RunO.all rfl (RunC.ret ⟨_, rfl, rfl, f1⟩)))
    | exact RunC.skip (RunC.seq (RunC.region (RunO.all rfl (RunC.ret ⟨_, rfl, rfl, f1⟩))))
end Go.Proofs.Ytbinkbdfoalbcaa
end
section
set_option linter.unusedVariables false
set_option maxRecDepth 100000
open Go Go.Am
namespace Go.Proofs.Ytbinkbdfoalbcaa
open Go.Proofs.Try
def rSiz : List Nat := [4, 8, 8, 4, 4, 4, 4, 4]
def rLay : List (Nat × Nat) := layF 4 rSiz
def rMag : List Int := [83, 78, 65, 80]
/-- A record's block. -/
def recBlock (n id pa ro sz ki fr di : Int) : List Int := makeB rMag rLay [n, id, pa, ro, sz, ki, fr, di]
theorem recBytes_ok {h : Heap} {n id pa ro sz ki fr di : Int} : RunF prog 37 [.agg ⟨rc n id pa ro sz ki fr di⟩] h fun v h' => Fr no h h' ∧ ((recOk n id pa ro sz ki fr di = true ∧ ∃ b, h.next ≤ b ∧ v = .tuple #[.slice (some ⟨b, 0, none⟩) 64 (exc 64), .int .i64 0] ∧ Ow h' b (us (recBlock n id pa ro sz ki fr di))) ∨ (recOk n id pa ro sz ki fr di = false ∧ v = .tuple #[.slice none 0 0, .int .i64 1])) := by
  refine RunF.walk func37 rfl rfl ?_
  refine RunC.seq (RunC.region (RunO.all (h1 := h.push ⟨rc n id pa ro sz ki fr di, true⟩) rfl ?_))
  have ow : Ow (h.push ⟨rc n id pa ro sz ki fr di, true⟩) h.next (rc n id pa ro sz ki fr di) := Ow.push _ _
  have f1 : Fr no h (h.push ⟨rc n id pa ro sz ki fr di, true⟩) := Fr.push _ _ _
  generalize h.push ⟨rc n id pa ro sz ki fr di, true⟩ = h1 at *
  refine RunC.seq (RunC.region ?_)
  refine RunO.load (v := .agg ⟨rc n id pa ro sz ki fr di⟩) rfl (ow.all.part (k := 0) rfl) rfl ?_
  refine RunO.callD recCheck_ok rfl rfl rfl ?_
  rintro v h2 ⟨rfl, hf2⟩
  have f2 := f1.same hf2
  have ow2 := ow.fr hf2 (fun g => g)
  refine RunO.all rfl ?_
  cases hok : recOk n id pa ro sz ki fr di with
  | false =>
    refine RunC.seq (RunC.seq (RunC.region (RunO.all rfl (RunC.cond rfl (fun _ => ?_) (fun g => by cases g)))))
    exact RunC.seq (RunC.region (RunO.all rfl (RunC.ret ⟨_, rfl, f2, .inr ⟨rfl, rfl⟩⟩)))
  | true =>
    refine RunC.seq (RunC.seq (RunC.region (RunO.all rfl (RunC.cond rfl (fun g => by cases g) (fun _ => RunC.skip ?_)))))
    refine RunC.seq (RunC.draw (l0 := min h2.low h2.next) (Nat.min_le_left _ _) rfl ?_)
    refine RunD.callD recLay_ok rfl rfl rfl ?_
    rintro v h3 ⟨hr, hf3⟩
    have hl3 : min h2.low h2.next ≤ h3.low := hf3.from (Nat.min_le_right _ _) (fun _ g => g.elim)
    refine ⟨hl3, ?_⟩
    have ow3 : Ow h3 h.next (rc n id pa ro sz ki fr di) := Ow.fr (h := h2.lo h2.next) ow2 hf3 (fun g => g)
    have hn3 : min h2.low h2.next ≤ h3.next := Nat.le_trans (Nat.min_le_right _ _) hf3.next
    obtain ⟨bf, hbf, rfl, owf⟩ := rowOut hr (by decide)
    have hq := hf3.quietB
    rw [hq]
    refine RunD.pure hn3 rfl rfl (fun _ => rfl) rfl ?_
    refine RunD.load (v := .int .i64 n) hn3 rfl (ow3.all.cell1 (k := 0) rfl rfl) rfl ?_
    refine RunD.pure hn3 rfl rfl (fun _ => rfl) rfl ?_
    refine RunD.load (v := .int .i64 id) hn3 rfl (ow3.all.cell1 (k := 1) rfl rfl) rfl ?_
    refine RunD.pure hn3 rfl rfl (fun _ => rfl) rfl ?_
    refine RunD.load (v := .int .i64 pa) hn3 rfl (ow3.all.cell1 (k := 2) rfl rfl) rfl ?_
    refine RunD.pure hn3 rfl rfl (fun _ => rfl) rfl ?_
    refine RunD.load (v := .int .i64 ro) hn3 rfl (ow3.all.cell1 (k := 3) rfl rfl) rfl ?_
    refine RunD.pure hn3 rfl rfl (fun _ => rfl) rfl ?_
    refine RunD.load (v := .int .i64 sz) hn3 rfl (ow3.all.cell1 (k := 4) rfl rfl) rfl ?_
    refine RunD.pure hn3 rfl rfl (fun _ => rfl) rfl ?_
    refine RunD.load (v := .int .i64 ki) hn3 rfl (ow3.all.cell1 (k := 5) rfl rfl) rfl ?_
    refine RunD.pure hn3 rfl rfl (fun _ => rfl) rfl ?_
    refine RunD.load (v := .int .i64 fr) hn3 rfl (ow3.all.cell1 (k := 6) rfl rfl) rfl ?_
    refine RunD.pure hn3 rfl rfl (fun _ => rfl) rfl ?_
    refine RunD.load (v := .int .i64 di) hn3 rfl (ow3.all.cell1 (k := 7) rfl rfl) rfl ?_
    refine RunD.one (h1 := (h3.lo h3.next).push ⟨is [n, id, pa, ro, sz, ki, fr, di], true⟩) rfl rfl (fun _ => rfl) hn3 rfl ?_
    have ow4 := Ow.push (h3.lo h3.next) (is [n, id, pa, ro, sz, ki, fr, di])
    have f4 : Fr no h3 ((h3.lo h3.next).push ⟨is [n, id, pa, ro, sz, ki, fr, di], true⟩) := ⟨Nat.le_succ _, (Fr.push no (h3.lo h3.next) _).get, fun l a b c => b⟩
    have owf4 := owf.fr f4 (fun g => g)
    generalize (h3.lo h3.next).push ⟨is [n, id, pa, ro, sz, ki, fr, di], true⟩ = h4 at *
    refine RunD.callD (superMake_ok (h := h4.lo h4.next) (mb := rMag) (fl := rLay) (nums := [n, id, pa, ro, sz, ki, fr, di]) rfl rfl owf4.all ow4.all rfl (by decide) (by decide)) rfl rfl rfl ?_
    rintro v h5 ⟨b, hb, rfl, ow5, hf5⟩
    have hn4 : min h2.low h2.next ≤ h4.next := Nat.le_trans hn3 f4.next
    refine ⟨hf5.from hn4 (fun _ g => g.elim), ?_⟩
    rw [hf5.quietB]
    have hn5 : min h2.low h2.next ≤ h5.next := Nat.le_trans hn4 hf5.next
    refine RunD.pure hn5 rfl rfl (fun _ => rfl) rfl ?_
    refine RunD.pure hn5 rfl rfl (fun _ => rfl) rfl ?_
    refine RunD.nil ⟨rfl, fun lw hlw => ?_⟩
    refine RunC.ret ⟨_, rfl, ?_, .inl ⟨rfl, b, ?_, rfl, ow5⟩⟩
    · exact ((f2.fg0.same hf3.fg).same (f4.fg0.same hf5.fg)).close (fun l h1 h2 h3 => Nat.le_trans (Nat.le_min.2 ⟨f2.low l h1 h2 h3, Nat.le_trans h2 f2.next⟩) hlw)
    · exact Nat.le_trans (Nat.le_trans f2.next (Nat.le_trans hf3.next f4.next)) hb
/-- The numbers of a record's block. -/
def rNum (l : List Int) (i : Nat) : Int := (numsB rLay l).getD i 0
def rOkL (l : List Int) : Bool := recOk (rNum l 0) (rNum l 1) (rNum l 2) (rNum l 3) (rNum l 4) (rNum l 5) (rNum l 6) (rNum l 7)
def rCode (l : List Int) : Int := if readB rMag rLay l = 0 then (if rOkL l then 0 else 1) else readB rMag rLay l
def rCells (l : List Int) : List Value := if rCode l = 0 then rc (rNum l 0) (rNum l 1) (rNum l 2) (rNum l 3) (rNum l 4) (rNum l 5) (rNum l 6) (rNum l 7) else rc 0 0 0 0 0 0 0 0
theorem recParse_ok {h : Heap} {A : Option Addr} {c : Nat} {l : List Int} (ra : l.length = 64 → ∃ a, A = some a ∧ Rd h a (us l)) (hb : Byt l) (hc : Cp 1 l.length c) :
    RunF prog 29 [.slice A l.length c] h fun v h' => v = .tuple #[.agg ⟨rCells l⟩, .int .i64 (rCode l)] ∧ Fr no h h' := by
  refine RunF.walk func29 rfl rfl ?_
  refine RunC.seq (RunC.region (RunO.all (h1 := h.push ⟨rc 0 0 0 0 0 0 0 0, true⟩) rfl ?_))
  have ow : Ow (h.push ⟨rc 0 0 0 0 0 0 0 0, true⟩) h.next (rc 0 0 0 0 0 0 0 0) := Ow.push _ _
  have f1 : Fr no h (h.push ⟨rc 0 0 0 0 0 0 0 0, true⟩) := Fr.push _ _ _
  generalize h.push ⟨rc 0 0 0 0 0 0 0 0, true⟩ = h1 at *
  refine RunC.seq (RunC.region (RunO.part 1 rfl ?_))
  refine RunO.callD recLay_ok rfl rfl rfl ?_
  rintro v h2 ⟨hr, hf2⟩
  have ow2 := ow.fr hf2 (fun g => g)
  have f2 := f1.same hf2
  obtain ⟨bf, hbf, rfl, owf⟩ := rowOut hr (by decide)
  refine RunO.callD (superRead_ok (mb := rMag) (mg := ⟨#[83, 78, 65, 80]⟩) (fl := rLay) rfl (fun e => (ra e).imp (fun a x => ⟨x.1, x.2.fr f2 (fun g => g)⟩)) hb owf.all (by decide) (by decide) hc) rfl rfl rfl ?_
  rintro v h3 ⟨o, rfl, hk0, hk1, hf3⟩
  have ow3 := ow2.fr hf3 (fun g => g)
  have f3 := f2.same hf3
  refine RunO.all rfl ?_
  by_cases hr : readB rMag rLay l = 0
  case neg =>
    have hcode : rCode l = readB rMag rLay l := if_neg hr
    have hcells : rCells l = rc 0 0 0 0 0 0 0 0 := if_neg (by rw [hcode]; exact hr)
    rw [hcells, hcode]
    generalize readB rMag rLay l = r at *
    refine RunC.seq (RunC.seq (RunC.region (RunO.all rfl ?_)))
    rw [show (r != 0) = true by simpa using hr]
    refine RunC.cond rfl (fun _ => ?_) (fun g => by cases g)
    refine RunC.seq (RunC.region (RunO.part 2 rfl ?_))
    refine RunO.store rfl rfl (store_ow (s := 8) ow3 rfl rfl rfl (by decide)) ?_
    refine RunO.all rfl ?_
    refine RunC.ret ⟨_, eresults_cell rfl ((Ow.put (cs := rc 0 0 0 0 0 0 0 0) ow3.1).all.part (k := 0) rfl) rfl, rfl, ?_⟩
    exact f3.trans (Fr.put (m := (· = h.next)) _ (.inl rfl)) (fun j hj => .inr (by omega))
  rw [hr]
  have hrow := hk0 hr
  obtain ⟨bn, hbn, rfl, own⟩ := rowOut hrow (by decide)
  have hcode : rCode l = if rOkL l then 0 else 1 := if_pos hr
  have hcells : rCells l = if rCode l = 0 then rc (rNum l 0) (rNum l 1) (rNum l 2) (rNum l 3) (rNum l 4) (rNum l 5) (rNum l 6) (rNum l 7) else rc 0 0 0 0 0 0 0 0 := rfl
  unfold rOkL at hcode
  change Ow h3 bn (is [rNum l 0, rNum l 1, rNum l 2, rNum l 3, rNum l 4, rNum l 5, rNum l 6, rNum l 7]) at own
  change RunC _ _ _ (upd (upd (upd (upd _ 11 (.slice (some ⟨bn, 0, none⟩) 8 (unkc 1))) 12 (.int .i64 0)) 4 (.slice (some ⟨bn, 0, none⟩) 8 (unkc 1))) 5 (.int .i64 0)) _ _ _ _
  refine RunC.seq (RunC.seq (RunC.region (RunO.all rfl ?_)))
  refine RunC.cond rfl (fun g => by cases g) (fun _ => RunC.skip ?_)
  generalize rNum l 0 = n0 at *
  generalize rNum l 1 = n1 at *
  generalize rNum l 2 = n2 at *
  generalize rNum l 3 = n3 at *
  generalize rNum l 4 = n4 at *
  generalize rNum l 5 = n5 at *
  generalize rNum l 6 = n6 at *
  generalize rNum l 7 = n7 at *
  refine RunC.seq (RunC.draw0 rfl (RunO.part 1 rfl ?_))
  refine RunO.index (s := 1) (k := 0) rfl rfl rfl rfl (by decide) rfl ?_
  refine RunO.load (v := .int .i64 n0) rfl (own.all.cell1 (k := 0) rfl rfl) rfl ?_
  refine RunO.part 1 rfl ?_
  refine RunO.index (s := 1) (k := 1) rfl rfl rfl rfl (by decide) rfl ?_
  refine RunO.load (v := .int .i64 n1) rfl (own.all.cell1 (k := 1) rfl rfl) rfl ?_
  refine RunO.part 1 rfl ?_
  refine RunO.index (s := 1) (k := 2) rfl rfl rfl rfl (by decide) rfl ?_
  refine RunO.load (v := .int .i64 n2) rfl (own.all.cell1 (k := 2) rfl rfl) rfl ?_
  refine RunO.part 1 rfl ?_
  refine RunO.index (s := 1) (k := 3) rfl rfl rfl rfl (by decide) rfl ?_
  refine RunO.load (v := .int .i64 n3) rfl (own.all.cell1 (k := 3) rfl rfl) rfl ?_
  refine RunO.part 1 rfl ?_
  refine RunO.index (s := 1) (k := 4) rfl rfl rfl rfl (by decide) rfl ?_
  refine RunO.load (v := .int .i64 n4) rfl (own.all.cell1 (k := 4) rfl rfl) rfl ?_
  refine RunO.part 1 rfl ?_
  refine RunO.index (s := 1) (k := 5) rfl rfl rfl rfl (by decide) rfl ?_
  refine RunO.load (v := .int .i64 n5) rfl (own.all.cell1 (k := 5) rfl rfl) rfl ?_
  refine RunO.part 1 rfl ?_
  refine RunO.index (s := 1) (k := 6) rfl rfl rfl rfl (by decide) rfl ?_
  refine RunO.load (v := .int .i64 n6) rfl (own.all.cell1 (k := 6) rfl rfl) rfl ?_
  refine RunO.part 1 rfl ?_
  refine RunO.index (s := 1) (k := 7) rfl rfl rfl rfl (by decide) rfl ?_
  refine RunO.load (v := .int .i64 n7) rfl (own.all.cell1 (k := 7) rfl rfl) rfl ?_
  refine RunO.part 2 (h1 := h3.push ⟨rc 0 0 0 0 0 0 0 0, true⟩) rfl ?_
  refine RunO.store rfl rfl (store_ow (s := 8) (Ow.push h3 (rc 0 0 0 0 0 0 0 0)) rfl rfl rfl (by decide)) (RunO.nil ?_)
  change RunC _ _ _ _ ((h3.push ⟨rc 0 0 0 0 0 0 0 0, true⟩).put h3.next (some ⟨rc n0 n1 n2 n3 n4 n5 n6 n7, true⟩)) _ _ _
  have ow4 : Ow ((h3.push ⟨rc 0 0 0 0 0 0 0 0, true⟩).put h3.next (some ⟨rc n0 n1 n2 n3 n4 n5 n6 n7, true⟩)) h3.next (rc n0 n1 n2 n3 n4 n5 n6 n7) := Ow.put _ (Nat.lt_succ_self _)
  have f4 : Fr no h3 ((h3.push ⟨rc 0 0 0 0 0 0 0 0, true⟩).put h3.next (some ⟨rc n0 n1 n2 n3 n4 n5 n6 n7, true⟩)) := (Fr.push _ _ _).trans (Fr.put (m := (· = h3.next)) _ (.inl rfl)) (fun j hj => .inr (by omega))
  generalize (h3.push ⟨rc 0 0 0 0 0 0 0 0, true⟩).put h3.next (some ⟨rc n0 n1 n2 n3 n4 n5 n6 n7, true⟩) = h4 at *
  have ow34 := ow3.fr f4 (fun g => g)
  have f5 := f3.same f4
  refine RunC.seq (RunC.region ?_)
  refine RunO.load (v := .agg ⟨rc n0 n1 n2 n3 n4 n5 n6 n7⟩) rfl (ow4.all.part (k := 0) rfl) rfl ?_
  refine RunO.callD recCheck_ok rfl rfl rfl ?_
  rintro v h5 ⟨rfl, hf5⟩
  have ow5 := ow34.fr hf5 (fun g => g)
  have owx := ow4.fr hf5 (fun g => g)
  have f6 := f5.same hf5
  refine RunO.all rfl ?_
  rw [hcells, hcode]
  cases recOk n0 n1 n2 n3 n4 n5 n6 n7 with
  | false =>
    refine RunC.seq (RunC.seq (RunC.region (RunO.all rfl (RunC.cond rfl (fun _ => ?_) (fun g => by cases g)))))
    refine RunC.seq (RunC.region (RunO.part 2 rfl ?_))
    refine RunO.store rfl rfl (store_ow (s := 8) ow5 rfl rfl rfl (by decide)) ?_
    refine RunO.all rfl ?_
    refine RunC.ret ⟨_, eresults_cell rfl ((Ow.put (cs := rc 0 0 0 0 0 0 0 0) ow5.1).all.part (k := 0) rfl) rfl, rfl, ?_⟩
    exact f6.trans (Fr.put (m := (· = h.next)) _ (.inl rfl)) (fun j hj => .inr (by omega))
  | true =>
    refine RunC.seq (RunC.seq (RunC.region (RunO.all rfl (RunC.cond rfl (fun g => by cases g) (fun _ => RunC.skip ?_)))))
    refine RunC.seq (RunC.region ?_)
    refine RunO.load (v := .agg ⟨rc n0 n1 n2 n3 n4 n5 n6 n7⟩) rfl (owx.all.part (k := 0) rfl) rfl ?_
    refine RunO.store rfl rfl (store_ow (s := 8) ow5 rfl rfl rfl (by decide)) ?_
    refine RunO.all rfl ?_
    refine RunC.ret ⟨_, eresults_cell rfl ((Ow.put (cs := rc n0 n1 n2 n3 n4 n5 n6 n7) ow5.1).all.part (k := 0) rfl) rfl, rfl, ?_⟩
    exact f6.trans (Fr.put (m := (· = h.next)) _ (.inl rfl)) (fun j hj => .inr (by omega))
end Go.Proofs.Ytbinkbdfoalbcaa
end
section
set_option linter.unusedVariables false
set_option maxRecDepth 100000
open Go Go.Am Go.RowKit
namespace Go.Proofs.Ytbinkbdfoalbcaa
open Go.Proofs.Try
theorem rec_aeq (n id pa ro sz ki fr di n' id' pa' ro' sz' ki' fr' di' : Int) : aequal prog 41 (.agg ⟨rc n id pa ro sz ki fr di⟩) (.agg ⟨rc n' id' pa' ro' sz' ki' fr' di'⟩) = some (n == n' && (id == id' && (pa == pa' && (ro == ro' && (sz == sz' && (ki == ki' && (fr == fr' && (di == di')))))))) := by
  have h : aequal prog 41 (.agg ⟨rc n id pa ro sz ki fr di⟩) (.agg ⟨rc n' id' pa' ro' sz' ki' fr' di'⟩) = (match some (n == n') with
    | some true => (match some (id == id') with
    | some true => (match some (pa == pa') with
    | some true => (match some (ro == ro') with
    | some true => (match some (sz == sz') with
    | some true => (match some (ki == ki') with
    | some true => (match some (fr == fr') with
    | some true => (match some (di == di') with
    | some true => some true
    | some false => some false
    | none => none)
    | some false => some false
    | none => none)
    | some false => some false
    | none => none)
    | some false => some false
    | none => none)
    | some false => some false
    | none => none)
    | some false => some false
    | none => none)
    | some false => some false
    | none => none)
    | some false => some false
    | none => none) := by kernel_rfl
  rw [h]
  cases (n == n') <;> cases (id == id') <;> cases (pa == pa') <;> cases (ro == ro') <;> cases (sz == sz') <;> cases (ki == ki') <;> cases (fr == fr') <;> cases (di == di') <;> rfl
theorem rec_eq (n id pa ro sz ki fr di n' id' pa' ro' sz' ki' fr' di' : Int) : abinop prog .eql 41 (.agg ⟨rc n id pa ro sz ki fr di⟩) (.agg ⟨rc n' id' pa' ro' sz' ki' fr' di'⟩) = some (.bool (n == n' && (id == id' && (pa == pa' && (ro == ro' && (sz == sz' && (ki == ki' && (fr == fr' && (di == di'))))))))) := by
  show eqOp .eql (aequal prog 41 (.agg ⟨rc n id pa ro sz ki fr di⟩) (.agg ⟨rc n' id' pa' ro' sz' ki' fr' di'⟩)) = _
  rw [rec_aeq]; rfl
theorem rec_ne (n id pa ro sz ki fr di n' id' pa' ro' sz' ki' fr' di' : Int) : abinop prog .neq 41 (.agg ⟨rc n id pa ro sz ki fr di⟩) (.agg ⟨rc n' id' pa' ro' sz' ki' fr' di'⟩) = some (.bool (!(n == n' && (id == id' && (pa == pa' && (ro == ro' && (sz == sz' && (ki == ki' && (fr == fr' && (di == di')))))))))) := by
  show eqOp .neq (aequal prog 41 (.agg ⟨rc n id pa ro sz ki fr di⟩) (.agg ⟨rc n' id' pa' ro' sz' ki' fr' di'⟩)) = _
  rw [rec_aeq]; rfl
theorem ptrB_b {n : Int} (h : ptrB n = true) : 0 ≤ n ∧ n < 4096 := by
  unfold ptrB at h; simp at h; omega
theorem idB_b {n : Int} (h : idB n = true) : 1 ≤ n ∧ n ≤ 4611686018427387903 := by
  unfold idB at h; simp at h; omega
theorem rec_fits {n id pa ro sz ki fr di : Int} (h : recOk n id pa ro sz ki fr di = true) : Fits rSiz [n, id, pa, ro, sz, ki, fr, di] := by
  have hb : (ptrB n = true ∧ ptrB ro = true ∧ parB id pa = true ∧ inB sz 0 512 = true) ∧ (0 ≤ ki ∧ ki ≤ 1) ∧ (0 ≤ fr ∧ fr ≤ 65535) ∧ (0 ≤ di ∧ di ≤ 4294967295) := by
    unfold recOk at h
    split at h
    · unfold recIs at h
      simp only [Bool.and_eq_true, beq_iff_eq] at h
      obtain ⟨⟨⟨⟨⟨h1, h2⟩, h3⟩, h4⟩, h5⟩, h6⟩ := h
      exact ⟨⟨h1, h2, h3, h4⟩, by omega, by omega, by omega⟩
    · split at h
      · unfold recIs at h
        simp only [Bool.and_eq_true, inB_iff] at h
        obtain ⟨⟨⟨⟨⟨h1, h2⟩, h3⟩, h4⟩, h5⟩, h6⟩ := h
        exact ⟨⟨h1, h2, h3, (inB_iff _ _ _).2 h4⟩, by omega, by omega, by omega⟩
      · cases h
  obtain ⟨⟨h1, h2, h3, h4⟩, h5, h6, h7⟩ := hb
  have b1 := ptrB_b h1
  have b2 := ptrB_b h2
  have b4 := (inB_iff _ _ _).1 h4
  unfold parB at h3
  simp only [Bool.and_eq_true, Bool.or_eq_true, beq_iff_eq] at h3
  have b3 := idB_b h3.1
  have b5 : 0 ≤ pa ∧ pa ≤ 4611686018427387903 := by
    rcases h3.2.2 with e | e
    · omega
    · have := idB_b e; omega
  have e8 : (256 : Int) ^ 8 = 18446744073709551616 := by decide
  have e4 : (256 : Int) ^ 4 = 4294967296 := by decide
  exact ⟨⟨by omega, by rw [e4]; omega, by omega⟩, ⟨by omega, by rw [e8]; omega, by omega⟩, ⟨by omega, by rw [e8]; omega, by omega⟩, ⟨by omega, by rw [e4]; omega, by omega⟩, ⟨by omega, by rw [e4]; omega, by omega⟩, ⟨by omega, by rw [e4]; omega, by omega⟩, ⟨by omega, by rw [e4]; omega, by omega⟩, ⟨by omega, by rw [e4]; omega, by omega⟩, trivial⟩
theorem recBlock_len (n id pa ro sz ki fr di : Int) : (recBlock n id pa ro sz ki fr di).length = 64 := makeB_len rfl rfl (by decide)
theorem recBlock_byt (n id pa ro sz ki fr di : Int) : Byt (recBlock n id pa ro sz ki fr di) := makeB_byt (by unfold Byt; decide) rfl rfl (by decide)
theorem rec_back {n id pa ro sz ki fr di : Int} (h : recOk n id pa ro sz ki fr di = true) : rCode (recBlock n id pa ro sz ki fr di) = 0 ∧ rCells (recBlock n id pa ro sz ki fr di) = rc n id pa ro sz ki fr di := by
  obtain ⟨h1, h2⟩ := read_make (mb := rMag) rfl (rec_fits h) (by decide)
  have h1 : readB rMag rLay (recBlock n id pa ro sz ki fr di) = 0 := h1
  have h2 : numsB rLay (recBlock n id pa ro sz ki fr di) = [n, id, pa, ro, sz, ki, fr, di] := h2
  have hc : rCode (recBlock n id pa ro sz ki fr di) = 0 := by
    unfold rCode rOkL rNum
    rw [if_pos h1, h2]
    show (if recOk n id pa ro sz ki fr di = true then (0 : Int) else 1) = 0
    rw [h]; rfl
  refine ⟨hc, ?_⟩
  unfold rCells rNum
  rw [if_pos hc, h2]
  rfl
theorem rCells_ex (l : List Int) : ∃ a0 a1 a2 a3 a4 a5 a6 a7, rCells l = rc a0 a1 a2 a3 a4 a5 a6 a7 := by
  unfold rCells
  split
  · exact ⟨_, _, _, _, _, _, _, _, rfl⟩
  · exact ⟨_, _, _, _, _, _, _, _, rfl⟩
end Go.Proofs.Ytbinkbdfoalbcaa
end
section
set_option linter.unusedVariables false
set_option maxRecDepth 100000
open Go Go.Am
namespace Go.Proofs.Ytbinkbdfoalbcaa
open Go.Proofs.Try
theorem refIn_ok {h : Heap} {a lo hi : Int} : RunF prog 50 [.int .i64 a, .int .i64 lo, .int .i64 hi] h fun v h' => v = .bool (inB a lo hi) ∧ h = h' := by
  refine RunF.walk func50 rfl rfl ?_
  refine RunC.seq (RunC.region (RunO.all rfl ?_))
  refine RunC.seq (RunC.region (RunO.part 4 rfl ?_))
  unfold inB
  cases decide (a ≥ lo) with
  | true => exact RunO.all rfl (RunC.ret ⟨_, rfl, by simp, rfl⟩)
  | false => exact RunO.all rfl (RunC.ret ⟨_, rfl, by simp, rfl⟩)
theorem refLink_ok {h : Heap} {a b : Int} : RunF prog 110 [.int .i64 a, .int .i64 b] h fun v h' => v = .bool (a == 0 || inB a 2 (fwrap .i64 (b - 1))) ∧ h = h' := by
  refine RunF.walk func110 rfl rfl ?_
  refine RunC.seq (RunC.region (RunO.all rfl ?_))
  refine RunC.seq (RunC.region (RunO.part 3 rfl ?_))
  cases (a == 0) with
  | true => exact RunO.all rfl (RunC.ret ⟨_, rfl, rfl, rfl⟩)
  | false =>
    refine RunO.part 3 rfl ?_
    refine RunO.callDG rfl refIn_ok rfl rfl rfl ?_
    rintro _ _ ⟨rfl, rfl⟩
    exact RunO.all rfl (RunC.ret ⟨_, rfl, rfl, rfl⟩)
theorem leN_drop_le : ∀ {l : List Int}, Byt l → ∀ i, leN (l.drop i) ≤ leN l
  | [], _, i => by simp
  | x :: t, h, 0 => by simp
  | x :: t, h, i + 1 => by
    have ht : Byt t := fun y hy => h y (List.mem_cons_of_mem _ hy)
    have h1 := leN_drop_le ht i
    have h2 := (leN_bound ht).1
    have h3 := (h x (List.mem_cons_self ..)).1
    show leN (t.drop i) ≤ x + 256 * leN t
    omega
def leNum (l : List Int) : Int × Bool := if leN l > 4611686018427387903 then (0, false) else (leN l, true)
theorem refNumber_ok {h : Heap} {v : Value} {l : List Int} (sl : Sl h v 1 l.length (us l)) (hb : Byt l) (hm : l.length ≤ 4611686018427387904) :
    RunF prog 109 [v] h fun r h' => r = .tuple #[.int .i64 (leNum l).1, .bool (leNum l).2] ∧ h = h' := by
  refine RunF.walk func109 rfl rfl ?_
  obtain ⟨A, c, rfl, hc, _⟩ := sl.form
  refine RunC.seq (RunC.region (RunO.all rfl ?_))
  refine RunC.seq (RunC.region (RunO.all rfl ?_))
  refine RunC.seq (RunC.seq (RunC.region (RunO.all rfl ?_)))
  rw [fw64 (by omega) (by omega)]
  refine RunC.block ?_
  let I : Nat → Env → Heap → Prop := fun k E h' => k ≤ l.length ∧ leN (l.drop k) ≤ 4611686018427387903 ∧ h = h' ∧ Le (upd (upd (upd E0 0 (.slice A l.length c)) 4 (.int .i64 (leN (l.drop k)))) 5 (.int .i64 ((k : Int) - 1))) E
  refine RunC.loop I ?_ (k := l.length) ?_
  · rintro k E h' ⟨hk, hN, rfl, hE⟩
    refine RunC.le hE ?_
    clear hE
    refine RunC.seq (RunC.seq (RunC.region (RunO.all rfl ?_)))
    refine RunC.cond rfl (fun hlt => ?_) (fun hge => ?_)
    · have hlt := of_decide_eq_true hlt
      obtain ⟨i, rfl⟩ : ∃ i, k = i + 1 := ⟨k - 1, by omega⟩
      have hi : i < l.length := by omega
      have hx := hb.get hi
      have hd : l.drop i = l[i] :: l.drop (i + 1) := List.drop_eq_getElem_cons hi
      have hdb : 0 ≤ leN (l.drop (i + 1)) := (leN_bound (fun x hx => hb x (List.mem_of_mem_drop hx))).1
      have hle := leN_drop_le hb i
      have hdN : leN (l.drop i) = l[i] + 256 * leN (l.drop (i + 1)) := by rw [hd]; rfl
      rw [show (((i + 1 : Nat) : Int) - 1) = (i : Int) by omega]
      rw [hdN] at hle
      generalize leN (l.drop (i + 1)) = N at *
      refine RunC.skip ?_
      refine RunC.seq (RunC.block ?_)
      refine RunC.seq (RunC.seq (RunC.region (RunO.part 3 rfl ?_)))
      refine RunO.at (s := 1) (u := .int .u8 l[i]) rfl rfl sl rfl rfl hi (by show nth (us l) (i * 1) = _; rw [Nat.mul_one]; exact us_nth hi) rfl rfl rfl ?_
      refine RunO.part 1 rfl ?_
      rw [fw64 (x := l[i]) (by omega) (by omega)]
      refine RunO.part 2 rfl ?_
      rw [fw64 (x := 4611686018427387903 - l[i]) (by omega) (by omega), Int.tdiv_eq_ediv_of_nonneg (by omega), fw64 (by omega) (by omega)]
      refine RunO.all rfl ?_
      refine RunC.cond rfl (fun hgt => ?_) (fun hng => ?_)
      · have hgt := of_decide_eq_true hgt
        have e : leNum l = (0, false) := by unfold leNum; rw [if_pos (by omega)]
        rw [e]
        exact RunC.seq (RunC.region (RunO.all rfl (RunC.ret ⟨_, rfl, rfl, rfl⟩)))
      · have hng := of_decide_eq_false hng
        refine RunC.skip (RunC.region (RunO.part 2 rfl ?_))
        rw [fw64 (x := 256 * N) (by omega) (by omega)]
        refine RunO.part 2 rfl ?_
        refine RunO.at (s := 1) (u := .int .u8 l[i]) rfl rfl sl rfl rfl hi (by show nth (us l) (i * 1) = _; rw [Nat.mul_one]; exact us_nth hi) rfl rfl rfl ?_
        refine RunO.part 1 rfl ?_
        rw [fw64 (x := l[i]) (by omega) (by omega)]
        refine RunO.all rfl (RunC.region (RunO.all rfl ?_))
        rw [fw64 (x := 256 * N + l[i]) (by omega) (by omega), fw64 (x := (i : Int) - 1) (by omega) (by omega)]
        refine ⟨i, by omega, by omega, by omega, rfl, Le.cons rfl (Le.cons ?_ (Le.cons rfl (Le.nil _)))⟩
        rw [hdN, Int.add_comm]; rfl
    · have hge := of_decide_eq_false hge
      refine RunC.exit ?_
      obtain rfl : k = 0 := by omega
      rw [List.drop_zero] at hN
      have e : leNum l = (leN l, true) := by unfold leNum; rw [if_neg (by omega)]
      rw [e]
      exact RunC.seq (RunC.region (RunO.all rfl (RunC.ret ⟨_, rfl, rfl, rfl⟩)))
  · refine ⟨Nat.le_refl _, by rw [List.drop_length]; decide, rfl, Le.cons rfl (Le.cons ?_ (Le.cons rfl (Le.nil _)))⟩
    rw [List.drop_length]; rfl
theorem rdPart {h : Heap} {b o : Nat} {l : List Int} {k m : Nat} (rd : Rd h ⟨b, o, none⟩ (us l)) (hi : k + m ≤ l.length) : Rd h ⟨b, o + k * 1, none⟩ (us ((l.drop k).take m)) := by
  obtain ⟨h1, h2, ob, ho, he⟩ := rd
  refine ⟨rfl, h2, ob, ho, ?_⟩
  have hl := congrArg List.length he
  rw [List.length_take, List.length_drop, us_len] at hl
  simp only at hl he ⊢
  have e : us ((l.drop k).take m) = ((us l).drop k).take m := by unfold us; rw [List.map_take, List.map_drop]
  have hlen : (us ((l.drop k).take m)).length = m := by rw [us_len, List.length_take, List.length_drop]; omega
  rw [hlen, e, Nat.mul_one]
  apply List.ext_getElem?
  intro j
  rw [List.getElem?_take, List.getElem?_take]
  split
  · rename_i hj
    rw [List.getElem?_drop, List.getElem?_drop]
    conv => rhs; rw [← he]
    rw [us_len, List.getElem?_take, if_pos (by omega), List.getElem?_drop]
    congr 1; omega
  · rfl
theorem sl_part {h : Heap} {v : Value} {l : List Int} (sl : Sl h v 1 l.length (us l)) {k m : Nat} (hk : k < m) (hm : m ≤ l.length) (ik jk : IntKind) :
    ∃ v', aslice prog 22 v (some (.int ik (k : Int))) (some (.int jk (m : Int))) none = some v' ∧ Sl h v' 1 ((l.drop k).take (m - k)).length (us ((l.drop k).take (m - k))) := by
  obtain ⟨b, o, c, rfl, hc, rd⟩ := sl.nz (by omega)
  obtain ⟨c', h1, h2⟩ := slice_mid (P := prog) (t := 22) (b := b) (o := o) (ik := ik) (jk := jk) rfl rfl hc hk hm
  have hl : ((l.drop k).take (m - k)).length = m - k := by rw [List.length_take, List.length_drop]; omega
  refine ⟨_, h2, ?_⟩
  rw [hl]
  refine Rd.sl (rdPart rd (k := k) (m := m - k) (by omega)) (by rw [us_len, hl]; omega) (by have := sl.2.1; omega) h1
theorem refGet4_ok {h : Heap} {v : Value} {l : List Int} {k : Nat} (sl : Sl h v 1 l.length (us l)) (hb : Byt l) (hk : k + 4 ≤ l.length) (hm : l.length ≤ 4611686018427387904) :
    RunF prog 78 [v, .int .i64 (k : Int)] h fun r h' => r = .int .i64 (leGet l k 4).1 ∧ h = h' := by
  refine RunF.walk func78 rfl rfl ?_
  refine RunC.seq (RunC.region (RunO.all rfl ?_))
  refine RunC.seq (RunC.region (RunO.part 4 rfl ?_))
  rw [fw64 (x := (k : Int) + 4) (by omega) (by omega), show (k : Int) + 4 = ((k + 4 : Nat) : Int) by omega]
  obtain ⟨v', h1, h2⟩ := sl_part sl (k := k) (m := k + 4) (by omega) hk .i64 .i64
  rw [show k + 4 - k = 4 by omega] at h2
  refine RunO.one (v := v') (h1 := h) rfl (by show pureR h _ = _; exact congrArg (pureR h) h1) rfl ?_
  have hl : ((l.drop k).take 4).length = 4 := by rw [List.length_take, List.length_drop]; omega
  refine RunO.callD (refNumber_ok h2 (hb.part k 4) (by omega)) rfl rfl rfl ?_
  rintro _ _ ⟨rfl, rfl⟩
  refine RunO.all rfl ?_
  refine RunC.seq (RunC.region (RunO.all rfl (RunC.ret ⟨_, rfl, ?_, rfl⟩)))
  unfold leNum leGet
  split <;> rfl
theorem refGet8_ok {h : Heap} {v : Value} {l : List Int} {k : Nat} (sl : Sl h v 1 l.length (us l)) (hb : Byt l) (hk : k + 8 ≤ l.length) (hm : l.length ≤ 4611686018427387904) :
    RunF prog 77 [v, .int .i64 (k : Int)] h fun r h' => r = .tuple #[.int .i64 (leGet l k 8).1, .bool ((leGet l k 8).2 == 0)] ∧ h = h' := by
  refine RunF.walk func77 rfl rfl ?_
  refine RunC.seq (RunC.region (RunO.all rfl ?_))
  refine RunC.seq (RunC.region (RunO.part 4 rfl ?_))
  rw [fw64 (x := (k : Int) + 8) (by omega) (by omega), show (k : Int) + 8 = ((k + 8 : Nat) : Int) by omega]
  obtain ⟨v', h1, h2⟩ := sl_part sl (k := k) (m := k + 8) (by omega) hk .i64 .i64
  rw [show k + 8 - k = 8 by omega] at h2
  refine RunO.one (v := v') (h1 := h) rfl (by show pureR h _ = _; exact congrArg (pureR h) h1) rfl ?_
  have hl : ((l.drop k).take 8).length = 8 := by rw [List.length_take, List.length_drop]; omega
  refine RunO.callD (refNumber_ok h2 (hb.part k 8) (by omega)) rfl rfl rfl ?_
  rintro _ _ ⟨rfl, rfl⟩
  refine RunO.all rfl (RunC.ret ⟨_, rfl, ?_, rfl⟩)
  unfold leNum leGet
  split <;> rfl
theorem zerosN_cut {l : List Int} {k i m : Nat} (hk : k ≤ i) (him : i < m) (hm : m ≤ l.length) (h : ((l.drop k).take (i - k)).all (· == 0) = true) (hx : l[i] ≠ 0) : zerosN l k m = false := by
  unfold zerosN
  rw [List.all_eq_false]
  refine ⟨l[i], ?_, by simpa using hx⟩
  rw [List.mem_iff_getElem]
  refine ⟨i - k, by rw [List.length_take, List.length_drop]; omega, ?_⟩
  rw [List.getElem_take, List.getElem_drop]
  congr 1; omega
theorem refZeros_ok {h : Heap} {v : Value} {l : List Int} {k m : Nat} (sl : Sl h v 1 l.length (us l)) (hk : k ≤ m) (hml : m ≤ l.length) (hm : l.length ≤ 4611686018427387904) :
    RunF prog 80 [v, .int .i64 (k : Int), .int .i64 (m : Int)] h fun r h' => r = .bool (zerosN l k m) ∧ h = h' := by
  refine RunF.walk func80 rfl rfl ?_
  obtain ⟨A, c, rfl, hc, _⟩ := sl.form
  refine RunC.seq (RunC.region (RunO.all rfl ?_))
  refine RunC.seq (RunC.seq (RunC.region (RunO.part 1 rfl ?_)))
  refine RunO.one (v := .int .i64 k) (h1 := h) rfl (by
    show some (Value.int .i64 (cond (decide ((0 : Int) > k)) 0 k), h) = _
    rw [decide_eq_false (by omega)]; rfl) rfl (RunO.all rfl ?_)
  refine RunC.block ?_
  let I : Nat → Env → Heap → Prop := fun d E h' => ∃ i, k ≤ i ∧ i + d = m ∧ ((l.drop k).take (i - k)).all (· == 0) = true ∧ h = h' ∧ Le (upd (upd (upd E0 0 (.slice A l.length c)) 2 (.int .i64 m)) 7 (.int .i64 (i : Int))) E
  refine RunC.loop I ?_ (k := m - k) ?_
  · rintro d E h' ⟨i, hi, hd, hz, rfl, hE⟩
    refine RunC.le hE ?_
    clear hE
    refine RunC.seq (RunC.seq (RunC.region (RunO.part 4 rfl ?_)))
    by_cases c1 : i < m
    · rw [show decide ((i : Int) < m) = true from decide_eq_true (by omega)]
      refine RunO.all rfl ?_
      rw [show decide ((i : Int) < l.length) = true from decide_eq_true (by omega)]
      refine RunC.cond rfl (fun _ => RunC.skip ?_) (fun g => by cases g)
      have hil : i < l.length := by omega
      refine RunC.seq (RunC.block ?_)
      refine RunC.seq (RunC.region (RunO.part 2 rfl ?_))
      refine RunO.at (s := 1) (u := .int .u8 l[i]) rfl rfl sl rfl rfl hil (by show nth (us l) (i * 1) = _; rw [Nat.mul_one]; exact us_nth hil) rfl rfl rfl ?_
      refine RunO.all rfl ?_
      refine RunC.cond rfl (fun hne => ?_) (fun heq => ?_)
      · have hne : l[i] ≠ 0 := by simpa using hne
        rw [zerosN_cut hi c1 hml hz hne]
        exact RunC.seq (RunC.region (RunO.all rfl (RunC.ret ⟨_, rfl, rfl, rfl⟩)))
      · have heq : l[i] = 0 := by simpa using heq
        refine RunC.skip (RunC.region (RunO.all rfl ?_))
        refine ⟨d - 1, by omega, i + 1, by omega, by omega, ?_, rfl, Le.cons (inc64 (by omega)) (Le.cons rfl (Le.cons rfl (Le.nil _)))⟩
        rw [show i + 1 - k = (i - k) + 1 by omega, take_drop_snoc (by omega), List.all_append, hz]
        have e : l[k + (i - k)]'(by omega) = 0 := by
          have : k + (i - k) = i := by omega
          simp only [this]; exact heq
        rw [e]; rfl
    · rw [show decide ((i : Int) < m) = false from decide_eq_false (by omega)]
      refine RunO.all rfl ?_
      refine RunC.cond rfl (fun g => by cases g) (fun _ => RunC.exit ?_)
      have him : i = m := by omega
      subst him
      rw [show zerosN l k i = true from hz]
      exact RunC.seq (RunC.region (RunO.all rfl (RunC.ret ⟨_, rfl, rfl, rfl⟩)))
  · exact ⟨k, Nat.le_refl _, by omega, by rw [Nat.sub_self]; rfl, rfl, Le.cons rfl (Le.cons rfl (Le.cons rfl (Le.nil _)))⟩
end Go.Proofs.Ytbinkbdfoalbcaa
end
section
set_option linter.unusedVariables false
set_option maxRecDepth 100000
open Go Go.Am
namespace Go.Proofs.Ytbinkbdfoalbcaa
open Go.Proofs.Try
theorem us_app (a b : List Int) : us (a ++ b) = us a ++ us b := by unfold us; rw [List.map_append]
theorem refBytes_ok {h : Heap} {s : Nat} {v : Int} (hs : s ≤ 8) (h0 : 0 ≤ v) (hv : v ≤ 9223372036854775807) : RunF prog 48 [.int .i64 (s : Int), .int .i64 v] h fun r h' => Row h.next h' r 1 s (us (leB s v)) ∧ Fr no h h' := by
  refine RunF.walk func48 rfl rfl ?_
  refine RunC.seq (RunC.region (RunO.all rfl ?_))
  refine RunC.seq (RunC.region (RunO.all rfl ?_))
  refine RunC.seq (RunC.seq (RunC.region (RunO.all rfl ?_)))
  refine RunC.block ?_
  let I : Nat → Env → Heap → Prop := fun d E h' => ∃ (i : Nat) (w : Value), i + d = s ∧ Row h.next h' w 1 i (us (leB i v)) ∧ Fr (fun b => h.next ≤ b) h h' ∧ Le (upd (upd (upd (upd E0 0 (.int .i64 s)) 1 (.int .i64 (v / 256 ^ i))) 5 w) 6 (.int .i64 (i : Int))) E
  refine RunC.loop I ?_ (k := s) ?_
  · rintro d E h' ⟨i, w, hi, row, hf, hE⟩
    refine RunC.le hE ?_
    clear hE
    have hp : (0 : Int) < 256 ^ i := Int.pow_pos (by decide)
    have q0 : 0 ≤ v / 256 ^ i := Int.ediv_nonneg h0 (by omega)
    have q1 : v / 256 ^ i ≤ v := by
      have := Int.ediv_le_self (256 ^ i) h0
      exact this
    refine RunC.seq (RunC.seq (RunC.region (RunO.all rfl ?_)))
    refine RunC.cond rfl (fun hlt => ?_) (fun hge => ?_)
    · have hlt := of_decide_eq_true hlt
      refine RunC.skip ?_
      refine RunC.seq (RunC.block ?_)
      refine RunC.seq (RunC.region (RunO.part 3 rfl ?_))
      rw [Int.tmod_eq_emod_of_nonneg q0]
      refine RunO.part 1 rfl ?_
      rw [fwu8, Int.emod_emod_of_dvd _ (show (256 : Int) ∣ 256 from ⟨1, rfl⟩)]
      refine RunO.part 1 (h1 := h'.push ⟨us [v / 256 ^ i % 256], true⟩) rfl ?_
      have row1 := row.fr (m := no) (Fr.push no h' ⟨us [v / 256 ^ i % 256], true⟩) (fun _ _ _ g => g)
      have hf1 := hf.same (Fr.push _ h' ⟨us [v / 256 ^ i % 256], true⟩)
      have ob := Ow.push h' (us [v / 256 ^ i % 256])
      have hat : ∀ b, At w b → h.next ≤ b := fun b ha => (row.at ha).1
      generalize h'.push ⟨us [v / 256 ^ i % 256], true⟩ = h2 at *
      refine RunO.append (s := 1) (m := 1) rfl rfl rfl rfl rfl rfl rfl rfl (Nat.le_refl 1) row1 hf1.next ob.all rfl (Nat.le_refl 1) rfl (by show 2 * (i + 1) * 1 ≤ _; omega) (by omega) ?_
      intro w3 h3 row3 f3
      rw [← us_app, ← leB_snoc] at row3
      refine RunO.all rfl ?_
      refine RunC.region (RunO.part 2 rfl ?_)
      rw [Int.tdiv_eq_ediv_of_nonneg q0, Int.ediv_ediv_of_nonneg (by omega), ← Int.pow_succ, fw64 (x := v / 256 ^ (i + 1)) (by have := Int.ediv_nonneg h0 (show (0 : Int) ≤ 256 ^ (i + 1) from Int.le_of_lt (Int.pow_pos (by decide))); omega) (by have := Int.ediv_le_self (256 ^ (i + 1)) h0; omega)]
      refine RunO.all rfl ?_
      refine RunC.region (RunO.all rfl ?_)
      exact ⟨d - 1, by omega, i + 1, w3, by omega, row3, hf1.trans f3 (fun b g => .inl (hat b g)), Le.cons (inc64 (by omega)) (Le.cons rfl (Le.cons rfl (Le.cons rfl (Le.nil _))))⟩
    · have hge := of_decide_eq_false hge
      refine RunC.exit ?_
      have hi2 : i = s := by omega
      subst hi2
      refine RunC.seq (RunC.region (RunO.all rfl (RunC.ret ⟨_, rfl, row, frNo hf⟩)))
  · exact ⟨0, _, by omega, Row.nil _ _ _, Fr.refl _ _, Le.cons rfl (Le.cons rfl (Le.cons (by show some (Value.int .i64 v) = some (.int .i64 (v / 1)); rw [Int.ediv_one]) (Le.cons rfl (Le.nil _))))⟩
end Go.Proofs.Ytbinkbdfoalbcaa
namespace Go.Proofs.Ytbinkbdfoalbcaa.Crc
open Go.Proofs.Try
theorem rem32 (a : W) : abin .rem .u32 (nt a) .u32 2 = some (.int .u32 (nt a % 2)) := by
  show some (Value.int .u32 ((nt a).tmod 2)) = _
  rw [Int.tmod_eq_emod_of_nonneg (nt0 a)]
theorem quo32 (a : W) : abin .quo .u32 (nt a) .u32 2 = some (.int .u32 (nt (a >>> 1))) := by
  show some (Value.int .u32 (fwrap .u32 ((nt a).tdiv 2))) = _
  have h0 := nt0 a
  have h1 := nt1 a
  rw [Int.tdiv_eq_ediv_of_nonneg h0, fwu32]
  congr 2
  unfold nt
  rw [BitVec.toNat_ushiftRight, Nat.shiftRight_eq_div_pow]
  have := a.isLt
  omega
theorem odd32 (a : W) : (nt a % 2 == 1) = a.getLsbD 0 := by
  rw [← bit0]
  unfold nt
  rw [BitVec.toNat_and]
  have e : a.toNat &&& (1#32).toNat = a.toNat % 2 := by
    show a.toNat &&& 1 = _
    exact Nat.and_one_is_mod _
  rw [e]
  have : ((a.toNat % 2 : Nat) : Int) = (a.toNat : Int) % 2 := by omega
  rw [this]
end Go.Proofs.Ytbinkbdfoalbcaa.Crc
namespace Go.Proofs.Ytbinkbdfoalbcaa
open Go.Proofs.Try Crc
theorem refMore_ok {h : Heap} {v : Value} {s0 : Int} {l : List Int} (sl : Sl h v 1 l.length (us l)) (hm : l.length ≤ 4611686018427387904) :
    RunF prog 107 [.int .i64 s0, v] h fun r h' => r = .int .i64 (Crc.sum s0 l) ∧ h = h' := by
  refine RunF.walk func107 rfl rfl ?_
  obtain ⟨A, c, rfl, hc, _⟩ := sl.form
  refine RunC.seq (RunC.region (RunO.all rfl ?_))
  refine RunC.seq (RunC.region (RunO.part 2 rfl ?_))
  rw [fwu32, ← nt_ofInt]
  unfold Crc.sum
  generalize BitVec.ofInt 32 s0 = v
  refine RunO.un rfl (not32 v) rfl ?_
  refine RunO.all rfl ?_
  refine RunC.seq (RunC.seq (RunC.region (RunO.all rfl ?_)))
  refine RunC.block ?_
  let I : Nat → Env → Heap → Prop := fun m E h' => ∃ i : Nat, i + m = l.length ∧ h = h' ∧ Le (upd (upd (upd E0 1 (.slice A l.length c)) 5 (.int .u32 (nt (st (l.take i) (~~~ v))))) 6 (.int .i64 i)) E
  refine RunC.loop I ?_ (k := l.length) ?_
  · rintro m E h' ⟨i, hi, rfl, hE⟩
    refine RunC.le hE ?_
    clear hE
    refine RunC.seq (RunC.seq (RunC.region (RunO.all rfl ?_)))
    refine RunC.cond rfl (fun hlt => ?_) (fun hge => ?_)
    · have hlt := of_decide_eq_true hlt
      have hlt2 : i < l.length := by omega
      refine RunC.skip ?_
      refine RunC.seq (RunC.block ?_)
      refine RunC.seq (RunC.region (RunO.part 3 rfl ?_))
      refine RunO.at (s := 1) (u := .int .u8 l[i]) rfl rfl sl rfl rfl hlt2 (by show nth (us l) (i * 1) = _; rw [Nat.mul_one]; exact us_nth hlt2) rfl rfl rfl ?_
      have hst : st (l.take (i + 1)) (~~~ v) = Zn 8 (st (l.take i) (~~~ v) ^^^ BitVec.ofInt 32 l[i]) := by rw [List.take_succ_eq_append_getElem hlt2, st_snoc]
      generalize l[i] = x at *
      generalize st (l.take i) (~~~ v) = s at *
      refine RunO.part 1 rfl ?_
      rw [fwu32, ← nt_ofInt]
      refine RunO.bin rfl rfl (xor32 _ _) rfl ?_
      refine RunO.all rfl ?_
      generalize s ^^^ BitVec.ofInt 32 x = y at *
      refine RunC.seq (RunC.region (RunO.all rfl ?_))
      refine RunC.block ?_
      let J : Nat → Env → Heap → Prop := fun m E h' => ∃ j : Nat, j + m = 8 ∧ h = h' ∧ Le (upd (upd (upd (upd E0 1 (.slice A l.length c)) 5 (.int .u32 (nt (Zn j y)))) 6 (.int .i64 i)) 7 (.int .i64 j)) E
      refine RunC.loop J ?_ (k := 8) ?_
      · rintro m2 E h' ⟨j, hj, rfl, hE⟩
        refine RunC.le hE ?_
        clear hE
        refine RunC.seq (RunC.seq (RunC.region (RunO.all rfl ?_)))
        refine RunC.cond rfl (fun hlt => ?_) (fun hge => ?_)
        · have hlt := of_decide_eq_true hlt
          refine RunC.skip ?_
          have hz : Zn (j + 1) y = Z (Zn j y) := Zn_succ j y
          generalize Zn j y = u at *
          refine RunC.seq (RunC.block ?_)
          refine RunC.seq (RunC.region (RunO.part 1 rfl ?_))
          refine RunO.bin rfl rfl (rem32 u) rfl ?_
          refine RunO.all rfl ?_
          refine RunC.cond rfl (fun hb => ?_) (fun hb => ?_)
          · have hb : u.getLsbD 0 = true := by rw [← odd32]; exact hb
            refine RunC.region (RunO.part 1 rfl ?_)
            refine RunO.bin rfl rfl (quo32 u) rfl ?_
            refine RunO.bin rfl rfl (xor32 (u >>> 1) poly) rfl ?_
            refine RunO.all rfl ?_
            refine RunC.region (RunO.all rfl ?_)
            refine ⟨m2 - 1, by omega, j + 1, by omega, rfl, ?_⟩
            have e : Zn (j + 1) y = (u >>> 1) ^^^ poly := by rw [hz]; unfold Z; rw [if_pos hb]
            rw [e]
            exact Le.cons (inc64 (by omega)) (Le.cons rfl (Le.cons rfl (Le.cons rfl (Le.nil _))))
          · have hb : u.getLsbD 0 = false := by rw [← odd32]; exact hb
            refine RunC.region (RunO.part 1 rfl ?_)
            refine RunO.bin rfl rfl (quo32 u) rfl ?_
            refine RunO.all rfl ?_
            refine RunC.region (RunO.all rfl ?_)
            refine ⟨m2 - 1, by omega, j + 1, by omega, rfl, ?_⟩
            have e : Zn (j + 1) y = u >>> 1 := by rw [hz]; unfold Z; rw [if_neg (by rw [hb]; decide), BitVec.xor_zero]
            rw [e]
            exact Le.cons (inc64 (by omega)) (Le.cons rfl (Le.cons rfl (Le.cons rfl (Le.nil _))))
        · have hge := of_decide_eq_false hge
          refine RunC.exit ?_
          have : j = 8 := by omega
          subst this
          refine RunC.region (RunO.all rfl ?_)
          refine ⟨m - 1, by omega, i + 1, by omega, rfl, ?_⟩
          rw [hst]
          exact Le.cons (inc64 (by omega)) (Le.cons rfl (Le.cons rfl (Le.nil _)))
      · exact ⟨0, by omega, rfl, Le.cons rfl (Le.cons rfl (Le.cons rfl (Le.cons rfl (Le.nil _))))⟩
    · have hge := of_decide_eq_false hge
      refine RunC.exit ?_
      have : i = l.length := by omega
      subst this
      rw [List.take_length]
      refine RunC.seq (RunC.region (RunO.part 1 rfl ?_))
      generalize st l (~~~ v) = s
      refine RunO.un rfl (not32 s) rfl ?_
      refine RunO.all rfl ?_
      refine RunC.ret ⟨_, rfl, ?_, rfl⟩
      show Value.int .i64 (fwrap .i64 (nt (~~~ s))) = _
      have h0 := nt0 (~~~ s)
      have h1 := nt1 (~~~ s)
      rw [fw64 (by omega) (by omega)]
  · exact ⟨0, by omega, rfl, Le.cons rfl (Le.cons rfl (Le.cons rfl (Le.nil _)))⟩
theorem refSum_ok {h : Heap} {v : Value} {l : List Int} (sl : Sl h v 1 l.length (us l)) (hm : l.length ≤ 4611686018427387904) :
    RunF prog 75 [v] h fun r h' => r = .int .i64 (Crc.sum 0 l) ∧ h = h' := by
  refine RunF.walk func75 rfl rfl ?_
  refine RunC.seq (RunC.region (RunO.all rfl ?_))
  refine RunC.seq (RunC.region (RunO.part 1 rfl ?_))
  refine RunO.callD (refMore_ok sl hm) rfl rfl rfl ?_
  rintro _ _ ⟨rfl, rfl⟩
  exact RunO.all rfl (RunC.ret ⟨_, rfl, rfl, rfl⟩)
theorem sl_front {h : Heap} {v : Value} {l : List Int} (sl : Sl h v 1 l.length (us l)) {m : Nat} (h0 : 0 < l.length) (hm : m ≤ l.length) (jk : IntKind) :
    ∃ v', aslice prog 22 v none (some (.int jk (m : Int))) none = some v' ∧ Sl h v' 1 (l.take m).length (us (l.take m)) := by
  obtain ⟨b, o, c, rfl, hc, rd⟩ := sl.nz h0
  obtain ⟨c', h1, h2⟩ := slice_pre (P := prog) (t := 22) (b := b) (o := o) (ik := jk) rfl rfl hc hm
  have hl : (l.take m).length = m := by rw [List.length_take]; omega
  refine ⟨_, h2, ?_⟩
  rw [hl]
  exact Rd.sl (rdTake rd m) (by rw [us_len, hl, Nat.mul_one]) (by have := sl.2.1; omega) h1
theorem refGood_ok {h : Heap} {v : Value} {l : List Int} (sl : Sl h v 1 l.length (us l)) (hb : Byt l) (hl : 4 ≤ l.length) (hm : l.length ≤ 4611686018427387904) :
    RunF prog 108 [v] h fun r h' => r = .bool (goodB l) ∧ h = h' := by
  refine RunF.walk func108 rfl rfl ?_
  obtain ⟨A, c, rfl, hc, _⟩ := sl.form
  refine RunC.seq (RunC.region (RunO.all rfl ?_))
  refine RunC.seq (RunC.draw0 rfl (RunO.part 3 rfl ?_))
  rw [show decide ((l.length : Int) ≥ 4) = true from decide_eq_true (by omega)]
  refine RunO.part 5 rfl ?_
  rw [fw64 (x := (l.length : Int) - 4) (by omega) (by omega), show (l.length : Int) - 4 = ((l.length - 4 : Nat) : Int) by omega]
  refine RunO.callDG rfl (refGet4_ok (k := l.length - 4) sl hb (by omega) hm) rfl rfl rfl ?_
  rintro _ _ ⟨rfl, rfl⟩
  refine RunO.part 4 rfl ?_
  rw [fw64 (x := (l.length : Int) - 4) (by omega) (by omega), show (l.length : Int) - 4 = ((l.length - 4 : Nat) : Int) by omega]
  obtain ⟨v', h1, h2⟩ := sl_front (m := l.length - 4) sl (by omega) (by omega) .i64
  refine RunO.oneG (v := v') (h1 := h) rfl (by show pureR h _ = _; exact congrArg (pureR h) h1) rfl ?_
  refine RunO.callDG rfl (refSum_ok h2 (by rw [List.length_take]; omega)) rfl rfl rfl ?_
  rintro _ _ ⟨rfl, rfl⟩
  exact RunO.all rfl (RunC.ret ⟨_, rfl, rfl, rfl⟩)
/-- Bytes behind a row's bytes: zeros up to a block, the sum. -/
def sealB (b : List Int) : List Int := b ++ List.replicate (60 - b.length) 0 ++ leB 4 (Crc.sum 0 (b ++ List.replicate (60 - b.length) 0))
theorem refSeal_ok {lo : Nat} {h : Heap} {v : Value} {n : Nat} {b : List Int} (row : Row lo h v 1 n (us b)) (hl : b.length ≤ 60) (hn : n = b.length) (hlo : lo ≤ h.next) :
    RunF prog 49 [v] h fun r h' => Row lo h' r 1 64 (us (sealB b)) ∧ Fr (fun b => lo ≤ b) h h' := by
  subst hn
  refine RunF.walk func49 rfl rfl ?_
  refine RunC.seq (RunC.region (RunO.all rfl ?_))
  refine RunC.seq (RunC.block ?_)
  let I : Nat → Env → Heap → Prop := fun d E h' => ∃ w, d ≤ 60 - b.length ∧ Row lo h' w 1 (60 - d) (us (b ++ List.replicate (60 - b.length - d) 0)) ∧ Fr (fun b => lo ≤ b) h h' ∧ Le (upd E0 0 w) E
  refine RunC.loop I ?_ (k := 60 - b.length) ?_
  · rintro d E h' ⟨w, hd, row, hf, hE⟩
    refine RunC.le hE ?_
    clear hE
    have hlo' : lo ≤ h'.next := Nat.le_trans hlo hf.next
    have hat : ∀ b, At w b → lo ≤ b := fun b ha => (row.at ha).1
    have hlen : alen prog 22 w = some (.int .i64 (60 - d : Nat)) := by
      rcases row.2 with ⟨rfl, e⟩ | ⟨b', _, rfl, _⟩
      · rw [e]; rfl
      · rfl
    refine RunC.seq (RunC.seq (RunC.region (RunO.part 1 rfl ?_)))
    refine RunO.one (v := .int .i64 (60 - d : Nat)) (h1 := h') rfl (by show (match alen prog 22 w with | some v => some (v, h') | none => none) = _; rw [hlen]) rfl (RunO.all rfl ?_)
    refine RunC.cond rfl (fun hlt => ?_) (fun hge => ?_)
    · have hlt := of_decide_eq_true hlt
      refine RunC.skip ?_
      refine RunC.block ?_
      refine RunC.region (RunO.part 2 (h1 := h'.push ⟨us [0], true⟩) rfl ?_)
      have row1 := row.fr (m := no) (Fr.push no h' ⟨us [0], true⟩) (fun _ _ _ g => g)
      have hf1 := hf.same (Fr.push _ h' ⟨us [0], true⟩)
      have ob := Ow.push h' (us [0])
      have hn1 : lo ≤ (h'.push ⟨us [0], true⟩).next := Nat.le_succ_of_le hlo'
      generalize h'.push ⟨us [0], true⟩ = h2 at *
      refine RunO.append (s := 1) (m := 1) rfl rfl rfl rfl rfl rfl rfl rfl (Nat.le_refl 1) row1 hn1 ob.all rfl (Nat.le_refl 1) rfl (by show 2 * (60 - d + 1) * 1 ≤ _; omega) (by omega) ?_
      intro w3 h3 row3 f3
      refine RunO.all rfl ?_
      rw [← us_app, List.append_assoc, show ([0] : List Int) = List.replicate 1 0 from rfl, List.replicate_append_replicate] at row3
      refine ⟨d - 1, by omega, w3, by omega, ?_, hf1.trans f3 (fun b g => .inl (hat b g)), Le.cons rfl (Le.nil _)⟩
      rw [show 60 - (d - 1) = 60 - d + 1 by omega, show 60 - b.length - (d - 1) = 60 - b.length - d + 1 by omega]
      exact row3
    · have hge := of_decide_eq_false hge
      obtain rfl : d = 0 := by omega
      refine RunC.exit ?_
      rw [Nat.sub_zero, Nat.sub_zero] at row
      have hZ : sealB b = b ++ List.replicate (60 - b.length) 0 ++ leB 4 (Crc.sum 0 (b ++ List.replicate (60 - b.length) 0)) := rfl
      have hzl : (b ++ List.replicate (60 - b.length) (0 : Int)).length = 60 := by rw [List.length_append, List.length_replicate]; omega
      generalize b ++ List.replicate (60 - b.length) (0 : Int) = Z at *
      have sZ : Sl h' w 1 Z.length (us Z) := by rw [hzl]; exact row.sl (by decide)
      refine RunC.seq (RunC.region (RunO.part 2 rfl ?_))
      refine RunO.callD (refSum_ok sZ (by omega)) rfl rfl rfl ?_
      rintro _ _ ⟨rfl, rfl⟩
      have hs0 := Crc.sum0 0 Z
      have hs1 := Crc.sum1 0 Z
      refine RunO.callD (refBytes_ok (s := 4) (v := Crc.sum 0 Z) (by decide) hs0 (by omega)) rfl rfl rfl ?_
      rintro w4 h4 ⟨row4, f4⟩
      have row5 := row.fr f4 (fun _ _ _ g => g)
      refine RunO.appendOs (s := 1) rfl rfl rfl rfl rfl rfl rfl rfl (Nat.le_refl 1) row5 (Nat.le_trans hlo' f4.next) (row4.sl (by decide)) (allCells_map (fun _ => rfl) _) (by decide) (by decide) ?_
      intro w6 h6 row6 f6
      rw [← us_app, ← hZ] at row6
      exact RunO.all rfl (RunC.ret ⟨_, rfl, row6, (hf.quiet f4).trans f6 (fun b g => .inl (hat b g))⟩)
  · exact ⟨v, Nat.le_refl _, by rw [Nat.sub_self, List.replicate_zero, List.append_nil, show 60 - (60 - b.length) = b.length by omega]; exact row, Fr.refl _ _, Le.cons rfl (Le.nil _)⟩
end Go.Proofs.Ytbinkbdfoalbcaa
end
section
set_option linter.unusedVariables false
set_option maxRecDepth 100000
open Go Go.Am Go.RowKit
namespace Go.Proofs.Ytbinkbdfoalbcaa
open Go.Proofs.Try
theorem strOf_ok {h : Heap} {v : Value} {l : List Int} (sl : Sl h v 1 l.length (us l)) : abytes prog h 22 9 v = some (.string (mkStr l)) := by
  obtain ⟨h1, h2, ⟨rfl, h0⟩ | ⟨b, o, c, rfl, hc, rd⟩⟩ := sl
  · obtain rfl : l = [] := List.eq_nil_of_length_eq_zero h0
    rfl
  · have hrd : aread h ⟨b, o, none⟩ l.length = some (us l) := by
      have := rd.read0 (m := l.length) (by rw [us_len]; exact Nat.le_refl _)
      rw [this, List.take_of_length_le (by rw [us_len]; exact Nat.le_refl _)]
    show (match aread h ⟨b, o, none⟩ l.length with | some l => (match bytesOf l with | some ns => some (Value.string (mkStr ns)) | none => none) | none => none) = _
    rw [hrd]
    simp only [bytesOf_us]
/-- Why bytes are no block of a name. -/
def openE (mb l : List Int) : Int := if l.length ≠ 64 then 2 else if l.take 4 ≠ mb then 4 else if goodB l = false then 5 else 0
theorem refOpen_ok {h : Heap} {v : Value} {mg : ByteArray} {l mb : List Int} (hmg : strCells mg = us mb) (sl : Sl h v 1 l.length (us l)) (hb : Byt l) :
    RunF prog 76 [v, .string mg] h fun r h' => r = .int .i64 (openE mb l) ∧ h = h' := by
  refine RunF.walk func76 rfl rfl ?_
  have sl0 := sl
  obtain ⟨A, c, rfl, hc, _⟩ := sl.form
  refine RunC.seq (RunC.region (RunO.all rfl ?_))
  refine RunC.seq (RunC.block ?_)
  refine RunC.seq (RunC.region (RunO.all rfl ?_))
  by_cases hl : l.length = 64
  case neg =>
    rw [show ((l.length : Int) != 64) = true by simpa using (by omega : ¬ ((l.length : Int) = 64)), show openE mb l = 2 from if_pos hl]
    refine RunC.cond rfl (fun _ => ?_) (fun g => by cases g)
    exact RunC.seq (RunC.region (RunO.all rfl (RunC.ret ⟨_, rfl, rfl, rfl⟩)))
  rw [show ((l.length : Int) != 64) = false by simpa using (by omega : ((l.length : Int) = 64))]
  refine RunC.cond rfl (fun g => by cases g) (fun _ => ?_)
  refine RunC.seq (RunC.region (RunO.part 1 rfl ?_))
  obtain ⟨v', h1, h2⟩ := sl_front (m := 4) sl (by omega) (by omega) .i64
  refine RunO.one (v := v') (h1 := h) rfl (by show pureR h _ = _; exact congrArg (pureR h) h1) rfl ?_
  have hcv : aconvert prog 22 9 v' = none := by
    obtain ⟨A', c', rfl, _, _⟩ := h2.form
    rfl
  refine RunO.one rfl (v := .string (mkStr (l.take 4))) (h1 := h) ?_ rfl ?_
  · show (match aconvert prog 22 9 v' with | some v => some (v, h) | none => pureR h (abytes prog h 22 9 v')) = _
    rw [hcv, strOf_ok h2]; rfl
  refine RunO.part 1 rfl ?_
  refine RunO.bin (v := .bool (!(decide (l.take 4 = mb)))) rfl rfl ?_ rfl ?_
  · show some (Value.bool (!((mkStr (l.take 4)).data.toList == mg.data.toList))) = _
    rw [str_eq hmg (fun x hx => hb x (List.mem_of_mem_take hx))]
  refine RunO.all rfl ?_
  by_cases hm : l.take 4 = mb
  case neg =>
    rw [decide_eq_false hm, show openE mb l = 4 by unfold openE; rw [if_neg (by omega), if_pos hm]]
    refine RunC.cond rfl (fun _ => ?_) (fun g => by cases g)
    exact RunC.seq (RunC.region (RunO.all rfl (RunC.ret ⟨_, rfl, rfl, rfl⟩)))
  rw [decide_eq_true hm]
  refine RunC.cond rfl (fun g => by cases g) (fun _ => ?_)
  refine RunC.seq (RunC.region (RunO.part 1 rfl ?_))
  refine RunO.callD (refGood_ok sl0 hb (by omega) (by omega)) rfl rfl rfl ?_
  rintro _ _ ⟨rfl, rfl⟩
  refine RunO.all rfl ?_
  cases hg : goodB l with
  | false =>
    rw [show openE mb l = 5 by unfold openE; rw [if_neg (by omega), if_neg (by simpa using hm), if_pos hg]]
    refine RunC.cond rfl (fun _ => ?_) (fun g => by cases g)
    exact RunC.seq (RunC.region (RunO.all rfl (RunC.ret ⟨_, rfl, rfl, rfl⟩)))
  | true =>
    rw [show openE mb l = 0 by unfold openE; rw [if_neg (by omega), if_neg (by simpa using hm), if_neg (by simp [hg])]]
    refine RunC.cond rfl (fun g => by cases g) (fun _ => RunC.skip ?_)
    exact RunC.seq (RunC.region (RunO.all rfl (RunC.ret ⟨_, rfl, rfl, rfl⟩)))
theorem readB_open (mb : List Int) (fl : List (Nat × Nat)) (l : List Int) : readB mb fl l = if openE mb l ≠ 0 then openE mb l else if fl.all (okF l) = false then 1 else if zerosN l (endF fl) 60 = false then 1 else 0 := by
  unfold readB openE
  by_cases h1 : l.length ≠ 64
  · rw [if_pos h1, if_pos h1]; rfl
  · rw [if_neg h1, if_neg h1]
    by_cases h2 : l.take 4 ≠ mb
    · rw [if_pos h2, if_pos h2]; rfl
    · rw [if_neg h2, if_neg h2]
      by_cases h3 : goodB l = false
      · rw [if_pos h3, if_pos h3]; rfl
      · rw [if_neg h3, if_neg h3]; rfl
theorem ok4 {l : List Int} (hb : Byt l) (k : Nat) : (leGet l k 4).2 = 0 := by
  unfold leGet
  have h1 := (leN_bound (hb.part k 4)).2
  have h2 : (256 : Int) ^ ((l.drop k).take 4).length ≤ 256 ^ 4 := by
    have : ((l.drop k).take 4).length ≤ 4 := by rw [List.length_take]; omega
    exact_mod_cast Nat.pow_le_pow_right (by decide : 0 < 256) this
  have h3 : (256 : Int) ^ 4 = 4294967296 := by decide
  rw [if_neg (by omega)]
end Go.Proofs.Ytbinkbdfoalbcaa
end
section
set_option linter.unusedVariables false
set_option maxRecDepth 100000
open Go Go.Am Go.RowKit
namespace Go.Proofs.Ytbinkbdfoalbcaa
open Go.Proofs.Try
theorem link_ptr (p : Int) : (p == 0 || inB p 2 (fwrap .i64 (4096 - 1))) = ptrB p := by
  have e : fwrap .i64 (4096 - 1) = 4095 := rfl
  rw [e]
  unfold ptrB inB
  have : decide (p ≤ 4095) = decide (p < 4096) := by
    by_cases c : p < 4096
    · rw [decide_eq_true c, decide_eq_true (by omega)]
    · rw [decide_eq_false c, decide_eq_false (by omega)]
  rw [this]
set_option maxHeartbeats 1000000 in
theorem refNode_ok {h : Heap} {lv : Int} {ps : List Int} (hp : ps.length = 8) : RunF prog 91 [.agg ⟨nc lv ps⟩] h fun v h' => v = .bool (nodOk lv ps) ∧ Fr no h h' := by
  refine RunF.walk func91 rfl rfl ?_
  refine RunC.seq (RunC.region (RunO.all (h1 := h.push ⟨nc lv ps, true⟩) rfl ?_))
  have ow : Ow (h.push ⟨nc lv ps, true⟩) h.next (nc lv ps) := Ow.push _ _
  have f1 : Fr no h (h.push ⟨nc lv ps, true⟩) := Fr.push _ _ _
  generalize h.push ⟨nc lv ps, true⟩ = h1 at *
  generalize h.next = p at *
  have hok : nodOk lv ps = (inB lv 0 2 && (ps.all ptrB && anyP ps)) := by
    unfold nodOk inB
    have e1 : (!decide (lv < 0)) = decide (lv ≥ 0) := by
      by_cases c : lv < 0
      · rw [decide_eq_true c, decide_eq_false (by omega)]; rfl
      · rw [decide_eq_false c, decide_eq_true (by omega)]; rfl
    have e2 : (!decide (lv > 2)) = decide (lv ≤ 2) := by
      by_cases c : lv > 2
      · rw [decide_eq_true c, decide_eq_false (by omega)]; rfl
      · rw [decide_eq_false c, decide_eq_true (by omega)]; rfl
    rw [e1, e2]
    cases decide (lv ≥ 0) <;> cases decide (lv ≤ 2) <;> cases ps.all ptrB <;> cases anyP ps <;> rfl
  rw [hok]
  refine RunC.seq (RunC.seq (RunC.region ?_))
  (repeat (first | refine RunO.step rfl ?_ | refine RunO.loadG rfl rfl (Ow.ld (by assumption) (by rfl)) rfl ?_ | refine RunO.nil ?_))
  refine RunO.callD refIn_ok rfl rfl rfl ?_
  rintro _ _ ⟨rfl, rfl⟩
  refine RunO.all rfl ?_
  cases inB lv 0 2 with
  | false =>
    refine RunC.cond rfl (fun _ => ?_) (fun g => by cases g)
    exact RunC.seq (RunC.region (RunO.all rfl (RunC.ret ⟨_, rfl, rfl, f1⟩)))
  | true =>
  refine RunC.cond rfl (fun g => by cases g) (fun _ => RunC.skip ?_)
  refine RunC.seq (RunC.region (RunO.all rfl ?_))
  refine RunC.seq (RunC.seq (RunC.region (RunO.all rfl ?_)))
  refine RunC.block ?_
  let I : Nat → Env → Heap → Prop := fun d E h' => ∃ i : Nat, i + d = 8 ∧ (ps.take i).all ptrB = true ∧ h1 = h' ∧ Le (upd (upd (upd E0 1 (.pointer (some ⟨p, 0, none⟩))) 3 (.bool (anyP (ps.take i)))) 4 (.int .i64 (i : Int))) E
  refine RunC.loop I ?_ (k := 8) ?_
  · rintro d E h' ⟨i, hi, hall, rfl, hE⟩
    refine RunC.le hE ?_
    clear hE
    refine RunC.seq (RunC.seq (RunC.region (RunO.all rfl ?_)))
    refine RunC.cond rfl (fun hlt => ?_) (fun hge => ?_)
    · have hlt := of_decide_eq_true hlt
      have hi8 : i < 8 := by omega
      have hi2 : i < ps.length := by omega
      have hat : anyP (ps.take (i + 1)) = (anyP (ps.take i) || ps[i] != 0) := by
        unfold anyP; rw [List.take_succ_eq_append_getElem hi2, List.any_append]; simp
      have hal : (ps.take (i + 1)).all ptrB = ptrB ps[i] := by
        rw [List.take_succ_eq_append_getElem hi2, List.all_append, hall]; simp
      have hmem := List.getElem_mem hi2
      have hld : apart prog 3 (nc lv ps) (1 + i * 1) = some (.int .i64 ps[i]) := by
        show nth (nc lv ps) (1 + i * 1) = _
        rw [Nat.mul_one, Nat.add_comm]; exact is_nth hi2
      generalize ps[i] = x at *
      refine RunC.skip ?_
      refine RunC.seq (RunC.block ?_)
      refine RunC.seq (RunC.seq (RunC.region (RunO.part 2 rfl ?_)))
      refine RunO.indexA (s := 1) rfl rfl rfl rfl rfl hi8 rfl ?_
      refine RunO.load (v := .int .i64 x) rfl (ow.ld hld) rfl ?_
      refine RunO.callD refLink_ok rfl rfl rfl ?_
      rintro _ _ ⟨rfl, rfl⟩
      rw [link_ptr]
      refine RunO.all rfl ?_
      cases hx : ptrB x with
      | false =>
        have : ps.all ptrB = false := List.all_eq_false.2 ⟨x, hmem, by rw [hx]; exact Bool.false_ne_true⟩
        rw [this]
        refine RunC.cond rfl (fun _ => ?_) (fun g => by cases g)
        exact RunC.seq (RunC.region (RunO.all rfl (RunC.ret ⟨_, rfl, rfl, f1⟩)))
      | true =>
        refine RunC.cond rfl (fun g => by cases g) (fun _ => RunC.skip ?_)
        rw [hx] at hal
        refine RunC.region (RunO.part 2 rfl ?_)
        have fin : ∀ E, Le (upd (upd (upd E0 1 (.pointer (some ⟨p, 0, none⟩))) 3 (.bool (anyP (ps.take (i + 1))))) 4 (.int .i64 ((i + 1 : Nat) : Int))) E → ∃ d', d' < d ∧ I d' E h1 := fun E hE => ⟨d - 1, by omega, i + 1, by omega, hal, rfl, hE⟩
        rw [hat] at fin
        generalize anyP (ps.take i) = an at fin ⊢
        cases an with
        | true =>
          refine RunO.all rfl ?_
          exact RunC.region (RunO.all rfl (fin _ (Le.cons (inc64 (by omega)) (Le.cons rfl (Le.cons rfl (Le.nil _))))))
        | false =>
          refine RunO.part 2 rfl ?_
          refine RunO.oneG (v := .pointer (some ⟨p, 0 + 1 + i * 1, none⟩)) (h1 := h1) rfl ?_ rfl ?_
          · show pureR h1 (cond (Nat.ble (Nat.succ i) 8) (some (Value.pointer (some ⟨p, 0 + 1 + Nat.mul i 1, none⟩))) none) = _
            rw [Nat.ble_eq_true_of_le (by omega)]; rfl
          refine RunO.loadG (v := .int .i64 x) rfl rfl (by rw [Nat.zero_add]; exact ow.ld hld) rfl ?_
          refine RunO.all rfl ?_
          exact RunC.region (RunO.all rfl (fin _ (Le.cons (inc64 (by omega)) (Le.cons rfl (Le.cons rfl (Le.nil _))))))
    · have hge := of_decide_eq_false hge
      obtain rfl : i = 8 := by omega
      rw [← hp, List.take_length] at hall
      rw [hall]
      refine RunC.exit ?_
      refine RunC.seq (RunC.region (RunO.all rfl (RunC.ret ⟨_, rfl, ?_, f1⟩)))
      rw [← hp, List.take_length]; rfl
  · exact ⟨0, by omega, rfl, rfl, Le.cons rfl (Le.cons rfl (Le.cons rfl (Le.nil _)))⟩
theorem nLay_end : endF nLay = 40 := rfl
/-- Why bytes are no node, as the page says it. -/
theorem nCode_open {l : List Int} (hb : Byt l) : nCode l = if openE nMag l ≠ 0 then openE nMag l else if (nodOk (nLv l) (nPs l) && zerosN l 40 60) = true then 0 else 1 := by
  unfold nCode
  rw [readB_open, nLay_end]
  by_cases he : openE nMag l ≠ 0
  · rw [if_pos he, if_pos he, if_neg he]
  · rw [if_neg he, if_neg he]
    have hall : nLay.all (okF l) = true := by
      show (((leGet l 4 4).2 == 0) && (((leGet l 8 4).2 == 0) && (((leGet l 12 4).2 == 0) && (((leGet l 16 4).2 == 0) && (((leGet l 20 4).2 == 0) && (((leGet l 24 4).2 == 0) && (((leGet l 28 4).2 == 0) && (((leGet l 32 4).2 == 0) && (((leGet l 36 4).2 == 0) && true))))))))) = true
      rw [ok4 hb, ok4 hb, ok4 hb, ok4 hb, ok4 hb, ok4 hb, ok4 hb, ok4 hb, ok4 hb]; rfl
    rw [hall]
    cases zerosN l 40 60 <;> cases nodOk (nLv l) (nPs l) <;> rfl
end Go.Proofs.Ytbinkbdfoalbcaa
end
section
set_option linter.unusedVariables false
set_option maxRecDepth 100000
open Go Go.Am Go.RowKit
namespace Go.Proofs.Ytbinkbdfoalbcaa
open Go.Proofs.Try
theorem refBlocks_ok {h : Heap} {v : Value} {L : List Int} (sl : Sl h v 1 L.length (us L)) (hm : L.length ≤ 4611686018427387904) : RunF prog 21 [v] h fun r h' => r = .tuple #[.int .i64 ((L.length / 64 : Nat) : Int), .bool (devOk L.length)] ∧ h = h' := by
  refine RunF.walk func21 rfl rfl ?_
  obtain ⟨A, c, rfl, hc, _⟩ := sl.form
  have e1 : (L.length : Int).tdiv 64 = ((L.length / 64 : Nat) : Int) := by rw [Int.tdiv_eq_ediv_of_nonneg (by omega)]; omega
  have e2 : (L.length : Int).tmod 64 = ((L.length % 64 : Nat) : Int) := by rw [Int.tmod_eq_emod_of_nonneg (by omega)]; omega
  refine RunC.seq (RunC.region (RunO.all rfl ?_))
  refine RunC.seq (RunC.region (RunO.part 2 rfl ?_))
  refine RunO.part 1 rfl ?_
  rw [e1, fw64 (by omega) (by omega)]
  refine RunO.all rfl ?_
  refine RunC.seq (RunC.region (RunO.part 4 rfl ?_))
  rw [e2]
  refine RunO.part 2 rfl ?_
  have hd : devOk L.length = ((((L.length % 64 : Nat) : Int) == 0) && inB ((L.length / 64 : Nat) : Int) 4 4096) := by
    unfold devOk inB
    rw [Bool.eq_iff_iff]
    simp only [Bool.and_eq_true, beq_iff_eq, decide_eq_true_eq]
    omega
  rw [hd]
  cases (((L.length % 64 : Nat) : Int) == 0) with
  | false => exact RunO.all rfl (RunC.ret ⟨_, rfl, rfl, rfl⟩)
  | true =>
    refine RunO.part 1 rfl ?_
    refine RunO.callDG rfl refIn_ok rfl rfl rfl ?_
    rintro _ _ ⟨rfl, rfl⟩
    exact RunO.all rfl (RunC.ret ⟨_, rfl, rfl, rfl⟩)
theorem refBlock_ok {h : Heap} {v : Value} {L : List Int} {i : Nat} (sl : Sl h v 1 L.length (us L)) (hi : (i + 1) * 64 ≤ L.length) (hm : L.length ≤ 4611686018427387904) :
    RunF prog 30 [v, .int .i64 (i : Int)] h fun r h' => Sl h r 1 64 (us (blkI L i)) ∧ h = h' := by
  refine RunF.walk func30 rfl rfl ?_
  refine RunC.seq (RunC.region (RunO.all rfl ?_))
  refine RunC.seq (RunC.region (RunO.part 6 rfl ?_))
  rw [fw64 (x := (i : Int) * 64) (by omega) (by omega), fw64 (x := (i : Int) * 64 + 64) (by omega) (by omega), show (i : Int) * 64 = ((i * 64 : Nat) : Int) by omega, show ((i * 64 : Nat) : Int) + 64 = ((i * 64 + 64 : Nat) : Int) by omega]
  obtain ⟨v', h1, h2⟩ := sl_part sl (k := i * 64) (m := i * 64 + 64) (by omega) (by omega) .i64 .i64
  rw [show i * 64 + 64 - i * 64 = 64 by omega] at h2
  have hl : ((L.drop (i * 64)).take 64).length = 64 := blkI_len hi
  rw [hl] at h2
  refine RunO.one (v := v') (h1 := h) rfl (by show pureR h _ = _; exact congrArg (pureR h) h1) rfl ?_
  exact RunO.all rfl (RunC.ret ⟨_, rfl, h2, rfl⟩)
/-- A device alone: is it more than is played? -/
theorem heavy_ok {h : Heap} {v : Value} {L : List Int} (sl : Sl h v 1 L.length (us L)) : RunF prog 13 [v, .slice none 0 0] h fun r h' => r = .bool (decide ((L.length : Int) > 19200)) ∧ h = h' := by
  refine RunF.walk func13 rfl rfl ?_
  obtain ⟨A, c, rfl, hc, _⟩ := sl.form
  refine RunC.seq (RunC.region (RunO.all rfl ?_))
  refine RunC.seq (RunC.seq (RunC.region (RunO.part 4 rfl ?_)))
  cases decide ((L.length : Int) > 19200) with
  | true =>
    refine RunO.all rfl (RunC.cond rfl (fun _ => ?_) (fun g => by cases g))
    exact RunC.seq (RunC.region (RunO.all rfl (RunC.ret ⟨_, rfl, rfl, rfl⟩)))
  | false =>
    refine RunO.all rfl (RunC.cond rfl (fun g => by cases g) (fun _ => RunC.skip ?_))
    refine RunC.seq (RunC.seq (RunC.region (RunO.all rfl ?_)))
    refine RunC.block ?_
    let I : Nat → Env → Heap → Prop := fun d E h' => h = h' ∧ Le (upd (upd E0 1 (.slice none 0 0)) 5 (.int .i64 0)) E
    refine RunC.loop I ?_ (k := 0) ?_
    · rintro d E h' ⟨rfl, hE⟩
      refine RunC.le hE ?_
      clear hE
      refine RunC.seq (RunC.seq (RunC.region (RunO.all rfl ?_)))
      refine RunC.cond rfl (fun g => by cases g) (fun _ => RunC.exit ?_)
      exact RunC.seq (RunC.region (RunO.all rfl (RunC.ret ⟨_, rfl, rfl, rfl⟩)))
    · exact ⟨rfl, Le.cons rfl (Le.cons rfl (Le.nil _))⟩
end Go.Proofs.Ytbinkbdfoalbcaa
end
section
set_option linter.unusedVariables false
set_option maxRecDepth 100000
open Go Go.Am Go.RowKit
namespace Go.Proofs.Ytbinkbdfoalbcaa
open Go.Proofs.Try
end Go.Proofs.Ytbinkbdfoalbcaa
end
section
set_option linter.unusedVariables false
set_option maxRecDepth 100000
open Go Go.Am Go.RowKit
namespace Go.Proofs.Ytbinkbdfoalbcaa
open Go.Proofs.Try
theorem nPs_get (l : List Int) {i : Nat} (hi : i < 8) : (nPs l).getD i 0 = (leGet l (8 + 4 * i) 4).1 := by
  obtain rfl | rfl | rfl | rfl | rfl | rfl | rfl | rfl : i = 0 ∨ i = 1 ∨ i = 2 ∨ i = 3 ∨ i = 4 ∨ i = 5 ∨ i = 6 ∨ i = 7 := by omega
  all_goals rfl
def firstP (ps : List Int) (i : Nat) : List Int := ps.take i ++ List.replicate (8 - i) 0
theorem firstP_len {ps : List Int} (hp : ps.length = 8) {i : Nat} (hi : i ≤ 8) : (firstP ps i).length = 8 := by
  unfold firstP; rw [List.length_append, List.length_take, List.length_replicate]; omega
theorem firstP_set {ps : List Int} (hp : ps.length = 8) {i : Nat} (hi : i < 8) : (firstP ps i).set i (ps.getD i 0) = firstP ps (i + 1) := by
  apply List.ext_getElem?
  intro j
  have hl : i < (firstP ps i).length := by rw [firstP_len hp (by omega)]; exact hi
  rw [List.getElem?_set]
  unfold firstP at hl ⊢
  by_cases e : i = j
  · subst e
    rw [if_pos rfl, if_pos hl, List.getElem?_append_left (by rw [List.length_take]; omega), List.getElem?_take, if_pos (by omega), List.getD_eq_getElem?_getD, List.getElem?_eq_getElem (by omega)]; rfl
  · rw [if_neg e]
    by_cases c : j < i
    · rw [List.getElem?_append_left (by rw [List.length_take]; omega), List.getElem?_append_left (by rw [List.length_take]; omega), List.getElem?_take, List.getElem?_take, if_pos c, if_pos (by omega)]
    · rw [List.getElem?_append_right (by rw [List.length_take]; omega), List.getElem?_append_right (by rw [List.length_take]; omega), List.getElem?_replicate, List.getElem?_replicate, List.length_take, List.length_take]
      by_cases c2 : j < 8
      · rw [if_pos (by omega), if_pos (by omega)]
      · rw [if_neg (by omega), if_neg (by omega)]
theorem nc_cell (lv : Int) (ps : List Int) : (cellsOf (.agg ⟨nc lv ps⟩)).length = ps.length + 1 ∧ allCells (cellsOf (.agg ⟨nc lv ps⟩)) = true := by
  constructor
  · show (nc lv ps).length = _; simp [nc, is_len]
  · show allCells (.int .i64 lv :: is ps) = true; exact allCells_map (f := Value.int .i64) (fun _ => rfl) ps
/-- A whole node stored. -/
theorem nc_store {P : Program} {t : TypeId} {h : Heap} {b : Nat} {lw lv : Int} {qs ps : List Int} (ow : Ow h b (nc lw qs)) (hq : qs.length = 8) (hp : ps.length = 8) (hs : Go.Am.sizeOf P t = some 9) : astore P h t ⟨b, 0, none⟩ (.agg ⟨nc lv ps⟩) = some (h.put b (some ⟨nc lv ps, true⟩)) := by
  have hl : (nc lw qs).length = 9 := by simp [nc, is_len, hq]
  have hl2 : (nc lv ps).length = 9 := by simp [nc, is_len, hp]
  have := store_ow (P := P) (t := t) (v := .agg ⟨nc lv ps⟩) (off := 0) ow hs (by rw [(nc_cell lv ps).1, hp]) (nc_cell lv ps).2 (by omega)
  rw [this]
  congr 4
  show [] ++ nc lv ps ++ (nc lw qs).drop (0 + 9) = _
  rw [List.drop_of_length_le (by omega)]; simp
set_option maxHeartbeats 4000000 in
theorem refParseNode_ok {h : Heap} {v : Value} {l : List Int} (sl : Sl h v 1 l.length (us l)) (hb : Byt l) :
    RunF prog 62 [v] h fun r h' => r = .tuple #[.agg ⟨nc (nodV l).1 (nodV l).2⟩, .int .i64 (nCode l)] ∧ Fr no h h' := by
  refine RunF.walk func62 rfl rfl ?_
  refine RunC.seq (RunC.region (RunO.part 1 (h1 := h.push ⟨nc 0 nZero, true⟩) rfl (RunO.all rfl ?_)))
  have ow : Ow (h.push ⟨nc 0 nZero, true⟩) h.next (nc 0 nZero) := Ow.push _ _
  have f1 : Fr (fun b => h.next ≤ b) h (h.push ⟨nc 0 nZero, true⟩) := Fr.push _ _ _
  have s1 := sl.fr0 (Fr.push no h ⟨nc 0 nZero, true⟩)
  generalize h.push ⟨nc 0 nZero, true⟩ = h1 at *
  have hp : h.next < h1.next := ow.1
  refine RunC.seq (RunC.seq (RunC.region (RunO.part 1 rfl ?_)))
  refine RunO.callD (refOpen_ok (mb := nMag) rfl s1 hb) rfl rfl rfl ?_
  rintro _ _ ⟨rfl, rfl⟩
  refine RunO.all rfl ?_
  refine RunC.seq (RunC.region (RunO.all rfl ?_))
  have hro := nCode_open hb
  have hvd : nodV l = if nCode l = 0 then (nLv l, nPs l) else (0, nZero) := rfl
  rw [hvd]
  by_cases he : openE nMag l ≠ 0
  · rw [if_pos he] at hro
    rw [hro, if_neg he, show (openE nMag l != 0) = true from bne_iff_ne.2 he]
    refine RunC.cond rfl (fun _ => ?_) (fun g => by cases g)
    refine RunC.seq (RunC.region (RunO.part 2 rfl ?_))
    refine RunO.store rfl rfl (nc_store (lv := 0) (ps := nZero) ow rfl rfl rfl) (RunO.all rfl ?_)
    exact RunC.ret ⟨_, eresults_cell rfl (nc_load rfl (Ow.put (nc 0 nZero) ow.1)) rfl, rfl, frNo (f1.same (Fr.put _ (.inl (Nat.le_refl _))))⟩
  have he0 : openE nMag l = 0 := Decidable.not_not.1 he
  have hl : l.length = 64 := by
    unfold openE at he0
    by_cases g : l.length ≠ 64
    · rw [if_pos g] at he0; cases he0
    · exact Decidable.not_not.1 g
  rw [if_neg he] at hro
  rw [he0, hro]
  refine RunC.cond rfl (fun g => by cases g) (fun _ => RunC.skip ?_)
  refine RunC.seq (RunC.region (RunO.part 1 rfl ?_))
  refine RunO.callD (refGet4_ok (k := 4) s1 hb (by omega) (by omega)) rfl rfl rfl ?_
  rintro _ _ ⟨rfl, rfl⟩
  refine RunO.part 2 (h1 := h1.push ⟨nc 0 nZero, true⟩) rfl ?_
  refine RunO.store rfl rfl (nc_store (lv := nLv l) (ps := nZero) (Ow.push h1 (nc 0 nZero)) rfl rfl rfl) (RunO.nil ?_)
  have on : Ow ((h1.push ⟨nc 0 nZero, true⟩).put h1.next (some ⟨nc (nLv l) nZero, true⟩)) h1.next (nc (nLv l) nZero) := Ow.put _ (Nat.lt_succ_self _)
  have f4 : Fr no h1 ((h1.push ⟨nc 0 nZero, true⟩).put h1.next (some ⟨nc (nLv l) nZero, true⟩)) := (Fr.push _ _ _).trans (Fr.put (m := (· = h1.next)) _ (.inl rfl)) (fun j hj => .inr (by omega))
  have hqn : h.next < h1.next := hp
  generalize (h1.push ⟨nc 0 nZero, true⟩).put h1.next (some ⟨nc (nLv l) nZero, true⟩) = h4 at *
  generalize h1.next = q at *
  have ow4 := ow.fr f4 (fun g => g)
  have s4 := s1.fr0 f4
  have f14 := f1.quiet f4
  have hps : (nPs l).length = 8 := rfl
  have hget := fun i hi => nPs_get l (i := i) hi
  generalize nLv l = lv at *
  generalize nPs l = ps at *
  refine RunC.seq (RunC.seq (RunC.region (RunO.all rfl ?_)))
  refine RunC.block ?_
  let I : Nat → Env → Heap → Prop := fun d E h' => ∃ i : Nat, i + d = 8 ∧ Ow h' q (nc lv (firstP ps i)) ∧ Fr (· = q) h4 h' ∧ Le (upd (upd (upd (upd E0 0 v) 2 (.pointer (some ⟨h.next, 0, none⟩))) 5 (.pointer (some ⟨q, 0, none⟩))) 6 (.int .i64 (i : Int))) E
  refine RunC.loop I ?_ (k := 8) ?_
  · rintro d E h5 ⟨i, hi, on5, f5, hE⟩
    refine RunC.le hE ?_
    clear hE
    have s5 : Sl h5 v 1 l.length (us l) := by
      refine ⟨s4.1, s4.2.1, s4.2.2.imp (fun y => y) ?_⟩
      rintro ⟨b, o, c, h1', h2', h3'⟩
      have hbl : b < h.next := by
        rcases sl.2.2 with ⟨e, _⟩ | ⟨b', o', c', e, _, rd⟩
        · rw [h1'] at e; cases e
        · rw [h1'] at e; cases e; exact rd.2.1
      exact ⟨b, o, c, h1', h2', h3'.fr f5 (show ¬ b = q by omega)⟩
    refine RunC.seq (RunC.seq (RunC.region (RunO.all rfl ?_)))
    refine RunC.cond rfl (fun hlt => ?_) (fun hge => ?_)
    · have hlt := of_decide_eq_true hlt
      have hi8 : i < 8 := by omega
      refine RunC.skip ?_
      refine RunC.seq (RunC.block ?_)
      refine RunC.region (RunO.part 4 rfl ?_)
      rw [fw64 (x := 4 * (i : Int)) (by omega) (by omega)]
      refine RunO.part 1 rfl ?_
      rw [fw64 (x := 8 + 4 * (i : Int)) (by omega) (by omega), show 8 + 4 * (i : Int) = ((8 + 4 * i : Nat) : Int) by omega]
      refine RunO.callD (refGet4_ok (k := 8 + 4 * i) s5 hb (by omega) (by omega)) rfl rfl rfl ?_
      rintro _ _ ⟨rfl, rfl⟩
      rw [← hget i hi8]
      refine RunO.part 1 rfl ?_
      refine RunO.indexA (s := 1) rfl rfl rfl rfl rfl hi8 rfl ?_
      have hfl := firstP_len hps (show i ≤ 8 by omega)
      have on6 := Ow.put (h := h5) (b := q) (nc lv (firstP ps (i + 1))) on5.1
      refine RunO.store (h1 := h5.put q (some ⟨nc lv (firstP ps (i + 1)), true⟩)) rfl rfl ?_ (RunO.nil ?_)
      · rw [Nat.mul_one]
        show astore _ _ _ ⟨q, 1 + i, none⟩ _ = _
        rw [Nat.add_comm 1]
        refine (store1_ow on5 rfl rfl rfl (by show _ < (is _).length + 1; rw [is_len, hfl]; omega)).trans ?_
        rw [← firstP_set hps hi8]
        unfold nc
        rw [List.set_cons_succ]
        unfold is
        rw [List.map_set]
      refine RunC.region (RunO.all rfl ?_)
      exact ⟨d - 1, by omega, i + 1, by omega, on6, f5.same (Fr.put _ (.inl rfl)), Le.cons (inc64 (by omega)) (Le.cons rfl (Le.cons rfl (Le.cons rfl (Le.nil _))))⟩
    · have hge := of_decide_eq_false hge
      obtain rfl : i = 8 := by omega
      have hfin : firstP ps 8 = ps := by unfold firstP; rw [← hps, List.take_length, Nat.sub_self]; simp
      rw [hfin] at on5
      have ow5 := ow4.fr f5 (show ¬ h.next = q by omega)
      have f15 : Fr (fun b => h.next ≤ b) h h5 := f14.trans f5 (fun b e => .inl (by omega))
      refine RunC.exit ?_
      refine RunC.seq ?_
      refine RunC.seqc (fun E' h' => Fr no h5 h' ∧ Le (upd (upd (upd (upd E0 0 v) 2 (.pointer (some ⟨h.next, 0, none⟩))) 5 (.pointer (some ⟨q, 0, none⟩))) 35 (.bool (!(nodOk lv ps && zerosN l 40 60)))) E') ?_ ?_
      · refine RunC.region ?_
        refine RunO.load (v := .agg ⟨nc lv ps⟩) rfl (nc_load hps on5) rfl ?_
        refine RunO.callD (refNode_ok hps) rfl rfl rfl ?_
        rintro _ h6 ⟨rfl, f6⟩
        refine RunO.part 2 rfl ?_
        cases nodOk lv ps with
        | false => exact RunO.all rfl ⟨f6, Le.cons rfl (Le.cons rfl (Le.cons rfl (Le.cons rfl (Le.nil _))))⟩
        | true =>
          refine RunO.part 1 rfl ?_
          refine RunO.callDG rfl (refZeros_ok (k := 40) (m := 60) (s5.fr0 f6) (by decide) (by omega) (by omega)) rfl rfl rfl ?_
          rintro _ _ ⟨rfl, rfl⟩
          exact RunO.all rfl ⟨f6, Le.cons rfl (Le.cons rfl (Le.cons rfl (Le.cons rfl (Le.nil _))))⟩
      rintro E' h6 ⟨f6, hE⟩
      refine RunC.le hE ?_
      clear hE
      have ow6 := ow5.fr f6 (fun g => g)
      have on6 := on5.fr f6 (fun g => g)
      have f16 := f15.quiet f6
      cases (nodOk lv ps && zerosN l 40 60) with
      | false =>
        refine RunC.cond rfl (fun _ => ?_) (fun g => by cases g)
        refine RunC.seq (RunC.region (RunO.part 1 rfl ?_))
        refine RunO.store rfl rfl (nc_store (lv := 0) (ps := nZero) ow6 rfl rfl rfl) (RunO.all rfl ?_)
        exact RunC.ret ⟨_, eresults_cell rfl (nc_load rfl (Ow.put (nc 0 nZero) ow6.1)) rfl, rfl, frNo (f16.same (Fr.put _ (.inl (Nat.le_refl _))))⟩
      | true =>
        refine RunC.cond rfl (fun g => by cases g) (fun _ => RunC.skip ?_)
        refine RunC.seq (RunC.region ?_)
        refine RunO.load (v := .agg ⟨nc lv ps⟩) rfl (nc_load hps on6) rfl ?_
        refine RunO.store rfl rfl (nc_store ow6 rfl hps rfl) (RunO.all rfl ?_)
        exact RunC.ret ⟨_, eresults_cell rfl (nc_load hps (Ow.put (nc lv ps) ow6.1)) rfl, rfl, frNo (f16.same (Fr.put _ (.inl (Nat.le_refl _))))⟩
  · exact ⟨0, by omega, on, Fr.refl _ _, Le.cons rfl (Le.cons rfl (Le.cons rfl (Le.cons rfl (Le.nil _))))⟩
end Go.Proofs.Ytbinkbdfoalbcaa
end
section
set_option linter.unusedVariables false
set_option maxRecDepth 100000
open Go Go.Am Go.RowKit
namespace Go.Proofs.Ytbinkbdfoalbcaa
open Go.Proofs.Try
/-- What a pointer of a level leads to, for a place under it; level 0: a sector's block. -/
def look (L : List Int) (B : Nat) : Nat → Int → Nat → Int
  | 0, p, _ => p
  | k + 1, p, s => if p = 0 then 0 else look L B k ((atV L B p).2.getD (s / 8 ^ k) 0) (s % 8 ^ k)
/-- Along the way to a place each node is one, of its level. -/
def pathOk (L : List Int) (B : Nat) : Nat → Int → Nat → Prop
  | 0, _, _ => True
  | k + 1, p, s => p ≠ 0 → atIs L B p (k : Int) = true ∧ pathOk L B k ((atV L B p).2.getD (s / 8 ^ k) 0) (s % 8 ^ k)
theorem look_zero (L : List Int) (B k s : Nat) : look L B k 0 s = 0 := by cases k <;> rfl
theorem tbody_bad {L : List Int} {B lv : Nat} {r : Int → Nat → TS → TS} {a : Int} {f : Nat} {w : TS} (hr : ∀ a f w, w.2.2 = true → (r a f w).2.2 = true) (hw : w.2.2 = true) : (tbody L B lv r a f w).2.2 = true := by
  unfold tbody
  split
  · rfl
  · generalize hz : (w.1, w.2.1 ++ [a], w.2.2) = z
    have hzb : z.2.2 = true := by rw [← hz]; exact hw
    clear hz
    generalize List.range 8 = l
    induction l generalizing z with
    | nil => exact hzb
    | cons i l ih =>
      rw [List.foldl_cons]
      refine ih _ ?_
      unfold tstep
      rw [if_pos hzb]; exact hzb
theorem tstep_mono {r : Int → Nat → TS → TS} {B : Nat} {leaf : Bool} {w : TS} {p : Int} {t : Nat} (hr : ∀ a f w, w.2.2 = true → (r a f w).2.2 = true) (hw : w.2.2 = true) : (tstep r B leaf w p t).2.2 = true := by
  unfold tstep
  rw [if_pos hw]; exact hw
/-- The fold of a node's pointers, as it goes. -/
def tst (L : List Int) (B lv : Nat) (ps : List Int) (f : Nat) (w : TS) (i : Nat) : TS := tstep (trec L B lv) B (lv == 0) w (ps.getD i 0) (f + i * 8 ^ lv)
theorem fold_bad {L : List Int} {B lv : Nat} {ps : List Int} {f : Nat} : ∀ (l : List Nat) (w : TS), w.2.2 = true → (l.foldl (tst L B lv ps f) w).2.2 = true
  | [], w, h => h
  | i :: l, w, h => by
    rw [List.foldl_cons]
    refine fold_bad l _ ?_
    unfold tst tstep
    rw [if_pos h]; exact h
theorem fold_pre {L : List Int} {B lv : Nat} {ps : List Int} {f N : Nat} {w : TS} (h : ((List.range N).foldl (tst L B lv ps f) w).2.2 = false) {i : Nat} (hi : i ≤ N) : ((List.range i).foldl (tst L B lv ps f) w).2.2 = false := by
  cases e : ((List.range i).foldl (tst L B lv ps f) w).2.2 with
  | false => rfl
  | true =>
    have hs : List.range N = List.range i ++ (List.range (N - i)).map (i + ·) := by
      rw [← List.range_add]; congr 1; omega
    rw [hs, List.foldl_append, fold_bad _ _ e] at h
    cases h
/-- What a walk that ends well has done. -/
structure TSpec (L : List Int) (B lv : Nat) (a : Int) (f : Nat) (w r : TS) : Prop where
  is_ : atIs L B a (lv : Int) = true
  new : w.2.1.contains a = false
  ns : ∃ t, r.2.1 = w.2.1 ++ a :: t
  nd : w.2.1.Nodup → r.2.1.Nodup
  m : ∀ s, s < 512 → r.1.getD s 0 = if f ≤ s ∧ s < f + 8 ^ (lv + 1) then look L B (lv + 1) a (s - f) else w.1.getD s 0
  path : ∀ s, s < 8 ^ (lv + 1) → pathOk L B (lv + 1) a s
  all : ∀ x ∈ r.2.1, x ∈ w.2.1 ∨ ∃ k, k ≤ lv ∧ atIs L B x (k : Int) = true
  bnd : ∀ x ∈ r.1, x ∈ w.1 ∨ x = 0 ∨ x < B
theorem atIs_ne {L : List Int} {B : Nat} {a lv : Int} (h : atIs L B a lv = true) : 2 ≤ a ∧ a < B := by
  unfold atIs at h
  rw [Bool.and_eq_true] at h
  exact atIn_iff.1 h.1
theorem nodup_snoc {α : Type} {l : List α} {x : α} (h : l.Nodup) (hx : ¬ x ∈ l) : (l ++ [x]).Nodup := by
  rw [List.nodup_append]
  refine ⟨h, List.nodup_cons.2 ⟨by simp, List.nodup_nil⟩, fun a ha b hb => ?_⟩
  rw [List.mem_singleton] at hb
  subst hb
  exact fun e => hx (e ▸ ha)
def SpecAt (L : List Int) (B lv : Nat) : Prop := ∀ (a : Int) (f : Nat) (w : TS), f + 8 ^ (lv + 1) ≤ 512 → w.1.length = 512 → w.2.2 = false → (∀ s, f ≤ s → s < f + 8 ^ (lv + 1) → w.1.getD s 0 = 0) → (tgo L B lv a f w).2.2 = false → TSpec L B lv a f w (tgo L B lv a f w)
structure FSpec (L : List Int) (B lv : Nat) (ps : List Int) (f : Nat) (m ns : List Int) (i : Nat) (r : TS) : Prop where
  len : r.1.length = 512
  tail : ∃ t, r.2.1 = ns ++ t
  nd : ns.Nodup → r.2.1.Nodup
  map : ∀ s, s < 512 → r.1.getD s 0 = if f ≤ s ∧ s < f + i * 8 ^ lv then look L B lv (ps.getD ((s - f) / 8 ^ lv) 0) ((s - f) % 8 ^ lv) else m.getD s 0
  path : ∀ j, j < i → ∀ s, s < 8 ^ lv → pathOk L B lv (ps.getD j 0) s
  all : ∀ x ∈ r.2.1, x ∈ ns ∨ ∃ k, k ≤ lv ∧ atIs L B x (k : Int) = true
  bnd : ∀ x ∈ r.1, x ∈ m ∨ x = 0 ∨ x < B
theorem getD_set (l : List Int) (k s : Nat) (p : Int) (hk : k < l.length) : (l.set k p).getD s 0 = if s = k then p else l.getD s 0 := by
  rw [List.getD_eq_getElem?_getD, List.getElem?_set]
  by_cases e : k = s
  · subst e; rw [if_pos rfl, if_pos hk, if_pos rfl]; rfl
  · rw [if_neg e, if_neg (fun g => e g.symm), List.getD_eq_getElem?_getD]
theorem divmod_at {s f i d : Nat} (hd : 0 < d) (h1 : f + i * d ≤ s) (h2 : s < f + i * d + d) : (s - f) / d = i ∧ (s - f) % d = s - (f + i * d) := by
  have e : s - f = (s - (f + i * d)) + i * d := by omega
  have hlt : s - (f + i * d) < d := by omega
  constructor
  · rw [e, Nat.add_mul_div_right _ _ hd, Nat.div_eq_of_lt hlt, Nat.zero_add]
  · rw [e, Nat.add_mul_mod_self_right, Nat.mod_eq_of_lt hlt]
theorem fold_spec {L : List Int} {B lv : Nat} {ps : List Int} {f : Nat} {m ns : List Int} (hrec : ∀ k, lv = k + 1 → SpecAt L B k) (hf : f + 8 ^ (lv + 1) ≤ 512) (hl : m.length = 512) (hz : ∀ s, f ≤ s → s < f + 8 ^ (lv + 1) → m.getD s 0 = 0)
    {N : Nat} (hN : N ≤ 8) (hb : ((List.range N).foldl (tst L B lv ps f) (m, ns, false)).2.2 = false) : ∀ i, i ≤ N → FSpec L B lv ps f m ns i ((List.range i).foldl (tst L B lv ps f) (m, ns, false)) := by
  have hp8 : 8 ^ (lv + 1) = 8 * 8 ^ lv := by rw [Nat.pow_succ, Nat.mul_comm]
  have hpos : 0 < 8 ^ lv := Nat.pow_pos (by decide)
  intro i
  induction i with
  | zero =>
    intro _
    exact ⟨hl, ⟨[], by simp⟩, fun h => h, fun s _ => by rw [if_neg (by omega)]; rfl, fun j hj => absurd hj (Nat.not_lt_zero _), fun x hx => .inl hx, fun x hx => .inl hx⟩
  | succ i ih =>
    intro hi
    have S := ih (by omega)
    have hnb := fold_pre hb (i := i) (by omega)
    have hnb1 := fold_pre hb (i := i + 1) hi
    have hstep : (List.range (i + 1)).foldl (tst L B lv ps f) (m, ns, false) = tst L B lv ps f ((List.range i).foldl (tst L B lv ps f) (m, ns, false)) i := by rw [List.range_succ, List.foldl_append]; rfl
    rw [hstep] at hnb1 ⊢
    generalize (List.range i).foldl (tst L B lv ps f) (m, ns, false) = W at *
    obtain ⟨wm, wn, wb⟩ := W
    simp only at hnb
    subst hnb
    have hile : i * 8 ^ lv + 8 ^ lv ≤ 8 * 8 ^ lv := by rw [← Nat.succ_mul]; exact Nat.mul_le_mul_right _ (Nat.le_trans hi hN)
    have hsucc : (i + 1) * 8 ^ lv = i * 8 ^ lv + 8 ^ lv := Nat.succ_mul ..
    obtain ⟨Sl, ⟨t, St⟩, Snd, Sm, Sp, Sa, Sb⟩ := S
    simp only at Sl St Snd Sm Sa Sb
    have here : ∀ s, f + i * 8 ^ lv ≤ s → s < f + i * 8 ^ lv + 8 ^ lv → wm.getD s 0 = 0 := fun s h1 h2 => by
      rw [Sm s (by omega), if_neg (by omega)]
      exact hz s (by omega) (by omega)
    unfold tst tstep at hnb1 ⊢
    rw [if_neg Bool.false_ne_true] at hnb1 ⊢
    generalize hp : ps.getD i 0 = p at *
    by_cases hB : decide (p ≥ (B : Int)) = true
    · rw [if_pos hB] at hnb1; cases hnb1
    rw [if_neg hB] at hnb1 ⊢
    have hpB : p < B := by have := of_decide_eq_false (Bool.eq_false_iff.2 hB); omega
    by_cases hp0 : p = 0
    · subst hp0
      rw [if_neg (by simp), if_neg (by simp)] at hnb1 ⊢
      refine ⟨Sl, ⟨t, St⟩, Snd, fun s hs => ?_, fun j hj s hs => ?_, Sa, Sb⟩
      · simp only
        by_cases c : f + i * 8 ^ lv ≤ s ∧ s < f + i * 8 ^ lv + 8 ^ lv
        · obtain ⟨d1, d2⟩ := divmod_at hpos c.1 c.2
          rw [here s c.1 c.2, if_pos (by omega), d1, hp, look_zero]
        · rw [Sm s hs]
          by_cases c2 : f ≤ s ∧ s < f + i * 8 ^ lv
          · rw [if_pos c2, if_pos (by omega)]
          · rw [if_neg c2, if_neg (by omega)]
      · by_cases e : j = i
        · subst e
          rw [hp]
          cases lv with
          | zero => trivial
          | succ k => intro h; exact absurd rfl h
        · exact Sp j (by omega) s hs
    have hpn : (p != 0) = true := bne_iff_ne.2 hp0
    cases lv with
    | zero =>
      rw [hpn, if_pos (by rfl)]
      simp only [Nat.pow_zero, Nat.mul_one] at *
      refine ⟨by simp only [List.length_set]; exact Sl, ⟨t, St⟩, Snd, fun s hs => ?_, fun j hj s hs => trivial, Sa, fun x hx => ?_⟩
      · simp only
        rw [getD_set _ _ _ _ (by omega)]
        by_cases e : s = f + i
        · subst e
          rw [if_pos rfl, if_pos (by omega), Nat.div_one, show f + i - f = i by omega, hp]; rfl
        · rw [if_neg e, Sm s hs]
          by_cases c2 : f ≤ s ∧ s < f + i
          · rw [if_pos c2, if_pos (by omega)]
          · rw [if_neg c2, if_neg (by omega)]
      · rcases List.mem_or_eq_of_mem_set hx with g | g
        · exact Sb x g
        · exact .inr (.inr (by omega))
    | succ k =>
      rw [hpn, if_neg (by simp), if_pos rfl] at hnb1 ⊢
      have T := hrec k rfl p (f + i * 8 ^ (k + 1)) (wm, wn, false) (by omega) Sl rfl here hnb1
      have hlen : (trec L B (k + 1) p (f + i * 8 ^ (k + 1)) (wm, wn, false)).1.length = 512 := by rw [trec_len]; exact Sl
      change TSpec L B k p (f + i * 8 ^ (k + 1)) (wm, wn, false) (trec L B (k + 1) p (f + i * 8 ^ (k + 1)) (wm, wn, false)) at T
      generalize trec L B (k + 1) p (f + i * 8 ^ (k + 1)) (wm, wn, false) = R at *
      obtain ⟨T1, T2, ⟨t2, T3⟩, T4, T5, T6, T7, T8⟩ := T
      simp only at T2 T3 T4 T5 T7 T8
      refine ⟨hlen, ⟨t ++ p :: t2, by rw [T3, St, List.append_assoc]⟩, fun h => T4 (Snd h), fun s hs => ?_, fun j hj s hs => ?_, fun x hx => ?_, fun x hx => ?_⟩
      · rw [T5 s hs]
        by_cases c : f + i * 8 ^ (k + 1) ≤ s ∧ s < f + i * 8 ^ (k + 1) + 8 ^ (k + 1)
        · obtain ⟨d1, d2⟩ := divmod_at hpos c.1 c.2
          rw [if_pos c, if_pos (by omega), d1, d2, hp]
        · rw [if_neg c, Sm s hs]
          by_cases c2 : f ≤ s ∧ s < f + i * 8 ^ (k + 1)
          · rw [if_pos c2, if_pos (by omega)]
          · rw [if_neg c2, if_neg (by omega)]
      · by_cases e : j = i
        · subst e; rw [hp]; exact T6 s hs
        · exact Sp j (by omega) s hs
      · rcases T7 x hx with g | ⟨q, g1, g2⟩
        · exact Sa x g
        · exact .inr ⟨q, by omega, g2⟩
      · rcases T8 x hx with g | g
        · exact Sb x g
        · exact .inr g
theorem spec_body {L : List Int} {B lv : Nat} (hrec : ∀ k, lv = k + 1 → SpecAt L B k) : SpecAt L B lv := by
  intro a f w hf hl hw hz hb
  obtain ⟨m, ns, bd⟩ := w
  simp only at hl hw hz
  subst hw
  have hpos : 0 < 8 ^ lv := Nat.pow_pos (by decide)
  have hp8 : 8 ^ (lv + 1) = 8 * 8 ^ lv := by rw [Nat.pow_succ, Nat.mul_comm]
  rw [tgo_eq] at hb ⊢
  unfold tbody at hb ⊢
  by_cases hc : (!atIs L B a (lv : Int) || ns.contains a) = true
  · rw [if_pos hc] at hb; cases hb
  rw [if_neg hc] at hb ⊢
  rw [Bool.or_eq_true, not_or, Bool.not_eq_true, Bool.not_eq_true, Bool.not_eq_false'] at hc
  obtain ⟨h1, h2⟩ := hc
  have ha := atIs_ne h1
  have S := fold_spec (ps := (atV L B a).2) (ns := ns ++ [a]) hrec hf hl hz (Nat.le_refl 8) hb 8 (Nat.le_refl 8)
  change TSpec L B lv a f (m, ns, false) ((List.range 8).foldl (tst L B lv (atV L B a).2 f) (m, ns ++ [a], false))
  generalize (List.range 8).foldl (tst L B lv (atV L B a).2 f) (m, ns ++ [a], false) = R at *
  obtain ⟨_, ⟨t, St⟩, Snd, Sm, Sp, Sa, Sb⟩ := S
  refine ⟨h1, h2, ⟨t, by rw [St, List.append_assoc]; rfl⟩, fun h => Snd (nodup_snoc h (by simpa using h2)), fun s hs => ?_, fun s hs => ?_, fun x hx => ?_, fun x hx => Sb x hx⟩
  · rw [Sm s hs, ← hp8]
    by_cases c : f ≤ s ∧ s < f + 8 ^ (lv + 1)
    · rw [if_pos c, if_pos c]
      show _ = if a = 0 then 0 else _
      rw [if_neg (by omega)]
    · rw [if_neg c, if_neg c]
  · intro _
    exact ⟨h1, Sp (s / 8 ^ lv) (by rw [Nat.div_lt_iff_lt_mul hpos]; omega) (s % 8 ^ lv) (Nat.mod_lt _ hpos)⟩
  · rcases Sa x hx with g | g
    · rcases List.mem_append.1 g with g | g
      · exact .inl g
      · rw [List.mem_singleton] at g; subst g; exact .inr ⟨lv, Nat.le_refl _, h1⟩
    · exact .inr g
theorem tgo_spec (L : List Int) (B : Nat) : ∀ lv, SpecAt L B lv := by
  intro lv
  induction lv with
  | zero => exact spec_body (fun k e => by cases e)
  | succ k ih => exact spec_body (fun j e => by cases e; exact ih)
end Go.Proofs.Ytbinkbdfoalbcaa
end
section
set_option linter.unusedVariables false
set_option maxRecDepth 100000
open Go Go.Am Go.RowKit
namespace Go.Proofs.Ytbinkbdfoalbcaa
open Go.Proofs.Try
/-- What a tree that is one says of its map. -/
theorem tree_spec {L : List Int} {root : Int} (hr : root ≠ 0) (h : treeOk L root = true) : TSpec L (L.length / 64) 2 root 0 (List.replicate 512 0, [], false) (treeM L root, treeN L root, false) := by
  unfold treeOk at h
  rw [show (root == 0) = false from beq_eq_false_iff_ne.2 hr, Bool.false_or, Bool.and_eq_true, Bool.not_eq_true', Bool.not_eq_true'] at h
  have hm : treeM L root = (treeW L root).1 := by unfold treeM; rw [show (root == 0) = false from beq_eq_false_iff_ne.2 hr]; rfl
  have hn : treeN L root = (treeW L root).2.1 := by unfold treeN; rw [show (root == 0) = false from beq_eq_false_iff_ne.2 hr]; rfl
  have := tgo_spec L (L.length / 64) 2 root 0 (List.replicate 512 0, [], false) (by decide) List.length_replicate rfl (fun s _ _ => by
    rw [List.getD_eq_getElem?_getD, List.getElem?_replicate]; split <;> rfl) h.1
  change TSpec L (L.length / 64) 2 root 0 (List.replicate 512 0, [], false) (treeW L root) at this
  rw [hm, hn]
  generalize treeW L root = w at *
  obtain ⟨a, b, c⟩ := w
  have hc : c = false := h.1
  subst hc
  exact this
theorem tree_at {L : List Int} {root : Int} (hr : root ≠ 0) (h : treeOk L root = true) {s : Nat} (hs : s < 512) : (treeM L root).getD s 0 = look L (L.length / 64) 3 root s := by
  have := (tree_spec hr h).m s hs
  rw [if_pos ⟨Nat.zero_le _, by simpa using hs⟩, Nat.sub_zero] at this
  exact this
theorem sl64 {h : Heap} {v : Value} {l : List Int} (hl : l.length = 64) (sl : Sl h v 1 64 (us l)) : Sl h v 1 l.length (us l) := by rw [hl]; exact sl
theorem nodParseS_ok {h : Heap} {v : Value} {l : List Int} (sl : Sl h v 1 l.length (us l)) (hb : Byt l) : RunF prog 90 [v] h fun r h' => r = .tuple #[.agg ⟨nc (nodV l).1 (nodV l).2⟩, .int .i64 (nCode l)] ∧ Fr no h h' := by
  obtain ⟨A, c, rfl, hc, hA⟩ := sl.form
  rw [← nodV_cells]
  exact nodParse_ok (fun hl => by obtain ⟨b, o, rfl, rd⟩ := hA (by omega); exact ⟨_, rfl, rd⟩) hb hc
theorem is_pos {l : List Int} (hl : l ≠ []) : 0 < l.length := List.length_pos_iff.2 hl
end Go.Proofs.Ytbinkbdfoalbcaa
end
section
set_option linter.unusedVariables false
set_option maxRecDepth 100000
open Go Go.Am Go.RowKit
namespace Go.Proofs.Ytbinkbdfoalbcaa
open Go.Proofs.Try
theorem keepBytesS_ok {h : Heap} {v w : Value} {l m : List Int} (sl : Sl h v 1 l.length (us l)) (sm : Sl h w 1 m.length (us m)) (hm : l.length ≤ 4611686018427387904) :
    RunF prog 19 [v, w] h fun v h' => v = .bool (l == m) ∧ h = h' := by
  obtain ⟨A, c, rfl, _, hA⟩ := sl.form
  obtain ⟨B, d, rfl, _, hB⟩ := sm.form
  exact keepBytes_ok (fun hl => by obtain ⟨b, o, rfl, rd⟩ := hA hl; exact ⟨_, rfl, rd⟩) (fun hl => by obtain ⟨b, o, rfl, rd⟩ := hB hl; exact ⟨_, rfl, rd⟩) hm
def mapG (L : List Int) (root : Int) : List Int := if treeE L root = 0 then treeM L root else []
def nodG (L : List Int) (root : Int) : List Int := if treeE L root = 0 then treeN L root else []
theorem mapG_len (L : List Int) (root : Int) : (mapG L root).length ≤ 512 := by
  unfold mapG; split
  · rw [treeM_len]; exact Nat.le_refl _
  · exact Nat.zero_le _
theorem nodG_len (L : List Int) (root : Int) : (nodG L root).length ≤ 100000 := by
  unfold nodG; split
  · have := treeN_len L root; omega
  · exact Nat.zero_le _
theorem treeMapS_ok {h : Heap} {iv : Value} {L : List Int} {root : Int} (sl : Sl h iv 1 L.length (us L)) (hb : Byt L) (hm : L.length ≤ 4611686018427387904) :
    RunF prog 42 [iv, .int .i64 root] h fun v h' => Fr no h h' ∧ ∃ gv, v = .tuple #[gv, .int .i64 (treeE L root)] ∧ Osl h.next h' gv 1 (mapG L root).length (is (mapG L root)) := by
  refine (treeMap_ok sl hb hm).mono ?_
  have hml3 := treeM_len L root
  rintro _ h3 ⟨f3, ⟨e0, mb, hmb, rfl, om⟩ | ⟨e0, rfl⟩⟩
  · refine ⟨f3, _, by rw [e0], ?_⟩
    unfold mapG
    rw [if_pos e0, hml3]
    have := sl_owI om hml3 (Cp.exc (Nat.le_refl 512)) (by decide)
    rw [hml3] at this
    exact ⟨this.1, this.2.1, .inr ⟨mb, _, hmb, rfl, Cp.exc (Nat.le_refl 512), om⟩⟩
  · refine ⟨f3, _, rfl, ?_⟩
    unfold mapG
    rw [if_neg e0]
    exact ⟨by simp [is], Nat.zero_le _, .inl ⟨rfl, rfl⟩⟩
theorem treeNodesS_ok {h : Heap} {iv : Value} {L : List Int} {root : Int} (sl : Sl h iv 1 L.length (us L)) (hb : Byt L) (hm : L.length ≤ 4611686018427387904) :
    RunF prog 41 [iv, .int .i64 root] h fun v h' => Fr no h h' ∧ ∃ gv, v = .tuple #[gv, .int .i64 (treeE L root)] ∧ Osl h.next h' gv 1 (nodG L root).length (is (nodG L root)) := by
  refine (treeNodes_ok sl hb hm).mono ?_
  have hnl := treeN_len L root
  rintro _ h3 ⟨f3, ⟨e0, nv, rfl, row⟩ | ⟨e0, rfl⟩⟩
  · refine ⟨f3, _, by rw [e0], ?_⟩
    unfold nodG
    rw [if_pos e0]
    exact row.os (by omega)
  · refine ⟨f3, _, rfl, ?_⟩
    unfold nodG
    rw [if_neg e0]
    exact ⟨by simp [is], Nat.zero_le _, .inl ⟨rfl, rfl⟩⟩
theorem Sl.lenI {P : Program} {h : Heap} {v : Value} {s n : Nat} {cells : List Value} (sl : Sl h v s n cells) : ∃ A c, v = .slice A n c := by
  obtain ⟨A, c, rfl, _⟩ := sl.form
  exact ⟨A, c, rfl⟩
end Go.Proofs.Ytbinkbdfoalbcaa
end
section
set_option linter.unusedVariables false
set_option maxRecDepth 100000
open Go Go.Am Go.RowKit
namespace Go.Proofs.Ytbinkbdfoalbcaa
open Go.Proofs.Try
/-- A node's pointers; of no node none. -/
def ptrsL (L : List Int) (B : Nat) (p : Int) : List Int := if p = 0 then nZero else (atV L B p).2
theorem ptrsL_len (L : List Int) (B : Nat) (p : Int) : (ptrsL L B p).length = 8 := by
  unfold ptrsL; split
  · rfl
  · exact atV_len L B p
theorem nz_get (i : Nat) : nZero.getD i 0 = 0 := by
  show (List.replicate 8 (0 : Int)).getD i 0 = 0
  rw [List.getD_eq_getElem?_getD, List.getElem?_replicate]; split <;> rfl
theorem look_suc (L : List Int) (B k : Nat) (p : Int) (s : Nat) : look L B (k + 1) p s = look L B k ((ptrsL L B p).getD (s / 8 ^ k) 0) (s % 8 ^ k) := by
  show (if p = 0 then 0 else _) = _
  unfold ptrsL
  by_cases e : p = 0
  · rw [if_pos e, if_pos e, nz_get, look_zero]
  · rw [if_neg e, if_neg e]
/-- One level more, at the end of the way. -/
theorem look_last (L : List Int) (B : Nat) : ∀ (k : Nat) (p : Int) (s : Nat), s < 8 ^ (k + 1) → look L B (k + 1) p s = (ptrsL L B (look L B k p (s / 8))).getD (s % 8) 0
  | 0, p, s, h => by
    rw [look_suc]
    show (ptrsL L B p).getD (s / 8 ^ 0) 0 = (ptrsL L B p).getD (s % 8) 0
    rw [Nat.pow_zero, Nat.div_one, Nat.mod_eq_of_lt (by simpa using h)]
  | k + 1, p, s, h => by
    have hpos : 0 < 8 ^ k := Nat.pow_pos (by decide)
    have hp : 8 ^ (k + 1) = 8 ^ k * 8 := Nat.pow_succ ..
    rw [look_suc, look_last L B k _ _ (Nat.mod_lt _ (by omega)), look_suc L B k p (s / 8)]
    have e1 : s / 8 ^ (k + 1) = s / 8 / 8 ^ k := by rw [hp, Nat.mul_comm, Nat.div_div_eq_div_mul]
    have e2 : s % 8 ^ (k + 1) / 8 = s / 8 % 8 ^ k := by rw [hp, Nat.mul_comm, Nat.mod_mul_right_div_self]
    have e3 : s % 8 ^ (k + 1) % 8 = s % 8 := by rw [hp, Nat.mul_comm, Nat.mod_mul_right_mod]
    rw [e1, e2, e3]
/-- The nodes under a pointer, from the top. -/
def nodL (L : List Int) (B : Nat) : Nat → Int → List Int
  | 0, _ => []
  | k + 1, p => if p = 0 then [] else p :: (List.range 8).flatMap fun i => nodL L B k ((ptrsL L B p).getD i 0)
theorem nodL_zero (L : List Int) (B k : Nat) : nodL L B k 0 = [] := by cases k <;> rfl
/-- Under a pointer each node is one, of its level. -/
def okA (L : List Int) (B k : Nat) (p : Int) : Prop := ∀ s, s < 8 ^ k → pathOk L B k p s
theorem okA_at {L : List Int} {B k : Nat} {p : Int} (h : okA L B (k + 1) p) (hp : p ≠ 0) : atIs L B p (k : Int) = true := (h 0 (Nat.pow_pos (by decide)) hp).1
theorem okA_zero (L : List Int) (B k : Nat) : okA L B k 0 := by
  intro s hs
  cases k with
  | zero => trivial
  | succ k => exact fun e => absurd rfl e
theorem okA_child {L : List Int} {B k : Nat} {p : Int} (h : okA L B (k + 1) p) {i : Nat} (hi : i < 8) : okA L B k ((ptrsL L B p).getD i 0) := by
  by_cases hp : p = 0
  · have : (ptrsL L B p).getD i 0 = 0 := by unfold ptrsL; rw [if_pos hp, nz_get]
    rw [this]; exact okA_zero L B k
  · intro s hs
    have hpos : 0 < 8 ^ k := Nat.pow_pos (by decide)
    have hlt : i * 8 ^ k + s < 8 ^ (k + 1) := by
      have : i * 8 ^ k + 8 ^ k ≤ 8 ^ k * 8 := by rw [← Nat.succ_mul, Nat.mul_comm]; exact Nat.mul_le_mul_left _ hi
      rw [Nat.pow_succ]; omega
    have := (h _ hlt hp).2
    have e1 : (i * 8 ^ k + s) / 8 ^ k = i := by rw [Nat.add_comm, Nat.add_mul_div_right _ _ hpos, Nat.div_eq_of_lt hs, Nat.zero_add]
    have e2 : (i * 8 ^ k + s) % 8 ^ k = s := by rw [Nat.add_comm, Nat.add_mul_mod_self_right, Nat.mod_eq_of_lt hs]
    rw [e1, e2] at this
    unfold ptrsL
    rw [if_neg hp]
    exact this
theorem okA_mk {L : List Int} {B k : Nat} {p : Int} (h1 : p ≠ 0 → atIs L B p (k : Int) = true) (h2 : ∀ i, i < 8 → okA L B k ((ptrsL L B p).getD i 0)) : okA L B (k + 1) p := by
  intro s hs hp
  have hpos : 0 < 8 ^ k := Nat.pow_pos (by decide)
  refine ⟨h1 hp, ?_⟩
  have := h2 (s / 8 ^ k) (by rw [Nat.div_lt_iff_lt_mul hpos]; rw [Nat.pow_succ, Nat.mul_comm] at hs; exact hs) (s % 8 ^ k) (Nat.mod_lt _ hpos)
  unfold ptrsL at this
  rw [if_neg hp] at this
  exact this
theorem nodup_pre {α : Type} {a b c : List α} (h : (a ++ b ++ c).Nodup) : (a ++ b).Nodup := (List.nodup_append.1 h).1
theorem flat_pre {f : Nat → List Int} {i : Nat} (hi : i < 8) : ∃ t, (List.range 8).flatMap f = (List.range i).flatMap f ++ f i ++ t := by
  refine ⟨((List.range (8 - (i + 1))).map (i + 1 + ·)).flatMap f, ?_⟩
  have : List.range 8 = List.range (i + 1) ++ (List.range (8 - (i + 1))).map (i + 1 + ·) := by rw [← List.range_add]; congr 1; omega
  rw [this, List.flatMap_append, List.range_succ, List.flatMap_append]
  simp
/-- A walk that ends well has met just the nodes under its pointer. -/
def NodAt (L : List Int) (B lv : Nat) : Prop := ∀ (a : Int) (f : Nat) (w : TS), w.2.2 = false → (tgo L B lv a f w).2.2 = false → (tgo L B lv a f w).2.1 = w.2.1 ++ nodL L B (lv + 1) a
theorem nod_body {L : List Int} {B lv : Nat} (hrec : ∀ k, lv = k + 1 → NodAt L B k) : NodAt L B lv := by
  intro a f w hw h
  obtain ⟨m, ns, bd⟩ := w
  simp only at hw
  subst hw
  rw [tgo_eq] at h ⊢
  unfold tbody at h ⊢
  by_cases hc : (!atIs L B a (lv : Int) || ns.contains a) = true
  · rw [if_pos hc] at h; cases h
  rw [if_neg hc] at h ⊢
  rw [Bool.or_eq_true, not_or, Bool.not_eq_true, Bool.not_eq_true, Bool.not_eq_false'] at hc
  have ha := atIs_ne hc.1
  have ha0 : a ≠ 0 := by omega
  have hp : ptrsL L B a = (atV L B a).2 := by unfold ptrsL; rw [if_neg ha0]
  have hn : nodL L B (lv + 1) a = a :: (List.range 8).flatMap fun i => nodL L B lv ((ptrsL L B a).getD i 0) := by show (if a = 0 then _ else _) = _; rw [if_neg ha0]
  rw [hn]
  change ((List.range 8).foldl (tst L B lv (atV L B a).2 f) (m, ns ++ [a], false)).2.2 = false at h
  show ((List.range 8).foldl (tst L B lv (atV L B a).2 f) (m, ns ++ [a], false)).2.1 = _
  have key : ∀ i, i ≤ 8 → ((List.range i).foldl (tst L B lv (atV L B a).2 f) (m, ns ++ [a], false)).2.1 = ns ++ a :: (List.range i).flatMap fun i => nodL L B lv ((ptrsL L B a).getD i 0) := by
    intro i
    induction i with
    | zero => intro _; rfl
    | succ i ih =>
      intro hi
      have hnb := fold_pre h (i := i) (by omega)
      have hnb1 := fold_pre h (i := i + 1) hi
      have ih := ih (by omega)
      have hstep : (List.range (i + 1)).foldl (tst L B lv (atV L B a).2 f) (m, ns ++ [a], false) = tst L B lv (atV L B a).2 f ((List.range i).foldl (tst L B lv (atV L B a).2 f) (m, ns ++ [a], false)) i := by rw [List.range_succ, List.foldl_append]; rfl
      rw [hstep] at hnb1 ⊢
      have hfl : (List.range (i + 1)).flatMap (fun i => nodL L B lv ((ptrsL L B a).getD i 0)) = (List.range i).flatMap (fun i => nodL L B lv ((ptrsL L B a).getD i 0)) ++ nodL L B lv ((ptrsL L B a).getD i 0) := by rw [List.range_succ, List.flatMap_append]; simp
      rw [hfl]
      generalize (List.range i).foldl (tst L B lv (atV L B a).2 f) (m, ns ++ [a], false) = W at *
      rw [hp] at ih ⊢
      unfold tst tstep at hnb1 ⊢
      rw [hnb, if_neg Bool.false_ne_true] at hnb1 ⊢
      generalize hpi : (atV L B a).2.getD i 0 = p at *
      have fin : ∀ X : List Int, X = W.2.1 ++ nodL L B lv p → X = ns ++ a :: ((List.range i).flatMap (fun i => nodL L B lv ((atV L B a).2.getD i 0)) ++ nodL L B lv p) := fun X e => by rw [e, ih, List.append_assoc, List.cons_append]
      by_cases hB : decide (p ≥ (B : Int)) = true
      · rw [if_pos hB] at hnb1; cases hnb1
      rw [if_neg hB] at hnb1 ⊢
      cases lv with
      | zero =>
        refine fin _ ?_
        show _ = W.2.1 ++ []
        rw [List.append_nil]
        split
        · rfl
        · split <;> rfl
      | succ k =>
        rw [if_neg (by simp)] at hnb1 ⊢
        by_cases hp0 : p = 0
        · rw [if_neg (by simp [hp0])]
          refine fin _ ?_
          rw [hp0, nodL_zero, List.append_nil]
        · rw [if_pos (bne_iff_ne.2 hp0)] at hnb1 ⊢
          exact fin _ (hrec k rfl p (f + i * 8 ^ (k + 1)) W hnb hnb1)
  exact key 8 (Nat.le_refl 8)
theorem tgo_nod (L : List Int) (B : Nat) : ∀ lv, NodAt L B lv := by
  intro lv
  induction lv with
  | zero => exact nod_body (fun k e => by cases e)
  | succ k ih => exact nod_body (fun j e => by cases e; exact ih)
/-- A walk ends well. -/
def FineAt (L : List Int) (B lv : Nat) : Prop := ∀ (a : Int) (f : Nat) (w : TS), w.2.2 = false → a ≠ 0 → okA L B (lv + 1) a → (w.2.1 ++ nodL L B (lv + 1) a).Nodup → (∀ s, s < 8 ^ (lv + 1) → look L B (lv + 1) a s < B) → (tgo L B lv a f w).2.2 = false
theorem fine_body {L : List Int} {B lv : Nat} (hrec : ∀ k, lv = k + 1 → FineAt L B k) : FineAt L B lv := by
  intro a f w hw ha0 hok hnd hlt
  obtain ⟨m, ns, bd⟩ := w
  simp only at hw hnd
  subst hw
  have hn : nodL L B (lv + 1) a = a :: (List.range 8).flatMap fun i => nodL L B lv ((ptrsL L B a).getD i 0) := by show (if a = 0 then _ else _) = _; rw [if_neg ha0]
  have hp : ptrsL L B a = (atV L B a).2 := by unfold ptrsL; rw [if_neg ha0]
  rw [hn] at hnd
  have hat := okA_at hok ha0
  have hB0 : 0 < B := by have := atIs_ne hat; omega
  have hnc : ns.contains a = false := by
    rw [← Bool.not_eq_true]
    intro c
    have hm : a ∈ ns := by simpa using c
    exact (List.nodup_append.1 hnd).2.2 a hm a (List.mem_cons_self ..) rfl
  rw [tgo_eq]
  unfold tbody
  simp only
  rw [hat, hnc, if_neg (by simp)]
  change ((List.range 8).foldl (tst L B lv (atV L B a).2 f) (m, ns ++ [a], false)).2.2 = false
  have key : ∀ i, i ≤ 8 → ((List.range i).foldl (tst L B lv (atV L B a).2 f) (m, ns ++ [a], false)).2.2 = false ∧ ((List.range i).foldl (tst L B lv (atV L B a).2 f) (m, ns ++ [a], false)).2.1 = ns ++ a :: (List.range i).flatMap fun i => nodL L B lv ((ptrsL L B a).getD i 0) := by
    intro i
    induction i with
    | zero => intro _; exact ⟨rfl, rfl⟩
    | succ i ih =>
      intro hi
      obtain ⟨ih1, ih2⟩ := ih (by omega)
      have hstep : (List.range (i + 1)).foldl (tst L B lv (atV L B a).2 f) (m, ns ++ [a], false) = tst L B lv (atV L B a).2 f ((List.range i).foldl (tst L B lv (atV L B a).2 f) (m, ns ++ [a], false)) i := by rw [List.range_succ, List.foldl_append]; rfl
      rw [hstep]
      have hfl : (List.range (i + 1)).flatMap (fun i => nodL L B lv ((ptrsL L B a).getD i 0)) = (List.range i).flatMap (fun i => nodL L B lv ((ptrsL L B a).getD i 0)) ++ nodL L B lv ((ptrsL L B a).getD i 0) := by rw [List.range_succ, List.flatMap_append]; simp
      rw [hfl]
      obtain ⟨t, ht⟩ := flat_pre (f := fun i => nodL L B lv ((ptrsL L B a).getD i 0)) (show i < 8 by omega)
      rw [ht] at hnd
      have hsp := okA_child hok (i := i) (by omega)
      have hls : ∀ s, s < 8 ^ lv → look L B lv ((ptrsL L B a).getD i 0) s < B := fun s hs => by
        have hpos : 0 < 8 ^ lv := Nat.pow_pos (by decide)
        have hl2 : i * 8 ^ lv + s < 8 ^ (lv + 1) := by
          have : i * 8 ^ lv + 8 ^ lv ≤ 8 ^ lv * 8 := by rw [← Nat.succ_mul, Nat.mul_comm]; exact Nat.mul_le_mul_left _ hi
          rw [Nat.pow_succ]; omega
        have := hlt _ hl2
        rw [look_suc] at this
        have e1 : (i * 8 ^ lv + s) / 8 ^ lv = i := by rw [Nat.add_comm, Nat.add_mul_div_right _ _ hpos, Nat.div_eq_of_lt hs, Nat.zero_add]
        have e2 : (i * 8 ^ lv + s) % 8 ^ lv = s := by rw [Nat.add_comm, Nat.add_mul_mod_self_right, Nat.mod_eq_of_lt hs]
        rwa [e1, e2] at this
      generalize (List.range i).foldl (tst L B lv (atV L B a).2 f) (m, ns ++ [a], false) = W at *
      have hnW : (W.2.1 ++ nodL L B lv ((ptrsL L B a).getD i 0)).Nodup := by
        rw [ih2]
        have e : ns ++ a :: ((List.range i).flatMap (fun i => nodL L B lv ((ptrsL L B a).getD i 0)) ++ nodL L B lv ((ptrsL L B a).getD i 0) ++ t) = (ns ++ a :: (List.range i).flatMap fun i => nodL L B lv ((ptrsL L B a).getD i 0)) ++ nodL L B lv ((ptrsL L B a).getD i 0) ++ t := by simp
        rw [e] at hnd
        exact nodup_pre hnd
      rw [hp] at hsp hls hnW ih2 ⊢
      unfold tst tstep
      rw [ih1, if_neg Bool.false_ne_true]
      generalize hpi : (atV L B a).2.getD i 0 = p at *
      have fin : ∀ X : List Int, X = W.2.1 ++ nodL L B lv p → X = ns ++ a :: ((List.range i).flatMap (fun i => nodL L B lv ((atV L B a).2.getD i 0)) ++ nodL L B lv p) := fun X e => by rw [e, ih2, List.append_assoc, List.cons_append]
      have hpB : p < B := by
        by_cases hp0 : p = 0
        · omega
        · cases lv with
          | zero => exact hls 0 (by decide)
          | succ k => exact (atIs_ne (okA_at hsp hp0)).2
      rw [if_neg (by rw [decide_eq_true_eq]; omega)]
      cases lv with
      | zero =>
        refine ⟨?_, fin _ ?_⟩
        · split
          · rfl
          · split
            · exact ih1
            · exact ih1
        · show _ = W.2.1 ++ []
          rw [List.append_nil]
          split
          · rfl
          · split <;> rfl
      | succ k =>
        rw [if_neg (by simp)]
        by_cases hp0 : p = 0
        · rw [if_neg (by simp [hp0])]
          refine ⟨ih1, fin _ ?_⟩
          rw [hp0, nodL_zero, List.append_nil]
        · rw [if_pos (bne_iff_ne.2 hp0)]
          have h1 := hrec k rfl p (f + i * 8 ^ (k + 1)) W ih1 hp0 hsp hnW hls
          exact ⟨h1, fin _ (tgo_nod L B k p (f + i * 8 ^ (k + 1)) W ih1 h1)⟩
  exact (key 8 (Nat.le_refl 8)).1
theorem tgo_fine (L : List Int) (B : Nat) : ∀ lv, FineAt L B lv := by
  intro lv
  induction lv with
  | zero => exact fine_body (fun k e => by cases e)
  | succ k ih => exact fine_body (fun j e => by cases e; exact ih)
/-- What a tree is. -/
structure TreeIs (L : List Int) (root : Int) (m : List Int) : Prop where
  len : m.length = 512
  ok : okA L (L.length / 64) 3 root
  nd : (nodL L (L.length / 64) 3 root).Nodup
  map : ∀ s, s < 512 → look L (L.length / 64) 3 root s = m.getD s 0
  lt : ∀ s, s < 512 → m.getD s 0 < (L.length / 64 : Nat)
  out : ∀ s, s < 512 → ¬ m.getD s 0 ∈ nodL L (L.length / 64) 3 root
theorem TreeIs.of {L : List Int} {root : Int} (hB : 0 < L.length / 64) (h : treeOk L root = true) : TreeIs L root (treeM L root) ∧ treeN L root = nodL L (L.length / 64) 3 root := by
  by_cases hr : root = 0
  · subst hr
    have hz : ∀ s, (treeM L 0).getD s 0 = 0 := fun s => by
      show (List.replicate 512 (0 : Int)).getD s 0 = 0
      rw [List.getD_eq_getElem?_getD, List.getElem?_replicate]; split <;> rfl
    exact ⟨⟨treeM_len L 0, okA_zero _ _ _, by rw [nodL_zero]; exact List.nodup_nil, fun s _ => by rw [hz, look_zero], fun s _ => by rw [hz]; omega, fun s _ => by rw [nodL_zero]; simp⟩, by rw [nodL_zero]; rfl⟩
  · have S := tree_spec hr h
    have hn : treeN L root = (treeW L root).2.1 := by unfold treeN; rw [show (root == 0) = false from beq_eq_false_iff_ne.2 hr]; rfl
    have hm : treeM L root = (treeW L root).1 := by unfold treeM; rw [show (root == 0) = false from beq_eq_false_iff_ne.2 hr]; rfl
    have h2 := h
    unfold treeOk at h2
    rw [show (root == 0) = false from beq_eq_false_iff_ne.2 hr, Bool.false_or, Bool.and_eq_true, Bool.not_eq_true', Bool.not_eq_true'] at h2
    have hnod : treeN L root = nodL L (L.length / 64) 3 root := by
      have := tgo_nod L (L.length / 64) 2 root 0 (List.replicate 512 0, [], false) rfl h2.1
      rw [hn]
      exact this.trans (List.nil_append _)
    have hml := treeM_len L root
    have hmem : ∀ s, s < 512 → (treeM L root).getD s 0 ∈ treeM L root := fun s hs => by
      rw [List.getD_eq_getElem?_getD, List.getElem?_eq_getElem (by omega)]
      exact List.getElem_mem _
    refine ⟨⟨hml, fun s hs => S.path s hs, ?_, fun s hs => (tree_at hr h hs).symm, fun s hs => ?_, fun s hs c => ?_⟩, hnod⟩
    · rw [← hnod]; exact S.nd List.nodup_nil
    · rcases S.bnd _ (hmem s hs) with g | g | g
      · have := (List.mem_replicate.1 g).2; omega
      · omega
      · exact g
    · rw [← hnod] at c
      have := List.any_eq_false.1 h2.2 _ (by rw [← hm]; exact hmem s hs)
      rw [← hn] at this
      exact this (by simpa using c)
theorem TreeIs.tree {L : List Int} {root : Int} {m : List Int} (t : TreeIs L root m) : treeOk L root = true ∧ treeM L root = m ∧ treeN L root = nodL L (L.length / 64) 3 root := by
  by_cases hr : root = 0
  · subst hr
    refine ⟨rfl, ?_, by rw [nodL_zero]; rfl⟩
    show List.replicate 512 (0 : Int) = m
    apply List.ext_getElem?
    intro s
    by_cases hs : s < 512
    · have := t.map s hs
      rw [look_zero, List.getD_eq_getElem?_getD, List.getElem?_eq_getElem (by rw [t.len]; exact hs)] at this
      rw [List.getElem?_replicate, if_pos hs, List.getElem?_eq_getElem (by rw [t.len]; exact hs)]
      exact congrArg some this
    · rw [List.getElem?_eq_none (by simp; omega), List.getElem?_eq_none (by rw [t.len]; omega)]
  · have hf := tgo_fine L (L.length / 64) 2 root 0 (List.replicate 512 0, [], false) rfl hr t.ok (by rw [List.nil_append]; exact t.nd) (fun s hs => by rw [t.map s hs]; exact t.lt s hs)
    have hnod := tgo_nod L (L.length / 64) 2 root 0 (List.replicate 512 0, [], false) rfl hf
    have S := tgo_spec L (L.length / 64) 2 root 0 (List.replicate 512 0, [], false) (by decide) List.length_replicate rfl (fun s _ _ => by
      rw [List.getD_eq_getElem?_getD, List.getElem?_replicate]; split <;> rfl) hf
    have hlen : (treeW L root).1.length = 512 := treeW_len L root
    have hmap : (treeW L root).1 = m := by
      apply List.ext_getElem?
      intro s
      by_cases hs : s < 512
      · have := S.m s hs
        rw [if_pos ⟨Nat.zero_le _, by simpa using hs⟩, Nat.sub_zero, t.map s hs] at this
        change (treeW L root).1.getD s 0 = m.getD s 0 at this
        rw [List.getD_eq_getElem?_getD, List.getD_eq_getElem?_getD, List.getElem?_eq_getElem (by omega), List.getElem?_eq_getElem (by rw [t.len]; exact hs)] at this
        rw [List.getElem?_eq_getElem (by omega), List.getElem?_eq_getElem (by rw [t.len]; exact hs)]
        exact congrArg some this
      · rw [List.getElem?_eq_none (by omega), List.getElem?_eq_none (by rw [t.len]; omega)]
    have hnodW : (treeW L root).2.1 = nodL L (L.length / 64) 3 root := hnod.trans (List.nil_append _)
    have hfW : (treeW L root).2.2 = false := hf
    have e0 : (root == 0) = false := beq_eq_false_iff_ne.2 hr
    refine ⟨?_, ?_, ?_⟩
    · unfold treeOk
      rw [e0, hfW, hmap, hnodW, Bool.false_or, Bool.not_false, Bool.true_and, Bool.not_eq_true', List.any_eq_false]
      intro x hx c
      obtain ⟨s, hs, rfl⟩ := List.mem_iff_getElem.1 hx
      have := t.out s (by rw [← t.len]; exact hs)
      rw [List.getD_eq_getElem?_getD, List.getElem?_eq_getElem hs] at this
      exact this (by simpa using c)
    · unfold treeM; rw [e0]; exact hmap
    · unfold treeN; rw [e0]; exact hnodW
end Go.Proofs.Ytbinkbdfoalbcaa
end
section
set_option linter.unusedVariables false
set_option maxRecDepth 100000
open Go Go.Am Go.RowKit
namespace Go.Proofs.Ytbinkbdfoalbcaa
open Go.Proofs.Try
/-- The places of a tree's nodes: so far down, so far along. -/
def posL : Nat → List (Nat × Nat)
  | 0 => []
  | k + 1 => (0, 0) :: (List.range 8).flatMap fun i => (posL k).map fun x => (x.1 + 1, i * 8 ^ x.1 + x.2)
theorem posL_lt : ∀ (k : Nat) (x : Nat × Nat), x ∈ posL k → x.1 < k ∧ x.2 < 8 ^ x.1
  | 0, x, h => by cases h
  | k + 1, x, h => by
    rcases List.mem_cons.1 h with rfl | h
    · exact ⟨Nat.succ_pos _, by decide⟩
    · obtain ⟨i, hi, h⟩ := List.mem_flatMap.1 h
      obtain ⟨y, hy, rfl⟩ := List.mem_map.1 h
      rw [List.mem_range] at hi
      obtain ⟨h1, h2⟩ := posL_lt k y hy
      refine ⟨by omega, ?_⟩
      show i * 8 ^ y.1 + y.2 < 8 ^ (y.1 + 1)
      have : i * 8 ^ y.1 + 8 ^ y.1 ≤ 8 ^ y.1 * 8 := by rw [← Nat.succ_mul, Nat.mul_comm]; exact Nat.mul_le_mul_left _ hi
      rw [Nat.pow_succ]; omega
theorem posL_mem : ∀ (k d q : Nat), d < k → q < 8 ^ d → (d, q) ∈ posL k
  | 0, d, q, h, _ => absurd h (Nat.not_lt_zero _)
  | k + 1, 0, q, _, h2 => by
    have : q = 0 := by simpa using h2
    subst this
    exact List.mem_cons_self ..
  | k + 1, d + 1, q, h1, h2 => by
    have hpos : 0 < 8 ^ d := Nat.pow_pos (by decide)
    refine List.mem_cons_of_mem _ (List.mem_flatMap.2 ⟨q / 8 ^ d, List.mem_range.2 (by rw [Nat.div_lt_iff_lt_mul hpos]; rw [Nat.pow_succ, Nat.mul_comm] at h2; exact h2), List.mem_map.2 ⟨(d, q % 8 ^ d), posL_mem k d _ (by omega) (Nat.mod_lt _ hpos), ?_⟩⟩)
    show (d + 1, q / 8 ^ d * 8 ^ d + q % 8 ^ d) = _
    rw [Nat.div_add_mod']
theorem look_at {L : List Int} {B d i q : Nat} {p : Int} (hi : i < 8) (hq : q < 8 ^ d) : look L B (d + 1) p (i * 8 ^ d + q) = look L B d ((ptrsL L B p).getD i 0) q := by
  have hpos : 0 < 8 ^ d := Nat.pow_pos (by decide)
  rw [look_suc]
  have e1 : (i * 8 ^ d + q) / 8 ^ d = i := by rw [Nat.add_comm, Nat.add_mul_div_right _ _ hpos, Nat.div_eq_of_lt hq, Nat.zero_add]
  have e2 : (i * 8 ^ d + q) % 8 ^ d = q := by rw [Nat.add_comm, Nat.add_mul_mod_self_right, Nat.mod_eq_of_lt hq]
  rw [e1, e2]
theorem filter_flat {α β : Type} (f : α → List β) (p : β → Bool) : ∀ l : List α, (l.flatMap f).filter p = l.flatMap fun x => (f x).filter p
  | [] => rfl
  | x :: l => by rw [List.flatMap_cons, List.filter_append, filter_flat f p l, List.flatMap_cons]
theorem nodL_pos (L : List Int) (B : Nat) : ∀ (k : Nat) (p : Int), nodL L B k p = ((posL k).map fun x => look L B x.1 p x.2).filter (· != 0)
  | 0, p => rfl
  | k + 1, p => by
    by_cases hp : p = 0
    · subst hp
      rw [nodL_zero]
      symm
      rw [List.filter_eq_nil_iff]
      intro x hx
      obtain ⟨y, _, rfl⟩ := List.mem_map.1 hx
      rw [look_zero]; simp
    · show (if p = 0 then _ else _) = _
      rw [if_neg hp]
      show _ = List.filter _ (List.map _ ((0, 0) :: _))
      rw [List.map_cons, List.filter_cons_of_pos (by show (p != 0) = true; exact bne_iff_ne.2 hp)]
      show p :: _ = p :: _
      congr 1
      rw [List.map_flatMap, filter_flat]
      have key : ∀ l : List Nat, (∀ i ∈ l, i < 8) → (l.flatMap fun i => nodL L B k ((ptrsL L B p).getD i 0)) = l.flatMap fun i => List.filter (· != 0) (List.map (fun x => look L B x.1 p x.2) (List.map (fun x => (x.1 + 1, i * 8 ^ x.1 + x.2)) (posL k))) := by
        intro l
        induction l with
        | nil => intro _; rfl
        | cons i l ih =>
          intro hl
          rw [List.flatMap_cons, List.flatMap_cons, ih (fun j hj => hl j (List.mem_cons_of_mem _ hj)), nodL_pos L B k]
          congr 2
          rw [List.map_map]
          apply List.map_congr_left
          intro x hx
          exact (look_at (hl i (List.mem_cons_self ..)) (posL_lt k x hx).2).symm
      exact key _ (fun i hi => List.mem_range.1 hi)
theorem nodL_mem {L : List Int} {B k : Nat} {p x : Int} : x ∈ nodL L B k p ↔ x ≠ 0 ∧ ∃ d q, d < k ∧ q < 8 ^ d ∧ look L B d p q = x := by
  rw [nodL_pos, List.mem_filter, List.mem_map, bne_iff_ne]
  constructor
  · rintro ⟨⟨y, hy, rfl⟩, h0⟩
    exact ⟨h0, y.1, y.2, (posL_lt k y hy).1, (posL_lt k y hy).2, rfl⟩
  · rintro ⟨h0, d, q, hd, hq, rfl⟩
    exact ⟨⟨(d, q), posL_mem k d q hd hq, rfl⟩, h0⟩
theorem posL3_nodup : (posL 3).Nodup := by decide
theorem nodL_nodup {L : List Int} {B : Nat} {p : Int} (h : ∀ d q d' q', d < 3 → q < 8 ^ d → d' < 3 → q' < 8 ^ d' → look L B d p q ≠ 0 → look L B d p q = look L B d' p q' → d = d' ∧ q = q') : (nodL L B 3 p).Nodup := by
  rw [nodL_pos]
  show List.Pairwise _ _
  rw [List.pairwise_filter, List.pairwise_map]
  refine (List.Pairwise.and_mem.1 posL3_nodup).imp ?_
  rintro ⟨d, q⟩ ⟨d', q'⟩ ⟨h1, h2, hne⟩ h3 h4 e
  have p1 := posL_lt 3 _ h1
  have p2 := posL_lt 3 _ h2
  obtain ⟨rfl, rfl⟩ := h d q d' q' p1.1 p1.2 p2.1 p2.2 (by simpa using h3) e
  exact hne rfl
theorem nodL_inj {L : List Int} {B : Nat} {p : Int} (h : (nodL L B 3 p).Nodup) {d q d' q' : Nat} (hd : d < 3) (hq : q < 8 ^ d) (hd' : d' < 3) (hq' : q' < 8 ^ d') (h0 : look L B d p q ≠ 0) (e : look L B d p q = look L B d' p q') : d = d' ∧ q = q' := by
  rw [nodL_pos] at h
  change List.Pairwise _ _ at h
  rw [List.pairwise_filter, List.pairwise_map] at h
  have m1 := posL_mem 3 d q hd hq
  have m2 := posL_mem 3 d' q' hd' hq'
  obtain ⟨i, hi, e1⟩ := List.mem_iff_getElem.1 m1
  obtain ⟨j, hj, e2⟩ := List.mem_iff_getElem.1 m2
  have b1 : (look L B (d, q).1 p (d, q).2 != 0) = true := bne_iff_ne.2 h0
  have b2 : (look L B (d', q').1 p (d', q').2 != 0) = true := bne_iff_ne.2 (by show look L B d' p q' ≠ 0; rw [← e]; exact h0)
  rcases Nat.lt_trichotomy i j with g | g | g
  · have := List.pairwise_iff_getElem.1 h i j hi hj g
    rw [e1, e2] at this
    exact absurd e (this b1 b2)
  · subst g
    rw [e1] at e2
    cases e2
    exact ⟨rfl, rfl⟩
  · have := List.pairwise_iff_getElem.1 h j i hj hi g
    rw [e1, e2] at this
    exact absurd e.symm (this b2 b1)
end Go.Proofs.Ytbinkbdfoalbcaa
end
section
set_option linter.unusedVariables false
set_option maxRecDepth 100000
open Go Go.Am
namespace Go.Proofs.Ytbinkbdfoalbcaa
open Go.Proofs.Try
theorem indexRec_ok {h : Heap} {v : Value} {n : Nat} {acs : List Value} (sl : Sl h v 8 n acs) {u : Nat → Value} (hu : ∀ j, j < n → apart prog 41 acs (j * 8) = some (u j)) {g : FuncId} {cap : List Value} {p : Nat → Bool}
    (hg : ∀ j, j < n → ∀ h1, Fr no h h1 → RunF prog g (u j :: cap) h1 (fun v h2 => v = .bool (p j) ∧ Fr no h1 h2)) (hm : n ≤ 4611686018427387904) :
    RunF prog 46 [v, .func (.func g) #[] ⟨cap⟩] h fun r h' => Fr no h h' ∧ ((∃ i : Nat, i < n ∧ r = .int .i64 (i : Int) ∧ p i = true ∧ ∀ j, j < i → p j = false) ∨ (r = .int .i64 (-1) ∧ ∀ j, j < n → p j = false)) := by
  refine RunF.walk func46 rfl rfl ?_
  obtain ⟨A, c, rfl, hc, _⟩ := sl.form
  refine RunC.seq (RunC.region (RunO.all rfl ?_))
  refine RunC.seq (RunC.seq (RunC.region (RunO.all rfl ?_)))
  refine RunC.block ?_
  let I : Nat → Env → Heap → Prop := fun k E h' => ∃ i : Nat, i + k = n ∧ (∀ j, j < i → p j = false) ∧ Fr no h h' ∧ Le (upd (upd (upd (upd E0 0 (.slice A n c)) 1 (.func (.func g) #[] ⟨cap⟩)) 7 (.int .i64 n)) 8 (.int .i64 i)) E
  refine RunC.loop I ?_ (k := n) ?_
  · rintro k E h' ⟨i, hi, hp, hf, hE⟩
    refine RunC.le hE ?_
    clear hE
    refine RunC.seq (RunC.region (RunO.all rfl ?_))
    refine RunC.seq (RunC.cond rfl (fun hlt => ?_) (fun hge => ?_))
    · have hlt := of_decide_eq_true hlt
      have h1 : i < n := by omega
      refine RunC.skip ?_
      refine RunC.seq (RunC.block ?_)
      refine RunC.seq (RunC.region (RunO.all rfl ?_))
      refine RunC.seq (RunC.region (RunO.part 3 rfl ?_))
      refine RunO.at (s := 8) rfl rfl (sl.fr0 hf) rfl rfl h1 (hu i h1) rfl rfl rfl ?_
      refine RunO.call rfl rfl ?_
      refine RunF.mono (hg i h1 _ hf) ?_
      rintro _ h2 ⟨rfl, f2⟩
      refine ⟨_, rfl, RunO.all rfl ?_⟩
      refine RunC.cond rfl (fun ht => ?_) (fun hn => ?_)
      · refine RunC.seq (RunC.region (RunO.all rfl (RunC.ret ⟨_, rfl, hf.quiet f2, .inl ⟨i, h1, rfl, ht, hp⟩⟩)))
      · refine RunC.skip (RunC.region (RunO.all rfl ?_))
        refine ⟨k - 1, by omega, i + 1, by omega, fun j hj => ?_, hf.quiet f2, Le.cons (inc64 (by omega)) (Le.cons rfl (Le.cons rfl (Le.cons rfl (Le.nil _))))⟩
        rcases Nat.lt_or_ge j i with q | q
        · exact hp j q
        · rw [show j = i by omega]; exact hn
    · have hge := of_decide_eq_false hge
      refine RunC.exit ?_
      exact RunC.seq (RunC.region (RunO.all rfl (RunC.ret ⟨_, rfl, hf, .inr ⟨rfl, fun j hj => hp j (by omega)⟩⟩)))
  · exact ⟨0, by omega, fun j hj => absurd hj (Nat.not_lt_zero _), Fr.refl _ _, Le.cons rfl (Le.cons rfl (Le.cons rfl (Le.cons rfl (Le.nil _))))⟩
theorem containsRec_ok {h : Heap} {v : Value} {n : Nat} {acs : List Value} (sl : Sl h v 8 n acs) {u : Nat → Value} (hu : ∀ j, j < n → apart prog 41 acs (j * 8) = some (u j)) {g : FuncId} {cap : List Value} {p : Nat → Bool}
    (hg : ∀ j, j < n → ∀ h1, Fr no h h1 → RunF prog g (u j :: cap) h1 (fun v h2 => v = .bool (p j) ∧ Fr no h1 h2)) (hm : n ≤ 4611686018427387904) :
    RunF prog 101 [v, .func (.func g) #[] ⟨cap⟩] h fun r h' => r = .bool (anyI p n) ∧ Fr no h h' := by
  refine RunF.walk func101 rfl rfl ?_
  refine RunC.seq (RunC.region (RunO.all rfl ?_))
  refine RunC.seq (RunC.region (RunO.part 2 rfl ?_))
  refine RunO.callD (indexRec_ok sl hu hg hm) rfl rfl rfl ?_
  rintro _ h2 ⟨f2, ⟨i, hi, rfl, hp, _⟩ | ⟨rfl, hp⟩⟩
  · refine RunO.all rfl (RunC.ret ⟨_, rfl, ?_, f2⟩)
    rw [anyI_true hi hp]
    exact congrArg Value.bool (decide_eq_true (Int.natCast_nonneg i))
  · refine RunO.all rfl (RunC.ret ⟨_, rfl, ?_, f2⟩)
    rw [anyI_false hp]; rfl
end Go.Proofs.Ytbinkbdfoalbcaa
end
section
set_option linter.unusedVariables false
set_option maxRecDepth 100000
open Go Go.Am Go.RowKit
namespace Go.Proofs.Ytbinkbdfoalbcaa
open Go.Proofs.Try
/-- A record. -/
structure R8 where
  nx : Int
  id : Int
  pa : Int
  ro : Int
  sz : Int
  ki : Int
  fr : Int
  di : Int
deriving DecidableEq
def rc8 (r : R8) : List Value := rc r.nx r.id r.pa r.ro r.sz r.ki r.fr r.di
def rPar (l : List Int) : R8 := if rCode l = 0 then ⟨rNum l 0, rNum l 1, rNum l 2, rNum l 3, rNum l 4, rNum l 5, rNum l 6, rNum l 7⟩ else ⟨0, 0, 0, 0, 0, 0, 0, 0⟩
theorem rCells_eq (l : List Int) : rCells l = rc8 (rPar l) := by
  unfold rCells rPar
  split <;> rfl
def recCs (l : List R8) : List Value := l.flatMap rc8
theorem recCs_len : ∀ l : List R8, (recCs l).length = l.length * 8
  | [] => rfl
  | c :: l => by show (rc8 c ++ recCs l).length = _; rw [List.length_append, recCs_len l, List.length_cons, show (rc8 c).length = 8 from rfl]; omega
theorem recCs_app (a b : List R8) : recCs (a ++ b) = recCs a ++ recCs b := List.flatMap_append
theorem recCs_drop : ∀ (l : List R8) (i : Nat), (recCs l).drop (i * 8) = recCs (l.drop i)
  | l, 0 => by rw [Nat.zero_mul]; rfl
  | [], i + 1 => by simp [recCs]
  | c :: l, i + 1 => by
    show (rc8 c ++ recCs l).drop ((i + 1) * 8) = recCs (l.drop i)
    rw [← recCs_drop l i, show (i + 1) * 8 = (rc8 c).length + i * 8 by rw [show (rc8 c).length = 8 from rfl]; omega, List.drop_append]
    simp
theorem recCs_at {l : List R8} {i : Nat} (h : i < l.length) : (recCs l).drop (i * 8) = rc8 l[i] ++ recCs (l.drop (i + 1)) := by
  rw [recCs_drop, List.drop_eq_getElem_cons h]; rfl
theorem recCs_part {l : List R8} {i : Nat} (h : i < l.length) : apart prog 41 (recCs l) (i * 8) = some (.agg ⟨rc8 l[i]⟩) := by
  show (match takeN 8 (dropN (i * 8) (recCs l)) with | some l => some (Value.agg ⟨l⟩) | none => none) = _
  rw [takeN_eq, dropN_eq, recCs_at h, if_pos (by rw [List.length_append, show (rc8 l[i]).length = 8 from rfl]; omega), List.take_left' (show (rc8 l[i]).length = 8 from rfl)]
theorem recCs_fld {l : List R8} {i : Nat} (h : i < l.length) {j : Nat} (hj : j < 8) : apart prog 3 (recCs l) (i * 8 + j) = some ((rc8 l[i]).getD j undef) := by
  show nth (recCs l) (i * 8 + j) = _
  rw [nth_eq, ← List.getElem?_drop, recCs_at h, List.getElem?_append_left (by rw [show (rc8 l[i]).length = 8 from rfl]; exact hj), List.getD_eq_getElem?_getD, List.getElem?_eq_getElem (by rw [show (rc8 l[i]).length = 8 from rfl]; exact hj)]; rfl
theorem recCs_cells (l : List R8) : allCells (recCs l) = true := by
  induction l with
  | nil => rfl
  | cons c l ih => exact ih
/-- May a record be the next one? -/
def mayR (l : List R8) (w : Nat) (r : R8) : Bool := if r.ki == 1 then ((l.length : Int) == 0) else (!(l.any fun x => x.id == r.id) && decide ((w : Int) < 60))
theorem mayC_ok {h : Heap} {q : Nat} {x r : R8} (rd : Rd h ⟨q, 0, none⟩ (rc8 r)) : RunF prog 102 [.agg ⟨rc8 x⟩, .pointer (some ⟨q, 0, none⟩)] h fun v h' => v = .bool (x.id == r.id) ∧ Fr no h h' := by
  refine RunF.walk func102 rfl rfl ?_
  refine RunC.seq (RunC.region (RunO.all (h1 := h.push ⟨rc8 x, true⟩) rfl ?_))
  have oq := Ow.push h (rc8 x)
  have f1 : Fr no h (h.push ⟨rc8 x, true⟩) := Fr.push _ _ _
  replace rd := rd.fr f1 (fun g => g)
  generalize h.push ⟨rc8 x, true⟩ = h1 at *
  generalize h.next = p at *
  refine RunC.seq (RunC.region (RunO.part 1 rfl ?_))
  refine RunO.load (v := .int .i64 x.id) rfl (oq.ld rfl) rfl ?_
  refine RunO.part 1 rfl ?_
  refine RunO.load (v := .int .i64 r.id) rfl (rd.part (P := prog) (t := 3) (k := 1) rfl) rfl ?_
  exact RunO.all rfl (RunC.ret ⟨_, rfl, rfl, f1⟩)
theorem openMay_ok {h : Heap} {kb w : Nat} {lv bv : Value} {bad : Int} {l : List R8} {r : R8} (ow : Ow h kb [lv, bv, .int .i64 (w : Int), .int .i64 bad]) (sl : Sl h lv 8 l.length (recCs l)) (hl : l.length ≤ 100000) :
    RunF prog 71 [.pointer (some ⟨kb, 0, none⟩), .agg ⟨rc8 r⟩] h fun v h' => v = .bool (mayR l w r) ∧ Fr no h h' := by
  refine RunF.walk func71 rfl rfl ?_
  refine RunC.seq (RunC.region (RunO.all (h1 := h.push ⟨rc8 r, true⟩) rfl ?_))
  have oq := Ow.push h (rc8 r)
  have f1 : Fr no h (h.push ⟨rc8 r, true⟩) := Fr.push _ _ _
  replace ow := ow.fr f1 (fun g => g)
  replace sl := sl.fr0 f1
  generalize h.push ⟨rc8 r, true⟩ = h1 at *
  generalize h.next = q at *
  have sl0 := sl
  obtain ⟨A, c, rfl, _, _⟩ := sl.form
  refine RunC.seq (RunC.region (RunO.part 3 rfl ?_))
  refine RunO.load (v := .slice A l.length c) rfl (ow.ld rfl) rfl ?_
  refine RunO.part 1 rfl ?_
  refine RunO.callD (containsRec_ok sl0 (u := fun j => .agg ⟨rc8 (l.getD j ⟨0, 0, 0, 0, 0, 0, 0, 0⟩)⟩) (fun j hj => ?_) (p := fun j => (l.getD j ⟨0, 0, 0, 0, 0, 0, 0, 0⟩).id == r.id) (fun j hj h5 f5 => ?_) (by omega)) rfl rfl rfl ?_
  · rw [recCs_part hj, List.getD_eq_getElem?_getD, List.getElem?_eq_getElem hj]; rfl
  · exact mayC_ok (oq.all.fr f5 (fun g => g))
  rintro _ h2 ⟨rfl, f2⟩
  rw [anyI_list (l := l) (q := fun x => x.id == r.id) (fun j x hx => by rw [List.getD_eq_getElem?_getD, hx]; rfl)]
  have F2 := f1.same f2
  replace ow := ow.fr f2 (fun g => g)
  replace oq := oq.fr f2 (fun g => g)
  refine RunO.all rfl ?_
  have hM : mayR l w r = if r.ki == 1 then ((l.length : Int) == 0) else (!(l.any fun x => x.id == r.id) && decide ((w : Int) < 60)) := rfl
  rw [hM]
  refine RunC.seq (RunC.seq (RunC.region (RunO.part 1 rfl ?_)))
  refine RunO.load (v := .int .i64 r.ki) rfl (oq.ld rfl) rfl ?_
  refine RunO.all rfl ?_
  cases hk : (r.ki == 1) with
  | true =>
    refine RunC.cond rfl (fun _ => ?_) (fun g => by cases g)
    refine RunC.seq (RunC.region (RunO.part 3 rfl ?_))
    refine RunO.load (v := .slice A l.length c) rfl (ow.ld rfl) rfl ?_
    exact RunO.all rfl (RunC.ret ⟨_, rfl, rfl, F2⟩)
  | false =>
    refine RunC.cond rfl (fun g => by cases g) (fun _ => RunC.skip ?_)
    refine RunC.seq (RunC.region (RunO.part 3 rfl ?_))
    cases (l.any fun x => x.id == r.id) with
    | true => exact RunO.all rfl (RunC.ret ⟨_, rfl, rfl, F2⟩)
    | false =>
      refine RunO.part 3 rfl ?_
      refine RunO.loadG (v := .int .i64 (w : Int)) rfl rfl (ow.ld rfl) rfl ?_
      exact RunO.all rfl (RunC.ret ⟨_, rfl, rfl, F2⟩)
end Go.Proofs.Ytbinkbdfoalbcaa
end
section
set_option linter.unusedVariables false
set_option maxRecDepth 100000
open Go Go.Am Go.RowKit
namespace Go.Proofs.Ytbinkbdfoalbcaa
open Go.Proofs.Try
theorem nd_sub {α : Type} [DecidableEq α] : ∀ (l d : List α), l.Nodup → (∀ x ∈ l, x ∈ d) → l.length ≤ d.length
  | [], d, _, _ => Nat.zero_le _
  | x :: l, d, hn, hs => by
    obtain ⟨h1, h2⟩ := List.nodup_cons.1 hn
    have hx : x ∈ d := hs x (List.mem_cons_self ..)
    have := nd_sub l (d.erase x) h2 (fun y hy => (List.mem_erase_of_ne (fun e => h1 (by rw [← e]; exact hy))).2 (hs y (List.mem_cons_of_mem _ hy)))
    rw [List.length_erase_of_mem hx] at this
    have : 0 < d.length := List.length_pos_of_mem hx
    rw [List.length_cons]; omega
theorem nd_blocks {B : Nat} {l : List Int} (h : l.Nodup) (hr : ∀ x ∈ l, 2 ≤ x ∧ x < (B : Int)) : l.length ≤ B - 2 := by
  have := nd_sub l ((List.range (B - 2)).map fun (j : Nat) => (j : Int) + 2) h (fun x hx => by
    obtain ⟨a, b⟩ := hr x hx
    refine List.mem_map.2 ⟨(x - 2).toNat, List.mem_range.2 (by omega), by omega⟩)
  rwa [List.length_map, List.length_range] at this
theorem idsN {lo s k n c kb tb : Nat} {h : Heap} {lv : Value} {cells : List Value} (r : Row lo h lv s k cells) (h1 : ∀ b, At lv b → b ≠ kb) (h2 : tb ≠ kb) : fpOk (.wr (idsOf [lv, .slice (some ⟨tb, 0, none⟩) n c])) (.rd kb) = true := by
  have key : ∀ l : List Nat, ¬ kb ∈ l → memN kb l = false := by
    intro l
    induction l with
    | nil => intro _; rfl
    | cons x l ih =>
      intro g
      simp only [List.mem_cons, not_or] at g
      unfold memN
      rw [show Nat.beq kb x = false from by cases e : Nat.beq kb x with | false => rfl | true => exact absurd (Nat.eq_of_beq_eq_true e) g.1]
      simpa using ih g.2
  show (!memN kb _) = true
  rw [key]
  · rfl
  · rcases r.2 with ⟨rfl, _⟩ | ⟨b, _, rfl, _⟩
    · simp only [idsOf, List.mem_cons, List.not_mem_nil, or_false]
      omega
    · have := h1 b ⟨_, _, rfl⟩
      simp only [idsOf, List.mem_cons, List.not_mem_nil, or_false]
      omega
/-- A chain of records, followed: what was met, and the block that is none of them. -/
def folB (B : Nat) (bs : List Int) (a : Int) : Bool := (decide (a < 2) || decide (a ≥ (B : Int))) || bs.contains a
def fol (L : List Int) (B : Nat) : Nat → Int → List R8 → List Int → Nat → List R8 × List Int × Nat × Int
  | 0, a, l, bs, w => (l, bs, w, a)
  | f + 1, a, l, bs, w => if a = 0 then (l, bs, w, 0) else if folB B bs a then (l, bs, w, a) else
    if (rCode (blkI L a.toNat) != 0) || !mayR l w (rPar (blkI L a.toNat)) then (l, bs, w, a) else
      fol L B f (rPar (blkI L a.toNat)).nx (l ++ [rPar (blkI L a.toNat)]) (bs ++ [a]) (if (rPar (blkI L a.toNat)).ki == 0 then w + 1 else w)
def folOf (L : List Int) (a : Int) : List R8 × List Int × Nat × Int := fol L (L.length / 64) (L.length / 64) a [] [] 0
theorem fol_end (L : List Int) (B f : Nat) (l : List R8) (bs : List Int) (w : Nat) : fol L B f 0 l bs w = (l, bs, w, 0) := by
  cases f with
  | zero => rfl
  | succ f => show (if (0 : Int) = 0 then _ else _) = _; rw [if_pos rfl]
/-- What follow leaves in memory. -/
def FolR (lo : Nat) (h : Heap) (kb : Nat) (x : List R8 × List Int × Nat × Int) : Prop :=
  ∃ lv bv, lo ≤ kb ∧ Ow h kb [lv, bv, .int .i64 (x.2.2.1 : Int), .int .i64 x.2.2.2] ∧ Row lo h lv 8 x.1.length (recCs x.1) ∧ Row lo h bv 1 x.2.1.length (is x.2.1)
theorem FolR.fr0 {lo : Nat} {h h' : Heap} {kb : Nat} {x : List R8 × List Int × Nat × Int} (r : FolR lo h kb x) (f : Fr no h h') : FolR lo h' kb x := by
  obtain ⟨lv, bv, h1, h2, h3, h4⟩ := r
  exact ⟨lv, bv, h1, h2.fr f (fun g => g), h3.fr f (fun _ _ _ g => g), h4.fr f (fun _ _ _ g => g)⟩
set_option maxHeartbeats 32000000 in
theorem openFollow_ok {h : Heap} {iv : Value} {L : List Int} {a : Int} (sl : Sl h iv 1 L.length (us L)) (hb : Byt L) (hd : devOk L.length = true) :
    RunF prog 44 [iv, .int .i64 a] h fun v h' => Fr no h h' ∧ ∃ kb, v = .pointer (some ⟨kb, 0, none⟩) ∧ FolR h.next h' kb (folOf L a) := by
  have hdl : L.length % 64 = 0 ∧ 4 ≤ L.length / 64 ∧ L.length / 64 ≤ 4096 := by
    unfold devOk at hd
    simpa using hd
  have hm : L.length ≤ 4611686018427387904 := by omega
  refine RunF.walk func44 rfl rfl ?_
  have sl0 := sl
  obtain ⟨A, c, rfl, hc, hA⟩ := sl.form
  refine RunC.seq (RunC.region (RunO.all rfl ?_))
  refine RunC.seq (RunC.region (RunO.part 1 rfl ?_))
  refine RunO.callD (devCheck_ok hm) rfl rfl rfl ?_
  rintro _ _ ⟨rfl, rfl⟩
  rw [hd, if_pos rfl]
  have hB : ∃ B, B = L.length / 64 := ⟨_, rfl⟩
  have hfo : folOf L a = fol L (L.length / 64) (L.length / 64) a [] [] 0 := rfl
  obtain ⟨B, hB⟩ := hB
  rw [← hB] at hfo hdl ⊢
  refine RunO.all rfl ?_
  refine RunC.seq (RunC.region (RunO.all (h1 := h.push ⟨[.slice none 0 0, .slice none 0 0, .int .i64 0, .int .i64 0], true⟩) rfl ?_))
  have ok := Ow.push h [.slice none 0 0, .slice none 0 0, .int .i64 0, .int .i64 0]
  have f1 : Fr no h (h.push ⟨[.slice none 0 0, .slice none 0 0, .int .i64 0, .int .i64 0], true⟩) := Fr.push _ _ _
  generalize h.push ⟨[.slice none 0 0, .slice none 0 0, .int .i64 0, .int .i64 0], true⟩ = h1 at *
  obtain ⟨kb, hkb⟩ : ∃ q, q = h.next := ⟨_, rfl⟩
  rw [← hkb] at ok ⊢
  refine RunC.seq (RunC.seq (RunC.region (RunO.all rfl ?_)))
  refine RunC.block ?_
  refine RunC.loop (fun d E h' => ∃ (at_ : Int) (l : List R8) (bs : List Int) (w : Nat) (lv bv : Value), d + bs.length = B ∧ l.length = bs.length ∧ bs.Nodup ∧ (∀ x ∈ bs, 2 ≤ x ∧ x < (B : Int)) ∧ w ≤ bs.length ∧ folOf L a = fol L B d at_ l bs w ∧
      Fr no h h' ∧ Ow h' kb [lv, bv, .int .i64 (w : Int), .int .i64 0] ∧ Row kb h' lv 8 l.length (recCs l) ∧ Row kb h' bv 1 bs.length (is bs) ∧ (∀ b, At lv b → b ≠ kb ∧ ¬ At bv b) ∧ (∀ b, At bv b → b ≠ kb) ∧
      Le (upd (upd (upd (upd E0 0 (.slice A L.length c)) 5 (.int .i64 (B : Int))) 7 (.pointer (some ⟨kb, 0, none⟩))) 8 (.int .i64 at_)) E) ?st (k := B) ?ini
  case ini => exact ⟨a, [], [], 0, _, _, by simp, rfl, List.nodup_nil, fun x hx => absurd hx List.not_mem_nil, Nat.le_refl 0, hfo, f1, ok, Row.nil _ _ _, Row.nil _ _ _, (fun b g => by obtain ⟨_, _, e⟩ := g; cases e), (fun b g => by obtain ⟨_, _, e⟩ := g; cases e), Le.cons rfl (Le.cons rfl (Le.cons rfl (Le.cons rfl (Le.nil _))))⟩
  rintro d E g1 ⟨at_, l, bs, w, lv, bv, hdb, hll, hnd, hbr, hw, hfo, fg, ow, rl, rb, hx, hy, hE⟩
  refine RunC.le hE ?_
  clear hE
  refine RunC.seq (RunC.seq (RunC.region (RunO.all rfl ?_)))
  by_cases ha0 : at_ = 0
  · subst ha0
    refine RunC.cond rfl (fun g => by cases g) (fun _ => RunC.exit ?_)
    rw [fol_end] at hfo
    refine RunC.seq (RunC.region (RunO.all rfl (RunC.ret ⟨_, rfl, fg, kb, rfl, ?_⟩)))
    rw [hfo]
    exact ⟨lv, bv, Nat.le_refl _, ow, rl, rb⟩
  rw [show (at_ != 0) = true from bne_iff_ne.2 ha0]
  refine RunC.cond rfl (fun _ => RunC.skip ?_) (fun g => by cases g)
  have hbl := nd_blocks hnd hbr
  obtain ⟨f, rfl⟩ : ∃ f, d = f + 1 := ⟨d - 1, by omega⟩
  have hstep : fol L B (f + 1) at_ l bs w = if folB B bs at_ then (l, bs, w, at_) else
    if (rCode (blkI L at_.toNat) != 0) || !mayR l w (rPar (blkI L at_.toNat)) then (l, bs, w, at_) else
      fol L B f (rPar (blkI L at_.toNat)).nx (l ++ [rPar (blkI L at_.toNat)]) (bs ++ [at_]) (if (rPar (blkI L at_.toNat)).ki == 0 then w + 1 else w) := by
    show (if at_ = 0 then _ else _) = _
    rw [if_neg ha0]
  rw [hstep] at hfo
  refine RunC.block ?_
  -- the block is noted
  refine RunC.seq (RunC.region (RunO.part 4 rfl ?_))
  refine RunO.store rfl rfl (store1_ow ow rfl rfl rfl (Nat.le_of_ble_eq_true rfl)) (RunO.nil ?_)
  have ow2 : Ow (g1.put kb (some ⟨[lv, bv, .int .i64 (w : Int), .int .i64 at_], true⟩)) kb [lv, bv, .int .i64 (w : Int), .int .i64 at_] := Ow.put _ ow.1
  have fp : Fr (· = kb) g1 (g1.put kb (some ⟨[lv, bv, .int .i64 (w : Int), .int .i64 at_], true⟩)) := Fr.put _ (.inl rfl)
  have rl2 := rl.frm fp (fun b g e => (hx b g).1 e)
  have rb2 := rb.frm fp (fun b g e => hy b g e)
  have fg2 : Fr no h (g1.put kb (some ⟨[lv, bv, .int .i64 (w : Int), .int .i64 at_], true⟩)) := fg.trans fp (fun b e => .inr (by omega))
  show RunC prog _ _ _ (g1.put kb (some ⟨[lv, bv, .int .i64 (w : Int), .int .i64 at_], true⟩)) _ _ _
  generalize g1.put kb (some ⟨[lv, bv, .int .i64 (w : Int), .int .i64 at_], true⟩) = g2 at *
  have hret : FolR kb g2 kb (l, bs, w, at_) := ⟨lv, bv, Nat.le_refl _, ow2, rl2, rb2⟩
  have slb := rb2.sl (by omega)
  have sll := rl2.sl (by omega)
  refine RunC.seq (RunC.seq (RunC.region (RunO.part 3 rfl ?_)))
  have hF : folB B bs at_ = ((decide (at_ < 2) || decide (at_ ≥ (B : Int))) || bs.contains at_) := rfl
  cases h2 : decide (at_ < 2) with
  | true =>
    rw [hF, h2, Bool.true_or, Bool.true_or, if_pos rfl] at hfo
    refine RunO.all rfl (RunC.cond rfl (fun _ => ?_) (fun g => by cases g))
    exact RunC.seq (RunC.region (RunO.all rfl (RunC.ret ⟨_, rfl, fg2, kb, rfl, by rw [hfo]; exact hret⟩)))
  | false =>
  refine RunO.part 3 rfl ?_
  cases h3 : decide (at_ ≥ (B : Int)) with
  | true =>
    rw [hF, h2, h3, Bool.false_or, Bool.true_or, if_pos rfl] at hfo
    refine RunO.all rfl (RunC.cond rfl (fun _ => ?_) (fun g => by cases g))
    exact RunC.seq (RunC.region (RunO.all rfl (RunC.ret ⟨_, rfl, fg2, kb, rfl, by rw [hfo]; exact hret⟩)))
  | false =>
  refine RunO.part 5 rfl ?_
  refine RunO.loadG (v := bv) rfl rfl (ow2.ld rfl) rfl ?_
  refine RunO.part 1 rfl ?_
  refine RunO.callDG rfl (containsInt_ok slb (by omega)) rfl rfl rfl ?_
  rintro _ _ ⟨rfl, rfl⟩
  cases h4 : bs.contains at_ with
  | true =>
    rw [hF, h2, h3, h4, Bool.false_or, Bool.false_or, if_pos rfl] at hfo
    refine RunO.all rfl (RunC.cond rfl (fun _ => ?_) (fun g => by cases g))
    exact RunC.seq (RunC.region (RunO.all rfl (RunC.ret ⟨_, rfl, fg2, kb, rfl, by rw [hfo]; exact hret⟩)))
  | false =>
  rw [hF, h2, h3, h4, Bool.false_or, Bool.false_or, if_neg Bool.false_ne_true] at hfo
  refine RunO.all rfl (RunC.cond rfl (fun g => by cases g) (fun _ => RunC.skip ?_))
  have h2 := of_decide_eq_false h2
  have h3 := of_decide_eq_false h3
  -- the record
  obtain ⟨an, han⟩ := Int.eq_ofNat_of_zero_le (show 0 ≤ at_ by omega)
  subst han
  rw [Int.toNat_natCast] at hfo
  have haL : (an + 1) * 64 ≤ L.length := by
    have : an + 1 ≤ B := by omega
    have := Nat.mul_le_mul_right 64 this
    omega
  obtain ⟨ib, io, rfl, rd⟩ := hA (by omega)
  have rdb : Rd g2 ⟨ib, io, none⟩ (us L) := rd.fr fg2 (fun g => g)
  refine RunC.seq (RunC.region (RunO.part 2 rfl ?_))
  refine RunO.callD (devOf_ok (o := io) haL hm hc) rfl rfl rfl ?_
  rintro _ _ ⟨⟨c', hc', rfl⟩, rfl⟩
  have hbl2 := blkI_len haL
  have hparse := recParse_ok (h := g2) (A := some ⟨ib, io + an * 64, none⟩) (c := c') (l := blkI L an) (fun _ => ⟨_, rfl, rdBlk rdb haL⟩) (byt_blk hb an) (by rw [hbl2]; exact hc')
  rw [hbl2, rCells_eq] at hparse
  refine RunO.callD hparse rfl rfl rfl ?_
  rintro _ g3 ⟨rfl, f3⟩
  generalize rPar (blkI L an) = r at *
  generalize rCode (blkI L an) = rcd at *
  have ow3 := ow2.fr f3 (fun g => g)
  have rl3 := rl2.fr f3 (fun _ _ _ g => g)
  have rb3 := rb2.fr f3 (fun _ _ _ g => g)
  have fg3 := fg2.same f3
  refine RunO.part 4 (h1 := g3.push ⟨rc8 ⟨0, 0, 0, 0, 0, 0, 0, 0⟩, true⟩) rfl ?_
  refine RunO.store rfl rfl (store_ow (s := 8) (Ow.push g3 (rc8 ⟨0, 0, 0, 0, 0, 0, 0, 0⟩)) rfl rfl rfl (Nat.le_refl 8)) (RunO.all rfl ?_)
  have e8 : (rc8 ⟨0, 0, 0, 0, 0, 0, 0, 0⟩).take 0 ++ cellsOf (.agg ⟨rc8 r⟩) ++ (rc8 ⟨0, 0, 0, 0, 0, 0, 0, 0⟩).drop (0 + 8) = rc8 r := rfl
  rw [e8]
  have on : Ow ((g3.push ⟨rc8 ⟨0, 0, 0, 0, 0, 0, 0, 0⟩, true⟩).put g3.next (some ⟨rc8 r, true⟩)) g3.next (rc8 r) := Ow.put _ (Nat.lt_succ_self _)
  have f4 : Fr no g3 ((g3.push ⟨rc8 ⟨0, 0, 0, 0, 0, 0, 0, 0⟩, true⟩).put g3.next (some ⟨rc8 r, true⟩)) := (Fr.push _ _ _).trans (Fr.put (m := (· = g3.next)) _ (.inl rfl)) (fun j hj => .inr (by omega))
  have hkl := ow3.1
  have hlx : ∀ b, At lv b → b < g3.next := fun b g => (rl3.at g).2
  have hbx : ∀ b, At bv b → b < g3.next := fun b g => (rb3.at g).2
  replace ow3 := ow3.fr f4 (fun g => g)
  replace rl3 := rl3.fr f4 (fun _ _ _ g => g)
  replace rb3 := rb3.fr f4 (fun _ _ _ g => g)
  replace fg3 := fg3.same f4
  generalize (g3.push ⟨rc8 ⟨0, 0, 0, 0, 0, 0, 0, 0⟩, true⟩).put g3.next (some ⟨rc8 r, true⟩) = g4 at *
  obtain ⟨pb, hpb⟩ : ∃ q, q = g3.next := ⟨_, rfl⟩
  rw [← hpb] at on hkl hlx hbx ⊢
  have hret4 : FolR kb g4 kb (l, bs, w, (an : Int)) := ⟨lv, bv, Nat.le_refl _, ow3, rl3, rb3⟩
  have sll4 := rl3.sl (by omega)
  refine RunC.seq (RunC.seq (RunC.region (RunO.part 3 rfl ?_)))
  by_cases hc0 : rcd = 0
  case neg =>
    rw [show (rcd != 0) = true from bne_iff_ne.2 hc0, Bool.true_or, if_pos rfl] at hfo
    rw [show (rcd != 0) = true from bne_iff_ne.2 hc0]
    refine RunO.all rfl (RunC.cond rfl (fun _ => ?_) (fun g => by cases g))
    exact RunC.seq (RunC.region (RunO.all rfl (RunC.ret ⟨_, rfl, fg3, kb, rfl, by rw [hfo]; exact hret4⟩)))
  subst hc0
  rw [show ((0 : Int) != 0) = false from rfl, Bool.false_or] at hfo
  refine RunO.part 1 rfl ?_
  refine RunO.loadG (v := .agg ⟨rc8 r⟩) rfl rfl (on.ld rfl) rfl ?_
  refine RunO.callDG rfl (openMay_ok (r := r) ow3 sll4 (by omega)) rfl rfl rfl ?_
  rintro _ g5 ⟨rfl, f5⟩
  replace on := on.fr f5 (fun g => g)
  replace ow3 := ow3.fr f5 (fun g => g)
  replace rl3 := rl3.fr f5 (fun _ _ _ g => g)
  replace rb3 := rb3.fr f5 (fun _ _ _ g => g)
  replace fg3 := fg3.same f5
  cases hmay : mayR l w r with
  | false =>
    rw [hmay, if_pos (by rfl)] at hfo
    refine RunO.all rfl (RunC.cond rfl (fun _ => ?_) (fun g => by cases g))
    exact RunC.seq (RunC.region (RunO.all rfl (RunC.ret ⟨_, rfl, fg3, kb, rfl, by rw [hfo]; exact ⟨lv, bv, Nat.le_refl _, ow3, rl3, rb3⟩⟩)))
  | true =>
  rw [hmay, if_neg (by simp)] at hfo
  refine RunO.all rfl (RunC.cond rfl (fun g => by cases g) (fun _ => RunC.skip ?_))
  -- how many are whole
  have hpk : pb ≠ kb := by omega
  obtain ⟨w2, hw2⟩ : ∃ w2, w2 = if r.ki == 0 then w + 1 else w := ⟨_, rfl⟩
  have hw2l : w2 ≤ w + 1 := by rw [hw2]; split <;> omega
  rw [← hw2] at hfo
  refine RunC.seqc (fun E' h' => Ow h' kb [lv, bv, .int .i64 (w2 : Int), .int .i64 (an : Int)] ∧ Fr (· = kb) g5 h' ∧ Le (upd (upd (upd (upd (upd E0 0 (.slice (some ⟨ib, io, none⟩) L.length c)) 5 (.int .i64 (B : Int))) 7 (.pointer (some ⟨kb, 0, none⟩))) 8 (.int .i64 (an : Int))) 9 (.pointer (some ⟨pb, 0, none⟩))) E') ?wh ?go
  case wh =>
    refine RunC.seq (RunC.region (RunO.part 1 rfl ?_))
    refine RunO.load (v := .int .i64 r.ki) rfl (on.ld rfl) rfl (RunO.all rfl ?_)
    cases hk : (r.ki == 0) with
    | true =>
      rw [hk, if_pos rfl] at hw2
      refine RunC.cond rfl (fun _ => ?_) (fun g => by cases g)
      refine RunC.region (RunO.part 3 rfl ?_)
      refine RunO.load (v := .int .i64 (w : Int)) rfl (ow3.ld rfl) rfl ?_
      refine RunO.part 1 rfl ?_
      rw [fw64 (x := (w : Int) + 1) (by omega) (by omega), show (w : Int) + 1 = (w2 : Int) by omega]
      refine RunO.part 2 rfl ?_
      refine RunO.store rfl rfl (store1_ow ow3 rfl rfl rfl (Nat.le_of_ble_eq_true rfl)) (RunO.nil ?_)
      exact ⟨Ow.put _ ow3.1, Fr.put _ (.inl rfl), Le.cons rfl (Le.cons rfl (Le.cons rfl (Le.cons rfl (Le.cons rfl (Le.nil _)))))⟩
    | false =>
      rw [hk, if_neg Bool.false_ne_true] at hw2
      subst hw2
      exact RunC.cond rfl (fun g => by cases g) (fun _ => RunC.skip ⟨ow3, Fr.refl _ _, Le.cons rfl (Le.cons rfl (Le.cons rfl (Le.cons rfl (Le.cons rfl (Le.nil _)))))⟩)
  rintro E' g6 ⟨ow6, f6, hE⟩
  refine RunC.le hE ?_
  clear hE
  have on6 := on.fr f6 hpk
  have rl6 := rl3.frm f6 (fun b g e => (hx b g).1 e)
  have rb6 := rb3.frm f6 (fun b g e => hy b g e)
  have fg6 : Fr no h g6 := fg3.trans f6 (fun b e => .inr (by omega))
  have slx := rl6.sl (by omega)
  have hkl6 := ow6.1
  have hpl6 := on6.1
  have hlx6 : ∀ b, At lv b → b < g6.next := fun b g => (rl6.at g).2
  have hbx6 : ∀ b, At bv b → b < g6.next := fun b g => (rb6.at g).2
  have hpl : ¬ At lv pb := fun g => by have := hlx pb g; omega
  have hpb2 : ¬ At bv pb := fun g => by have := hbx pb g; omega
  refine RunC.seq (RunC.drawW (fun b => b = kb ∨ At lv b ∨ At bv b) (p := (9, 13)) (ps := []) rfl ?_)
  refine RunW.pure rfl rfl (fun _ => rfl) rfl ?_
  refine RunW.pure rfl rfl (fun _ => rfl) rfl ?_
  refine RunW.pure rfl rfl (fun _ => rfl) rfl ?_
  refine RunW.pure rfl rfl (fun _ => rfl) rfl ?_
  refine RunW.pure rfl rfl (fun _ => rfl) rfl ?_
  refine RunW.pure rfl rfl (fun _ => rfl) rfl ?_
  refine RunW.load (v := lv) rfl rfl (ow6.ld rfl) rfl ?_
  refine RunW.load (v := .agg ⟨rc8 r⟩) rfl rfl (on6.ld rfl) rfl ?_
  refine RunW.new (ob := ⟨rc8 r, true⟩) rfl rfl (fun _ => rfl) rfl ?_
  have ot := Ow.push g6 (rc8 r)
  have f7 : Fr no g6 (g6.push ⟨rc8 r, true⟩) := Fr.push _ _ _
  have rl7 := rl6.fr f7 (fun _ _ _ g => g)
  have rb7 := rb6.fr f7 (fun _ _ _ g => g)
  have ow7 := ow6.fr f7 (fun g => g)
  have on7 := on6.fr f7 (fun g => g)
  have hn7 : g6.next < (g6.push ⟨rc8 r, true⟩).next := ot.1
  generalize g6.push ⟨rc8 r, true⟩ = g7 at *
  obtain ⟨tb, htb⟩ : ∃ q, q = (g6.lo g6.next).next := ⟨_, rfl⟩
  have htb2 : tb = g6.next := htb
  rw [← htb]
  rw [← htb2] at ot hn7
  refine RunW.append2 (s := 8) (j := 1) rfl rfl rfl rfl rfl rfl rfl rfl rfl (by decide) rl7 ot.all rfl (Nat.le_refl 1) rfl (by show 2 * (_ + 1) * 64 ≤ _; omega) (by omega) (fun b g => .inr (.inl g)) ?_
  intro lv2 g8 rl8 f8
  have ow8 := ow7.fr f8 (fun g => (hx kb g).1 rfl)
  have on8 := on7.fr f8 hpl
  have rb8 := rb7.frm f8 (fun b g e => (hx b e).2 g)
  refine RunW.pure rfl rfl (fun _ => rfl) rfl ?_
  refine RunW.pure rfl rfl (fun _ => rfl) rfl ?_
  refine RunW.pure rfl rfl (fun _ => rfl) rfl ?_
  refine RunW.load (v := bv) rfl rfl (ow8.ld rfl) rfl ?_
  refine RunW.pure rfl rfl (fun _ => rfl) rfl ?_
  refine RunW.new (ob := ⟨is [(an : Int)], true⟩) rfl rfl (fun _ => rfl) rfl ?_
  have ot2 := Ow.push g8 (is [(an : Int)])
  have f9 : Fr no g8 (g8.push ⟨is [(an : Int)], true⟩) := Fr.push _ _ _
  have rl9 := rl8.fr f9 (fun _ _ _ g => g)
  have rb9 := rb8.fr f9 (fun _ _ _ g => g)
  have ow9 := ow8.fr f9 (fun g => g)
  have on9 := on8.fr f9 (fun g => g)
  have hn9 : g8.next < (g8.push ⟨is [(an : Int)], true⟩).next := ot2.1
  generalize g8.push ⟨is [(an : Int)], true⟩ = g9 at *
  refine RunW.append2 (s := 1) (j := 1) rfl rfl rfl rfl rfl rfl rfl rfl rfl (by decide) rb9 ot2.all rfl (Nat.le_refl 1) rfl (by show 2 * (_ + 1) * 8 ≤ _; omega) (by omega) (fun b g => .inr (.inr g)) ?_
  intro bv2 ga rba fa
  have hn8 := f8.next
  have hl2 : ∀ b, At lv2 b → g7.next ≤ b ∧ b < g8.next := fun b g => rl8.at g
  have hb2 : ∀ b, At bv2 b → g9.next ≤ b ∧ b < ga.next := fun b g => rba.at g
  have hbo : ∀ b, At bv b → b < g7.next := fun b g => (rb7.at g).2
  have owa := ow9.fr fa (fun g => hy kb g rfl)
  have ona := on9.fr fa hpb2
  have rla := rl9.frm fa (fun b g e => by have := hl2 b g; have := hbo b e; omega)
  refine RunW.pure rfl rfl (fun _ => rfl) rfl ?_
  refine RunW.pure rfl rfl (fun _ => rfl) rfl ?_
  have hkg7 : kb < g7.next := by omega
  have hn9a := fa.next
  have hkg9 : kb < g9.next := by omega
  have fsb : Fr (· = kb) (ga.lo ga.next) ((ga.lo ga.next).put kb (some ⟨[lv2, bv, .int .i64 (w2 : Int), .int .i64 (an : Int)], true⟩)) := Fr.put _ (.inl rfl)
  have owb : Ow ((ga.lo ga.next).put kb (some ⟨[lv2, bv, .int .i64 (w2 : Int), .int .i64 (an : Int)], true⟩)) kb [lv2, bv, .int .i64 (w2 : Int), .int .i64 (an : Int)] := Ow.put _ owa.1
  have onb := Ow.fr (h := ga.lo ga.next) ona fsb hpk
  have rlb := Row.frm (h := ga.lo ga.next) rla fsb (fun b g e => by have := hl2 b g; have e : b = kb := e; omega)
  have rbb := Row.frm (h := ga.lo ga.next) rba fsb (fun b g e => by have := hb2 b g; have e : b = kb := e; omega)
  refine RunW.store rfl rfl rfl (store1_ow (h := ga.lo ga.next) owa rfl (rl8.cell).1 (rl8.cell).2 (Nat.le_of_ble_eq_true rfl)) (Fr.put _ (.inl (.inl rfl))) ?_
  show RunW prog _ _ _ _ _ ((ga.lo ga.next).put kb (some ⟨[lv2, bv, .int .i64 (w2 : Int), .int .i64 (an : Int)], true⟩)) _
  generalize (ga.lo ga.next).put kb (some ⟨[lv2, bv, .int .i64 (w2 : Int), .int .i64 (an : Int)], true⟩) = gb at *
  refine RunW.pure rfl rfl (fun _ => rfl) rfl ?_
  refine RunW.pure rfl rfl (fun _ => rfl) rfl ?_
  have fsc : Fr (· = kb) (gb.lo gb.next) ((gb.lo gb.next).put kb (some ⟨[lv2, bv2, .int .i64 (w2 : Int), .int .i64 (an : Int)], true⟩)) := Fr.put _ (.inl rfl)
  have owc : Ow ((gb.lo gb.next).put kb (some ⟨[lv2, bv2, .int .i64 (w2 : Int), .int .i64 (an : Int)], true⟩)) kb [lv2, bv2, .int .i64 (w2 : Int), .int .i64 (an : Int)] := Ow.put _ owb.1
  have onc := Ow.fr (h := gb.lo gb.next) onb fsc hpk
  have rlc := Row.frm (h := gb.lo gb.next) rlb fsc (fun b g e => by have := hl2 b g; have e : b = kb := e; omega)
  have rbc := Row.frm (h := gb.lo gb.next) rbb fsc (fun b g e => by have := hb2 b g; have e : b = kb := e; omega)
  refine RunW.store rfl rfl rfl (store1_ow (h := gb.lo gb.next) owb rfl (rba.cell).1 (rba.cell).2 (Nat.le_of_ble_eq_true rfl)) (Fr.put _ (.inl (.inl rfl))) ?_
  show RunW prog _ _ _ _ _ ((gb.lo gb.next).put kb (some ⟨[lv2, bv2, .int .i64 (w2 : Int), .int .i64 (an : Int)], true⟩)) _
  generalize (gb.lo gb.next).put kb (some ⟨[lv2, bv2, .int .i64 (w2 : Int), .int .i64 (an : Int)], true⟩) = gc at *
  refine RunW.pure rfl rfl (fun _ => rfl) rfl ?_
  refine RunW.pure rfl rfl (fun _ => rfl) rfl ?_
  have fsd : Fr (· = kb) (gc.lo gc.next) ((gc.lo gc.next).put kb (some ⟨[lv2, bv2, .int .i64 (w2 : Int), .int .i64 0], true⟩)) := Fr.put _ (.inl rfl)
  have owd : Ow ((gc.lo gc.next).put kb (some ⟨[lv2, bv2, .int .i64 (w2 : Int), .int .i64 0], true⟩)) kb [lv2, bv2, .int .i64 (w2 : Int), .int .i64 0] := Ow.put _ owc.1
  have ond := Ow.fr (h := gc.lo gc.next) onc fsd hpk
  have rld := Row.frm (h := gc.lo gc.next) rlc fsd (fun b g e => by have := hl2 b g; have e : b = kb := e; omega)
  have rbd := Row.frm (h := gc.lo gc.next) rbc fsd (fun b g e => by have := hb2 b g; have e : b = kb := e; omega)
  refine RunW.store rfl rfl rfl (store1_ow (h := gc.lo gc.next) owc rfl rfl rfl (Nat.le_of_ble_eq_true rfl)) (Fr.put _ (.inl (.inl rfl))) ?_
  show RunW prog _ _ _ _ _ ((gc.lo gc.next).put kb (some ⟨[lv2, bv2, .int .i64 (w2 : Int), .int .i64 0], true⟩)) _
  generalize (gc.lo gc.next).put kb (some ⟨[lv2, bv2, .int .i64 (w2 : Int), .int .i64 0], true⟩) = gd at *
  refine RunW.nil ⟨?_, fun lw F => ?_⟩
  · show cond (fpOk (.wr (idsOf [lv, .slice (some ⟨tb, 0, none⟩) 1 (exc 1)])) (.rd kb)) true false = true
    rw [idsN rl7 (fun b g => (hx b g).1) (by omega)]; rfl
  have owz : Ow (gd.lo lw) kb [lv2, bv2, .int .i64 (w2 : Int), .int .i64 0] := owd
  have onz : Ow (gd.lo lw) pb (rc8 r) := ond
  have rlz : Row kb (gd.lo lw) lv2 8 (l ++ [r]).length (recCs (l ++ [r])) := by
    have e1 : recCs l ++ rc8 r = recCs (l ++ [r]) := by rw [recCs_app]; show _ = _ ++ (rc8 r ++ []); rw [List.append_nil]
    have rld : Row g7.next (gd.lo lw) lv2 8 (l.length + 1) (recCs l ++ rc8 r) := rld
    rw [e1] at rld
    rw [List.length_append]
    exact Row.lo rld (by omega)
  have rbz : Row kb (gd.lo lw) bv2 1 (bs ++ [(an : Int)]).length (is (bs ++ [(an : Int)])) := by
    have e1 : is bs ++ is [(an : Int)] = is (bs ++ [(an : Int)]) := (List.map_append ..).symm
    have rbd : Row g9.next (gd.lo lw) bv2 1 (bs.length + 1) (is bs ++ is [(an : Int)]) := rbd
    rw [e1] at rbd
    rw [List.length_append]
    exact Row.lo rbd (by omega)
  refine RunC.region (RunO.part 1 rfl ?_)
  refine RunO.load (v := .int .i64 r.nx) rfl (onz.ld rfl) rfl (RunO.all rfl ?_)
  refine ⟨f, by omega, r.nx, l ++ [r], bs ++ [(an : Int)], w2, lv2, bv2, ?_, ?_, nodup_snoc hnd ?_, ?_, ?_, hfo, fg6.trans F (fun b g => .inr ?_), owz, rlz, rbz, ?_, ?_, Le.cons rfl (Le.cons rfl (Le.cons rfl (Le.cons rfl (Le.nil _))))⟩
  · rw [List.length_append, List.length_singleton]; omega
  · rw [List.length_append, List.length_append, hll]; rfl
  · intro g
    rw [List.contains_iff_mem.2 g] at h4; cases h4
  · intro x g
    rcases List.mem_append.1 g with g | g
    · exact hbr x g
    · rw [List.mem_singleton.1 g]; omega
  · rw [List.length_append, List.length_singleton]; omega
  · rcases g with g | g | g
    · omega
    · have := (rl.at g).1; omega
    · have := (rb.at g).1; omega
  · intro b g
    have h8 := hl2 b g
    exact ⟨by omega, fun g2 => by have := hb2 b g2; omega⟩
  · intro b g
    have := hb2 b g; omega
end Go.Proofs.Ytbinkbdfoalbcaa
end
section
set_option linter.unusedVariables false
set_option linter.unusedSectionVars false
set_option maxRecDepth 100000
open Go Go.Am Go.RowKit
namespace Go.Proofs.Ytbinkbdfoalbcaa
open Go.Proofs.Try
def bo (l : List Bool) : List Value := l.map Value.bool
theorem bo_len (l : List Bool) : (bo l).length = l.length := List.length_map _
theorem bo_part {l : List Bool} {i : Nat} (h : i < l.length) : apart prog 4 (bo l) (i * 1) = some (.bool (l.getD i false)) := by
  show nth (bo l) (i * 1) = _
  rw [Nat.mul_one, nth_eq, bo, List.getElem?_map, List.getElem?_eq_getElem h, List.getD_eq_getElem?_getD, List.getElem?_eq_getElem h]; rfl
theorem bo_set (l : List Bool) (i : Nat) (x : Bool) : (bo l).set (0 + i * 1) (.bool x) = bo (l.set i x) := by unfold bo; rw [List.map_set, Nat.zero_add, Nat.mul_one]
theorem getD_setBo (l : List Bool) {k : Nat} (hk : k < l.length) (v : Bool) (s : Nat) : (l.set k v).getD s false = if s = k then v else l.getD s false := by
  rw [List.getD_eq_getElem?_getD, List.getElem?_set]
  by_cases e : s = k
  · subst e; rw [if_pos rfl, if_pos rfl, if_pos hk]; rfl
  · rw [if_neg (Ne.symm e), if_neg e, List.getD_eq_getElem?_getD]
theorem cont_succ {l : List Int} {i : Nat} (h : i < l.length) (x : Int) : (l.take (i + 1)).contains x = (decide (x = l[i]) || (l.take i).contains x) := by
  rw [Bool.eq_iff_iff, List.contains_iff_mem, List.take_succ_eq_append_getElem h, List.mem_append, List.mem_singleton, Bool.or_eq_true, decide_eq_true_eq, List.contains_iff_mem]
  exact ⟨fun g => g.symm, fun g => g.symm⟩
/-- A tree that was walked: its block, its map, its nodes. -/
abbrev Tr3 : Type := Nat × List Int × List Int
def tps (l : List Tr3) : List Value := l.map fun t => .pointer (some ⟨t.1, 0, none⟩)
theorem tps_len (l : List Tr3) : (tps l).length = l.length := List.length_map _
theorem tps_part {l : List Tr3} {i : Nat} (h : i < l.length) : apart prog 122 (tps l) (i * 1) = some (.pointer (some ⟨l[i].1, 0, none⟩)) := by
  show nth (tps l) (i * 1) = _
  rw [Nat.mul_one, nth_eq, tps, List.getElem?_map, List.getElem?_eq_getElem h]; rfl
/-- It reads so, and is in range. -/
def TrOk (B : Nat) (h : Heap) (t : Tr3) : Prop :=
  ∃ iv mv nv, Ow h t.1 (wc iv B mv nv false) ∧ Sl h mv 1 t.2.1.length (is t.2.1) ∧ Sl h nv 1 t.2.2.length (is t.2.2) ∧ t.2.1.length = 512 ∧ t.2.2.length ≤ 100000 ∧ (∀ x ∈ t.2.1, 0 ≤ x ∧ x < (B : Int)) ∧ ∀ x ∈ t.2.2, 0 ≤ x ∧ x < (B : Int)
theorem TrOk.fr0 {B : Nat} {h h' : Heap} {t : Tr3} (r : TrOk B h t) (f : Fr no h h') : TrOk B h' t := by
  obtain ⟨iv, mv, nv, h1, h2, h3, h4⟩ := r
  exact ⟨iv, mv, nv, h1.fr f (fun g => g), h2.fr0 f, h3.fr0 f, h4⟩
/-- The marks. -/
structure CW (h : Heap) (B pb nb rb sb : Nat) (N R S : List Bool) : Prop where
  op : Ow h pb [.slice (some ⟨nb, 0, none⟩) B (exc B), .slice (some ⟨rb, 0, none⟩) B (exc B), .slice (some ⟨sb, 0, none⟩) B (exc B)]
  on : Ow h nb (bo N)
  or : Ow h rb (bo R)
  os : Ow h sb (bo S)
  ln : N.length = B
  lr : R.length = B
  ls : S.length = B
structure CD (pb nb rb sb : Nat) : Prop where
  pn : pb ≠ nb
  pr : pb ≠ rb
  ps : pb ≠ sb
  nr : nb ≠ rb
  ns : nb ≠ sb
  rs : rb ≠ sb
section
variable {h : Heap} {B pb nb rb sb : Nat} {N R S : List Bool} (d : CD pb nb rb sb) (t : CW h B pb nb rb sb N R S)
include d t
theorem CW.putR {i : Nat} (x : Bool) : CW (h.put rb (some ⟨bo (R.set i x), true⟩)) B pb nb rb sb N (R.set i x) S := by
  have f : Fr (· = rb) h (h.put rb (some ⟨bo (R.set i x), true⟩)) := Fr.put _ (.inl rfl)
  exact ⟨t.op.fr f d.pr, t.on.fr f d.nr, Ow.put _ t.or.1, t.os.fr f (fun e => d.rs e.symm), t.ln, by rw [List.length_set]; exact t.lr, t.ls⟩
theorem CW.putN {i : Nat} (x : Bool) : CW (h.put nb (some ⟨bo (N.set i x), true⟩)) B pb nb rb sb (N.set i x) R S := by
  have f : Fr (· = nb) h (h.put nb (some ⟨bo (N.set i x), true⟩)) := Fr.put _ (.inl rfl)
  exact ⟨t.op.fr f d.pn, Ow.put _ t.on.1, t.or.fr f (fun e => d.nr e.symm), t.os.fr f (fun e => d.ns e.symm), by rw [List.length_set]; exact t.ln, t.lr, t.ls⟩
theorem CW.putS {i : Nat} (x : Bool) : CW (h.put sb (some ⟨bo (S.set i x), true⟩)) B pb nb rb sb N R (S.set i x) := by
  have f : Fr (· = sb) h (h.put sb (some ⟨bo (S.set i x), true⟩)) := Fr.put _ (.inl rfl)
  exact ⟨t.op.fr f d.ps, t.on.fr f d.ns, t.or.fr f d.rs, Ow.put _ t.os.1, t.ln, t.lr, by rw [List.length_set]; exact t.ls⟩
end
/-- What a block is of two kinds. -/
def isN (TL : List Tr3) (j : Nat) : Bool := TL.any fun t => t.2.2.contains (j : Int)
def isS (TL : List Tr3) (j : Nat) : Bool := TL.any fun t => decide (j ≠ 0) && t.2.1.contains (j : Int)
def clP (bl : List Int) (TL : List Tr3) (j : Nat) : Bool := (isS TL j && (isN TL j || bl.contains (j : Int))) || (isN TL j && bl.contains (j : Int))
theorem any_snoc {α : Type} {l : List α} {i : Nat} (h : i < l.length) (p : α → Bool) : (l.take (i + 1)).any p = ((l.take i).any p || p l[i]) := by
  rw [List.take_succ_eq_append_getElem h, List.any_append, List.any_cons, List.any_nil, Bool.or_false]
def imC (s5 : List Value) (sl : Value) (rv bv tv : Value) : List Value := s5 ++ [sl, rv, bv, tv]
end Go.Proofs.Ytbinkbdfoalbcaa
end
