/- RecP: part of a calculus over an abstract machine that stands beside the model, and contracts of functions by it.
Conditions: what each theorem says of its arguments. -/
import Derived.Test.YtaaemamcdhebhaaRecC
set_option linter.unusedVariables false
set_option maxRecDepth 100000
open Go Go.Am
namespace Go.Proofs.Ytaaemamcdhebhaa
open Go.Proofs.Try
def rSiz : List Nat := [4, 8, 8, 4, 4, 4, 4, 4]
def rLay : List (Nat × Nat) := layF 4 rSiz
def rMag : List Int := [83, 78, 65, 80]
/-- A record's block. -/
def recBlock (n id pa ro sz ki fr di : Int) : List Int := makeB rMag rLay [n, id, pa, ro, sz, ki, fr, di]
theorem recBytes_ok {h : Heap} {n id pa ro sz ki fr di : Int} : RunF prog 15 [.agg ⟨rc n id pa ro sz ki fr di⟩] h fun v h' => Fr no h h' ∧ ((recOk n id pa ro sz ki fr di = true ∧ ∃ b, h.next ≤ b ∧ v = .tuple #[.slice (some ⟨b, 0, none⟩) 64 (exc 64), .int .i64 0] ∧ Ow h' b (us (recBlock n id pa ro sz ki fr di))) ∨ (recOk n id pa ro sz ki fr di = false ∧ v = .tuple #[.slice none 0 0, .int .i64 1])) := by
  refine RunF.walk func15 rfl rfl ?_
  refine RunC.seq (RunC.region (RunO.all (h1 := h.push ⟨rc n id pa ro sz ki fr di, true⟩) rfl ?_))
  have ow : Ow (h.push ⟨rc n id pa ro sz ki fr di, true⟩) h.next (rc n id pa ro sz ki fr di) := Ow.push _ _
  have f1 : Fr no h (h.push ⟨rc n id pa ro sz ki fr di, true⟩) := Fr.push _ _ _
  generalize h.push ⟨rc n id pa ro sz ki fr di, true⟩ = h1 at *
  refine RunC.seq (RunC.region ?_)
  refine RunO.load (v := .agg ⟨rc n id pa ro sz ki fr di⟩) rfl (ow.all.part (k := 0) rfl) rfl ?_
  refine RunO.callD recCheck_ok rfl rfl rfl ?_
  rintro v h2 ⟨rfl, hf2⟩
  have f2 := f1.same hf2
  have ow2 := ow.fr hf2 (fun g => g)
  refine RunO.all rfl ?_
  cases hok : recOk n id pa ro sz ki fr di with
  | false =>
    refine RunC.seq (RunC.seq (RunC.region (RunO.all rfl (RunC.cond rfl (fun _ => ?_) (fun g => by cases g)))))
    exact RunC.seq (RunC.region (RunO.all rfl (RunC.ret ⟨_, rfl, f2, .inr ⟨rfl, rfl⟩⟩)))
  | true =>
    refine RunC.seq (RunC.seq (RunC.region (RunO.all rfl (RunC.cond rfl (fun g => by cases g) (fun _ => RunC.skip ?_)))))
    refine RunC.seq (RunC.draw (l0 := min h2.low h2.next) (Nat.min_le_left _ _) rfl ?_)
    refine RunD.callD recLay_ok rfl rfl rfl ?_
    rintro v h3 ⟨hr, hf3⟩
    have hl3 : min h2.low h2.next ≤ h3.low := hf3.from (Nat.min_le_right _ _) (fun _ g => g.elim)
    refine ⟨hl3, ?_⟩
    have ow3 : Ow h3 h.next (rc n id pa ro sz ki fr di) := Ow.fr (h := h2.lo h2.next) ow2 hf3 (fun g => g)
    have hn3 : min h2.low h2.next ≤ h3.next := Nat.le_trans (Nat.min_le_right _ _) hf3.next
    obtain ⟨bf, hbf, rfl, owf⟩ := rowOut hr (by decide)
    have hq := hf3.quietB
    rw [hq]
    refine RunD.pure hn3 rfl rfl (fun _ => rfl) rfl ?_
    refine RunD.load (v := .int .i64 n) hn3 rfl (ow3.all.cell1 (k := 0) rfl rfl) rfl ?_
    refine RunD.pure hn3 rfl rfl (fun _ => rfl) rfl ?_
    refine RunD.load (v := .int .i64 id) hn3 rfl (ow3.all.cell1 (k := 1) rfl rfl) rfl ?_
    refine RunD.pure hn3 rfl rfl (fun _ => rfl) rfl ?_
    refine RunD.load (v := .int .i64 pa) hn3 rfl (ow3.all.cell1 (k := 2) rfl rfl) rfl ?_
    refine RunD.pure hn3 rfl rfl (fun _ => rfl) rfl ?_
    refine RunD.load (v := .int .i64 ro) hn3 rfl (ow3.all.cell1 (k := 3) rfl rfl) rfl ?_
    refine RunD.pure hn3 rfl rfl (fun _ => rfl) rfl ?_
    refine RunD.load (v := .int .i64 sz) hn3 rfl (ow3.all.cell1 (k := 4) rfl rfl) rfl ?_
    refine RunD.pure hn3 rfl rfl (fun _ => rfl) rfl ?_
    refine RunD.load (v := .int .i64 ki) hn3 rfl (ow3.all.cell1 (k := 5) rfl rfl) rfl ?_
    refine RunD.pure hn3 rfl rfl (fun _ => rfl) rfl ?_
    refine RunD.load (v := .int .i64 fr) hn3 rfl (ow3.all.cell1 (k := 6) rfl rfl) rfl ?_
    refine RunD.pure hn3 rfl rfl (fun _ => rfl) rfl ?_
    refine RunD.load (v := .int .i64 di) hn3 rfl (ow3.all.cell1 (k := 7) rfl rfl) rfl ?_
    refine RunD.one (h1 := (h3.lo h3.next).push ⟨is [n, id, pa, ro, sz, ki, fr, di], true⟩) rfl rfl (fun _ => rfl) hn3 rfl ?_
    have ow4 := Ow.push (h3.lo h3.next) (is [n, id, pa, ro, sz, ki, fr, di])
    have f4 : Fr no h3 ((h3.lo h3.next).push ⟨is [n, id, pa, ro, sz, ki, fr, di], true⟩) := ⟨Nat.le_succ _, (Fr.push no (h3.lo h3.next) _).get, fun l a b c => b⟩
    have owf4 := owf.fr f4 (fun g => g)
    generalize (h3.lo h3.next).push ⟨is [n, id, pa, ro, sz, ki, fr, di], true⟩ = h4 at *
    refine RunD.callD (superMake_ok (h := h4.lo h4.next) (mb := rMag) (fl := rLay) (nums := [n, id, pa, ro, sz, ki, fr, di]) rfl rfl owf4.all ow4.all rfl (by decide) (by decide)) rfl rfl rfl ?_
    rintro v h5 ⟨b, hb, rfl, ow5, hf5⟩
    have hn4 : min h2.low h2.next ≤ h4.next := Nat.le_trans hn3 f4.next
    refine ⟨hf5.from hn4 (fun _ g => g.elim), ?_⟩
    rw [hf5.quietB]
    have hn5 : min h2.low h2.next ≤ h5.next := Nat.le_trans hn4 hf5.next
    refine RunD.pure hn5 rfl rfl (fun _ => rfl) rfl ?_
    refine RunD.pure hn5 rfl rfl (fun _ => rfl) rfl ?_
    refine RunD.nil ⟨rfl, fun lw hlw => ?_⟩
    refine RunC.ret ⟨_, rfl, ?_, .inl ⟨rfl, b, ?_, rfl, ow5⟩⟩
    · exact ((f2.fg0.same hf3.fg).same (f4.fg0.same hf5.fg)).close (fun l h1 h2 h3 => Nat.le_trans (Nat.le_min.2 ⟨f2.low l h1 h2 h3, Nat.le_trans h2 f2.next⟩) hlw)
    · exact Nat.le_trans (Nat.le_trans f2.next (Nat.le_trans hf3.next f4.next)) hb
/-- The numbers of a record's block. -/
def rNum (l : List Int) (i : Nat) : Int := (numsB rLay l).getD i 0
def rOkL (l : List Int) : Bool := recOk (rNum l 0) (rNum l 1) (rNum l 2) (rNum l 3) (rNum l 4) (rNum l 5) (rNum l 6) (rNum l 7)
def rCode (l : List Int) : Int := if readB rMag rLay l = 0 then (if rOkL l then 0 else 1) else readB rMag rLay l
def rCells (l : List Int) : List Value := if rCode l = 0 then rc (rNum l 0) (rNum l 1) (rNum l 2) (rNum l 3) (rNum l 4) (rNum l 5) (rNum l 6) (rNum l 7) else rc 0 0 0 0 0 0 0 0
theorem recParse_ok {h : Heap} {A : Option Addr} {c : Nat} {l : List Int} (ra : l.length = 64 → ∃ a, A = some a ∧ Rd h a (us l)) (hb : Byt l) (hc : Cp 1 l.length c) :
    RunF prog 16 [.slice A l.length c] h fun v h' => v = .tuple #[.agg ⟨rCells l⟩, .int .i64 (rCode l)] ∧ Fr no h h' := by
  refine RunF.walk func16 rfl rfl ?_
  refine RunC.seq (RunC.region (RunO.all (h1 := h.push ⟨rc 0 0 0 0 0 0 0 0, true⟩) rfl ?_))
  have ow : Ow (h.push ⟨rc 0 0 0 0 0 0 0 0, true⟩) h.next (rc 0 0 0 0 0 0 0 0) := Ow.push _ _
  have f1 : Fr no h (h.push ⟨rc 0 0 0 0 0 0 0 0, true⟩) := Fr.push _ _ _
  generalize h.push ⟨rc 0 0 0 0 0 0 0 0, true⟩ = h1 at *
  refine RunC.seq (RunC.region (RunO.part 1 rfl ?_))
  refine RunO.callD recLay_ok rfl rfl rfl ?_
  rintro v h2 ⟨hr, hf2⟩
  have ow2 := ow.fr hf2 (fun g => g)
  have f2 := f1.same hf2
  obtain ⟨bf, hbf, rfl, owf⟩ := rowOut hr (by decide)
  refine RunO.callD (superRead_ok (mb := rMag) (mg := ⟨#[83, 78, 65, 80]⟩) (fl := rLay) rfl (fun e => (ra e).imp (fun a x => ⟨x.1, x.2.fr f2 (fun g => g)⟩)) hb owf.all (by decide) (by decide) hc) rfl rfl rfl ?_
  rintro v h3 ⟨o, rfl, hk0, hk1, hf3⟩
  have ow3 := ow2.fr hf3 (fun g => g)
  have f3 := f2.same hf3
  refine RunO.all rfl ?_
  by_cases hr : readB rMag rLay l = 0
  case neg =>
    have hcode : rCode l = readB rMag rLay l := if_neg hr
    have hcells : rCells l = rc 0 0 0 0 0 0 0 0 := if_neg (by rw [hcode]; exact hr)
    rw [hcells, hcode]
    generalize readB rMag rLay l = r at *
    refine RunC.seq (RunC.seq (RunC.region (RunO.all rfl ?_)))
    rw [show (r != 0) = true by simpa using hr]
    refine RunC.cond rfl (fun _ => ?_) (fun g => by cases g)
    refine RunC.seq (RunC.region (RunO.part 2 rfl ?_))
    refine RunO.store rfl rfl (store_ow (s := 8) ow3 rfl rfl rfl (by decide)) ?_
    refine RunO.all rfl ?_
    refine RunC.ret ⟨_, eresults_cell rfl ((Ow.put (cs := rc 0 0 0 0 0 0 0 0) ow3.1).all.part (k := 0) rfl) rfl, rfl, ?_⟩
    exact f3.trans (Fr.put (m := (· = h.next)) _ (.inl rfl)) (fun j hj => .inr (by omega))
  rw [hr]
  have hrow := hk0 hr
  obtain ⟨bn, hbn, rfl, own⟩ := rowOut hrow (by decide)
  have hcode : rCode l = if rOkL l then 0 else 1 := if_pos hr
  have hcells : rCells l = if rCode l = 0 then rc (rNum l 0) (rNum l 1) (rNum l 2) (rNum l 3) (rNum l 4) (rNum l 5) (rNum l 6) (rNum l 7) else rc 0 0 0 0 0 0 0 0 := rfl
  unfold rOkL at hcode
  change Ow h3 bn (is [rNum l 0, rNum l 1, rNum l 2, rNum l 3, rNum l 4, rNum l 5, rNum l 6, rNum l 7]) at own
  change RunC _ _ _ (upd (upd (upd (upd _ 11 (.slice (some ⟨bn, 0, none⟩) 8 (unkc 1))) 12 (.int .i64 0)) 4 (.slice (some ⟨bn, 0, none⟩) 8 (unkc 1))) 5 (.int .i64 0)) _ _ _ _
  refine RunC.seq (RunC.seq (RunC.region (RunO.all rfl ?_)))
  refine RunC.cond rfl (fun g => by cases g) (fun _ => RunC.skip ?_)
  generalize rNum l 0 = n0 at *
  generalize rNum l 1 = n1 at *
  generalize rNum l 2 = n2 at *
  generalize rNum l 3 = n3 at *
  generalize rNum l 4 = n4 at *
  generalize rNum l 5 = n5 at *
  generalize rNum l 6 = n6 at *
  generalize rNum l 7 = n7 at *
  refine RunC.seq (RunC.draw0 rfl (RunO.part 1 rfl ?_))
  refine RunO.index (s := 1) (k := 0) rfl rfl rfl rfl (by decide) rfl ?_
  refine RunO.load (v := .int .i64 n0) rfl (own.all.cell1 (k := 0) rfl rfl) rfl ?_
  refine RunO.part 1 rfl ?_
  refine RunO.index (s := 1) (k := 1) rfl rfl rfl rfl (by decide) rfl ?_
  refine RunO.load (v := .int .i64 n1) rfl (own.all.cell1 (k := 1) rfl rfl) rfl ?_
  refine RunO.part 1 rfl ?_
  refine RunO.index (s := 1) (k := 2) rfl rfl rfl rfl (by decide) rfl ?_
  refine RunO.load (v := .int .i64 n2) rfl (own.all.cell1 (k := 2) rfl rfl) rfl ?_
  refine RunO.part 1 rfl ?_
  refine RunO.index (s := 1) (k := 3) rfl rfl rfl rfl (by decide) rfl ?_
  refine RunO.load (v := .int .i64 n3) rfl (own.all.cell1 (k := 3) rfl rfl) rfl ?_
  refine RunO.part 1 rfl ?_
  refine RunO.index (s := 1) (k := 4) rfl rfl rfl rfl (by decide) rfl ?_
  refine RunO.load (v := .int .i64 n4) rfl (own.all.cell1 (k := 4) rfl rfl) rfl ?_
  refine RunO.part 1 rfl ?_
  refine RunO.index (s := 1) (k := 5) rfl rfl rfl rfl (by decide) rfl ?_
  refine RunO.load (v := .int .i64 n5) rfl (own.all.cell1 (k := 5) rfl rfl) rfl ?_
  refine RunO.part 1 rfl ?_
  refine RunO.index (s := 1) (k := 6) rfl rfl rfl rfl (by decide) rfl ?_
  refine RunO.load (v := .int .i64 n6) rfl (own.all.cell1 (k := 6) rfl rfl) rfl ?_
  refine RunO.part 1 rfl ?_
  refine RunO.index (s := 1) (k := 7) rfl rfl rfl rfl (by decide) rfl ?_
  refine RunO.load (v := .int .i64 n7) rfl (own.all.cell1 (k := 7) rfl rfl) rfl ?_
  refine RunO.part 2 (h1 := h3.push ⟨rc 0 0 0 0 0 0 0 0, true⟩) rfl ?_
  refine RunO.store rfl rfl (store_ow (s := 8) (Ow.push h3 (rc 0 0 0 0 0 0 0 0)) rfl rfl rfl (by decide)) (RunO.nil ?_)
  change RunC _ _ _ _ ((h3.push ⟨rc 0 0 0 0 0 0 0 0, true⟩).put h3.next (some ⟨rc n0 n1 n2 n3 n4 n5 n6 n7, true⟩)) _ _ _
  have ow4 : Ow ((h3.push ⟨rc 0 0 0 0 0 0 0 0, true⟩).put h3.next (some ⟨rc n0 n1 n2 n3 n4 n5 n6 n7, true⟩)) h3.next (rc n0 n1 n2 n3 n4 n5 n6 n7) := Ow.put _ (Nat.lt_succ_self _)
  have f4 : Fr no h3 ((h3.push ⟨rc 0 0 0 0 0 0 0 0, true⟩).put h3.next (some ⟨rc n0 n1 n2 n3 n4 n5 n6 n7, true⟩)) := (Fr.push _ _ _).trans (Fr.put (m := (· = h3.next)) _ (.inl rfl)) (fun j hj => .inr (by omega))
  generalize (h3.push ⟨rc 0 0 0 0 0 0 0 0, true⟩).put h3.next (some ⟨rc n0 n1 n2 n3 n4 n5 n6 n7, true⟩) = h4 at *
  have ow34 := ow3.fr f4 (fun g => g)
  have f5 := f3.same f4
  refine RunC.seq (RunC.region ?_)
  refine RunO.load (v := .agg ⟨rc n0 n1 n2 n3 n4 n5 n6 n7⟩) rfl (ow4.all.part (k := 0) rfl) rfl ?_
  refine RunO.callD recCheck_ok rfl rfl rfl ?_
  rintro v h5 ⟨rfl, hf5⟩
  have ow5 := ow34.fr hf5 (fun g => g)
  have owx := ow4.fr hf5 (fun g => g)
  have f6 := f5.same hf5
  refine RunO.all rfl ?_
  rw [hcells, hcode]
  cases recOk n0 n1 n2 n3 n4 n5 n6 n7 with
  | false =>
    refine RunC.seq (RunC.seq (RunC.region (RunO.all rfl (RunC.cond rfl (fun _ => ?_) (fun g => by cases g)))))
    refine RunC.seq (RunC.region (RunO.part 2 rfl ?_))
    refine RunO.store rfl rfl (store_ow (s := 8) ow5 rfl rfl rfl (by decide)) ?_
    refine RunO.all rfl ?_
    refine RunC.ret ⟨_, eresults_cell rfl ((Ow.put (cs := rc 0 0 0 0 0 0 0 0) ow5.1).all.part (k := 0) rfl) rfl, rfl, ?_⟩
    exact f6.trans (Fr.put (m := (· = h.next)) _ (.inl rfl)) (fun j hj => .inr (by omega))
  | true =>
    refine RunC.seq (RunC.seq (RunC.region (RunO.all rfl (RunC.cond rfl (fun g => by cases g) (fun _ => RunC.skip ?_)))))
    refine RunC.seq (RunC.region ?_)
    refine RunO.load (v := .agg ⟨rc n0 n1 n2 n3 n4 n5 n6 n7⟩) rfl (owx.all.part (k := 0) rfl) rfl ?_
    refine RunO.store rfl rfl (store_ow (s := 8) ow5 rfl rfl rfl (by decide)) ?_
    refine RunO.all rfl ?_
    refine RunC.ret ⟨_, eresults_cell rfl ((Ow.put (cs := rc n0 n1 n2 n3 n4 n5 n6 n7) ow5.1).all.part (k := 0) rfl) rfl, rfl, ?_⟩
    exact f6.trans (Fr.put (m := (· = h.next)) _ (.inl rfl)) (fun j hj => .inr (by omega))
end Go.Proofs.Ytaaemamcdhebhaa
