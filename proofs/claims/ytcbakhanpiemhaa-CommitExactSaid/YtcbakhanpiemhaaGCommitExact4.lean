/- CommitExact: a calculus over an abstract machine that stands beside the model, and contracts of functions by it (part 4).
Conditions: what each theorem says of its arguments. -/
import Derived.Test.YtcbakhanpiemhaaGCommitExact3
section
set_option linter.unusedVariables false
set_option maxRecDepth 100000
open Go Go.Am
namespace Go.Proofs.Ytcbakhanpiemhaa
open Go.Proofs.Try
theorem recIn_ok {h : Heap} {a lo hi : Int} : RunF prog 116 [.int .i64 a, .int .i64 lo, .int .i64 hi] h fun v h' => v = .bool (inB a lo hi) ∧ h = h' := by
  refine RunF.walk func116 rfl rfl ?_
  refine RunC.seq (RunC.region (RunO.all rfl ?_))
  refine RunC.seq (RunC.region (RunO.part 4 rfl ?_))
  unfold inB
  cases decide (a ≥ lo) with
  | true => exact RunO.all rfl (RunC.ret ⟨_, rfl, by simp, rfl⟩)
  | false => exact RunO.all rfl (RunC.ret ⟨_, rfl, by simp, rfl⟩)
theorem recLay_ok {h : Heap} : RunF prog 77 [] h fun v h' => Row h.next h' v 2 8 (fcs (layF 4 [4, 8, 8, 4, 4, 4, 4, 4])) ∧ Fr no h h' := by
  refine RunF.walk func77 rfl rfl ?_
  refine RunC.seq (RunC.region (RunO.all rfl ?_))
  refine RunC.seq (RunC.region (RunO.part 1 (h1 := h.push ⟨ns [4, 8, 8, 4, 4, 4, 4, 4], true⟩) rfl ?_))
  refine RunO.callD (superLayout_ok (ss := [4, 8, 8, 4, 4, 4, 4, 4]) (c := exc 8) (Ow.push h (ns [4, 8, 8, 4, 4, 4, 4, 4])).all (by decide) (by decide)) rfl rfl rfl ?_
  rintro v h' ⟨hr, hf⟩
  refine RunO.all rfl (RunC.ret ⟨_, rfl, ?_, ?_⟩)
  · refine ⟨hr.1, hr.2.imp (fun x => x) ?_⟩
    rintro ⟨b, h1, h2⟩
    exact ⟨b, Nat.le_trans (Nat.le_succ _) h1, h2⟩
  · exact (Fr.push no _ _).same hf
def idB (n : Int) : Bool := !(decide (n < 1)) && !(decide (n > 4611686018427387903))
theorem idsCheck_ok {h : Heap} {n : Int} : RunF prog 136 [.int .i64 n] h fun v h' => v = .int .i64 (if idB n then 0 else 1) ∧ h = h' := by
  refine RunF.walk func136 rfl rfl ?_
  refine RunC.seq (RunC.region (RunO.all rfl ?_))
  refine RunC.seq (RunC.seq (RunC.region (RunO.part 3 rfl ?_)))
  unfold idB
  cases decide (n < 1) with
  | true =>
    refine RunO.all rfl (RunC.cond rfl (fun _ => ?_) (fun g => by cases g))
    exact RunC.seq (RunC.region (RunO.all rfl (RunC.ret ⟨_, rfl, rfl, rfl⟩)))
  | false =>
    refine RunO.part 2 rfl ?_
    cases decide (n > 4611686018427387903) with
    | true =>
      refine RunO.all rfl (RunC.cond rfl (fun _ => ?_) (fun g => by cases g))
      exact RunC.seq (RunC.region (RunO.all rfl (RunC.ret ⟨_, rfl, rfl, rfl⟩)))
    | false =>
      refine RunO.all rfl (RunC.cond rfl (fun g => by cases g) (fun _ => RunC.skip ?_))
      exact RunC.seq (RunC.region (RunO.all rfl (RunC.ret ⟨_, rfl, rfl, rfl⟩)))
def parB (id pa : Int) : Bool := idB id && ((pa != id) && (pa == 0 || idB pa))
theorem recParents_ok {h : Heap} {id pa : Int} : RunF prog 115 [.int .i64 id, .int .i64 pa] h fun v h' => v = .bool (parB id pa) ∧ h = h' := by
  refine RunF.walk func115 rfl rfl ?_
  refine RunC.seq (RunC.region (RunO.all rfl ?_))
  refine RunC.seq (RunC.region (RunO.part 1 rfl ?_))
  refine RunO.callD idsCheck_ok rfl rfl rfl ?_
  rintro _ _ ⟨rfl, rfl⟩
  refine RunO.part 1 rfl ?_
  rw [if_eq0]
  refine RunO.part 1 rfl ?_
  unfold parB
  cases idB id with
  | false => exact RunO.all rfl (RunC.ret ⟨_, rfl, rfl, rfl⟩)
  | true =>
    refine RunO.part 4 rfl ?_
    refine RunO.part 1 rfl ?_
    cases (pa != id) with
    | false => exact RunO.all rfl (RunC.ret ⟨_, rfl, rfl, rfl⟩)
    | true =>
      refine RunO.part 3 rfl ?_
      cases (pa == 0) with
      | true => exact RunO.all rfl (RunC.ret ⟨_, rfl, rfl, rfl⟩)
      | false =>
        refine RunO.part 1 rfl ?_
        refine RunO.callDG rfl idsCheck_ok rfl rfl rfl ?_
        rintro _ _ ⟨rfl, rfl⟩
        refine RunO.part 1 rfl ?_
        rw [if_eq0]
        refine RunO.all rfl (RunC.ret ⟨_, rfl, ?_, rfl⟩)
        simp
/-- A record's cells. -/
def rc (n id pa ro sz ki fr di : Int) : List Value := [.int .i64 n, .int .i64 id, .int .i64 pa, .int .i64 ro, .int .i64 sz, .int .i64 ki, .int .i64 fr, .int .i64 di]
def recIs (n id pa ro sz : Int) : Bool := (((ptrB n && ptrB ro) && parB id pa) && inB sz 0 512)
def recOk (n id pa ro sz ki fr di : Int) : Bool :=
  if ki = 0 then ((recIs n id pa ro sz && fr == 0) && di == 0) else if ki = 1 then ((recIs n id pa ro sz && inB fr 1 65535) && inB di 0 4294967295) else false
theorem recCheck_ok {h : Heap} {n id pa ro sz ki fr di : Int} : RunF prog 78 [.agg ⟨rc n id pa ro sz ki fr di⟩] h fun v h' => v = .int .i64 (if recOk n id pa ro sz ki fr di then 0 else 1) ∧ Fr no h h' := by
  refine RunF.walk func78 rfl rfl ?_
  refine RunC.seq (RunC.region (RunO.all (h1 := h.push ⟨rc n id pa ro sz ki fr di, true⟩) rfl ?_))
  have ow : Ow (h.push ⟨rc n id pa ro sz ki fr di, true⟩) h.next (rc n id pa ro sz ki fr di) := Ow.push _ _
  have f1 : Fr no h (h.push ⟨rc n id pa ro sz ki fr di, true⟩) := Fr.push _ _ _
  generalize h.push ⟨rc n id pa ro sz ki fr di, true⟩ = h1 at *
  generalize h.next = p at *
  refine RunC.seqE (upd (upd E0 1 (.pointer (some ⟨p, 0, none⟩))) 3 (.bool (recIs n id pa ro sz))) ?_ ?_
  · unfold recIs
    refine RunC.region (RunO.part 1 rfl ?_)
    refine RunO.load (v := .int .i64 n) rfl (ow.all.cell1 (k := 0) rfl rfl) rfl ?_
    refine RunO.callD nodePointer_ok rfl rfl rfl ?_
    rintro _ _ ⟨rfl, rfl⟩
    refine RunO.part 1 rfl ?_
    cases ptrB n with
    | false => exact RunO.all rfl ⟨rfl, Le.cons rfl (Le.cons rfl (Le.nil _))⟩
    | true =>
    refine RunO.part 1 rfl ?_
    refine RunO.loadG (v := .int .i64 ro) rfl rfl (ow.all.cell1 (k := 3) rfl rfl) rfl ?_
    refine RunO.callDG rfl nodePointer_ok rfl rfl rfl ?_
    rintro _ _ ⟨rfl, rfl⟩
    refine RunO.part 2 rfl ?_
    cases ptrB ro with
    | false => exact RunO.all rfl ⟨rfl, Le.cons rfl (Le.cons rfl (Le.nil _))⟩
    | true =>
    refine RunO.part 1 rfl ?_
    refine RunO.loadG (v := .int .i64 id) rfl rfl (ow.all.cell1 (k := 1) rfl rfl) rfl ?_
    refine RunO.part 1 rfl ?_
    refine RunO.loadG (v := .int .i64 pa) rfl rfl (ow.all.cell1 (k := 2) rfl rfl) rfl ?_
    refine RunO.callDG rfl recParents_ok rfl rfl rfl ?_
    rintro _ _ ⟨rfl, rfl⟩
    refine RunO.part 2 rfl ?_
    cases parB id pa with
    | false => exact RunO.all rfl ⟨rfl, Le.cons rfl (Le.cons rfl (Le.nil _))⟩
    | true =>
    refine RunO.part 1 rfl ?_
    refine RunO.loadG (v := .int .i64 sz) rfl rfl (ow.all.cell1 (k := 4) rfl rfl) rfl ?_
    refine RunO.callDG rfl recIn_ok rfl rfl rfl ?_
    rintro _ _ ⟨rfl, rfl⟩
    exact RunO.all rfl ⟨rfl, Le.cons rfl (Le.cons rfl (Le.nil _))⟩
  refine RunC.seqE (upd E0 3 (.bool (recOk n id pa ro sz ki fr di))) ?_ ?_
  · unfold recOk
    generalize recIs n id pa ro sz = b0
    refine RunC.seq (RunC.region (RunO.part 1 rfl ?_))
    refine RunO.load (v := .int .i64 ki) rfl (ow.all.cell1 (k := 5) rfl rfl) rfl ?_
    refine RunO.nil ?_
    refine RunC.block ?_
    refine RunC.seq (RunC.region (RunO.all rfl (RunC.cond rfl (fun c0 => ?_) (fun c0 => ?_))))
    · have c0 : ki = 0 := by simpa using c0
      rw [if_pos c0]
      refine RunC.region (RunO.part 2 rfl ?_)
      cases b0 with
      | false => exact RunO.all rfl ⟨rfl, Le.cons rfl (Le.nil _)⟩
      | true =>
      refine RunO.part 1 rfl ?_
      refine RunO.loadG (v := .int .i64 fr) rfl rfl (ow.all.cell1 (k := 6) rfl rfl) rfl ?_
      refine RunO.part 3 rfl ?_
      cases (fr == 0) with
      | false => exact RunO.all rfl ⟨rfl, Le.cons rfl (Le.nil _)⟩
      | true =>
      refine RunO.part 1 rfl ?_
      refine RunO.loadG (v := .int .i64 di) rfl rfl (ow.all.cell1 (k := 7) rfl rfl) rfl ?_
      exact RunO.all rfl ⟨rfl, Le.cons rfl (Le.nil _)⟩
    have c0 : ¬ ki = 0 := by simpa using c0
    rw [if_neg c0]
    refine RunC.seq (RunC.region (RunO.all rfl (RunC.cond rfl (fun c1 => ?_) (fun c1 => ?_))))
    · have c1 : ki = 1 := by simpa using c1
      rw [if_pos c1]
      refine RunC.region (RunO.part 2 rfl ?_)
      cases b0 with
      | false => exact RunO.all rfl ⟨rfl, Le.cons rfl (Le.nil _)⟩
      | true =>
      refine RunO.part 1 rfl ?_
      refine RunO.loadG (v := .int .i64 fr) rfl rfl (ow.all.cell1 (k := 6) rfl rfl) rfl ?_
      refine RunO.callDG rfl recIn_ok rfl rfl rfl ?_
      rintro _ _ ⟨rfl, rfl⟩
      refine RunO.part 2 rfl ?_
      cases inB fr 1 65535 with
      | false => exact RunO.all rfl ⟨rfl, Le.cons rfl (Le.nil _)⟩
      | true =>
      refine RunO.part 1 rfl ?_
      refine RunO.loadG (v := .int .i64 di) rfl rfl (ow.all.cell1 (k := 7) rfl rfl) rfl ?_
      refine RunO.callDG rfl recIn_ok rfl rfl rfl ?_
      rintro _ _ ⟨rfl, rfl⟩
      exact RunO.all rfl ⟨rfl, Le.cons rfl (Le.nil _)⟩
    have c1 : ¬ ki = 1 := by simpa using c1
    rw [if_neg c1]
    exact RunC.region (RunO.all rfl ⟨rfl, Le.cons rfl (Le.nil _)⟩)
  cases recOk n id pa ro sz ki fr di <;> refine RunC.seq (RunC.seq (RunC.region (RunO.all rfl (RunC.cond rfl (fun g => ?_) (fun g => ?_))))) <;> first
    | (cases g; done)
    | exact RunC.seq (RunC.region (RunO.all rfl (RunC.ret ⟨_, rfl, rfl, f1⟩)))
    | exact RunC.skip (RunC.seq (RunC.region (RunO.all rfl (RunC.ret ⟨_, rfl, rfl, f1⟩))))
end Go.Proofs.Ytcbakhanpiemhaa
end
section
set_option linter.unusedVariables false
set_option maxRecDepth 100000
open Go Go.Am
namespace Go.Proofs.Ytcbakhanpiemhaa
open Go.Proofs.Try
def rSiz : List Nat := [4, 8, 8, 4, 4, 4, 4, 4]
def rLay : List (Nat × Nat) := layF 4 rSiz
def rMag : List Int := [83, 78, 65, 80]
/-- A record's block. -/
def recBlock (n id pa ro sz ki fr di : Int) : List Int := makeB rMag rLay [n, id, pa, ro, sz, ki, fr, di]
theorem recBytes_ok {h : Heap} {n id pa ro sz ki fr di : Int} : RunF prog 68 [.agg ⟨rc n id pa ro sz ki fr di⟩] h fun v h' => Fr no h h' ∧ ((recOk n id pa ro sz ki fr di = true ∧ ∃ b, h.next ≤ b ∧ v = .tuple #[.slice (some ⟨b, 0, none⟩) 64 (exc 64), .int .i64 0] ∧ Ow h' b (us (recBlock n id pa ro sz ki fr di))) ∨ (recOk n id pa ro sz ki fr di = false ∧ v = .tuple #[.slice none 0 0, .int .i64 1])) := by
  refine RunF.walk func68 rfl rfl ?_
  refine RunC.seq (RunC.region (RunO.all (h1 := h.push ⟨rc n id pa ro sz ki fr di, true⟩) rfl ?_))
  have ow : Ow (h.push ⟨rc n id pa ro sz ki fr di, true⟩) h.next (rc n id pa ro sz ki fr di) := Ow.push _ _
  have f1 : Fr no h (h.push ⟨rc n id pa ro sz ki fr di, true⟩) := Fr.push _ _ _
  generalize h.push ⟨rc n id pa ro sz ki fr di, true⟩ = h1 at *
  refine RunC.seq (RunC.region ?_)
  refine RunO.load (v := .agg ⟨rc n id pa ro sz ki fr di⟩) rfl (ow.all.part (k := 0) rfl) rfl ?_
  refine RunO.callD recCheck_ok rfl rfl rfl ?_
  rintro v h2 ⟨rfl, hf2⟩
  have f2 := f1.same hf2
  have ow2 := ow.fr hf2 (fun g => g)
  refine RunO.all rfl ?_
  cases hok : recOk n id pa ro sz ki fr di with
  | false =>
    refine RunC.seq (RunC.seq (RunC.region (RunO.all rfl (RunC.cond rfl (fun _ => ?_) (fun g => by cases g)))))
    exact RunC.seq (RunC.region (RunO.all rfl (RunC.ret ⟨_, rfl, f2, .inr ⟨rfl, rfl⟩⟩)))
  | true =>
    refine RunC.seq (RunC.seq (RunC.region (RunO.all rfl (RunC.cond rfl (fun g => by cases g) (fun _ => RunC.skip ?_)))))
    refine RunC.seq (RunC.draw (l0 := min h2.low h2.next) (Nat.min_le_left _ _) rfl ?_)
    refine RunD.callD recLay_ok rfl rfl rfl ?_
    rintro v h3 ⟨hr, hf3⟩
    have hl3 : min h2.low h2.next ≤ h3.low := hf3.from (Nat.min_le_right _ _) (fun _ g => g.elim)
    refine ⟨hl3, ?_⟩
    have ow3 : Ow h3 h.next (rc n id pa ro sz ki fr di) := Ow.fr (h := h2.lo h2.next) ow2 hf3 (fun g => g)
    have hn3 : min h2.low h2.next ≤ h3.next := Nat.le_trans (Nat.min_le_right _ _) hf3.next
    obtain ⟨bf, hbf, rfl, owf⟩ := rowOut hr (by decide)
    have hq := hf3.quietB
    rw [hq]
    refine RunD.pure hn3 rfl rfl (fun _ => rfl) rfl ?_
    refine RunD.load (v := .int .i64 n) hn3 rfl (ow3.all.cell1 (k := 0) rfl rfl) rfl ?_
    refine RunD.pure hn3 rfl rfl (fun _ => rfl) rfl ?_
    refine RunD.load (v := .int .i64 id) hn3 rfl (ow3.all.cell1 (k := 1) rfl rfl) rfl ?_
    refine RunD.pure hn3 rfl rfl (fun _ => rfl) rfl ?_
    refine RunD.load (v := .int .i64 pa) hn3 rfl (ow3.all.cell1 (k := 2) rfl rfl) rfl ?_
    refine RunD.pure hn3 rfl rfl (fun _ => rfl) rfl ?_
    refine RunD.load (v := .int .i64 ro) hn3 rfl (ow3.all.cell1 (k := 3) rfl rfl) rfl ?_
    refine RunD.pure hn3 rfl rfl (fun _ => rfl) rfl ?_
    refine RunD.load (v := .int .i64 sz) hn3 rfl (ow3.all.cell1 (k := 4) rfl rfl) rfl ?_
    refine RunD.pure hn3 rfl rfl (fun _ => rfl) rfl ?_
    refine RunD.load (v := .int .i64 ki) hn3 rfl (ow3.all.cell1 (k := 5) rfl rfl) rfl ?_
    refine RunD.pure hn3 rfl rfl (fun _ => rfl) rfl ?_
    refine RunD.load (v := .int .i64 fr) hn3 rfl (ow3.all.cell1 (k := 6) rfl rfl) rfl ?_
    refine RunD.pure hn3 rfl rfl (fun _ => rfl) rfl ?_
    refine RunD.load (v := .int .i64 di) hn3 rfl (ow3.all.cell1 (k := 7) rfl rfl) rfl ?_
    refine RunD.one (h1 := (h3.lo h3.next).push ⟨is [n, id, pa, ro, sz, ki, fr, di], true⟩) rfl rfl (fun _ => rfl) hn3 rfl ?_
    have ow4 := Ow.push (h3.lo h3.next) (is [n, id, pa, ro, sz, ki, fr, di])
    have f4 : Fr no h3 ((h3.lo h3.next).push ⟨is [n, id, pa, ro, sz, ki, fr, di], true⟩) := ⟨Nat.le_succ _, (Fr.push no (h3.lo h3.next) _).get, fun l a b c => b⟩
    have owf4 := owf.fr f4 (fun g => g)
    generalize (h3.lo h3.next).push ⟨is [n, id, pa, ro, sz, ki, fr, di], true⟩ = h4 at *
    refine RunD.callD (superMake_ok (h := h4.lo h4.next) (mb := rMag) (fl := rLay) (nums := [n, id, pa, ro, sz, ki, fr, di]) rfl rfl owf4.all ow4.all rfl (by decide) (by decide)) rfl rfl rfl ?_
    rintro v h5 ⟨b, hb, rfl, ow5, hf5⟩
    have hn4 : min h2.low h2.next ≤ h4.next := Nat.le_trans hn3 f4.next
    refine ⟨hf5.from hn4 (fun _ g => g.elim), ?_⟩
    rw [hf5.quietB]
    have hn5 : min h2.low h2.next ≤ h5.next := Nat.le_trans hn4 hf5.next
    refine RunD.pure hn5 rfl rfl (fun _ => rfl) rfl ?_
    refine RunD.pure hn5 rfl rfl (fun _ => rfl) rfl ?_
    refine RunD.nil ⟨rfl, fun lw hlw => ?_⟩
    refine RunC.ret ⟨_, rfl, ?_, .inl ⟨rfl, b, ?_, rfl, ow5⟩⟩
    · exact ((f2.fg0.same hf3.fg).same (f4.fg0.same hf5.fg)).close (fun l h1 h2 h3 => Nat.le_trans (Nat.le_min.2 ⟨f2.low l h1 h2 h3, Nat.le_trans h2 f2.next⟩) hlw)
    · exact Nat.le_trans (Nat.le_trans f2.next (Nat.le_trans hf3.next f4.next)) hb
/-- The numbers of a record's block. -/
def rNum (l : List Int) (i : Nat) : Int := (numsB rLay l).getD i 0
def rOkL (l : List Int) : Bool := recOk (rNum l 0) (rNum l 1) (rNum l 2) (rNum l 3) (rNum l 4) (rNum l 5) (rNum l 6) (rNum l 7)
def rCode (l : List Int) : Int := if readB rMag rLay l = 0 then (if rOkL l then 0 else 1) else readB rMag rLay l
def rCells (l : List Int) : List Value := if rCode l = 0 then rc (rNum l 0) (rNum l 1) (rNum l 2) (rNum l 3) (rNum l 4) (rNum l 5) (rNum l 6) (rNum l 7) else rc 0 0 0 0 0 0 0 0
theorem recParse_ok {h : Heap} {A : Option Addr} {c : Nat} {l : List Int} (ra : l.length = 64 → ∃ a, A = some a ∧ Rd h a (us l)) (hb : Byt l) (hc : Cp 1 l.length c) :
    RunF prog 38 [.slice A l.length c] h fun v h' => v = .tuple #[.agg ⟨rCells l⟩, .int .i64 (rCode l)] ∧ Fr no h h' := by
  refine RunF.walk func38 rfl rfl ?_
  refine RunC.seq (RunC.region (RunO.all (h1 := h.push ⟨rc 0 0 0 0 0 0 0 0, true⟩) rfl ?_))
  have ow : Ow (h.push ⟨rc 0 0 0 0 0 0 0 0, true⟩) h.next (rc 0 0 0 0 0 0 0 0) := Ow.push _ _
  have f1 : Fr no h (h.push ⟨rc 0 0 0 0 0 0 0 0, true⟩) := Fr.push _ _ _
  generalize h.push ⟨rc 0 0 0 0 0 0 0 0, true⟩ = h1 at *
  refine RunC.seq (RunC.region (RunO.part 1 rfl ?_))
  refine RunO.callD recLay_ok rfl rfl rfl ?_
  rintro v h2 ⟨hr, hf2⟩
  have ow2 := ow.fr hf2 (fun g => g)
  have f2 := f1.same hf2
  obtain ⟨bf, hbf, rfl, owf⟩ := rowOut hr (by decide)
  refine RunO.callD (superRead_ok (mb := rMag) (mg := ⟨#[83, 78, 65, 80]⟩) (fl := rLay) rfl (fun e => (ra e).imp (fun a x => ⟨x.1, x.2.fr f2 (fun g => g)⟩)) hb owf.all (by decide) (by decide) hc) rfl rfl rfl ?_
  rintro v h3 ⟨o, rfl, hk0, hk1, hf3⟩
  have ow3 := ow2.fr hf3 (fun g => g)
  have f3 := f2.same hf3
  refine RunO.all rfl ?_
  by_cases hr : readB rMag rLay l = 0
  case neg =>
    have hcode : rCode l = readB rMag rLay l := if_neg hr
    have hcells : rCells l = rc 0 0 0 0 0 0 0 0 := if_neg (by rw [hcode]; exact hr)
    rw [hcells, hcode]
    generalize readB rMag rLay l = r at *
    refine RunC.seq (RunC.seq (RunC.region (RunO.all rfl ?_)))
    rw [show (r != 0) = true by simpa using hr]
    refine RunC.cond rfl (fun _ => ?_) (fun g => by cases g)
    refine RunC.seq (RunC.region (RunO.part 2 rfl ?_))
    refine RunO.store rfl rfl (store_ow (s := 8) ow3 rfl rfl rfl (by decide)) ?_
    refine RunO.all rfl ?_
    refine RunC.ret ⟨_, eresults_cell rfl ((Ow.put (cs := rc 0 0 0 0 0 0 0 0) ow3.1).all.part (k := 0) rfl) rfl, rfl, ?_⟩
    exact f3.trans (Fr.put (m := (· = h.next)) _ (.inl rfl)) (fun j hj => .inr (by omega))
  rw [hr]
  have hrow := hk0 hr
  obtain ⟨bn, hbn, rfl, own⟩ := rowOut hrow (by decide)
  have hcode : rCode l = if rOkL l then 0 else 1 := if_pos hr
  have hcells : rCells l = if rCode l = 0 then rc (rNum l 0) (rNum l 1) (rNum l 2) (rNum l 3) (rNum l 4) (rNum l 5) (rNum l 6) (rNum l 7) else rc 0 0 0 0 0 0 0 0 := rfl
  unfold rOkL at hcode
  change Ow h3 bn (is [rNum l 0, rNum l 1, rNum l 2, rNum l 3, rNum l 4, rNum l 5, rNum l 6, rNum l 7]) at own
  change RunC _ _ _ (upd (upd (upd (upd _ 11 (.slice (some ⟨bn, 0, none⟩) 8 (unkc 1))) 12 (.int .i64 0)) 4 (.slice (some ⟨bn, 0, none⟩) 8 (unkc 1))) 5 (.int .i64 0)) _ _ _ _
  refine RunC.seq (RunC.seq (RunC.region (RunO.all rfl ?_)))
  refine RunC.cond rfl (fun g => by cases g) (fun _ => RunC.skip ?_)
  generalize rNum l 0 = n0 at *
  generalize rNum l 1 = n1 at *
  generalize rNum l 2 = n2 at *
  generalize rNum l 3 = n3 at *
  generalize rNum l 4 = n4 at *
  generalize rNum l 5 = n5 at *
  generalize rNum l 6 = n6 at *
  generalize rNum l 7 = n7 at *
  refine RunC.seq (RunC.draw0 rfl (RunO.part 1 rfl ?_))
  refine RunO.index (s := 1) (k := 0) rfl rfl rfl rfl (by decide) rfl ?_
  refine RunO.load (v := .int .i64 n0) rfl (own.all.cell1 (k := 0) rfl rfl) rfl ?_
  refine RunO.part 1 rfl ?_
  refine RunO.index (s := 1) (k := 1) rfl rfl rfl rfl (by decide) rfl ?_
  refine RunO.load (v := .int .i64 n1) rfl (own.all.cell1 (k := 1) rfl rfl) rfl ?_
  refine RunO.part 1 rfl ?_
  refine RunO.index (s := 1) (k := 2) rfl rfl rfl rfl (by decide) rfl ?_
  refine RunO.load (v := .int .i64 n2) rfl (own.all.cell1 (k := 2) rfl rfl) rfl ?_
  refine RunO.part 1 rfl ?_
  refine RunO.index (s := 1) (k := 3) rfl rfl rfl rfl (by decide) rfl ?_
  refine RunO.load (v := .int .i64 n3) rfl (own.all.cell1 (k := 3) rfl rfl) rfl ?_
  refine RunO.part 1 rfl ?_
  refine RunO.index (s := 1) (k := 4) rfl rfl rfl rfl (by decide) rfl ?_
  refine RunO.load (v := .int .i64 n4) rfl (own.all.cell1 (k := 4) rfl rfl) rfl ?_
  refine RunO.part 1 rfl ?_
  refine RunO.index (s := 1) (k := 5) rfl rfl rfl rfl (by decide) rfl ?_
  refine RunO.load (v := .int .i64 n5) rfl (own.all.cell1 (k := 5) rfl rfl) rfl ?_
  refine RunO.part 1 rfl ?_
  refine RunO.index (s := 1) (k := 6) rfl rfl rfl rfl (by decide) rfl ?_
  refine RunO.load (v := .int .i64 n6) rfl (own.all.cell1 (k := 6) rfl rfl) rfl ?_
  refine RunO.part 1 rfl ?_
  refine RunO.index (s := 1) (k := 7) rfl rfl rfl rfl (by decide) rfl ?_
  refine RunO.load (v := .int .i64 n7) rfl (own.all.cell1 (k := 7) rfl rfl) rfl ?_
  refine RunO.part 2 (h1 := h3.push ⟨rc 0 0 0 0 0 0 0 0, true⟩) rfl ?_
  refine RunO.store rfl rfl (store_ow (s := 8) (Ow.push h3 (rc 0 0 0 0 0 0 0 0)) rfl rfl rfl (by decide)) (RunO.nil ?_)
  change RunC _ _ _ _ ((h3.push ⟨rc 0 0 0 0 0 0 0 0, true⟩).put h3.next (some ⟨rc n0 n1 n2 n3 n4 n5 n6 n7, true⟩)) _ _ _
  have ow4 : Ow ((h3.push ⟨rc 0 0 0 0 0 0 0 0, true⟩).put h3.next (some ⟨rc n0 n1 n2 n3 n4 n5 n6 n7, true⟩)) h3.next (rc n0 n1 n2 n3 n4 n5 n6 n7) := Ow.put _ (Nat.lt_succ_self _)
  have f4 : Fr no h3 ((h3.push ⟨rc 0 0 0 0 0 0 0 0, true⟩).put h3.next (some ⟨rc n0 n1 n2 n3 n4 n5 n6 n7, true⟩)) := (Fr.push _ _ _).trans (Fr.put (m := (· = h3.next)) _ (.inl rfl)) (fun j hj => .inr (by omega))
  generalize (h3.push ⟨rc 0 0 0 0 0 0 0 0, true⟩).put h3.next (some ⟨rc n0 n1 n2 n3 n4 n5 n6 n7, true⟩) = h4 at *
  have ow34 := ow3.fr f4 (fun g => g)
  have f5 := f3.same f4
  refine RunC.seq (RunC.region ?_)
  refine RunO.load (v := .agg ⟨rc n0 n1 n2 n3 n4 n5 n6 n7⟩) rfl (ow4.all.part (k := 0) rfl) rfl ?_
  refine RunO.callD recCheck_ok rfl rfl rfl ?_
  rintro v h5 ⟨rfl, hf5⟩
  have ow5 := ow34.fr hf5 (fun g => g)
  have owx := ow4.fr hf5 (fun g => g)
  have f6 := f5.same hf5
  refine RunO.all rfl ?_
  rw [hcells, hcode]
  cases recOk n0 n1 n2 n3 n4 n5 n6 n7 with
  | false =>
    refine RunC.seq (RunC.seq (RunC.region (RunO.all rfl (RunC.cond rfl (fun _ => ?_) (fun g => by cases g)))))
    refine RunC.seq (RunC.region (RunO.part 2 rfl ?_))
    refine RunO.store rfl rfl (store_ow (s := 8) ow5 rfl rfl rfl (by decide)) ?_
    refine RunO.all rfl ?_
    refine RunC.ret ⟨_, eresults_cell rfl ((Ow.put (cs := rc 0 0 0 0 0 0 0 0) ow5.1).all.part (k := 0) rfl) rfl, rfl, ?_⟩
    exact f6.trans (Fr.put (m := (· = h.next)) _ (.inl rfl)) (fun j hj => .inr (by omega))
  | true =>
    refine RunC.seq (RunC.seq (RunC.region (RunO.all rfl (RunC.cond rfl (fun g => by cases g) (fun _ => RunC.skip ?_)))))
    refine RunC.seq (RunC.region ?_)
    refine RunO.load (v := .agg ⟨rc n0 n1 n2 n3 n4 n5 n6 n7⟩) rfl (owx.all.part (k := 0) rfl) rfl ?_
    refine RunO.store rfl rfl (store_ow (s := 8) ow5 rfl rfl rfl (by decide)) ?_
    refine RunO.all rfl ?_
    refine RunC.ret ⟨_, eresults_cell rfl ((Ow.put (cs := rc n0 n1 n2 n3 n4 n5 n6 n7) ow5.1).all.part (k := 0) rfl) rfl, rfl, ?_⟩
    exact f6.trans (Fr.put (m := (· = h.next)) _ (.inl rfl)) (fun j hj => .inr (by omega))
end Go.Proofs.Ytcbakhanpiemhaa
end
section
set_option linter.unusedVariables false
set_option maxRecDepth 100000
open Go Go.Am
namespace Go.Proofs.Ytcbakhanpiemhaa
open Go.Proofs.Try
theorem indexI_ok {h : Heap} {v : Value} {n : Nat} {acs : List Value} (sl : Sl h v 1 n acs) {u : Nat → Value} (hu : ∀ j, j < n → apart prog 3 acs (j * 1) = some (u j)) {g : FuncId} {cap : List Value} {p : Nat → Bool}
    (hg : ∀ j, j < n → ∀ h1, Fr no h h1 → RunF prog g (u j :: cap) h1 (fun v h2 => v = .bool (p j) ∧ Fr no h1 h2)) (hm : n ≤ 4611686018427387904) :
    RunF prog 119 [v, .func (.func g) #[] ⟨cap⟩] h fun r h' => Fr no h h' ∧ ((∃ i : Nat, i < n ∧ r = .int .i64 (i : Int) ∧ p i = true ∧ ∀ j, j < i → p j = false) ∨ (r = .int .i64 (-1) ∧ ∀ j, j < n → p j = false)) := by
  refine RunF.walk func119 rfl rfl ?_
  obtain ⟨A, c, rfl, hc, _⟩ := sl.form
  refine RunC.seq (RunC.region (RunO.all rfl ?_))
  refine RunC.seq (RunC.seq (RunC.region (RunO.all rfl ?_)))
  refine RunC.block ?_
  let I : Nat → Env → Heap → Prop := fun k E h' => ∃ i : Nat, i + k = n ∧ (∀ j, j < i → p j = false) ∧ Fr no h h' ∧ Le (upd (upd (upd (upd E0 0 (.slice A n c)) 1 (.func (.func g) #[] ⟨cap⟩)) 7 (.int .i64 n)) 8 (.int .i64 i)) E
  refine RunC.loop I ?_ (k := n) ?_
  · rintro k E h' ⟨i, hi, hp, hf, hE⟩
    refine RunC.le hE ?_
    clear hE
    refine RunC.seq (RunC.region (RunO.all rfl ?_))
    refine RunC.seq (RunC.cond rfl (fun hlt => ?_) (fun hge => ?_))
    · have hlt := of_decide_eq_true hlt
      have h1 : i < n := by omega
      refine RunC.skip ?_
      refine RunC.seq (RunC.block ?_)
      refine RunC.seq (RunC.region (RunO.all rfl ?_))
      refine RunC.seq (RunC.region (RunO.part 3 rfl ?_))
      refine RunO.at (s := 1) rfl rfl (sl.fr0 hf) rfl rfl h1 (hu i h1) rfl rfl rfl ?_
      refine RunO.call rfl rfl ?_
      refine RunF.mono (hg i h1 _ hf) ?_
      rintro _ h2 ⟨rfl, f2⟩
      refine ⟨_, rfl, RunO.all rfl ?_⟩
      refine RunC.cond rfl (fun ht => ?_) (fun hn => ?_)
      · refine RunC.seq (RunC.region (RunO.all rfl (RunC.ret ⟨_, rfl, hf.quiet f2, .inl ⟨i, h1, rfl, ht, hp⟩⟩)))
      · refine RunC.skip (RunC.region (RunO.all rfl ?_))
        refine ⟨k - 1, by omega, i + 1, by omega, fun j hj => ?_, hf.quiet f2, Le.cons (inc64 (by omega)) (Le.cons rfl (Le.cons rfl (Le.cons rfl (Le.nil _))))⟩
        rcases Nat.lt_or_ge j i with q | q
        · exact hp j q
        · rw [show j = i by omega]; exact hn
    · have hge := of_decide_eq_false hge
      refine RunC.exit ?_
      exact RunC.seq (RunC.region (RunO.all rfl (RunC.ret ⟨_, rfl, hf, .inr ⟨rfl, fun j hj => hp j (by omega)⟩⟩)))
  · exact ⟨0, by omega, fun j hj => absurd hj (Nat.not_lt_zero _), Fr.refl _ _, Le.cons rfl (Le.cons rfl (Le.cons rfl (Le.cons rfl (Le.nil _))))⟩
theorem containsI_ok {h : Heap} {v : Value} {n : Nat} {acs : List Value} (sl : Sl h v 1 n acs) {u : Nat → Value} (hu : ∀ j, j < n → apart prog 3 acs (j * 1) = some (u j)) {g : FuncId} {cap : List Value} {p : Nat → Bool}
    (hg : ∀ j, j < n → ∀ h1, Fr no h h1 → RunF prog g (u j :: cap) h1 (fun v h2 => v = .bool (p j) ∧ Fr no h1 h2)) (hm : n ≤ 4611686018427387904) :
    RunF prog 83 [v, .func (.func g) #[] ⟨cap⟩] h fun r h' => r = .bool (anyI p n) ∧ Fr no h h' := by
  refine RunF.walk func83 rfl rfl ?_
  refine RunC.seq (RunC.region (RunO.all rfl ?_))
  refine RunC.seq (RunC.region (RunO.part 2 rfl ?_))
  refine RunO.callD (indexI_ok sl hu hg hm) rfl rfl rfl ?_
  rintro _ h2 ⟨f2, ⟨i, hi, rfl, hp, _⟩ | ⟨rfl, hp⟩⟩
  · refine RunO.all rfl (RunC.ret ⟨_, rfl, ?_, f2⟩)
    rw [anyI_true hi hp]
    exact congrArg Value.bool (decide_eq_true (Int.natCast_nonneg i))
  · refine RunO.all rfl (RunC.ret ⟨_, rfl, ?_, f2⟩)
    rw [anyI_false hp]; rfl
end Go.Proofs.Ytcbakhanpiemhaa
end
section
set_option linter.unusedVariables false
namespace Go.Am
open Go.RowKit
section
variable {P : Program} {n : Nat} {ops rest : List Oper} {E E1 : Env} {h h1 : Heap} {Q : Env → Heap → Prop}
theorem RunO.step {o : Oper} (e : estep P n ops E h o = some (E1, h1)) (r : RunO P n ops rest E1 h1 Q) : RunO P n ops (o :: rest) E h Q := by
  refine RunO.part (E1 := E1) (h1 := h1) 1 ?_ r
  show eops P n ops [o] E h = _
  simp only [eops, e]
/-- An element looked at under a guard. -/
theorem RunO.atG {d d2 : Tmp} {t ty ty2 e : TypeId} {x i : Operand} {pos pos2 : String} {after after2 : Array Edge} {gd gd2 : Option (Nat × Bool)} {v : Value} {m s k : Nat} {ik : IntKind} {cells : List Value} {u : Value}
    (hw : ewanted ops E ⟨some d, .indexAddr t x i, ty, pos, after, gd⟩ = some true) (hw2 : ∀ p, ewanted ops (upd E d (.pointer p)) ⟨some d2, .load e (.tmp d), ty2, pos2, after2, gd2⟩ = some true)
    (hx : gE E x = some v) (hi : gE E i = some (.int ik (k : Int))) (sl : Sl h v s m cells) (hu : P.underlying t = some (.slice e)) (hs : sizeOf P e = some s) (hk : k < m) (hv : apart P e cells (k * s) = some u)
    (hd : Nat.ble (Nat.succ d) n = true) (hd2 : Nat.ble (Nat.succ d2) n = true) (hE : E d = none)
    (r : RunO P n ops rest (upd E d2 u) h Q) : RunO P n ops (⟨some d, .indexAddr t x i, ty, pos, after, gd⟩ :: ⟨some d2, .load e (.tmp d), ty2, pos2, after2, gd2⟩ :: rest) E h Q := by
  obtain ⟨b, o, c, rfl, hc, rd⟩ := sl.nz (by omega)
  have hi' : gE E i = some (.int ik (.ofNat k)) := hi
  refine RunO.oneG (h1 := h) (v := .pointer (some ⟨b, o + k * s, none⟩)) (E1 := upd E d (.pointer (some ⟨b, o + k * s, none⟩))) hw ?_ (by simp only [eput, hd, cond_true]) ?_
  · simp only [eop, hx, hi', aindexAddr, hu, hs, Nat.ble_eq_true_of_le (show Nat.succ k ≤ m from hk), cond_true]
    rfl
  refine RunO.loadG (v := u) (a := ⟨b, o + k * s, none⟩) (hw2 _) (by show upd E d _ d = _; unfold upd; rw [Nat.beq_refl]; rfl) (rd.part hv) hd2 ?_
  exact r.le (upd2_le hE)
theorem Ow.ld {b off : Nat} {cs : List Value} {t : TypeId} {v : Value} (r : Ow h b cs) (e : apart P t cs off = some v) : aload P h t ⟨b, off, none⟩ = some v := by
  have := r.all.part (k := off) e
  rwa [Nat.zero_add] at this
theorem Rd.ld {b o : Nat} {cs : List Value} {t : TypeId} {v : Value} (r : Rd h ⟨b, o, none⟩ cs) (e : apart P t cs 0 = some v) : aload P h t ⟨b, o, none⟩ = some v := r.part (k := 0) e
end
end Go.Am
end
section
set_option linter.unusedVariables false
namespace Go.Am
open Go.RowKit
variable {P : Program}
/-- A row appended to lies in a new block. -/
theorem append_row2 {h : Heap} {t e : TypeId} {i : TypeInfo} {z : Value} {lo s k m c' : Nat} {xv : Value} {cells news : List Value} {a : Addr}
    (hu : P.underlying t = some (.slice e)) (hi : P.info? e = some i) (hz : zeroOf P e = some z) (hlz : lenIs (cellsOf z) i.size = true) (hs : i.size = s) (hs1 : 1 ≤ s) (row : Row lo h xv s k cells)
    (rd : Rd h a news) (hn : news.length = m * s) (hm : 1 ≤ m) (ha : allCells news = true) (hb : 2 * (k + m) * i.bytes ≤ 281474976710656) (hb2 : k + m ≤ 9223372036854775807) :
    ∃ v' h', aappend P h t t xv (.slice (some a) m c') = some (v', h') ∧ Row h.next h' v' s (k + m) (cells ++ news) ∧ Fr (At xv) h h' := by
  have row2 : Row 0 h xv s k cells := ⟨row.1, row.2.imp (fun x => x) (fun ⟨b, _, h2⟩ => ⟨b, Nat.zero_le _, h2⟩)⟩
  have hgen : ∀ lo', Row lo' h xv s k cells → lo' ≤ h.next → ∃ v' h', aappend P h t t xv (.slice (some a) m c') = some (v', h') ∧ Row lo' h' v' s (k + m) (cells ++ news) ∧ Fr (At xv) h h' :=
    fun lo' r hl => append_row hu hi hz hlz hs hs1 r hl rd hn hm ha hb hb2
  rcases row.2 with ⟨rfl, hk⟩ | ⟨b, hb1, rfl, ow⟩
  · exact hgen h.next ⟨row.1, .inl ⟨rfl, hk⟩⟩ (Nat.le_refl _)
  · obtain ⟨v', h', e1, r1, f1⟩ := hgen 0 row2 (Nat.zero_le _)
    refine ⟨v', h', e1, ⟨r1.1, .inr ?_⟩, f1⟩
    obtain ⟨hl, _⟩ := row
    subst hs
    obtain ⟨m, rfl⟩ : ∃ j, m = j + 1 := ⟨m - 1, by omega⟩
    have hr : asrc h i.size (.slice (some a) (m + 1) c') = some (m + 1, news) := by
      have hq : aread h a (Nat.mul (m + 1) i.size) = some (news.take ((m + 1) * i.size)) := rd.read0 (m := (m + 1) * i.size) (by omega)
      simp only [asrc, hq]
      rw [List.take_of_length_le (by omega)]
    have e1' : Nat.ble (Nat.mul (Nat.mul 2 (Nat.add k (Nat.succ m))) i.bytes) 281474976710656 = true := Nat.ble_eq_true_of_le hb
    have e2 : Nat.ble (Nat.add k (Nat.succ m)) 9223372036854775807 = true := Nat.ble_eq_true_of_le hb2
    have e3 : aread h ⟨b, 0, none⟩ (Nat.mul k i.size) = some cells := by
      have := ow.all.read0 (m := k * i.size) (by omega)
      rw [List.take_of_length_le (by omega)] at this
      exact this
    have e4 : lenIs cells (Nat.add 0 (Nat.mul k i.size)) = true := (lenIs_iff _ _).2 (by show _ = 0 + k * i.size; omega)
    have key : aappend P h t t (.slice (some ⟨b, 0, none⟩) k (unkc i.size)) (.slice (some a) (m + 1) c') = some (.slice (some ⟨h.next, 0, none⟩) (k + (m + 1)) (unkc i.size), (h.put b none).push ⟨cells ++ news, true⟩) := by
      simp only [aappend, hu, Nat.beq_refl, cond_true, hi, hz, hlz, Nat.ble_eq_true_of_le hs1, hr, e1', e2, e3, unk_unkc, half_unkc, ow.2, e4, ha]
      rfl
    rw [key] at e1
    cases e1
    exact ⟨h.next, Nat.le_refl _, rfl, Ow.push _ _⟩
section
variable {n : Nat} {ops rest : List Oper} {E E1 : Env} {h h1 : Heap} {Q : Env → Heap → Prop}
theorem RunO.append2 {d : Tmp} {t ty e : TypeId} {x y : Operand} {pos : String} {after : Array Edge} {i : TypeInfo} {z : Value} {lo s k m c' : Nat} {xv : Value} {cells news : List Value} {a : Addr}
    (hx : gE E x = some xv) (hy : gE E y = some (.slice (some a) m c')) (hd : Nat.ble (Nat.succ d) n = true)
    (hu : P.underlying t = some (.slice e)) (hi : P.info? e = some i) (hz : zeroOf P e = some z) (hlz : lenIs (cellsOf z) i.size = true) (hs : i.size = s) (hs1 : 1 ≤ s) (row : Row lo h xv s k cells)
    (rd : Rd h a news) (hn : news.length = m * s) (hm : 1 ≤ m) (ha : allCells news = true) (hb : 2 * (k + m) * i.bytes ≤ 281474976710656) (hb2 : k + m ≤ 9223372036854775807)
    (r : ∀ v' h', Row h.next h' v' s (k + m) (cells ++ news) → Fr (At xv) h h' → RunO P n ops rest (upd E d v') h' Q) : RunO P n ops (⟨some d, .call ⟨.builtin .append, #[x, y], #[t, t]⟩, ty, pos, after, none⟩ :: rest) E h Q := by
  obtain ⟨v', h', h1, h2, h3⟩ := append_row2 (c' := c') hu hi hz hlz hs hs1 row rd hn hm ha hb hb2
  refine RunO.one rfl (v := v') (h1 := h') ?_ (by simp only [eput, hd, cond_true]) (r v' h' h2 h3)
  simp only [eop, gs, hx, hy, abuiltin, h1]
end
end Go.Am
end
section
set_option linter.unusedVariables false
namespace Go.Am
open Go.RowKit
/- A region that draws its order: its first operations write nothing old, and only these are drawn; what comes behind may write. -/
theorem aopsC_append {P : Program} {cf : CallF} {n : Nat} {ops : List Oper} : ∀ (pre post : List Oper) {T T1 T2 : Tr Value} {h h1 h2 : Heap} {f1 f2 : List Fp}, aopsC P cf n ops pre T h = some (T1, h1, f1) → aopsC P cf n ops post T1 h1 = some (T2, h2, f2) → aopsC P cf n ops (pre ++ post) T h = some (T2, h2, f1 ++ f2)
  | [], post, T, T1, T2, h, h1, h2, f1, f2, a, b => by
    cases a; exact b
  | o :: l, post, T, T1, T2, h, h1, h2, f1, f2, a, b => by
    rw [List.cons_append]
    unfold aopsC at a ⊢
    split at a
    · rename_i T' h' f hs
      split at a
      · rename_i T'' h'' fs hr
        cases a
        simp only [aopsC_append l post hr b, List.cons_append]
      · cases a
    · cases a
theorem RunD.append {P : Program} {n l0 : Nat} {ops pre post : List Oper} {E : Env} {h : Heap} {Q : Env → Heap → List Fp → Prop}
    (r : RunD P n ops pre l0 E h fun E1 h1 f1 => RunD P n ops post l0 E1 h1 fun E2 h2 f2 => Q E2 h2 (f1 ++ f2)) : RunD P n ops (pre ++ post) l0 E h Q := by
  intro lw hlw
  obtain ⟨E1, h1, f1, lw1, r2, hl1, N1, hN1⟩ := r lw hlw
  obtain ⟨E2, h2, f2, lw2, q, hl2, N2, hN2⟩ := r2 lw1 hl1
  refine ⟨E2, h2, f1 ++ f2, lw2, q, hl2, Nat.max N1 N2, fun d hd K hK T hs => ?_⟩
  obtain ⟨T1, hs1, e1⟩ := hN1 d (Nat.le_trans (Nat.le_max_left _ _) hd) K (Nat.le_trans (Nat.le_max_left _ _) hK) T hs
  obtain ⟨T2, hs2, e2⟩ := hN2 d (Nat.le_trans (Nat.le_max_right _ _) hd) K (Nat.le_trans (Nat.le_max_right _ _) hK) T1 hs1
  exact ⟨T2, hs2, aopsC_append pre post e1 e2⟩
/-- What comes behind: it may write m. -/
def RunT (P : Program) (n : Nat) (ops rest : List Oper) (m : Nat → Prop) (E : Env) (h : Heap) (Q : Env → Heap → Prop) : Prop :=
  ∀ l0, l0 ≤ h.next → (∀ j, m j → l0 ≤ j) → RunD P n ops rest l0 E h (fun E' h' _ => Fg m h h' ∧ Q E' h')
section
variable {P : Program} {n : Nat} {ops rest : List Oper} {m : Nat → Prop} {E E1 : Env} {h h1 : Heap} {Q : Env → Heap → Prop}
theorem RunT.nil (q : Q E h) : RunT P n ops [] m E h Q := fun l0 hl _ => RunD.nil ⟨⟨Nat.le_refl _, fun _ _ _ => rfl⟩, q⟩
theorem RunT.lo {x : Nat} (r : RunT P n ops rest m E h Q) : RunT P n ops rest m E (h.lo x) Q := by
  intro l0 hl hm
  have := r l0 hl hm
  intro lw hlw
  obtain ⟨E', h', fs, lw', ⟨q3, q4⟩, k⟩ := this lw hlw
  exact ⟨E', h', fs, lw', ⟨⟨q3.next, q3.get⟩, q4⟩, k⟩
theorem RunT.oneG {o : Oper} {v : Value} {f : Fp} (g : ewanted ops E o = some true) (e : eop P E o (h.lo h.next) = some (v, h1)) (hf : ∀ q, fpE E o q = some f) (hfr : Fr m (h.lo h.next) h1) (p : eput n E o.dst v = some E1)
    (r : RunT P n ops rest m E1 h1 Q) : RunT P n ops (o :: rest) m E h Q := by
  intro l0 hl hm
  refine RunD.oneG g e hf (hfr.from hl hm) p ?_
  refine (r l0 (Nat.le_trans hl hfr.next) hm).mono ?_
  rintro E' h' fs ⟨q3, q4⟩
  exact ⟨hfr.fg.same q3, q4⟩
theorem low_max (m : Nat → Prop) : ∀ A : Nat, ∃ l0, l0 ≤ A ∧ (∀ j, m j → l0 ≤ j) ∧ ∀ l, l ≤ A → (∀ j, m j → l ≤ j) → l ≤ l0
  | 0 => ⟨0, Nat.le_refl _, fun _ _ => Nat.zero_le _, fun l h _ => h⟩
  | A + 1 => by
    by_cases c : ∀ j, m j → A + 1 ≤ j
    · exact ⟨A + 1, Nat.le_refl _, c, fun l h _ => h⟩
    · obtain ⟨l0, h1, h2, h3⟩ := low_max m A
      refine ⟨l0, Nat.le_succ_of_le h1, h2, fun l hl hm => ?_⟩
      by_cases e : l = A + 1
      · subst e; exact absurd hm c
      · exact h3 l (by omega) hm
theorem nth_append_lt {α : Type} : ∀ (l l2 : List α) (i : Nat), i < l.length → nth (l ++ l2) i = nth l i := by
  intro l l2 i hi
  rw [nth_eq, nth_eq, List.getElem?_append_left hi]
theorem pairsOk_append {fs gs : List Fp} : ∀ (ps : List (Nat × Nat)), idxOk fs.length ps = true → pairsOk fs ps = true → pairsOk (fs ++ gs) ps = true
  | [], _, _ => rfl
  | (i, j) :: l, h, e => by
    unfold idxOk at h
    cases hi : Nat.blt i fs.length with
    | false => rw [hi] at h; cases h
    | true =>
      rw [hi, cond_true] at h
      cases hj : Nat.blt j fs.length with
      | false => rw [hj] at h; cases h
      | true =>
        rw [hj, cond_true] at h
        unfold pairsOk at e ⊢
        rw [nth_append_lt _ _ _ (blt_lt hi), nth_append_lt _ _ _ (blt_lt hj)]
        split at e
        · rename_i a b ha hb
          cases hc : fpOk a b with
          | false => rw [hc] at e; cases e
          | true =>
            rw [hc, cond_true] at e
            rw [cond_true]
            exact pairsOk_append l h e
        · cases e
def drawTOk (k : Nat) (ops : Array Oper) : Bool := match drawOk ops with
  | some (p :: ps) => idxOk (ops.toList.take k).length (p :: ps)
  | _ => false
theorem RunC.drawT (k : Nat) (m : Nat → Prop) {i : Nat} {ops : Array Oper} {Qn : Env → Heap → Prop} {Qx : Nat → Env → Heap → Prop} {Qr : Env → Heap → Prop} (hd : drawTOk k ops = true)
    (r : RunQ P n ops.toList (ops.toList.take k) E h (fun E1 h1 => RunT P n ops.toList (ops.toList.drop k) m E1 h1 fun E' h' => ∀ lw, Fr m h (h'.lo lw) → Qn E' (h'.lo lw))) : RunC P n (.region i ops true) E h Qn Qx Qr := by
  unfold drawTOk at hd
  split at hd
  · rename_i p ps hps
    obtain ⟨l0, z1, z2, z3⟩ := low_max m (min h.low h.next)
    refine RunC.draw (l0 := l0) (Nat.le_trans z1 (Nat.min_le_left _ _)) hps ?_
    have hsp : ops.toList = ops.toList.take k ++ ops.toList.drop k := (List.take_append_drop _ _).symm
    have key : RunD P n ops.toList (ops.toList.take k ++ ops.toList.drop k) l0 E h (fun E' h' fs => pairsOk fs (p :: ps) = true ∧ ∀ lw, l0 ≤ lw → Qn E' (h'.lo lw)) := by
      refine RunD.append ((r l0 (Nat.le_trans z1 (Nat.min_le_right _ _))).mono ?_)
      rintro E1 h1 f1 ⟨q1, q2, q3, q4⟩
      refine (q4 l0 (Nat.le_trans (Nat.le_trans z1 (Nat.min_le_right _ _)) q3.next) z2).mono ?_
      rintro E' h' f2 ⟨g3, g4⟩
      refine ⟨pairsOk_append _ (by rw [q1]; exact hd) (pairsOk_ok q2 _ (by rw [q1]; exact hd)), fun lw hlw => g4 lw ?_⟩
      have fg : Fg m h h' := ⟨Nat.le_trans q3.next g3.next, fun i hi hm => by rw [g3.get i (Nat.lt_of_lt_of_le hi q3.next) hm, q3.get i hi (fun g => g)]⟩
      exact fg.close (fun l x y z => Nat.le_trans (z3 l (Nat.le_min.2 ⟨x, y⟩) z) hlw)
    rwa [← hsp] at key
  · cases hd
end
end Go.Am
end
section
set_option linter.unusedVariables false
namespace Go.Am
open Go.RowKit
section
variable {P : Program} {n : Nat} {ops rest : List Oper} {E E1 : Env} {h h1 : Heap} {Q : Env → Heap → Prop}
theorem upd3_le {E : Env} {d d2 d3 : Tmp} {v w u : Value} (h1 : E d = none) (h2 : E d2 = none) : Le (upd E d3 u) (upd (upd (upd E d v) d2 w) d3 u) := by
  intro t x hx
  unfold upd at hx ⊢
  cases e3 : Nat.beq t d3 with
  | true => rw [e3] at hx; exact hx
  | false =>
    rw [e3] at hx
    have hx : E t = some x := hx
    show (cond (Nat.beq t d2) (some w) (cond (Nat.beq t d) (some v) (E t))) = some x
    cases e2 : Nat.beq t d2 with
    | true => have := Nat.eq_of_beq_eq_true e2; subst this; rw [h2] at hx; cases hx
    | false =>
      cases e1 : Nat.beq t d with
      | true => have := Nat.eq_of_beq_eq_true e1; subst this; rw [h1] at hx; cases hx
      | false => exact hx
/-- A field of an element looked at: its address, the field's, a load. -/
theorem RunO.fldG {d d2 d3 : Tmp} {t ty ty2 ty3 e st : TypeId} {x i : Operand} {f : Nat} {pos pos2 pos3 : String} {after after2 after3 : Array Edge} {gd gd2 gd3 : Option (Nat × Bool)} {v : Value} {m s k off : Nat} {ik : IntKind} {cells : List Value} {u : Value}
    (hw : ewanted ops E ⟨some d, .indexAddr t x i, ty, pos, after, gd⟩ = some true) (hw2 : ∀ p, ewanted ops (upd E d (.pointer p)) ⟨some d2, .fieldAddr st (.tmp d) f, ty2, pos2, after2, gd2⟩ = some true) (hw3 : ∀ p q, ewanted ops (upd (upd E d (.pointer p)) d2 (.pointer q)) ⟨some d3, .load e (.tmp d2), ty3, pos3, after3, gd3⟩ = some true)
    (hx : gE E x = some v) (hi : gE E i = some (.int ik (k : Int))) (sl : Sl h v s m cells) (hu : P.underlying t = some (.slice st)) (hs : sizeOf P st = some s) (hk : k < m)
    (hf : ∀ b o, afieldAddr P st (.pointer (some ⟨b, o, none⟩)) f = some (.pointer (some ⟨b, o + off, none⟩))) (hv : apart P e cells (k * s + off) = some u)
    (hd : Nat.ble (Nat.succ d) n = true) (hd2 : Nat.ble (Nat.succ d2) n = true) (hd3 : Nat.ble (Nat.succ d3) n = true) (hE : E d = none) (hE2 : E d2 = none)
    (r : RunO P n ops rest (upd E d3 u) h Q) : RunO P n ops (⟨some d, .indexAddr t x i, ty, pos, after, gd⟩ :: ⟨some d2, .fieldAddr st (.tmp d) f, ty2, pos2, after2, gd2⟩ :: ⟨some d3, .load e (.tmp d2), ty3, pos3, after3, gd3⟩ :: rest) E h Q := by
  obtain ⟨b, o, c, rfl, hc, rd⟩ := sl.nz (by omega)
  have hi' : gE E i = some (.int ik (.ofNat k)) := hi
  refine RunO.oneG (h1 := h) (v := .pointer (some ⟨b, o + k * s, none⟩)) (E1 := upd E d (.pointer (some ⟨b, o + k * s, none⟩))) hw ?_ (by simp only [eput, hd, cond_true]) ?_
  · simp only [eop, hx, hi', aindexAddr, hu, hs, Nat.ble_eq_true_of_le (show Nat.succ k ≤ m from hk), cond_true]
    rfl
  have hg : gE (upd E d (.pointer (some ⟨b, o + k * s, none⟩))) (.tmp d) = some (.pointer (some ⟨b, o + k * s, none⟩)) := by show upd E d _ d = _; unfold upd; rw [Nat.beq_refl]; rfl
  refine RunO.oneG (h1 := h) (v := .pointer (some ⟨b, o + k * s + off, none⟩)) (E1 := upd (upd E d (.pointer (some ⟨b, o + k * s, none⟩))) d2 (.pointer (some ⟨b, o + k * s + off, none⟩))) (hw2 _) ?_ (by simp only [eput, hd2, cond_true]) ?_
  · have := hf b (o + k * s)
    simp only [eop, hg, this]
    rfl
  have hv' : aload P h e ⟨b, o + k * s + off, none⟩ = some u := by
    have := rd.part hv
    rw [← Nat.add_assoc] at this
    exact this
  refine RunO.loadG (v := u) (a := ⟨b, o + k * s + off, none⟩) (hw3 _ _) (by show upd _ d2 _ d2 = _; unfold upd; rw [Nat.beq_refl]; rfl) hv' hd3 ?_
  exact r.le (upd3_le hE hE2)
/-- A row copied into one's own. -/
theorem RunO.copy {d : Tmp} {t t2 ty e : TypeId} {x y : Operand} {pos : String} {after : Array Edge} {b dn dc sn k : Nat} {src : Value} {cs news : List Value}
    (hx : gE E x = some (.slice (some ⟨b, 0, none⟩) dn dc)) (hy : gE E y = some src) (hu : P.underlying t = some (.slice e)) (hs : sizeOf P e = some 1) (ow : Ow h b cs) (sl : Sl h src 1 sn news) (ha : allCells news = true) (hm : min sn dn = k) (hc : k ≤ cs.length) (hd : Nat.ble (Nat.succ d) n = true)
    (r : ∀ h', Ow h' b (news.take k ++ cs.drop k) → Fr (· = b) h h' → h'.next = h.next → RunO P n ops rest (upd E d (goInt k)) h' Q) : RunO P n ops (⟨some d, .call ⟨.builtin .copy, #[x, y], #[t, t2]⟩, ty, pos, after, none⟩ :: rest) E h Q := by
  obtain ⟨h', e1, e2, e3, e4⟩ := copy_sl (P := P) (t := t) (dc := dc) hu hs ow sl ha hm (by omega : 0 + k ≤ cs.length)
  rw [Nat.zero_add, List.take_zero, List.nil_append] at e2
  refine RunO.one rfl (v := goInt k) (h1 := h') ?_ (by simp only [eput, hd, cond_true]) (r h' e2 e3 e4)
  simp only [eop, gs, hx, hy, abuiltin, e1]
end
end Go.Am
end
section
set_option linter.unusedVariables false
namespace Go.Am
open Go.RowKit
section
variable {P : Program} {n : Nat} {ops rest : List Oper} {E E1 : Env} {h h1 : Heap} {Q : Env → Heap → Prop}
theorem Rd.sub {b o : Nat} {cs : List Value} (r : Rd h ⟨b, o, none⟩ cs) {k j : Nat} (hk : k + j ≤ cs.length) : Rd h ⟨b, o + k, none⟩ ((cs.drop k).take j) := by
  obtain ⟨h1, h2, ob, ho, he⟩ := r
  refine ⟨rfl, h2, ob, ho, ?_⟩
  simp only at he ⊢
  have hl : ((cs.drop k).take j).length = j := by rw [List.length_take, List.length_drop]; omega
  rw [hl]
  conv => rhs; rw [← he]
  rw [List.drop_take, List.drop_drop, List.take_take]
  congr 1
  omega
/-- A bound of a slice. -/
inductive Bd : Option Value → Nat → Nat → Prop where
  | none (d : Nat) : Bd none d d
  | some (k : IntKind) (d m : Nat) : Bd (some (.int k (m : Int))) d m
theorem slice_gen {t e : TypeId} {v : Value} {s len k m : Nat} {cells : List Value} {lo hi : Option Value} (hu : P.underlying t = some (.slice e)) (hs : sizeOf P e = some s) (sl : Sl h v s len cells) (hlo : Bd lo 0 k) (hhi : Bd hi len m) (hk : k ≤ m) (hm : m ≤ len) :
    ∃ v', aslice P t v lo hi none = some v' ∧ Sl h v' s (m - k) ((cells.drop (k * s)).take ((m - k) * s)) := by
  have key : ∀ cap, len ≤ cap → abounds len cap lo hi none = some (k, m, cap) := by
    intro cap hc
    have a1 : ∀ (j : IntKind) (x c : Nat), x ≤ c → abound (.int j (x : Int)) c = some x := fun j x c hx => by
      show cond (Nat.ble x c) (some x) none = _
      rw [Nat.ble_eq_true_of_le hx]; rfl
    unfold abounds
    cases hhi with
    | none =>
      cases hlo with
      | none => rfl
      | some j _ _ => simp only [a1 j k _ hk]
    | some j2 _ _ =>
      cases hlo with
      | none => simp only [a1 j2 m cap (by omega)]
      | some j _ _ => simp only [a1 j2 m cap (by omega), a1 j k m hk]
  obtain ⟨hl, hn, ⟨rfl, rfl⟩ | ⟨b, o, c, rfl, hc, rd⟩⟩ := sl
  · obtain rfl : m = 0 := by omega
    obtain rfl : k = 0 := by omega
    refine ⟨.slice none 0 0, ?_, by simp, by omega, .inl ⟨rfl, rfl⟩⟩
    simp only [aslice, hu, hs, key 0 (Nat.le_refl _)]
  · have hms : (m - k) * s + k * s ≤ len * s := by rw [← Nat.add_mul]; exact Nat.mul_le_mul_right _ (by omega)
    have hsub : Rd h ⟨b, o + k * s, none⟩ ((cells.drop (k * s)).take ((m - k) * s)) := rd.sub (by rw [hl]; omega)
    have hlen : ((cells.drop (k * s)).take ((m - k) * s)).length = (m - k) * s := by rw [List.length_take, List.length_drop, hl]; omega
    have hmn : m - k ≤ 9223372036854775807 := by omega
    rcases hc with ⟨h1, h2⟩ | ⟨h1, h2⟩
    · refine ⟨.slice (some ⟨b, o + k * s, none⟩) (m - k) c, ?_, hlen, hmn, .inr ⟨b, o + k * s, c, rfl, .inl ⟨h1, h2⟩, hsub⟩⟩
      simp only [aslice, hu, hs, h1, cond_true, h2, Nat.beq_refl, key len (Nat.le_refl _)]
      rfl
    · by_cases hck : half c = k
      · refine ⟨.slice (some ⟨b, o, none⟩) (m - k) (exc (half c - k)), ?_, hlen, hmn, .inr ⟨b, o, _, rfl, Cp.exc (by omega), ?_⟩⟩
        · simp only [aslice, hu, hs, h1, cond_false, key (half c) h2, beqT hck, cond_true]
          rfl
        · have : (m - k) * s = 0 := by rw [show m - k = 0 by omega, Nat.zero_mul]
          rw [this, List.take_zero]
          obtain ⟨r1, r2, ob, ho, he⟩ := rd
          exact ⟨rfl, r2, ob, ho, rfl⟩
      · refine ⟨.slice (some ⟨b, o + k * s, none⟩) (m - k) (exc (half c - k)), ?_, hlen, hmn, .inr ⟨b, o + k * s, _, rfl, Cp.exc (by omega), hsub⟩⟩
        simp only [aslice, hu, hs, h1, cond_false, key (half c) h2, beqF hck]
        rfl
theorem RunO.sliceSlG {d : Tmp} {t ty e : TypeId} {x : Operand} {y z : Option Operand} {pos : String} {after : Array Edge} {gd : Option (Nat × Bool)} {v : Value} {lo hi : Option Value} {s len k m : Nat} {cells : List Value}
    (hw : ewanted ops E ⟨some d, .slice t x y z none, ty, pos, after, gd⟩ = some true) (hx : gE E x = some v) (hy : go (gE E) y = some lo) (hz : go (gE E) z = some hi) (hu : P.underlying t = some (.slice e)) (hs : sizeOf P e = some s) (sl : Sl h v s len cells) (hlo : Bd lo 0 k) (hhi : Bd hi len m) (hk : k ≤ m) (hm : m ≤ len) (hd : Nat.ble (Nat.succ d) n = true)
    (r : ∀ v', Sl h v' s (m - k) ((cells.drop (k * s)).take ((m - k) * s)) → RunO P n ops rest (upd E d v') h Q) : RunO P n ops (⟨some d, .slice t x y z none, ty, pos, after, gd⟩ :: rest) E h Q := by
  obtain ⟨v', e1, e2⟩ := slice_gen (P := P) hu hs sl hlo hhi hk hm
  refine RunO.oneG hw (v := v') (h1 := h) ?_ (by simp only [eput, hd, cond_true]) (r v' e2)
  have hg : go (gE E) none = some none := rfl
  simp only [eop, hx, hy, hz, hg, e1, pureR]
theorem RunO.sliceSl {d : Tmp} {t ty e : TypeId} {x : Operand} {y z : Option Operand} {pos : String} {after : Array Edge} {v : Value} {lo hi : Option Value} {s len k m : Nat} {cells : List Value}
    (hx : gE E x = some v) (hy : go (gE E) y = some lo) (hz : go (gE E) z = some hi) (hu : P.underlying t = some (.slice e)) (hs : sizeOf P e = some s) (sl : Sl h v s len cells) (hlo : Bd lo 0 k) (hhi : Bd hi len m) (hk : k ≤ m) (hm : m ≤ len) (hd : Nat.ble (Nat.succ d) n = true)
    (r : ∀ v', Sl h v' s (m - k) ((cells.drop (k * s)).take ((m - k) * s)) → RunO P n ops rest (upd E d v') h Q) : RunO P n ops (⟨some d, .slice t x y z none, ty, pos, after, none⟩ :: rest) E h Q :=
  RunO.sliceSlG rfl hx hy hz hu hs sl hlo hhi hk hm hd r
end
theorem Sl.frm {h h' : Heap} {v : Value} {s n : Nat} {cs : List Value} {M : Nat → Prop} (sl : Sl h v s n cs) (hn : ∀ b o c, v = .slice (some ⟨b, o, none⟩) n c → ¬ M b) (f : Fr M h h') : Sl h' v s n cs := by
  refine ⟨sl.1, sl.2.1, sl.2.2.imp (fun y => y) ?_⟩
  rintro ⟨b, o, c, h1, h2, h3⟩
  exact ⟨b, o, c, h1, h2, h3.fr f (hn b o c h1)⟩
theorem Sl.lt {h : Heap} {v : Value} {s n : Nat} {cs : List Value} (sl : Sl h v s n cs) : ∀ b o c, v = .slice (some ⟨b, o, none⟩) n c → b < h.next := by
  intro b o c e
  rcases sl.2.2 with ⟨g1, _⟩ | ⟨b', o', c', g1, _, rd⟩
  · rw [e] at g1; cases g1
  · rw [e] at g1; cases g1; exact rd.2.1
theorem Row.frm {lo : Nat} {h h' : Heap} {v : Value} {s n : Nat} {cells : List Value} {M : Nat → Prop} (r : Row lo h v s n cells) (f : Fr M h h') (hm : ∀ b, At v b → ¬ M b) : Row lo h' v s n cells := by
  refine ⟨r.1, r.2.imp (fun x => x) ?_⟩
  rintro ⟨b, h1, h2, h3⟩
  exact ⟨b, h1, h2, h3.fr f (hm b ⟨n, _, h2⟩)⟩
end Go.Am
end
section
set_option linter.unusedVariables false
namespace Go.Am
open Go.RowKit
/- A region that draws its order and writes m: each operation with its footprint. -/
def RunW (P : Program) (n : Nat) (ops rest : List Oper) (m : Nat → Prop) (E : Env) (h : Heap) (Q : Env → Heap → List Fp → Prop) : Prop :=
  ∀ l0, l0 ≤ h.next → (∀ j, m j → l0 ≤ j) → RunD P n ops rest l0 E h (fun E' h' fs => Fg m h h' ∧ Q E' h' fs)
section
variable {P : Program} {n : Nat} {ops rest : List Oper} {m : Nat → Prop} {E E1 : Env} {h h1 : Heap} {Q : Env → Heap → List Fp → Prop}
theorem RunW.nil (q : Q E h []) : RunW P n ops [] m E h Q := fun l0 hl _ => RunD.nil ⟨⟨Nat.le_refl _, fun _ _ _ => rfl⟩, q⟩
theorem RunW.lo {x : Nat} (r : RunW P n ops rest m E h Q) : RunW P n ops rest m E (h.lo x) Q := by
  intro l0 hl hm
  have := r l0 hl hm
  intro lw hlw
  obtain ⟨E', h', fs, lw', ⟨q3, q4⟩, k⟩ := this lw hlw
  exact ⟨E', h', fs, lw', ⟨⟨q3.next, q3.get⟩, q4⟩, k⟩
theorem RunW.oneG {o : Oper} {v : Value} {f : Fp} (g : ewanted ops E o = some true) (e : eop P E o (h.lo h.next) = some (v, h1)) (hf : ∀ q, fpE E o q = some f) (hfr : Fr m (h.lo h.next) h1) (p : eput n E o.dst v = some E1)
    (r : RunW P n ops rest m E1 h1 (fun E' h' fs => Q E' h' (f :: fs))) : RunW P n ops (o :: rest) m E h Q := by
  intro l0 hl hm
  refine RunD.oneG g e hf (hfr.from hl hm) p ?_
  refine (r l0 (Nat.le_trans hl hfr.next) hm).mono ?_
  rintro E' h' fs ⟨q3, q4⟩
  exact ⟨hfr.fg.same q3, q4⟩
/-- It leaves memory alone. -/
theorem RunW.pure {o : Oper} {v : Value} (g : ewanted ops E o = some true) (e : eop P E o (h.lo h.next) = some (v, h.lo h.next)) (hf : ∀ q, fpE E o q = some .none) (p : eput n E o.dst v = some E1)
    (r : RunW P n ops rest m E1 h (fun E' h' fs => Q E' h' (.none :: fs))) : RunW P n ops (o :: rest) m E h Q :=
  RunW.oneG (f := .none) g e hf (Fr.refl _ _) p (RunW.lo r)
/-- A new block. -/
theorem RunW.new {o : Oper} {v : Value} {ob : AObj} (g : ewanted ops E o = some true) (e : eop P E o (h.lo h.next) = some (v, (h.lo h.next).push ob)) (hf : ∀ q, fpE E o q = some .none) (p : eput n E o.dst v = some E1)
    (r : RunW P n ops rest m E1 (h.push ob) (fun E' h' fs => Q E' h' (.none :: fs))) : RunW P n ops (o :: rest) m E h Q := by
  refine RunW.oneG (f := .none) g e hf (Fr.push _ _ _) p ?_
  exact RunW.lo (x := ((h.lo h.next).push ob).low) (h := h.push ob) r
theorem RunW.load {d : Tmp} {t ty : TypeId} {x : Operand} {pos : String} {after : Array Edge} {gd : Option (Nat × Bool)} {a : Addr} {v : Value}
    (hw : ewanted ops E ⟨some d, .load t x, ty, pos, after, gd⟩ = some true) (hx : gE E x = some (.pointer (some a))) (hl : aload P h t a = some v) (hd : Nat.ble (Nat.succ d) n = true)
    (r : RunW P n ops rest m (upd E d v) h (fun E' h' fs => Q E' h' (.rd a.block :: fs))) : RunW P n ops (⟨some d, .load t x, ty, pos, after, gd⟩ :: rest) m E h Q := by
  refine RunW.oneG (v := v) (f := .rd a.block) (h1 := h.lo h.next) (E1 := upd E d v) hw ?_ ?_ (Fr.refl _ _) (by simp only [eput, hd, cond_true]) (RunW.lo r)
  · have hl : aload P (h.lo h.next) t a = some v := hl
    simp only [eop, hx, hl, pureR]
  · intro q; simp only [fpE, hx]
theorem RunW.store {t ty : TypeId} {x y : Operand} {pos : String} {after : Array Edge} {gd : Option (Nat × Bool)} {a : Addr} {v : Value} {h2 : Heap}
    (hw : ewanted ops E ⟨none, .store t x y, ty, pos, after, gd⟩ = some true) (hx : gE E x = some (.pointer (some a))) (hy : gE E y = some v) (hs : astore P (h.lo h.next) t a v = some h2) (hfr : Fr m (h.lo h.next) h2)
    (r : RunW P n ops rest m E h2 (fun E' h' fs => Q E' h' (.wr [a.block] :: fs))) : RunW P n ops (⟨none, .store t x y, ty, pos, after, gd⟩ :: rest) m E h Q := by
  refine RunW.oneG (v := undef) (f := .wr [a.block]) (h1 := h2) (E1 := E) hw ?_ ?_ hfr rfl r
  · simp only [eop, hx, hy, hs]
  · intro q; simp only [fpE, hx]
theorem RunW.append2 {d : Tmp} {t ty e : TypeId} {x y : Operand} {pos : String} {after : Array Edge} {gd : Option (Nat × Bool)} {i : TypeInfo} {z : Value} {lo s k j c' : Nat} {xv : Value} {cells news : List Value} {a : Addr}
    (hw : ewanted ops E ⟨some d, .call ⟨.builtin .append, #[x, y], #[t, t]⟩, ty, pos, after, gd⟩ = some true) (hx : gE E x = some xv) (hy : gE E y = some (.slice (some a) j c')) (hd : Nat.ble (Nat.succ d) n = true)
    (hu : P.underlying t = some (.slice e)) (hi : P.info? e = some i) (hz : zeroOf P e = some z) (hlz : lenIs (cellsOf z) i.size = true) (hs : i.size = s) (hs1 : 1 ≤ s) (row : Row lo h xv s k cells)
    (rd : Rd h a news) (hn : news.length = j * s) (hm : 1 ≤ j) (ha : allCells news = true) (hb : 2 * (k + j) * i.bytes ≤ 281474976710656) (hb2 : k + j ≤ 9223372036854775807) (hmm : ∀ b, At xv b → m b)
    (r : ∀ v' h', Row h.next h' v' s (k + j) (cells ++ news) → Fr (At xv) h h' → RunW P n ops rest m (upd E d v') h' (fun E' h' fs => Q E' h' (.wr (idsOf [xv, .slice (some a) j c']) :: fs))) : RunW P n ops (⟨some d, .call ⟨.builtin .append, #[x, y], #[t, t]⟩, ty, pos, after, gd⟩ :: rest) m E h Q := by
  obtain ⟨v', h', h1, h2, h3⟩ := append_row2 (h := h.lo h.next) (c' := c') hu hi hz hlz hs hs1 row rd hn hm ha hb hb2
  refine RunW.oneG (v := v') (f := .wr (idsOf [xv, .slice (some a) j c'])) (h1 := h') (E1 := upd E d v') hw ?_ ?_ (h3.trans (Fr.refl no _) (fun _ g => g.elim) |>.weak (fun b g => .inl (hmm b g))) (by simp only [eput, hd, cond_true]) (r v' h' h2 ?_)
  · simp only [eop, gs, hx, hy, abuiltin, h1]
  · intro q; simp only [fpE, gs, hx, hy, Array.toList]
  · exact ⟨h3.next, h3.get, fun l a b c => h3.low l b b c⟩
end
theorem RunC.drawW (m : Nat → Prop) {P : Program} {n : Nat} {E : Env} {h : Heap} {i : Nat} {ops : Array Oper} {p : Nat × Nat} {ps : List (Nat × Nat)} {Qn : Env → Heap → Prop} {Qx : Nat → Env → Heap → Prop} {Qr : Env → Heap → Prop} (hd : drawOk ops = some (p :: ps))
    (r : RunW P n ops.toList ops.toList m E h (fun E' h' fs => pairsOk fs (p :: ps) = true ∧ ∀ lw, Fr m h (h'.lo lw) → Qn E' (h'.lo lw))) : RunC P n (.region i ops true) E h Qn Qx Qr := by
  obtain ⟨l0, z1, z2, z3⟩ := low_max m (min h.low h.next)
  refine RunC.draw (l0 := l0) (Nat.le_trans z1 (Nat.min_le_left _ _)) hd ?_
  refine (r l0 (Nat.le_trans z1 (Nat.min_le_right _ _)) z2).mono ?_
  rintro E' h' fs ⟨fg, q1, q2⟩
  exact ⟨q1, fun lw hlw => q2 lw (fg.close (fun l x y z => Nat.le_trans (z3 l (Nat.le_min.2 ⟨x, y⟩) z) hlw))⟩
end Go.Am
end
section
set_option linter.unusedVariables false
set_option maxRecDepth 100000
open Go Go.Am Go.RowKit
namespace Go.Proofs.Ytcbakhanpiemhaa
open Go.Proofs.Try
/-- A record. -/
structure R8 where
  nx : Int
  id : Int
  pa : Int
  ro : Int
  sz : Int
  ki : Int
  fr : Int
  di : Int
deriving DecidableEq
def rc8 (r : R8) : List Value := rc r.nx r.id r.pa r.ro r.sz r.ki r.fr r.di
def rPar (l : List Int) : R8 := if rCode l = 0 then ⟨rNum l 0, rNum l 1, rNum l 2, rNum l 3, rNum l 4, rNum l 5, rNum l 6, rNum l 7⟩ else ⟨0, 0, 0, 0, 0, 0, 0, 0⟩
theorem rCells_eq (l : List Int) : rCells l = rc8 (rPar l) := by
  unfold rCells rPar
  split <;> rfl
def recCs (l : List R8) : List Value := l.flatMap rc8
theorem recCs_len : ∀ l : List R8, (recCs l).length = l.length * 8
  | [] => rfl
  | c :: l => by show (rc8 c ++ recCs l).length = _; rw [List.length_append, recCs_len l, List.length_cons, show (rc8 c).length = 8 from rfl]; omega
theorem recCs_app (a b : List R8) : recCs (a ++ b) = recCs a ++ recCs b := List.flatMap_append
theorem recCs_drop : ∀ (l : List R8) (i : Nat), (recCs l).drop (i * 8) = recCs (l.drop i)
  | l, 0 => by rw [Nat.zero_mul]; rfl
  | [], i + 1 => by simp [recCs]
  | c :: l, i + 1 => by
    show (rc8 c ++ recCs l).drop ((i + 1) * 8) = recCs (l.drop i)
    rw [← recCs_drop l i, show (i + 1) * 8 = (rc8 c).length + i * 8 by rw [show (rc8 c).length = 8 from rfl]; omega, List.drop_append]
    simp
theorem recCs_at {l : List R8} {i : Nat} (h : i < l.length) : (recCs l).drop (i * 8) = rc8 l[i] ++ recCs (l.drop (i + 1)) := by
  rw [recCs_drop, List.drop_eq_getElem_cons h]; rfl
theorem recCs_part {l : List R8} {i : Nat} (h : i < l.length) : apart prog 63 (recCs l) (i * 8) = some (.agg ⟨rc8 l[i]⟩) := by
  show (match takeN 8 (dropN (i * 8) (recCs l)) with | some l => some (Value.agg ⟨l⟩) | none => none) = _
  rw [takeN_eq, dropN_eq, recCs_at h, if_pos (by rw [List.length_append, show (rc8 l[i]).length = 8 from rfl]; omega), List.take_left' (show (rc8 l[i]).length = 8 from rfl)]
/-- May a record be the next one? -/
def mayR (l : List R8) (w : Nat) (r : R8) : Bool := if r.ki == 1 then ((l.length : Int) == 0) else (!(l.any fun x => x.id == r.id) && decide ((w : Int) < 60))
theorem mayC_ok {h : Heap} {q : Nat} {x r : R8} (rd : Rd h ⟨q, 0, none⟩ (rc8 r)) : RunF prog 138 [.agg ⟨rc8 x⟩, .pointer (some ⟨q, 0, none⟩)] h fun v h' => v = .bool (x.id == r.id) ∧ Fr no h h' := by
  refine RunF.walk func138 rfl rfl ?_
  refine RunC.seq (RunC.region (RunO.all (h1 := h.push ⟨rc8 x, true⟩) rfl ?_))
  have oq := Ow.push h (rc8 x)
  have f1 : Fr no h (h.push ⟨rc8 x, true⟩) := Fr.push _ _ _
  replace rd := rd.fr f1 (fun g => g)
  generalize h.push ⟨rc8 x, true⟩ = h1 at *
  generalize h.next = p at *
  refine RunC.seq (RunC.region (RunO.part 1 rfl ?_))
  refine RunO.load (v := .int .i64 x.id) rfl (oq.ld rfl) rfl ?_
  refine RunO.part 1 rfl ?_
  refine RunO.load (v := .int .i64 r.id) rfl (rd.part (P := prog) (t := 3) (k := 1) rfl) rfl ?_
  exact RunO.all rfl (RunC.ret ⟨_, rfl, rfl, f1⟩)
theorem openMay_ok {h : Heap} {kb w : Nat} {lv bv : Value} {bad : Int} {l : List R8} {r : R8} (ow : Ow h kb [lv, bv, .int .i64 (w : Int), .int .i64 bad]) (sl : Sl h lv 8 l.length (recCs l)) (hl : l.length ≤ 100000) :
    RunF prog 118 [.pointer (some ⟨kb, 0, none⟩), .agg ⟨rc8 r⟩] h fun v h' => v = .bool (mayR l w r) ∧ Fr no h h' := by
  refine RunF.walk func118 rfl rfl ?_
  refine RunC.seq (RunC.region (RunO.all (h1 := h.push ⟨rc8 r, true⟩) rfl ?_))
  have oq := Ow.push h (rc8 r)
  have f1 : Fr no h (h.push ⟨rc8 r, true⟩) := Fr.push _ _ _
  replace ow := ow.fr f1 (fun g => g)
  replace sl := sl.fr0 f1
  generalize h.push ⟨rc8 r, true⟩ = h1 at *
  generalize h.next = q at *
  have sl0 := sl
  obtain ⟨A, c, rfl, _, _⟩ := sl.form
  refine RunC.seq (RunC.region (RunO.part 3 rfl ?_))
  refine RunO.load (v := .slice A l.length c) rfl (ow.ld rfl) rfl ?_
  refine RunO.part 1 rfl ?_
  refine RunO.callD (containsRec_ok sl0 (u := fun j => .agg ⟨rc8 (l.getD j ⟨0, 0, 0, 0, 0, 0, 0, 0⟩)⟩) (fun j hj => ?_) (p := fun j => (l.getD j ⟨0, 0, 0, 0, 0, 0, 0, 0⟩).id == r.id) (fun j hj h5 f5 => ?_) (by omega)) rfl rfl rfl ?_
  · rw [recCs_part hj, List.getD_eq_getElem?_getD, List.getElem?_eq_getElem hj]; rfl
  · exact mayC_ok (oq.all.fr f5 (fun g => g))
  rintro _ h2 ⟨rfl, f2⟩
  rw [anyI_list (l := l) (q := fun x => x.id == r.id) (fun j x hx => by rw [List.getD_eq_getElem?_getD, hx]; rfl)]
  have F2 := f1.same f2
  replace ow := ow.fr f2 (fun g => g)
  replace oq := oq.fr f2 (fun g => g)
  refine RunO.all rfl ?_
  have hM : mayR l w r = if r.ki == 1 then ((l.length : Int) == 0) else (!(l.any fun x => x.id == r.id) && decide ((w : Int) < 60)) := rfl
  rw [hM]
  refine RunC.seq (RunC.seq (RunC.region (RunO.part 1 rfl ?_)))
  refine RunO.load (v := .int .i64 r.ki) rfl (oq.ld rfl) rfl ?_
  refine RunO.all rfl ?_
  cases hk : (r.ki == 1) with
  | true =>
    refine RunC.cond rfl (fun _ => ?_) (fun g => by cases g)
    refine RunC.seq (RunC.region (RunO.part 3 rfl ?_))
    refine RunO.load (v := .slice A l.length c) rfl (ow.ld rfl) rfl ?_
    exact RunO.all rfl (RunC.ret ⟨_, rfl, rfl, F2⟩)
  | false =>
    refine RunC.cond rfl (fun g => by cases g) (fun _ => RunC.skip ?_)
    refine RunC.seq (RunC.region (RunO.part 3 rfl ?_))
    cases (l.any fun x => x.id == r.id) with
    | true => exact RunO.all rfl (RunC.ret ⟨_, rfl, rfl, F2⟩)
    | false =>
      refine RunO.part 3 rfl ?_
      refine RunO.loadG (v := .int .i64 (w : Int)) rfl rfl (ow.ld rfl) rfl ?_
      exact RunO.all rfl (RunC.ret ⟨_, rfl, rfl, F2⟩)
end Go.Proofs.Ytcbakhanpiemhaa
end
section
set_option linter.unusedVariables false
set_option maxRecDepth 100000
open Go Go.Am Go.RowKit
namespace Go.Proofs.Ytcbakhanpiemhaa
open Go.Proofs.Try
def nodLay : List Nat := [4, 4, 4, 4, 4, 4, 4, 4, 4]
theorem nodLay_ok {h : Heap} : RunF prog 139 [] h fun v h' => Row h.next h' v 2 9 (fcs (layF 4 nodLay)) ∧ Fr no h h' := by
  refine RunF.walk func139 rfl rfl ?_
  refine RunC.seq (RunC.region (RunO.all rfl ?_))
  refine RunC.seq (RunC.region (RunO.part 1 (h1 := h.push ⟨ns nodLay, true⟩) rfl ?_))
  refine RunO.callD (superLayout_ok (ss := nodLay) (c := exc 9) (Ow.push h (ns nodLay)).all (by decide) (by decide)) rfl rfl rfl ?_
  rintro v h' ⟨hr, hf⟩
  refine RunO.all rfl (RunC.ret ⟨_, rfl, ?_, ?_⟩)
  · refine ⟨hr.1, hr.2.imp (fun x => x) ?_⟩
    rintro ⟨b, h1, h2⟩
    exact ⟨b, Nat.le_trans (Nat.le_succ _) h1, h2⟩
  · exact (Fr.push no _ _).same hf
/-- A node's cells: its level, its pointers. -/
def nc (lv : Int) (ps : List Int) : List Value := .int .i64 lv :: is ps
def anyP (ps : List Int) : Bool := ps.any (· != 0)
def nodOk (lv : Int) (ps : List Int) : Bool := ps.all ptrB && (!(decide (lv < 0)) && (!(decide (lv > 2)) && anyP ps))
theorem nodCheck_ok {h : Heap} {lv : Int} {ps : List Int} (hp : ps.length = 8) : RunF prog 140 [.agg ⟨nc lv ps⟩] h fun v h' => v = .int .i64 (if nodOk lv ps then 0 else 1) ∧ Fr no h h' := by
  refine RunF.walk func140 rfl rfl ?_
  refine RunC.seq (RunC.region (RunO.all (h1 := h.push ⟨nc lv ps, true⟩) rfl ?_))
  have ow : Ow (h.push ⟨nc lv ps, true⟩) h.next (nc lv ps) := Ow.push _ _
  have f1 : Fr no h (h.push ⟨nc lv ps, true⟩) := Fr.push _ _ _
  generalize h.push ⟨nc lv ps, true⟩ = h1 at *
  generalize h.next = p at *
  refine RunC.seq (RunC.region (RunO.all rfl ?_))
  refine RunC.seq (RunC.seq (RunC.region (RunO.part 1 rfl ?_)))
  have hload : aload prog h1 100 ⟨p, 1, none⟩ = some (.agg ⟨is ps⟩) := by
    refine ow.all.part (k := 1) ?_
    show (match takeN 8 (dropN 1 (nc lv ps)) with | some l => some (Value.agg ⟨l⟩) | none => none) = _
    rw [takeN_eq, dropN_eq, if_pos (by simp [nc, is_len, hp])]
    simp only [nc, List.drop_succ_cons, List.drop_zero]
    rw [List.take_of_length_le (by rw [is_len]; omega)]
  refine RunO.load rfl hload rfl ?_
  refine RunO.all rfl ?_
  refine RunC.block ?_
  let I : Nat → Env → Heap → Prop := fun k E h' => ∃ i : Nat, i + k = 8 ∧ (ps.take i).all ptrB = true ∧ h1 = h' ∧ Le (upd (upd (upd (upd E0 1 (.pointer (some ⟨p, 0, none⟩))) 3 (.bool (anyP (ps.take i)))) 7 (.agg ⟨is ps⟩)) 8 (.int .i64 i)) E
  refine RunC.loop I ?_ (k := 8) ?_
  · rintro k E h' ⟨i, hi, hall, rfl, hE⟩
    refine RunC.le hE ?_
    clear hE
    refine RunC.seq (RunC.region (RunO.all rfl ?_))
    refine RunC.seq (RunC.cond rfl (fun hlt => ?_) (fun hge => ?_))
    · have hlt := of_decide_eq_true hlt
      have hi2 : i < ps.length := by omega
      have hat : anyP (ps.take (i + 1)) = (anyP (ps.take i) || ps[i] != 0) := by
        unfold anyP; rw [List.take_succ_eq_append_getElem hi2, List.any_append]; simp
      have hal : (ps.take (i + 1)).all ptrB = ptrB ps[i] := by
        rw [List.take_succ_eq_append_getElem hi2, List.all_append, hall]; simp
      have hmem := List.getElem_mem hi2
      have hnth := is_nth hi2
      refine RunC.skip ?_
      refine RunC.seq (RunC.block ?_)
      refine RunC.seq (RunC.region ?_)
      refine RunO.one rfl (v := .int .i64 ps[i]) (E1 := upd _ 10 (.int .i64 ps[i])) (h1 := h1) ?_ rfl ?_
      · show pureR h1 (cond (Nat.ble (Nat.succ i) 8) (nth (is ps) (Nat.mul i 1)) none) = _
        rw [Nat.ble_eq_true_of_le (by omega), cond_true, show Nat.mul i 1 = i from Nat.mul_one i, hnth]; rfl
      refine RunO.all rfl ?_
      generalize ps[i] = x at *
      refine RunC.seq (RunC.seq (RunC.region (RunO.part 1 rfl ?_)))
      refine RunO.callD nodePointer_ok rfl rfl rfl ?_
      rintro _ _ ⟨rfl, rfl⟩
      refine RunO.all rfl ?_
      cases hx : ptrB x with
      | false =>
        refine RunC.cond rfl (fun _ => ?_) (fun g => by cases g)
        have hno : nodOk lv ps = false := by
          unfold nodOk
          have : ps.all ptrB = false := by
            rw [List.all_eq_false]
            exact ⟨x, hmem, by rw [hx]; decide⟩
          rw [this]; rfl
        rw [hno]
        exact RunC.seq (RunC.region (RunO.all rfl (RunC.ret ⟨_, rfl, rfl, f1⟩)))
      | true =>
        rw [hx] at hal
        refine RunC.cond rfl (fun g => by cases g) (fun _ => RunC.skip ?_)
        have hdone : ∀ E', Le (upd (upd (upd (upd E0 1 (.pointer (some ⟨p, 0, none⟩))) 3 (.bool (anyP (ps.take (i + 1))))) 7 (.agg ⟨is ps⟩)) 8 (.int .i64 (i + 1 : Nat))) E' → ∃ k', k' < k ∧ I k' E' h1 := fun E' hE => ⟨k - 1, by omega, i + 1, by omega, hal, rfl, hE⟩
        generalize anyP (ps.take i) = an at *
        cases an with
        | true =>
          refine RunC.region (RunO.all rfl ?_)
          refine RunC.region (RunO.all rfl ?_)
          refine hdone _ ?_
          rw [hat]
          exact Le.cons (inc64 (by omega)) (Le.cons rfl (Le.cons rfl (Le.cons rfl (Le.nil _))))
        | false =>
          refine RunC.region (RunO.all rfl ?_)
          refine RunC.region (RunO.all rfl ?_)
          refine hdone _ ?_
          rw [hat]
          exact Le.cons (inc64 (by omega)) (Le.cons rfl (Le.cons rfl (Le.cons rfl (Le.nil _))))
    · have hge := of_decide_eq_false hge
      refine RunC.exit ?_
      have hi3 : i = 8 := by omega
      subst hi3
      rw [List.take_of_length_le (by omega)] at hall ⊢
      have hok : nodOk lv ps = (!(decide (lv < 0)) && (!(decide (lv > 2)) && anyP ps)) := by unfold nodOk; rw [hall]; rfl
      rw [hok]
      generalize anyP ps = an at *
      refine RunC.seq (RunC.seq (RunC.region (RunO.part 1 rfl ?_)))
      refine RunO.load (v := .int .i64 lv) rfl (ow.all.cell1 (k := 0) rfl rfl) rfl ?_
      refine RunO.part 2 rfl ?_
      cases decide (lv < 0) with
      | true =>
        refine RunO.all rfl (RunC.cond rfl (fun _ => ?_) (fun g => by cases g))
        exact RunC.seq (RunC.region (RunO.all rfl (RunC.ret ⟨_, rfl, rfl, f1⟩)))
      | false =>
      refine RunO.part 1 rfl ?_
      refine RunO.loadG (v := .int .i64 lv) rfl rfl (ow.all.cell1 (k := 0) rfl rfl) rfl ?_
      refine RunO.part 3 rfl ?_
      cases decide (lv > 2) with
      | true =>
        refine RunO.all rfl (RunC.cond rfl (fun _ => ?_) (fun g => by cases g))
        exact RunC.seq (RunC.region (RunO.all rfl (RunC.ret ⟨_, rfl, rfl, f1⟩)))
      | false =>
      cases an with
      | true =>
        refine RunO.all rfl (RunC.cond rfl (fun g => by cases g) (fun _ => RunC.skip ?_))
        exact RunC.seq (RunC.region (RunO.all rfl (RunC.ret ⟨_, rfl, rfl, f1⟩)))
      | false =>
        refine RunO.all rfl (RunC.cond rfl (fun _ => ?_) (fun g => by cases g))
        exact RunC.seq (RunC.region (RunO.all rfl (RunC.ret ⟨_, rfl, rfl, f1⟩)))
  · exact ⟨0, by omega, rfl, rfl, Le.cons rfl (Le.cons rfl (Le.cons rfl (Le.cons rfl (Le.nil _))))⟩
end Go.Proofs.Ytcbakhanpiemhaa
end
section
set_option linter.unusedVariables false
set_option maxRecDepth 100000
open Go Go.Am Go.RowKit
namespace Go.Proofs.Ytcbakhanpiemhaa
open Go.Proofs.Try
def nMag : List Int := [78, 79, 68, 69]
def nLay : List (Nat × Nat) := layF 4 nodLay
/-- A node's block. -/
def nodBlock (lv : Int) (ps : List Int) : List Int := makeB nMag nLay (lv :: ps)
end Go.Proofs.Ytcbakhanpiemhaa
end
section
set_option linter.unusedVariables false
set_option maxRecDepth 100000
open Go Go.Am Go.RowKit
namespace Go.Proofs.Ytcbakhanpiemhaa
open Go.Proofs.Try
def nLv (l : List Int) : Int := (leGet l 4 4).1
def nPs (l : List Int) : List Int := [(leGet l 8 4).1, (leGet l 12 4).1, (leGet l 16 4).1, (leGet l 20 4).1, (leGet l 24 4).1, (leGet l 28 4).1, (leGet l 32 4).1, (leGet l 36 4).1]
theorem nPs_eq (l : List Int) : numsB nLay l = nLv l :: nPs l := rfl
def nZero : List Int := [0, 0, 0, 0, 0, 0, 0, 0]
def nCode (l : List Int) : Int := if readB nMag nLay l = 0 then (if nodOk (nLv l) (nPs l) then 0 else 1) else readB nMag nLay l
def nCells (l : List Int) : List Value := if nCode l = 0 then nc (nLv l) (nPs l) else nc 0 nZero
theorem nc_load {h : Heap} {b : Nat} {lv : Int} {ps : List Int} (hp : ps.length = 8) (ow : Ow h b (nc lv ps)) : aload prog h 102 ⟨b, 0, none⟩ = some (.agg ⟨nc lv ps⟩) := by
  have hnl : (nc lv ps).length = 9 := by simp [nc, is_len, hp]
  refine ow.all.part (k := 0) ?_
  show (match takeN 9 (dropN 0 (nc lv ps)) with | some l => some (Value.agg ⟨l⟩) | none => none) = _
  rw [takeN_eq, dropN_eq, if_pos (by simp [hnl])]
  simp only [List.drop_zero]
  rw [List.take_of_length_le (by omega)]
theorem nodParse_ok {h : Heap} {A : Option Addr} {c : Nat} {l : List Int} (ra : l.length = 64 → ∃ a, A = some a ∧ Rd h a (us l)) (hb : Byt l) (hc : Cp 1 l.length c) :
    RunF prog 120 [.slice A l.length c] h fun v h' => v = .tuple #[.agg ⟨nCells l⟩, .int .i64 (nCode l)] ∧ Fr no h h' := by
  refine RunF.walk func120 rfl rfl ?_
  refine RunC.seq (RunC.region (RunO.all (h1 := h.push ⟨nc 0 nZero, true⟩) rfl ?_))
  have ow : Ow (h.push ⟨nc 0 nZero, true⟩) h.next (nc 0 nZero) := Ow.push _ _
  have f1 : Fr no h (h.push ⟨nc 0 nZero, true⟩) := Fr.push _ _ _
  generalize h.push ⟨nc 0 nZero, true⟩ = h1 at *
  refine RunC.seq (RunC.region (RunO.part 1 rfl ?_))
  refine RunO.callD nodLay_ok rfl rfl rfl ?_
  rintro v h2 ⟨hr, hf2⟩
  have ow2 := ow.fr hf2 (fun g => g)
  have f2 := f1.same hf2
  obtain ⟨bf, hbf, rfl, owf⟩ := rowOut hr (by decide)
  refine RunO.callD (superRead_ok (mb := nMag) (mg := ⟨#[78, 79, 68, 69]⟩) (fl := nLay) rfl (fun e => (ra e).imp (fun a x => ⟨x.1, x.2.fr f2 (fun g => g)⟩)) hb owf.all (by decide) (by decide) hc) rfl rfl rfl ?_
  rintro v h3 ⟨o, rfl, hk0, hk1, hf3⟩
  have ow3 := ow2.fr hf3 (fun g => g)
  have f3 := f2.same hf3
  refine RunO.all rfl ?_
  by_cases hr : readB nMag nLay l = 0
  case neg =>
    have hcode : nCode l = readB nMag nLay l := if_neg hr
    have hcells : nCells l = nc 0 nZero := if_neg (by rw [hcode]; exact hr)
    rw [hcells, hcode]
    generalize readB nMag nLay l = r at *
    refine RunC.seq (RunC.seq (RunC.region (RunO.all rfl ?_)))
    rw [show (r != 0) = true by simpa using hr]
    refine RunC.cond rfl (fun _ => ?_) (fun g => by cases g)
    refine RunC.seq (RunC.region (RunO.part 2 rfl ?_))
    refine RunO.store rfl rfl (store_ow (s := 9) ow3 rfl rfl rfl (by decide)) ?_
    refine RunO.all rfl ?_
    refine RunC.ret ⟨_, eresults_cell rfl ((Ow.put (cs := nc 0 nZero) ow3.1).all.part (k := 0) rfl) rfl, rfl, ?_⟩
    exact f3.trans (Fr.put (m := (· = h.next)) _ (.inl rfl)) (fun j hj => .inr (by omega))
  rw [hr]
  have hrow := hk0 hr
  obtain ⟨bn, hbn, rfl, own⟩ := rowOut hrow (by decide)
  have hcode : nCode l = if nodOk (nLv l) (nPs l) then 0 else 1 := if_pos hr
  have hcells : nCells l = if nCode l = 0 then nc (nLv l) (nPs l) else nc 0 nZero := rfl
  rw [nPs_eq] at own
  have hp8 : (nPs l).length = 8 := rfl
  change RunC _ _ _ (upd (upd (upd (upd _ 11 (.slice (some ⟨bn, 0, none⟩) 9 (unkc 1))) 12 (.int .i64 0)) 4 (.slice (some ⟨bn, 0, none⟩) 9 (unkc 1))) 5 (.int .i64 0)) _ _ _ _
  refine RunC.seq (RunC.seq (RunC.region (RunO.all rfl ?_)))
  refine RunC.cond rfl (fun g => by cases g) (fun _ => RunC.skip ?_)
  generalize nLv l = lv at *
  generalize nPs l = ps at *
  have hal : ∀ q : List Int, allCells (is q) = true := fun q => by
    induction q with
    | nil => rfl
    | cons x t ih => exact ih
  refine RunC.seq (RunC.region (RunO.part 1 rfl ?_))
  refine RunO.index (s := 1) (k := 0) rfl rfl rfl rfl (by decide) rfl ?_
  refine RunO.load (v := .int .i64 lv) rfl (own.all.cell1 (k := 0) rfl rfl) rfl ?_
  refine RunO.part 2 (h1 := h3.push ⟨nc 0 nZero, true⟩) rfl ?_
  refine RunO.store rfl rfl (store_ow (s := 9) (Ow.push h3 (nc 0 nZero)) rfl rfl rfl (by decide)) (RunO.nil ?_)
  change RunC _ _ _ _ ((h3.push ⟨nc 0 nZero, true⟩).put h3.next (some ⟨nc lv nZero, true⟩)) _ _ _
  have ow4 : Ow ((h3.push ⟨nc 0 nZero, true⟩).put h3.next (some ⟨nc lv nZero, true⟩)) h3.next (nc lv nZero) := Ow.put _ (Nat.lt_succ_self _)
  have f4 : Fr no h3 ((h3.push ⟨nc 0 nZero, true⟩).put h3.next (some ⟨nc lv nZero, true⟩)) := (Fr.push _ _ _).trans (Fr.put (m := (· = h3.next)) _ (.inl rfl)) (fun j hj => .inr (by omega))
  generalize (h3.push ⟨nc 0 nZero, true⟩).put h3.next (some ⟨nc lv nZero, true⟩) = h4 at *
  have own4 := own.fr f4 (fun g => g)
  have ow34 := ow3.fr f4 (fun g => g)
  have hb6 := own.1
  have hb7 := ow3.1
  have hb8 := f3.next
  have f34 := f3.same f4
  generalize h3.next = b6 at *
  have e1 : aread h4 ⟨bn, 1, none⟩ 8 = some (is ps) := by
    have rd : Rd h4 ⟨bn, 1, none⟩ (is ps) := own4.rd (by show ((Value.int .i64 lv :: is ps).drop 1).take _ = _; simp)
    have := rd.read0 (m := 8) (by rw [is_len, hp8]; exact Nat.le_refl _)
    rwa [List.take_of_length_le (by rw [is_len, hp8]; exact Nat.le_refl _)] at this
  have e2 : astoreL h4 ⟨b6, 1, none⟩ (is ps) = some (h4.put b6 (some ⟨nc lv ps, true⟩)) := by
    rw [storeL_ow ow4 (hal ps) (by rw [is_len, hp8]; exact Nat.le_refl 9), is_len, hp8]
    simp [nc, nZero, is]
  refine RunC.seq (RunC.draw0 rfl (RunO.part 4 rfl ?_))
  refine RunO.one rfl (v := goInt 8) (E1 := upd _ 25 (goInt 8)) (h1 := h4.put b6 (some ⟨nc lv ps, true⟩)) ?_ rfl (RunO.nil ?_)
  · show (match aread h4 ⟨bn, 1, none⟩ 8 with | some cs => (match astoreL h4 ⟨b6, 1, none⟩ cs with | some h' => some (goInt 8, h') | none => none) | none => none) = _
    rw [e1]
    simp only [e2]
  have ow5 := Ow.put (nc lv ps) ow4.1
  have f5 : Fr (fun j => j = b6) h4 (h4.put b6 (some ⟨nc lv ps, true⟩)) := Fr.put _ (.inl rfl)
  generalize h4.put b6 (some ⟨nc lv ps, true⟩) = h5 at *
  have ow35 := ow34.fr f5 (by omega)
  have f35 : Fr no h h5 := f34.trans f5 (fun j hj => .inr (by omega))
  refine RunC.seq (RunC.region ?_)
  refine RunO.load rfl (nc_load hp8 ow5) rfl ?_
  refine RunO.callD (nodCheck_ok hp8) rfl rfl rfl ?_
  rintro v h6 ⟨rfl, hf6⟩
  have ow6 := ow35.fr hf6 (fun g => g)
  have owx := ow5.fr hf6 (fun g => g)
  have f6 := f35.same hf6
  refine RunO.all rfl ?_
  rw [hcells, hcode]
  cases nodOk lv ps with
  | false =>
    refine RunC.seq (RunC.seq (RunC.region (RunO.all rfl (RunC.cond rfl (fun _ => ?_) (fun g => by cases g)))))
    refine RunC.seq (RunC.region (RunO.part 2 rfl ?_))
    refine RunO.store rfl rfl (store_ow (s := 9) ow6 rfl rfl rfl (by decide)) ?_
    refine RunO.all rfl ?_
    refine RunC.ret ⟨_, eresults_cell rfl ((Ow.put (cs := nc 0 nZero) ow6.1).all.part (k := 0) rfl) rfl, rfl, ?_⟩
    exact f6.trans (Fr.put (m := (· = h.next)) _ (.inl rfl)) (fun j hj => .inr (by omega))
  | true =>
    refine RunC.seq (RunC.seq (RunC.region (RunO.all rfl (RunC.cond rfl (fun g => by cases g) (fun _ => RunC.skip ?_)))))
    refine RunC.seq (RunC.region ?_)
    refine RunO.load rfl (nc_load hp8 owx) rfl ?_
    have hst : (cellsOf (.agg ⟨nc lv ps⟩)).length = 9 := by show (nc lv ps).length = 9; simp [nc, is_len, hp8]
    refine RunO.store rfl rfl (store_ow (s := 9) ow6 rfl hst (hal (0 :: ps)) (by decide)) ?_
    refine RunO.all rfl ?_
    have hcs : (nc 0 nZero).take 0 ++ cellsOf (.agg ⟨nc lv ps⟩) ++ (nc 0 nZero).drop (0 + 9) = nc lv ps := by simp [cellsOf, nc, nZero, is]
    refine RunC.ret ⟨_, eresults_cell rfl (nc_load hp8 (by rw [hcs]; exact Ow.put (nc lv ps) ow6.1)) rfl, rfl, ?_⟩
    exact f6.trans (Fr.put (m := (· = h.next)) _ (.inl rfl)) (fun j hj => .inr (by omega))
end Go.Proofs.Ytcbakhanpiemhaa
end
section
namespace Go.Proofs.Ytcbakhanpiemhaa
open Go Go.Am
def bys (l : List Int) : List Crc.W := l.map (fun x => Crc.by8 x.toNat)
end Go.Proofs.Ytcbakhanpiemhaa
end
section
namespace Go.Proofs.Ytcbakhanpiemhaa
open Go Go.Am
/-- A byte changed. -/
def xb (c x : Int) : Int := IntKind.u8.wrap (BitVec.ofInt IntKind.u8.bits c ^^^ BitVec.ofInt IntKind.u8.bits x).toNat
/-- The list behind so many changes from a place on. -/
def chg (b : List Int) (p : Nat) (x : List Int) : Nat → List Int
  | 0 => b
  | n + 1 => (chg b p x n).set (p + n) (xb ((chg b p x n).getD (p + n) 0) (x.getD n 0))
def bytes (l : List Int) : Prop := ∀ x ∈ l, 0 ≤ x ∧ x < 256
end Go.Proofs.Ytcbakhanpiemhaa
end
section
set_option linter.unusedVariables false
set_option maxRecDepth 100000
open Go Go.Am
namespace Go.Proofs.Ytcbakhanpiemhaa
open Go.Proofs.Try
theorem beq_take {l m : List Int} {i : Nat} (hi : i < l.length) (hm : i < m.length) (h : l.take i = m.take i) (he : l[i] = m[i]) : l.take (i + 1) = m.take (i + 1) := by
  rw [List.take_succ_eq_append_getElem hi, List.take_succ_eq_append_getElem hm, h, he]
theorem inc64x {j : Nat} (h : j < 9223372036854775807) : some (Value.int .i64 (fwrap .i64 ((j : Int) + 1))) = some (.int .i64 ((j + 1 : Nat) : Int)) := by
  rw [fw64 (by omega) (by omega)]; rfl
theorem keepBytesX_ok {h : Heap} {A B : Option Addr} {c d : Nat} {l m : List Int} (ra : 0 < l.length → ∃ a, A = some a ∧ Rd h a (us l)) (rb : 0 < m.length → ∃ a, B = some a ∧ Rd h a (us m)) (hm : l.length ≤ 9223372036854775807) :
    RunF prog 62 [.slice A l.length c, .slice B m.length d] h fun v h' => v = .bool (l == m) ∧ h = h' := by
  refine RunF.walk func62 rfl rfl ?_
  refine RunC.seq (RunC.region (RunO.all rfl ?_))
  refine RunC.seq (RunC.seq (RunC.region (RunO.all rfl ?_)))
  by_cases hl : l.length = m.length
  case neg =>
    have e : (l == m) = false := beq_eq_false_iff_ne.2 (fun g => hl (by rw [g]))
    rw [show ((l.length : Int) != (m.length : Int)) = true by simp; omega, e]
    refine RunC.cond rfl (fun _ => ?_) (fun g => by cases g)
    exact RunC.seq (RunC.region (RunO.all rfl (RunC.ret ⟨_, rfl, rfl, rfl⟩)))
  rw [show ((l.length : Int) != (m.length : Int)) = false by simp; omega]
  refine RunC.cond rfl (fun g => by cases g) (fun _ => RunC.skip ?_)
  refine RunC.seq (RunC.seq (RunC.region (RunO.all rfl ?_)))
  refine RunC.block ?_
  let I : Nat → Env → Heap → Prop := fun k E h' => ∃ i : Nat, i + k = l.length ∧ l.take i = m.take i ∧ h = h' ∧ Le (upd (upd (upd E0 0 (.slice A l.length c)) 1 (.slice B m.length d)) 5 (.int .i64 i)) E
  refine RunC.loop I ?_ (k := l.length) ?_
  · rintro k E h' ⟨i, hi, ht, rfl, hE⟩
    refine RunC.le hE ?_
    clear hE
    refine RunC.seq (RunC.seq (RunC.region (RunO.all rfl ?_)))
    refine RunC.cond rfl (fun hlt => ?_) (fun hge => ?_)
    · have hlt := of_decide_eq_true hlt
      have h1 : i < l.length := by omega
      have h2 : i < m.length := by omega
      obtain ⟨⟨b1, o1, s1⟩, rfl, rd1⟩ := ra (by omega)
      obtain ⟨⟨b2, o2, s2⟩, rfl, rd2⟩ := rb (by omega)
      have hs1 : s1 = none := rd1.1
      have hs2 : s2 = none := rd2.1
      subst hs1
      subst hs2
      refine RunC.skip ?_
      refine RunC.seq (RunC.block ?_)
      refine RunC.seq (RunC.draw0 rfl (RunO.part 2 rfl ?_))
      refine RunO.index (s := 1) rfl rfl rfl rfl h1 rfl ?_
      refine RunO.load (v := .int .u8 l[i]) rfl (rd1.cell1 (k := i * 1) rfl (by rw [Nat.mul_one]; exact us_nth h1)) rfl ?_
      refine RunO.part 2 rfl ?_
      refine RunO.index (s := 1) rfl rfl rfl rfl h2 rfl ?_
      refine RunO.load (v := .int .u8 m[i]) rfl (rd2.cell1 (k := i * 1) rfl (by rw [Nat.mul_one]; exact us_nth h2)) rfl ?_
      refine RunO.all rfl ?_
      refine RunC.cond rfl (fun hne => ?_) (fun heq => ?_)
      · have hne : l[i] ≠ m[i] := by simpa using hne
        have e : (l == m) = false := beq_eq_false_iff_ne.2 (fun g => hne (by subst g; rfl))
        rw [e]
        exact RunC.seq (RunC.region (RunO.all rfl (RunC.ret ⟨_, rfl, rfl, rfl⟩)))
      · have heq : l[i] = m[i] := by simpa using heq
        refine RunC.skip (RunC.region (RunO.all rfl ?_))
        exact ⟨k - 1, by omega, i + 1, by omega, beq_take h1 h2 ht heq, rfl, Le.cons (inc64x (by omega)) (Le.cons rfl (Le.cons rfl (Le.nil _)))⟩
    · have hge := of_decide_eq_false hge
      refine RunC.exit ?_
      have hi2 : i = l.length := by omega
      have e : l = m := by
        rw [hi2, List.take_length] at ht
        rw [ht, hl, List.take_length]
      rw [show (l == m) = true by rw [e]; exact beq_self_eq_true _]
      exact RunC.seq (RunC.region (RunO.all rfl (RunC.ret ⟨_, rfl, rfl, rfl⟩)))
  · exact ⟨0, by omega, rfl, rfl, Le.cons rfl (Le.cons rfl (Le.cons rfl (Le.nil _)))⟩
theorem keepBytes_ok {h : Heap} {A B : Option Addr} {c d : Nat} {l m : List Int} (ra : 0 < l.length → ∃ a, A = some a ∧ Rd h a (us l)) (rb : 0 < m.length → ∃ a, B = some a ∧ Rd h a (us m)) (hm : l.length ≤ 4611686018427387904) :
    RunF prog 62 [.slice A l.length c, .slice B m.length d] h fun v h' => v = .bool (l == m) ∧ h = h' := keepBytesX_ok ra rb (by omega)
end Go.Proofs.Ytcbakhanpiemhaa
end
section
set_option linter.unusedVariables false
set_option maxRecDepth 100000
open Go Go.Am Go.RowKit
namespace Go.Proofs.Ytcbakhanpiemhaa
open Go.Proofs.Try
end Go.Proofs.Ytcbakhanpiemhaa
end
section
set_option linter.unusedVariables false
set_option maxRecDepth 100000
open Go Go.Am Go.RowKit
namespace Go.Proofs.Ytcbakhanpiemhaa
open Go.Proofs.Try
/-- The node that a block tells; none: no pointers. -/
def nodV (l : List Int) : Int × List Int := if nCode l = 0 then (nLv l, nPs l) else (0, nZero)
theorem nodV_cells (l : List Int) : nCells l = nc (nodV l).1 (nodV l).2 := by unfold nCells nodV; split <;> rfl
theorem nodV_len (l : List Int) : (nodV l).2.length = 8 := by unfold nodV; split <;> rfl
def atIn (B : Nat) (at_ : Int) : Bool := !(decide (at_ < 2) || decide (at_ ≥ (B : Int)))
def atV (L : List Int) (B : Nat) (at_ : Int) : Int × List Int := if atIn B at_ then nodV (blkI L at_.toNat) else (0, nZero)
theorem atV_len (L : List Int) (B : Nat) (at_ : Int) : (atV L B at_).2.length = 8 := by unfold atV; split; exact nodV_len _; rfl
def atIs (L : List Int) (B : Nat) (at_ lv : Int) : Bool := atIn B at_ && (nCode (blkI L at_.toNat) == 0 && (atV L B at_).1 == lv)
theorem atIn_iff {B : Nat} {a : Int} : atIn B a = true ↔ 2 ≤ a ∧ a < B := by
  unfold atIn
  rw [Bool.not_eq_true', Bool.or_eq_false_iff, decide_eq_false_iff_not, decide_eq_false_iff_not]
  omega
/-- A walk through a tree: the map, the nodes, is it none? -/
abbrev TS := List Int × List Int × Bool
def tstep (rec_ : Int → Nat → TS → TS) (B : Nat) (leaf : Bool) (w : TS) (p : Int) (to_ : Nat) : TS :=
  if w.2.2 then w else if decide (p ≥ (B : Int)) then (w.1, w.2.1, true) else if p != 0 && leaf then (w.1.set to_ p, w.2.1, w.2.2) else if p != 0 then rec_ p to_ w else w
def tbody (L : List Int) (B lv : Nat) (rec_ : Int → Nat → TS → TS) (at_ : Int) (from_ : Nat) (w : TS) : TS :=
  if !atIs L B at_ (lv : Int) || w.2.1.contains at_ then (w.1, w.2.1, true)
  else (List.range 8).foldl (fun w i => tstep rec_ B (lv == 0) w ((atV L B at_).2.getD i 0) (from_ + i * 8 ^ lv)) (w.1, w.2.1 ++ [at_], w.2.2)
def tgo (L : List Int) (B : Nat) : Nat → Int → Nat → TS → TS
  | 0 => tbody L B 0 (fun _ _ w => w)
  | k + 1 => tbody L B (k + 1) (tgo L B k)
def trec (L : List Int) (B : Nat) : Nat → Int → Nat → TS → TS
  | 0 => fun _ _ w => w
  | k + 1 => tgo L B k
theorem tgo_eq (L : List Int) (B lv : Nat) (a : Int) (f : Nat) (w : TS) : tgo L B lv a f w = tbody L B lv (trec L B lv) a f w := by cases lv <;> rfl
/-- The map stays as long as it is. -/
theorem tgo_len (L : List Int) (B : Nat) : ∀ (lv : Nat) (a : Int) (f : Nat) (w : TS), (tgo L B lv a f w).1.length = w.1.length := by
  intro lv
  induction lv with
  | zero =>
    intro a f w
    rw [tgo_eq]
    unfold tbody
    split
    · rfl
    · generalize hz : (w.1, w.2.1 ++ [a], w.2.2) = z
      have : w.1 = z.1 := by rw [← hz]
      rw [this]
      clear hz this
      generalize List.range 8 = l
      induction l generalizing z with
      | nil => rfl
      | cons i l ih =>
        rw [List.foldl_cons, ih]
        unfold tstep trec
        split
        · rfl
        · split
          · rfl
          · split
            · exact List.length_set
            · split <;> rfl
  | succ k ihk =>
    intro a f w
    rw [tgo_eq]
    unfold tbody
    split
    · rfl
    · generalize hz : (w.1, w.2.1 ++ [a], w.2.2) = z
      have : w.1 = z.1 := by rw [← hz]
      rw [this]
      clear hz this
      generalize List.range 8 = l
      induction l generalizing z with
      | nil => rfl
      | cons i l ih =>
        rw [List.foldl_cons, ih]
        unfold tstep trec
        split
        · rfl
        · split
          · rfl
          · split
            · exact List.length_set
            · split
              · exact ihk _ _ _
              · rfl
/-- So many nodes at most. -/
def nN : Nat → Nat
  | 0 => 1
  | k + 1 => 1 + 8 * nN k
theorem fold_ns {f : TS → Nat → TS} {M : Nat} (hf : ∀ w i, (f w i).2.1.length ≤ w.2.1.length + M) : ∀ (l : List Nat) (w : TS), (l.foldl f w).2.1.length ≤ w.2.1.length + l.length * M
  | [], w => by simp
  | i :: l, w => by
    rw [List.foldl_cons]
    have h1 := fold_ns hf l (f w i)
    have h2 := hf w i
    rw [List.length_cons, Nat.succ_mul]
    omega
theorem tstep_ns {r : Int → Nat → TS → TS} {M : Nat} (hr : ∀ a f w, (r a f w).2.1.length ≤ w.2.1.length + M) (B : Nat) (leaf : Bool) (w : TS) (p : Int) (t : Nat) : (tstep r B leaf w p t).2.1.length ≤ w.2.1.length + M := by
  unfold tstep
  split
  · omega
  · split
    · simp
    · split
      · simp
      · split
        · exact hr _ _ _
        · omega
def rN : Nat → Nat
  | 0 => 0
  | k + 1 => nN k
theorem nN_eq (lv : Nat) : nN lv = 1 + 8 * rN lv := by cases lv <;> rfl
theorem trec_ns (L : List Int) (B : Nat) : ∀ (lv : Nat) (a : Int) (f : Nat) (w : TS), (trec L B lv a f w).2.1.length ≤ w.2.1.length + rN lv := by
  intro lv
  induction lv with
  | zero => intro a f w; exact Nat.le_refl _
  | succ k ih =>
    intro a f w
    show (tgo L B k a f w).2.1.length ≤ w.2.1.length + nN k
    rw [tgo_eq, nN_eq]
    unfold tbody
    split
    · simp
    · have := fold_ns (f := fun w i => tstep (trec L B k) B (k == 0) w ((atV L B a).2.getD i 0) (f + i * 8 ^ k)) (fun w i => tstep_ns ih B (k == 0) w _ _) (List.range 8) (w.1, w.2.1 ++ [a], w.2.2)
      simp only [List.length_append, List.length_range, List.length_cons, List.length_nil] at this
      omega
theorem trec_len (L : List Int) (B : Nat) (lv : Nat) (a : Int) (f : Nat) (w : TS) : (trec L B lv a f w).1.length = w.1.length := by
  cases lv with
  | zero => rfl
  | succ k => exact tgo_len L B k a f w
end Go.Proofs.Ytcbakhanpiemhaa
end
section
set_option linter.unusedVariables false
set_option maxRecDepth 100000
open Go Go.Am Go.RowKit
namespace Go.Proofs.Ytcbakhanpiemhaa
open Go.Proofs.Try
/-- What a pointer of a level leads to, for a place under it; level 0: a sector's block. -/
def look (L : List Int) (B : Nat) : Nat → Int → Nat → Int
  | 0, p, _ => p
  | k + 1, p, s => if p = 0 then 0 else look L B k ((atV L B p).2.getD (s / 8 ^ k) 0) (s % 8 ^ k)
/-- Along the way to a place each node is one, of its level. -/
def pathOk (L : List Int) (B : Nat) : Nat → Int → Nat → Prop
  | 0, _, _ => True
  | k + 1, p, s => p ≠ 0 → atIs L B p (k : Int) = true ∧ pathOk L B k ((atV L B p).2.getD (s / 8 ^ k) 0) (s % 8 ^ k)
theorem look_zero (L : List Int) (B k s : Nat) : look L B k 0 s = 0 := by cases k <;> rfl
/-- The fold of a node's pointers, as it goes. -/
def tst (L : List Int) (B lv : Nat) (ps : List Int) (f : Nat) (w : TS) (i : Nat) : TS := tstep (trec L B lv) B (lv == 0) w (ps.getD i 0) (f + i * 8 ^ lv)
theorem fold_bad {L : List Int} {B lv : Nat} {ps : List Int} {f : Nat} : ∀ (l : List Nat) (w : TS), w.2.2 = true → (l.foldl (tst L B lv ps f) w).2.2 = true
  | [], w, h => h
  | i :: l, w, h => by
    rw [List.foldl_cons]
    refine fold_bad l _ ?_
    unfold tst tstep
    rw [if_pos h]; exact h
theorem fold_pre {L : List Int} {B lv : Nat} {ps : List Int} {f N : Nat} {w : TS} (h : ((List.range N).foldl (tst L B lv ps f) w).2.2 = false) {i : Nat} (hi : i ≤ N) : ((List.range i).foldl (tst L B lv ps f) w).2.2 = false := by
  cases e : ((List.range i).foldl (tst L B lv ps f) w).2.2 with
  | false => rfl
  | true =>
    have hs : List.range N = List.range i ++ (List.range (N - i)).map (i + ·) := by
      rw [← List.range_add]; congr 1; omega
    rw [hs, List.foldl_append, fold_bad _ _ e] at h
    cases h
/-- What a walk that ends well has done. -/
structure TSpec (L : List Int) (B lv : Nat) (a : Int) (f : Nat) (w r : TS) : Prop where
  is_ : atIs L B a (lv : Int) = true
  new : w.2.1.contains a = false
  ns : ∃ t, r.2.1 = w.2.1 ++ a :: t
  nd : w.2.1.Nodup → r.2.1.Nodup
  m : ∀ s, s < 512 → r.1.getD s 0 = if f ≤ s ∧ s < f + 8 ^ (lv + 1) then look L B (lv + 1) a (s - f) else w.1.getD s 0
  path : ∀ s, s < 8 ^ (lv + 1) → pathOk L B (lv + 1) a s
  all : ∀ x ∈ r.2.1, x ∈ w.2.1 ∨ ∃ k, k ≤ lv ∧ atIs L B x (k : Int) = true
  bnd : ∀ x ∈ r.1, x ∈ w.1 ∨ x = 0 ∨ x < B
theorem atIs_ne {L : List Int} {B : Nat} {a lv : Int} (h : atIs L B a lv = true) : 2 ≤ a ∧ a < B := by
  unfold atIs at h
  rw [Bool.and_eq_true] at h
  exact atIn_iff.1 h.1
theorem nodup_snoc {α : Type} {l : List α} {x : α} (h : l.Nodup) (hx : ¬ x ∈ l) : (l ++ [x]).Nodup := by
  rw [List.nodup_append]
  refine ⟨h, List.nodup_cons.2 ⟨by simp, List.nodup_nil⟩, fun a ha b hb => ?_⟩
  rw [List.mem_singleton] at hb
  subst hb
  exact fun e => hx (e ▸ ha)
def SpecAt (L : List Int) (B lv : Nat) : Prop := ∀ (a : Int) (f : Nat) (w : TS), f + 8 ^ (lv + 1) ≤ 512 → w.1.length = 512 → w.2.2 = false → (∀ s, f ≤ s → s < f + 8 ^ (lv + 1) → w.1.getD s 0 = 0) → (tgo L B lv a f w).2.2 = false → TSpec L B lv a f w (tgo L B lv a f w)
structure FSpec (L : List Int) (B lv : Nat) (ps : List Int) (f : Nat) (m ns : List Int) (i : Nat) (r : TS) : Prop where
  len : r.1.length = 512
  tail : ∃ t, r.2.1 = ns ++ t
  nd : ns.Nodup → r.2.1.Nodup
  map : ∀ s, s < 512 → r.1.getD s 0 = if f ≤ s ∧ s < f + i * 8 ^ lv then look L B lv (ps.getD ((s - f) / 8 ^ lv) 0) ((s - f) % 8 ^ lv) else m.getD s 0
  path : ∀ j, j < i → ∀ s, s < 8 ^ lv → pathOk L B lv (ps.getD j 0) s
  all : ∀ x ∈ r.2.1, x ∈ ns ∨ ∃ k, k ≤ lv ∧ atIs L B x (k : Int) = true
  bnd : ∀ x ∈ r.1, x ∈ m ∨ x = 0 ∨ x < B
theorem getD_set (l : List Int) (k s : Nat) (p : Int) (hk : k < l.length) : (l.set k p).getD s 0 = if s = k then p else l.getD s 0 := by
  rw [List.getD_eq_getElem?_getD, List.getElem?_set]
  by_cases e : k = s
  · subst e; rw [if_pos rfl, if_pos hk, if_pos rfl]; rfl
  · rw [if_neg e, if_neg (fun g => e g.symm), List.getD_eq_getElem?_getD]
theorem divmod_at {s f i d : Nat} (hd : 0 < d) (h1 : f + i * d ≤ s) (h2 : s < f + i * d + d) : (s - f) / d = i ∧ (s - f) % d = s - (f + i * d) := by
  have e : s - f = (s - (f + i * d)) + i * d := by omega
  have hlt : s - (f + i * d) < d := by omega
  constructor
  · rw [e, Nat.add_mul_div_right _ _ hd, Nat.div_eq_of_lt hlt, Nat.zero_add]
  · rw [e, Nat.add_mul_mod_self_right, Nat.mod_eq_of_lt hlt]
theorem fold_spec {L : List Int} {B lv : Nat} {ps : List Int} {f : Nat} {m ns : List Int} (hrec : ∀ k, lv = k + 1 → SpecAt L B k) (hf : f + 8 ^ (lv + 1) ≤ 512) (hl : m.length = 512) (hz : ∀ s, f ≤ s → s < f + 8 ^ (lv + 1) → m.getD s 0 = 0)
    {N : Nat} (hN : N ≤ 8) (hb : ((List.range N).foldl (tst L B lv ps f) (m, ns, false)).2.2 = false) : ∀ i, i ≤ N → FSpec L B lv ps f m ns i ((List.range i).foldl (tst L B lv ps f) (m, ns, false)) := by
  have hp8 : 8 ^ (lv + 1) = 8 * 8 ^ lv := by rw [Nat.pow_succ, Nat.mul_comm]
  have hpos : 0 < 8 ^ lv := Nat.pow_pos (by decide)
  intro i
  induction i with
  | zero =>
    intro _
    exact ⟨hl, ⟨[], by simp⟩, fun h => h, fun s _ => by rw [if_neg (by omega)]; rfl, fun j hj => absurd hj (Nat.not_lt_zero _), fun x hx => .inl hx, fun x hx => .inl hx⟩
  | succ i ih =>
    intro hi
    have S := ih (by omega)
    have hnb := fold_pre hb (i := i) (by omega)
    have hnb1 := fold_pre hb (i := i + 1) hi
    have hstep : (List.range (i + 1)).foldl (tst L B lv ps f) (m, ns, false) = tst L B lv ps f ((List.range i).foldl (tst L B lv ps f) (m, ns, false)) i := by rw [List.range_succ, List.foldl_append]; rfl
    rw [hstep] at hnb1 ⊢
    generalize (List.range i).foldl (tst L B lv ps f) (m, ns, false) = W at *
    obtain ⟨wm, wn, wb⟩ := W
    simp only at hnb
    subst hnb
    have hile : i * 8 ^ lv + 8 ^ lv ≤ 8 * 8 ^ lv := by rw [← Nat.succ_mul]; exact Nat.mul_le_mul_right _ (Nat.le_trans hi hN)
    have hsucc : (i + 1) * 8 ^ lv = i * 8 ^ lv + 8 ^ lv := Nat.succ_mul ..
    obtain ⟨Sl, ⟨t, St⟩, Snd, Sm, Sp, Sa, Sb⟩ := S
    simp only at Sl St Snd Sm Sa Sb
    have here : ∀ s, f + i * 8 ^ lv ≤ s → s < f + i * 8 ^ lv + 8 ^ lv → wm.getD s 0 = 0 := fun s h1 h2 => by
      rw [Sm s (by omega), if_neg (by omega)]
      exact hz s (by omega) (by omega)
    unfold tst tstep at hnb1 ⊢
    rw [if_neg Bool.false_ne_true] at hnb1 ⊢
    generalize hp : ps.getD i 0 = p at *
    by_cases hB : decide (p ≥ (B : Int)) = true
    · rw [if_pos hB] at hnb1; cases hnb1
    rw [if_neg hB] at hnb1 ⊢
    have hpB : p < B := by have := of_decide_eq_false (Bool.eq_false_iff.2 hB); omega
    by_cases hp0 : p = 0
    · subst hp0
      rw [if_neg (by simp), if_neg (by simp)] at hnb1 ⊢
      refine ⟨Sl, ⟨t, St⟩, Snd, fun s hs => ?_, fun j hj s hs => ?_, Sa, Sb⟩
      · simp only
        by_cases c : f + i * 8 ^ lv ≤ s ∧ s < f + i * 8 ^ lv + 8 ^ lv
        · obtain ⟨d1, d2⟩ := divmod_at hpos c.1 c.2
          rw [here s c.1 c.2, if_pos (by omega), d1, hp, look_zero]
        · rw [Sm s hs]
          by_cases c2 : f ≤ s ∧ s < f + i * 8 ^ lv
          · rw [if_pos c2, if_pos (by omega)]
          · rw [if_neg c2, if_neg (by omega)]
      · by_cases e : j = i
        · subst e
          rw [hp]
          cases lv with
          | zero => trivial
          | succ k => intro h; exact absurd rfl h
        · exact Sp j (by omega) s hs
    have hpn : (p != 0) = true := bne_iff_ne.2 hp0
    cases lv with
    | zero =>
      rw [hpn, if_pos (by rfl)]
      simp only [Nat.pow_zero, Nat.mul_one] at *
      refine ⟨by simp only [List.length_set]; exact Sl, ⟨t, St⟩, Snd, fun s hs => ?_, fun j hj s hs => trivial, Sa, fun x hx => ?_⟩
      · simp only
        rw [getD_set _ _ _ _ (by omega)]
        by_cases e : s = f + i
        · subst e
          rw [if_pos rfl, if_pos (by omega), Nat.div_one, show f + i - f = i by omega, hp]; rfl
        · rw [if_neg e, Sm s hs]
          by_cases c2 : f ≤ s ∧ s < f + i
          · rw [if_pos c2, if_pos (by omega)]
          · rw [if_neg c2, if_neg (by omega)]
      · rcases List.mem_or_eq_of_mem_set hx with g | g
        · exact Sb x g
        · exact .inr (.inr (by omega))
    | succ k =>
      rw [hpn, if_neg (by simp), if_pos rfl] at hnb1 ⊢
      have T := hrec k rfl p (f + i * 8 ^ (k + 1)) (wm, wn, false) (by omega) Sl rfl here hnb1
      have hlen : (trec L B (k + 1) p (f + i * 8 ^ (k + 1)) (wm, wn, false)).1.length = 512 := by rw [trec_len]; exact Sl
      change TSpec L B k p (f + i * 8 ^ (k + 1)) (wm, wn, false) (trec L B (k + 1) p (f + i * 8 ^ (k + 1)) (wm, wn, false)) at T
      generalize trec L B (k + 1) p (f + i * 8 ^ (k + 1)) (wm, wn, false) = R at *
      obtain ⟨T1, T2, ⟨t2, T3⟩, T4, T5, T6, T7, T8⟩ := T
      simp only at T2 T3 T4 T5 T7 T8
      refine ⟨hlen, ⟨t ++ p :: t2, by rw [T3, St, List.append_assoc]⟩, fun h => T4 (Snd h), fun s hs => ?_, fun j hj s hs => ?_, fun x hx => ?_, fun x hx => ?_⟩
      · rw [T5 s hs]
        by_cases c : f + i * 8 ^ (k + 1) ≤ s ∧ s < f + i * 8 ^ (k + 1) + 8 ^ (k + 1)
        · obtain ⟨d1, d2⟩ := divmod_at hpos c.1 c.2
          rw [if_pos c, if_pos (by omega), d1, d2, hp]
        · rw [if_neg c, Sm s hs]
          by_cases c2 : f ≤ s ∧ s < f + i * 8 ^ (k + 1)
          · rw [if_pos c2, if_pos (by omega)]
          · rw [if_neg c2, if_neg (by omega)]
      · by_cases e : j = i
        · subst e; rw [hp]; exact T6 s hs
        · exact Sp j (by omega) s hs
      · rcases T7 x hx with g | ⟨q, g1, g2⟩
        · exact Sa x g
        · exact .inr ⟨q, by omega, g2⟩
      · rcases T8 x hx with g | g
        · exact Sb x g
        · exact .inr g
theorem spec_body {L : List Int} {B lv : Nat} (hrec : ∀ k, lv = k + 1 → SpecAt L B k) : SpecAt L B lv := by
  intro a f w hf hl hw hz hb
  obtain ⟨m, ns, bd⟩ := w
  simp only at hl hw hz
  subst hw
  have hpos : 0 < 8 ^ lv := Nat.pow_pos (by decide)
  have hp8 : 8 ^ (lv + 1) = 8 * 8 ^ lv := by rw [Nat.pow_succ, Nat.mul_comm]
  rw [tgo_eq] at hb ⊢
  unfold tbody at hb ⊢
  by_cases hc : (!atIs L B a (lv : Int) || ns.contains a) = true
  · rw [if_pos hc] at hb; cases hb
  rw [if_neg hc] at hb ⊢
  rw [Bool.or_eq_true, not_or, Bool.not_eq_true, Bool.not_eq_true, Bool.not_eq_false'] at hc
  obtain ⟨h1, h2⟩ := hc
  have ha := atIs_ne h1
  have S := fold_spec (ps := (atV L B a).2) (ns := ns ++ [a]) hrec hf hl hz (Nat.le_refl 8) hb 8 (Nat.le_refl 8)
  change TSpec L B lv a f (m, ns, false) ((List.range 8).foldl (tst L B lv (atV L B a).2 f) (m, ns ++ [a], false))
  generalize (List.range 8).foldl (tst L B lv (atV L B a).2 f) (m, ns ++ [a], false) = R at *
  obtain ⟨_, ⟨t, St⟩, Snd, Sm, Sp, Sa, Sb⟩ := S
  refine ⟨h1, h2, ⟨t, by rw [St, List.append_assoc]; rfl⟩, fun h => Snd (nodup_snoc h (by simpa using h2)), fun s hs => ?_, fun s hs => ?_, fun x hx => ?_, fun x hx => Sb x hx⟩
  · rw [Sm s hs, ← hp8]
    by_cases c : f ≤ s ∧ s < f + 8 ^ (lv + 1)
    · rw [if_pos c, if_pos c]
      show _ = if a = 0 then 0 else _
      rw [if_neg (by omega)]
    · rw [if_neg c, if_neg c]
  · intro _
    exact ⟨h1, Sp (s / 8 ^ lv) (by rw [Nat.div_lt_iff_lt_mul hpos]; omega) (s % 8 ^ lv) (Nat.mod_lt _ hpos)⟩
  · rcases Sa x hx with g | g
    · rcases List.mem_append.1 g with g | g
      · exact .inl g
      · rw [List.mem_singleton] at g; subst g; exact .inr ⟨lv, Nat.le_refl _, h1⟩
    · exact .inr g
theorem tgo_spec (L : List Int) (B : Nat) : ∀ lv, SpecAt L B lv := by
  intro lv
  induction lv with
  | zero => exact spec_body (fun k e => by cases e)
  | succ k ih => exact spec_body (fun j e => by cases e; exact ih)
end Go.Proofs.Ytcbakhanpiemhaa
end
section
set_option linter.unusedVariables false
set_option maxRecDepth 100000
open Go Go.Am Go.RowKit
namespace Go.Proofs.Ytcbakhanpiemhaa
open Go.Proofs.Try
theorem nodUnder_ok {h : Heap} {k : Nat} (hk : k ≤ 3) : RunF prog 143 [.int .i64 k] h fun v h' => v = .int .i64 (8 ^ k : Nat) ∧ h = h' := by
  refine RunF.walk func143 rfl rfl ?_
  refine RunC.seq (RunC.region (RunO.all rfl ?_))
  refine RunC.seq (RunC.region (RunO.all rfl ?_))
  refine RunC.seq (RunC.seq (RunC.region (RunO.all rfl ?_)))
  refine RunC.block ?_
  let I : Nat → Env → Heap → Prop := fun d E h' => ∃ i : Nat, i + d = k ∧ h = h' ∧ Le (upd (upd (upd E0 3 (.int .i64 (8 ^ i : Nat))) 4 (.int .i64 k)) 5 (.int .i64 i)) E
  refine RunC.loop I ?_ (k := k) ?_
  · rintro d E h' ⟨i, hi, rfl, hE⟩
    refine RunC.le hE ?_
    clear hE
    refine RunC.seq (RunC.region (RunO.all rfl ?_))
    refine RunC.seq (RunC.cond rfl (fun hlt => ?_) (fun hge => ?_))
    · have hlt := of_decide_eq_true hlt
      have h8 : 8 ^ i ≤ 8 ^ 3 := Nat.pow_le_pow_right (by decide) (by omega)
      refine RunC.skip ?_
      refine RunC.seq (RunC.block ?_)
      refine RunC.region (RunO.all rfl ?_)
      refine RunC.region (RunO.all rfl ?_)
      refine ⟨d - 1, by omega, i + 1, by omega, rfl, Le.cons (inc64 (by omega)) (Le.cons rfl (Le.cons ?_ (Le.nil _)))⟩
      show some (Value.int .i64 (fwrap .i64 (((8 ^ i : Nat) : Int) * 8))) = _
      rw [Nat.pow_succ]
      generalize 8 ^ i = q at *
      have h8 : q ≤ 512 := h8
      rw [fw64 (by omega) (by omega)]
      rfl
    · have hge := of_decide_eq_false hge
      have : i = k := by omega
      subst this
      refine RunC.exit ?_
      exact RunC.seq (RunC.region (RunO.all rfl (RunC.ret ⟨_, rfl, rfl, rfl⟩)))
  · exact ⟨0, by omega, rfl, Le.cons rfl (Le.cons rfl (Le.cons rfl (Le.nil _)))⟩
end Go.Proofs.Ytcbakhanpiemhaa
end
section
set_option linter.unusedVariables false
set_option maxRecDepth 100000
open Go Go.Am Go.RowKit
namespace Go.Proofs.Ytcbakhanpiemhaa
open Go.Proofs.Try
set_option maxHeartbeats 1000000 in
theorem treeAt_ok {h : Heap} {iv : Value} {L : List Int} {B : Nat} {at_ lv : Int} (sl : Sl h iv 1 L.length (us L)) (hb : Byt L) (hB : B * 64 ≤ L.length) (hm : L.length ≤ 4611686018427387904) :
    RunF prog 142 [iv, .int .i64 (B : Int), .int .i64 at_, .int .i64 lv] h fun v h' => v = .tuple #[.agg ⟨nc (atV L B at_).1 (atV L B at_).2⟩, .bool (atIs L B at_ lv)] ∧ Fr no h h' := by
  refine RunF.walk func142 rfl rfl ?_
  refine RunC.seq (RunC.region (RunO.part 1 (h1 := h.push ⟨nc 0 nZero, true⟩) rfl (RunO.all rfl ?_)))
  have ow : Ow (h.push ⟨nc 0 nZero, true⟩) h.next (nc 0 nZero) := Ow.push _ _
  have f1 : Fr (fun b => h.next ≤ b) h (h.push ⟨nc 0 nZero, true⟩) := Fr.push _ _ _
  have s1 := sl.fr0 (Fr.push no h ⟨nc 0 nZero, true⟩)
  generalize h.push ⟨nc 0 nZero, true⟩ = h1 at *
  have hp : h.next < h1.next := ow.1
  obtain ⟨A, c, rfl, hc, hA⟩ := s1.form
  have hin : atIn B at_ = !(decide (at_ < 2) || decide (at_ ≥ (B : Int))) := rfl
  have hbad : atIn B at_ = false → atV L B at_ = (0, nZero) ∧ atIs L B at_ lv = false := by
    intro e
    constructor
    · unfold atV; rw [e]; rfl
    · unfold atIs; rw [e]; rfl
  refine RunC.seq ?_
  refine RunC.seqE (upd (upd (upd (upd (upd (upd E0 0 (.slice A L.length c)) 1 (.int .i64 (B : Int))) 2 (.int .i64 at_)) 3 (.int .i64 lv)) 8 (.pointer (some ⟨h.next, 0, none⟩))) 18 (.bool (decide (at_ < 2) || decide (at_ ≥ (B : Int))))) ?_ ?_
  · refine RunC.region (RunO.part 3 rfl ?_)
    cases decide (at_ < 2) with
    | true => exact RunO.all rfl ⟨rfl, Le.cons rfl (Le.cons rfl (Le.cons rfl (Le.cons rfl (Le.cons rfl (Le.cons rfl (Le.nil _))))))⟩
    | false => exact RunO.all rfl ⟨rfl, Le.cons rfl (Le.cons rfl (Le.cons rfl (Le.cons rfl (Le.cons rfl (Le.cons rfl (Le.nil _))))))⟩
  generalize (decide (at_ < 2) || decide (at_ ≥ (B : Int))) = bd at hin ⊢
  cases bd with
  | true =>
    obtain ⟨e1, e2⟩ := hbad hin
    rw [e1, e2]
    refine RunC.cond rfl (fun _ => ?_) (fun g => by cases g)
    refine RunC.seq (RunC.region (RunO.part 1 rfl ?_))
    refine RunO.store rfl rfl (store_ow (s := 9) ow rfl rfl rfl (Nat.le_refl 9)) (RunO.all rfl ?_)
    exact RunC.ret ⟨_, eresults_cell rfl (nc_load rfl (Ow.put (nc 0 nZero) ow.1)) rfl, rfl, frNo (f1.same (Fr.put _ (.inl (Nat.le_refl _))))⟩
  | false =>
  have hin : atIn B at_ = true := hin
  obtain ⟨ha2, haB⟩ := atIn_iff.1 hin
  obtain ⟨a, rfl⟩ := Int.eq_ofNat_of_zero_le (show 0 ≤ at_ by omega)
  have haL : (a + 1) * 64 ≤ L.length := by
    have : a + 1 ≤ B := by omega
    exact Nat.le_trans (Nat.mul_le_mul_right 64 this) hB
  have hvv : atV L B a = nodV (blkI L a) := by unfold atV; rw [hin, Int.toNat_natCast]; rfl
  have his : atIs L B a lv = (nCode (blkI L a) == 0 && (nodV (blkI L a)).1 == lv) := by unfold atIs; rw [hin, hvv, Int.toNat_natCast]; rfl
  rw [hvv, his]
  obtain ⟨b, o, rfl, rd⟩ := hA (by omega)
  refine RunC.cond rfl (fun g => by cases g) (fun _ => RunC.skip ?_)
  refine RunC.seq (RunC.region (RunO.part 2 rfl ?_))
  refine RunO.callD (devOf_ok (o := o) haL hm hc) rfl rfl rfl ?_
  rintro _ _ ⟨⟨c', hc', rfl⟩, rfl⟩
  have hbl := blkI_len haL
  have hparse := nodParse_ok (h := h1) (A := some ⟨b, o + a * 64, none⟩) (c := c') (l := blkI L a) (fun _ => ⟨_, rfl, rdBlk rd haL⟩) (byt_blk hb a) (by rw [hbl]; exact hc')
  rw [hbl, nodV_cells] at hparse
  refine RunO.callD hparse rfl rfl rfl ?_
  rintro v h2 ⟨rfl, f2⟩
  have hlen := nodV_len (blkI L a)
  generalize nodV (blkI L a) = nv at *
  obtain ⟨nl, ps⟩ := nv
  simp only at hlen ⊢
  refine RunO.part 4 (h1 := h2.push ⟨nc 0 nZero, true⟩) rfl ?_
  have hcl : (cellsOf (.agg ⟨nc nl ps⟩)).length = 9 := by show (nc nl ps).length = 9; simp [nc, is_len, hlen]
  have hac : allCells (cellsOf (.agg ⟨nc nl ps⟩)) = true := by show allCells (.int .i64 nl :: is ps) = true; exact allCells_map (f := Value.int .i64) (fun _ => rfl) ps
  refine RunO.store rfl rfl (store_ow (s := 9) (Ow.push h2 (nc 0 nZero)) rfl hcl hac (Nat.le_refl 9)) (RunO.all rfl ?_)
  have e9 : (nc 0 nZero).take 0 ++ cellsOf (.agg ⟨nc nl ps⟩) ++ (nc 0 nZero).drop (0 + 9) = nc nl ps := by
    show [] ++ nc nl ps ++ [] = _; simp
  rw [e9]
  have on : Ow ((h2.push ⟨nc 0 nZero, true⟩).put h2.next (some ⟨nc nl ps, true⟩)) h2.next (nc nl ps) := Ow.put _ (Nat.lt_succ_self _)
  have f4 : Fr no h2 ((h2.push ⟨nc 0 nZero, true⟩).put h2.next (some ⟨nc nl ps, true⟩)) := (Fr.push _ _ _).trans (Fr.put (m := (· = h2.next)) _ (.inl rfl)) (fun j hj => .inr (by omega))
  have ow4 := (ow.fr f2 (fun g => g)).fr f4 (fun g => g)
  have f14 := (f1.quiet f2).quiet f4
  have hne : h2.next ≠ h.next := by have := f2.next; omega
  generalize (h2.push ⟨nc 0 nZero, true⟩).put h2.next (some ⟨nc nl ps, true⟩) = h4 at *
  generalize h2.next = q at *
  have hqn : q < h4.next := on.1
  refine RunC.seq (RunC.draw (l0 := min (min h4.low h4.next) h.next) (Nat.le_trans (Nat.min_le_left _ _) (Nat.min_le_left _ _)) rfl ?_)
  have hn : min (min h4.low h4.next) h.next ≤ h4.next := Nat.le_trans (Nat.min_le_left _ _) (Nat.min_le_right h4.low h4.next)
  have hst : astore prog (h4.lo h4.next) 102 ⟨h.next, 0, none⟩ (.agg ⟨nc nl ps⟩) = some ((h4.lo h4.next).put h.next (some ⟨nc nl ps, true⟩)) := by
    have := store_ow (P := prog) (t := 102) (h := h4.lo h4.next) (off := 0) (s := 9) ow4 rfl hcl hac (Nat.le_refl 9)
    rw [e9] at this
    exact this
  have o5 : Ow ((h4.lo h4.next).put h.next (some ⟨nc nl ps, true⟩)) h.next (nc nl ps) := Ow.put _ ow4.1
  have f5 : Fr (fun b => h.next ≤ b) h4 ((h4.lo h4.next).put h.next (some ⟨nc nl ps, true⟩)) := ⟨Nat.le_refl _, (Fr.put (h := h4) (m := fun b => h.next ≤ b) _ (.inl (Nat.le_refl _))).get, fun l x y z => by
    rw [lowput_eq]
    have := z h.next (Nat.le_refl _)
    show l ≤ min h4.next h.next
    omega⟩
  have hl5 : min (min h4.low h4.next) h.next ≤ ((h4.lo h4.next).put h.next (some ⟨nc nl ps, true⟩)).low := by
    rw [lowput_eq]
    show _ ≤ min h4.next h.next
    omega
  have hn5 : min (min h4.low h4.next) h.next ≤ ((h4.lo h4.next).put h.next (some ⟨nc nl ps, true⟩)).next := hn
  generalize (h4.lo h4.next).put h.next (some ⟨nc nl ps, true⟩) = h5 at *
  have fin : ∀ lw, min (min h4.low h4.next) h.next ≤ lw → Fr no h (h5.lo lw) := fun lw hlw => frNo ((f14.fg0.trans f5.fg0 (fun i e => .inl e)).close (fun l x y z => by
    have := f14.low l x y z
    have := f14.next
    omega))
  refine RunD.load (v := .agg ⟨nc nl ps⟩) hn rfl (nc_load hlen on) rfl ?_
  refine RunD.pure hn rfl rfl (fun _ => rfl) rfl ?_
  refine RunD.pure hn rfl rfl (fun _ => rfl) rfl ?_
  refine RunD.pure hn rfl rfl (fun _ => rfl) rfl ?_
  cases (nCode (blkI L a) == 0) with
  | false =>
    refine RunD.offG rfl rfl (RunD.offG rfl rfl (RunD.offG rfl rfl (RunD.offG rfl rfl ?_)))
    refine RunD.pure hn rfl rfl (fun _ => rfl) rfl ?_
    refine RunD.one (v := undef) (f := .wr [h.next]) (h1 := h5) rfl (by show (match astore prog (h4.lo h4.next) 102 ⟨h.next, 0, none⟩ (.agg ⟨nc nl ps⟩) with | some h' => some (undef, h') | none => none) = _; rw [hst]) (fun _ => rfl) hl5 rfl ?_
    refine RunD.pure hn5 rfl rfl (fun _ => rfl) rfl ?_
    refine RunD.nil ⟨rfl, fun lw hlw => ?_⟩
    exact RunC.ret ⟨_, eresults_cell rfl (nc_load (h := h5.lo lw) hlen o5) rfl, rfl, fin lw hlw⟩
  | true =>
    refine RunD.pureG hn rfl rfl (fun _ => rfl) rfl ?_
    refine RunD.loadG (v := .int .i64 nl) hn rfl rfl (on.ld rfl) rfl ?_
    refine RunD.pureG hn rfl rfl (fun _ => rfl) rfl ?_
    refine RunD.pureG hn rfl rfl (fun _ => rfl) rfl ?_
    refine RunD.pure hn rfl rfl (fun _ => rfl) rfl ?_
    refine RunD.one (v := undef) (f := .wr [h.next]) (h1 := h5) rfl (by show (match astore prog (h4.lo h4.next) 102 ⟨h.next, 0, none⟩ (.agg ⟨nc nl ps⟩) with | some h' => some (undef, h') | none => none) = _; rw [hst]) (fun _ => rfl) hl5 rfl ?_
    refine RunD.pure hn5 rfl rfl (fun _ => rfl) rfl ?_
    refine RunD.nil ⟨?_, fun lw hlw => ?_⟩
    · have hm : memN q [h.next] = false := by
        show cond (Nat.beq q h.next) true false = false
        rw [beqF hne]; rfl
      show cond (!memN q [h.next]) true false = true
      rw [hm]; rfl
    exact RunC.ret ⟨_, eresults_cell rfl (nc_load (h := h5.lo lw) hlen o5) rfl, rfl, fin lw hlw⟩
end Go.Proofs.Ytcbakhanpiemhaa
end
section
set_option linter.unusedVariables false
set_option maxRecDepth 100000
open Go Go.Am Go.RowKit
namespace Go.Proofs.Ytcbakhanpiemhaa
open Go.Proofs.Try
theorem is_part {l : List Int} {i : Nat} (h : i < l.length) : apart prog 3 (is l) (i * 1) = some (.int .i64 l[i]) := by
  show nth (is l) (i * 1) = _
  rw [Nat.mul_one]; exact is_nth h
theorem is_app (a b : List Int) : is (a ++ b) = is a ++ is b := by unfold is; rw [List.map_append]
theorem contains_cut {l : List Int} {i : Nat} {x : Int} (h : i < l.length) (hn : (l.take i).contains x = false) : (l.take (i + 1)).contains x = (x == l[i]) := by
  rw [List.take_succ_eq_append_getElem h]
  simp only [List.contains_eq_mem, List.mem_append, List.mem_singleton]
  have hn : ¬ x ∈ l.take i := by simpa using hn
  by_cases c : x = l[i]
  · simp [c]
  · simp [c, hn]
theorem indexInt_ok {h : Heap} {v : Value} {l : List Int} {x : Int} (sl : Sl h v 1 l.length (is l)) (hm : l.length ≤ 4611686018427387904) :
    RunF prog 137 [v, .int .i64 x] h fun r h' => h = h' ∧ ∃ k : Int, r = .int .i64 k ∧ decide (k ≥ 0) = l.contains x := by
  refine RunF.walk func137 rfl rfl ?_
  obtain ⟨A, c, rfl, hc, _⟩ := sl.form
  refine RunC.seq (RunC.region (RunO.all rfl ?_))
  refine RunC.seq (RunC.seq (RunC.region (RunO.all rfl ?_)))
  refine RunC.block ?_
  let I : Nat → Env → Heap → Prop := fun k E h' => ∃ i : Nat, i + k = l.length ∧ (l.take i).contains x = false ∧ h = h' ∧ Le (upd (upd (upd (upd E0 0 (.slice A l.length c)) 1 (.int .i64 x)) 7 (.int .i64 l.length)) 8 (.int .i64 i)) E
  refine RunC.loop I ?_ (k := l.length) ?_
  · rintro k E h' ⟨i, hi, hp, rfl, hE⟩
    refine RunC.le hE ?_
    clear hE
    refine RunC.seq (RunC.region (RunO.all rfl ?_))
    refine RunC.seq (RunC.cond rfl (fun hlt => ?_) (fun hge => ?_))
    · have hlt := of_decide_eq_true hlt
      have h1 : i < l.length := by omega
      have hcut := contains_cut h1 hp
      refine RunC.skip ?_
      refine RunC.seq (RunC.block ?_)
      refine RunC.seq (RunC.region (RunO.all rfl ?_))
      refine RunC.seq (RunC.region (RunO.part 3 rfl ?_))
      refine RunO.at (s := 1) rfl rfl sl rfl rfl h1 (is_part h1) rfl rfl rfl ?_
      refine RunO.all rfl ?_
      refine RunC.cond rfl (fun ht => ?_) (fun hn => ?_)
      · refine RunC.seq (RunC.region (RunO.all rfl (RunC.ret ⟨_, rfl, rfl, _, rfl, ?_⟩)))
        have hmem : x ∈ l := by have e : x = l[i] := by simpa using ht
                                rw [e]; exact List.getElem_mem h1
        rw [decide_eq_true (Int.natCast_nonneg i)]; simp [hmem]
      · refine RunC.skip (RunC.region (RunO.all rfl ?_))
        exact ⟨k - 1, by omega, i + 1, by omega, by rw [hcut]; exact hn, rfl, Le.cons (inc64 (by omega)) (Le.cons rfl (Le.cons rfl (Le.cons rfl (Le.nil _))))⟩
    · have hge := of_decide_eq_false hge
      refine RunC.exit ?_
      have hi2 : i = l.length := by omega
      rw [hi2, List.take_length] at hp
      refine RunC.seq (RunC.region (RunO.all rfl (RunC.ret ⟨_, rfl, rfl, _, rfl, ?_⟩)))
      rw [hp]; rfl
  · exact ⟨0, by omega, rfl, rfl, Le.cons rfl (Le.cons rfl (Le.cons rfl (Le.cons rfl (Le.nil _))))⟩
theorem containsInt_ok {h : Heap} {v : Value} {l : List Int} {x : Int} (sl : Sl h v 1 l.length (is l)) (hm : l.length ≤ 4611686018427387904) :
    RunF prog 117 [v, .int .i64 x] h fun r h' => r = .bool (l.contains x) ∧ h = h' := by
  refine RunF.walk func117 rfl rfl ?_
  refine RunC.seq (RunC.region (RunO.all rfl ?_))
  refine RunC.seq (RunC.region (RunO.part 2 rfl ?_))
  refine RunO.callD (indexInt_ok sl hm) rfl rfl rfl ?_
  rintro _ _ ⟨rfl, k, rfl, hk⟩
  refine RunO.part 1 rfl ?_
  rw [hk]
  exact RunO.all rfl (RunC.ret ⟨_, rfl, rfl, rfl⟩)
theorem keepInts_ok {h : Heap} {v w : Value} {l m : List Int} (sl : Sl h v 1 l.length (is l)) (sm : Sl h w 1 m.length (is m)) (hm : l.length ≤ 4611686018427387904) :
    RunF prog 22 [v, w] h fun v h' => v = .bool (l == m) ∧ h = h' := by
  refine RunF.walk func22 rfl rfl ?_
  obtain ⟨A, c, rfl, hc, _⟩ := sl.form
  obtain ⟨B, d, rfl, hd, _⟩ := sm.form
  refine RunC.seq (RunC.region (RunO.all rfl ?_))
  refine RunC.seq (RunC.seq (RunC.region (RunO.all rfl ?_)))
  by_cases hl : l.length = m.length
  case neg =>
    have e : (l == m) = false := beq_eq_false_iff_ne.2 (fun g => hl (by rw [g]))
    rw [show ((l.length : Int) != (m.length : Int)) = true by simp; omega, e]
    refine RunC.cond rfl (fun _ => ?_) (fun g => by cases g)
    exact RunC.seq (RunC.region (RunO.all rfl (RunC.ret ⟨_, rfl, rfl, rfl⟩)))
  rw [show ((l.length : Int) != (m.length : Int)) = false by simp; omega]
  refine RunC.cond rfl (fun g => by cases g) (fun _ => RunC.skip ?_)
  refine RunC.seq (RunC.seq (RunC.region (RunO.all rfl ?_)))
  refine RunC.block ?_
  let I : Nat → Env → Heap → Prop := fun k E h' => ∃ i : Nat, i + k = l.length ∧ l.take i = m.take i ∧ h = h' ∧ Le (upd (upd (upd E0 0 (.slice A l.length c)) 1 (.slice B m.length d)) 5 (.int .i64 i)) E
  refine RunC.loop I ?_ (k := l.length) ?_
  · rintro k E h' ⟨i, hi, ht, rfl, hE⟩
    refine RunC.le hE ?_
    clear hE
    refine RunC.seq (RunC.seq (RunC.region (RunO.all rfl ?_)))
    refine RunC.cond rfl (fun hlt => ?_) (fun hge => ?_)
    · have hlt := of_decide_eq_true hlt
      have h1 : i < l.length := by omega
      have h2 : i < m.length := by omega
      refine RunC.skip ?_
      refine RunC.seq (RunC.block ?_)
      refine RunC.seq (RunC.draw0 rfl (RunO.part 2 rfl ?_))
      refine RunO.at (s := 1) rfl rfl sl rfl rfl h1 (is_part h1) rfl rfl rfl ?_
      refine RunO.part 2 rfl ?_
      refine RunO.at (s := 1) rfl rfl sm rfl rfl h2 (is_part h2) rfl rfl rfl ?_
      refine RunO.all rfl ?_
      refine RunC.cond rfl (fun hne => ?_) (fun heq => ?_)
      · have hne : l[i] ≠ m[i] := by simpa using hne
        have e : (l == m) = false := beq_eq_false_iff_ne.2 (fun g => hne (by subst g; rfl))
        rw [e]
        exact RunC.seq (RunC.region (RunO.all rfl (RunC.ret ⟨_, rfl, rfl, rfl⟩)))
      · have heq : l[i] = m[i] := by simpa using heq
        refine RunC.skip (RunC.region (RunO.all rfl ?_))
        exact ⟨k - 1, by omega, i + 1, by omega, beq_take h1 h2 ht heq, rfl, Le.cons (inc64 (by omega)) (Le.cons rfl (Le.cons rfl (Le.nil _)))⟩
    · have hge := of_decide_eq_false hge
      refine RunC.exit ?_
      have hi2 : i = l.length := by omega
      have e : l = m := by
        rw [hi2, List.take_length] at ht
        rw [ht, hl, List.take_length]
      rw [show (l == m) = true by rw [e]; exact beq_self_eq_true _]
      exact RunC.seq (RunC.region (RunO.all rfl (RunC.ret ⟨_, rfl, rfl, rfl⟩)))
  · exact ⟨0, by omega, rfl, rfl, Le.cons rfl (Le.cons rfl (Le.cons rfl (Le.nil _)))⟩
theorem twin_ok {h : Heap} {v : Value} {l : List Int} (sl : Sl h v 1 l.length (us l)) (hb : 2 * l.length ≤ 281474976710656) : RunF prog 55 [v] h fun r h' => Row h.next h' r 1 l.length (us l) ∧ Fr no h h' := by
  refine RunF.walk func55 rfl rfl ?_
  refine RunC.seq (RunC.region (RunO.all rfl ?_))
  refine RunC.seq (RunC.region (RunO.all rfl ?_))
  refine RunC.seq (RunC.region (RunO.part 2 rfl ?_))
  refine RunO.appendOs (s := 1) (k := 0) rfl rfl rfl rfl rfl rfl rfl rfl (Nat.le_refl 1) (Row.nil h.next h 1) (Nat.le_refl _) sl (allCells_map (fun _ => rfl) l) (by show 2 * (0 + l.length) * 1 ≤ _; omega) (by omega) ?_
  intro v' h' row f
  rw [Nat.zero_add, List.nil_append] at row
  exact RunO.all rfl (RunC.ret ⟨_, rfl, row, f.weak (fun i g => by obtain ⟨_, _, e⟩ := g; cases e)⟩)
theorem twinInts_ok {h : Heap} {v : Value} {l : List Int} (sl : Sl h v 1 l.length (is l)) (hb : 16 * l.length ≤ 281474976710656) : RunF prog 13 [v] h fun r h' => Row h.next h' r 1 l.length (is l) ∧ Fr no h h' := by
  refine RunF.walk func13 rfl rfl ?_
  refine RunC.seq (RunC.region (RunO.all rfl ?_))
  refine RunC.seq (RunC.region (RunO.all rfl ?_))
  refine RunC.seq (RunC.region (RunO.part 2 rfl ?_))
  refine RunO.appendOs (s := 1) (k := 0) rfl rfl rfl rfl rfl rfl rfl rfl (Nat.le_refl 1) (Row.nil h.next h 1) (Nat.le_refl _) sl (allCells_map (fun _ => rfl) l) (by show 2 * (0 + l.length) * 8 ≤ _; omega) (by omega) ?_
  intro v' h' row f
  rw [Nat.zero_add, List.nil_append] at row
  exact RunO.all rfl (RunC.ret ⟨_, rfl, row, f.weak (fun i g => by obtain ⟨_, _, e⟩ := g; cases e)⟩)
end Go.Proofs.Ytcbakhanpiemhaa
end
section
set_option linter.unusedVariables false
set_option maxRecDepth 100000
open Go Go.Am Go.RowKit
namespace Go.Proofs.Ytcbakhanpiemhaa
open Go.Proofs.Try
/-- The cells of a walk. -/
def wc (iv : Value) (B : Nat) (mv nv : Value) (bad : Bool) : List Value := [iv, .int .i64 (B : Int), mv, nv, .bool bad]
/-- A walk through a tree, in memory: its own block, the map's, the nodes' row. -/
structure TW (lo : Nat) (h : Heap) (iv : Value) (B wb mb : Nat) (nv : Value) (w : TS) : Prop where
  ow : Ow h wb (wc iv B (.slice (some ⟨mb, 0, none⟩) 512 (exc 512)) nv w.2.2)
  om : Ow h mb (is w.1)
  row : Row lo h nv 1 w.2.1.length (is w.2.1)
  len : w.1.length = 512
  ne : wb ≠ mb
  lw : wb < lo
  lm : mb < lo
  ln : lo ≤ h.next
/-- What a walk writes. -/
def TM (lo wb mb : Nat) : Nat → Prop := fun b => b = wb ∨ b = mb ∨ lo ≤ b
theorem TW.quiet {lo : Nat} {h h' : Heap} {iv : Value} {B wb mb : Nat} {nv : Value} {w : TS} (t : TW lo h iv B wb mb nv w) (f : Fr no h h') : TW lo h' iv B wb mb nv w :=
  ⟨t.ow.fr f (fun g => g), t.om.fr f (fun g => g), t.row.fr f (fun _ _ _ g => g), t.len, t.ne, t.lw, t.lm, Nat.le_trans t.ln f.next⟩
/-- A flag is raised. -/
theorem TW.bad {lo : Nat} {h : Heap} {iv : Value} {B wb mb : Nat} {nv : Value} {m ns : List Int} {b : Bool} (t : TW lo h iv B wb mb nv (m, ns, b)) :
    astore prog h 4 ⟨wb, 4, none⟩ (.bool true) = some (h.put wb (some ⟨wc iv B (.slice (some ⟨mb, 0, none⟩) 512 (exc 512)) nv true, true⟩)) ∧
    TW lo (h.put wb (some ⟨wc iv B (.slice (some ⟨mb, 0, none⟩) 512 (exc 512)) nv true, true⟩)) iv B wb mb nv (m, ns, true) ∧ Fr (TM lo wb mb) h (h.put wb (some ⟨wc iv B (.slice (some ⟨mb, 0, none⟩) 512 (exc 512)) nv true, true⟩)) := by
  have f : Fr (· = wb) h (h.put wb (some ⟨wc iv B (.slice (some ⟨mb, 0, none⟩) 512 (exc 512)) nv true, true⟩)) := Fr.put _ (.inl rfl)
  refine ⟨store1_ow t.ow rfl rfl rfl (Nat.le_of_ble_eq_true rfl), ⟨Ow.put _ t.ow.1, t.om.fr f (fun e => t.ne e.symm), t.row.fr f (fun b h1 _ e => by have := t.lw; omega), t.len, t.ne, t.lw, t.lm, t.ln⟩, f.weak (fun i e => .inl (.inl e))⟩
theorem foldl_range_bad {f : TS → Nat → TS} (hf : ∀ w i, w.2.2 = true → f w i = w) : ∀ (l : List Nat) (w : TS), w.2.2 = true → l.foldl f w = w
  | [], w, _ => rfl
  | i :: l, w, h => by rw [List.foldl_cons, hf w i h]; exact foldl_range_bad hf l w h
theorem range8_split {f : TS → Nat → TS} {w : TS} {i : Nat} (hi : i ≤ 8) : (List.range 8).foldl f w = ((List.range (8 - i)).map (· + i)).foldl f ((List.range i).foldl f w) := by
  have : List.range 8 = List.range i ++ (List.range (8 - i)).map (· + i) := by
    rw [show 8 = i + (8 - i) by omega, List.range_add]
    congr 1
    · rw [show i + (8 - i) - i = 8 - i by omega]
      apply List.map_congr_left
      intro x _; omega
  rw [this, List.foldl_append]
theorem nc_ptrs {h : Heap} {b : Nat} {lv : Int} {ps : List Int} (hp : ps.length = 8) (ow : Ow h b (nc lv ps)) : aload prog h 100 ⟨b, 1, none⟩ = some (.agg ⟨is ps⟩) := by
  refine Ow.ld ow ?_
  show (match takeN 8 (dropN 1 (nc lv ps)) with | some l => some (Value.agg ⟨l⟩) | none => none) = _
  rw [takeN_eq, dropN_eq]
  show (match (if 8 ≤ (is ps).length then some ((is ps).take 8) else none) with | some l => some (Value.agg ⟨l⟩) | none => none) = _
  rw [is_len, hp, if_pos (Nat.le_refl 8)]
  show some (Value.agg ⟨(is ps).take 8⟩) = _
  rw [List.take_of_length_le (by rw [is_len, hp]; exact Nat.le_refl _)]
def GoesOk (L : List Int) (B lo wb mb : Nat) (iv : Value) (lv : Nat) : Prop := ∀ {h : Heap} {nv : Value} {w : TS} {at_ : Int} {from_ : Nat},
    Sl h iv 1 L.length (us L) → TW lo h iv B wb mb nv w → w.2.1.length + nN lv ≤ 100000 → from_ + 8 ^ (lv + 1) ≤ 512 → w.2.2 = false →
    RunF prog 130 [.pointer (some ⟨wb, 0, none⟩), .int .i64 at_, .int .i64 (lv : Int), .int .i64 (from_ : Int)] h fun v h' => v = .tuple #[] ∧ ∃ nv', TW lo h' iv B wb mb nv' (tgo L B lv at_ from_ w) ∧ Fr (TM lo wb mb) h h'
theorem sl_tm {h h' : Heap} {iv : Value} {n s : Nat} {cs : List Value} {lo wb mb : Nat} (sl : Sl h iv s n cs) (hn : ∀ b o c, iv = .slice (some ⟨b, o, none⟩) n c → ¬ TM lo wb mb b) (f : Fr (TM lo wb mb) h h') : Sl h' iv s n cs := by
  refine ⟨sl.1, sl.2.1, sl.2.2.imp (fun y => y) ?_⟩
  rintro ⟨b, o, c, h1, h2, h3⟩
  exact ⟨b, o, c, h1, h2, h3.fr f (hn b o c h1)⟩
set_option maxHeartbeats 8000000 in
theorem goes_body {L : List Int} {B lo wb mb : Nat} {iv : Value} (hb : Byt L) (hB : B * 64 ≤ L.length) (hB2 : B ≤ 4096) (hm : L.length ≤ 4611686018427387904) (hiv : ∀ b o c, iv = .slice (some ⟨b, o, none⟩) L.length c → ¬ TM lo wb mb b)
    {lv : Nat} (hlv : lv ≤ 2) (hrec : ∀ k, lv = k + 1 → GoesOk L B lo wb mb iv k) : GoesOk L B lo wb mb iv lv := by
  intro h nv w at_ from_ sl tw hns hfrom hnb
  obtain ⟨m, ns, bad⟩ := w
  simp only at hns hnb
  subst hnb
  have hlv8 : 8 ^ lv ≤ 64 := by
    have : 8 ^ lv ≤ 8 ^ 2 := Nat.pow_le_pow_right (by decide) hlv
    exact this
  have hp8 : 8 ^ (lv + 1) = 8 ^ lv * 8 := Nat.pow_succ ..
  refine RunF.walk func130 rfl rfl ?_
  have tw0 := tw
  obtain ⟨ow, om, row, hlen, hne, hlw, hlm, hln⟩ := tw
  have hnv : ∀ b, At nv b → b < h.next := fun b ha => (row.at ha).2
  refine RunC.seq (RunC.draw0 rfl ?_)
  refine RunO.part 3 rfl ?_
  refine RunO.load (v := iv) rfl (ow.ld rfl) rfl ?_
  refine RunO.part 3 rfl ?_
  refine RunO.load (v := .int .i64 (B : Int)) rfl (ow.ld rfl) rfl ?_
  refine RunO.part 2 rfl ?_
  refine RunO.callD (treeAt_ok sl hb hB hm) rfl rfl rfl ?_
  rintro _ h1 ⟨rfl, f1⟩
  have hpl := atV_len L B at_
  have hgo : tgo L B lv at_ from_ (m, ns, false) = if (!atIs L B at_ (lv : Int) || ns.contains at_) = true then (m, ns, true) else (List.range 8).foldl (fun w i => tstep (trec L B lv) B (lv == 0) w ((atV L B at_).2.getD i 0) (from_ + i * 8 ^ lv)) (m, ns ++ [at_], false) := tgo_eq ..
  rw [hgo]
  clear hgo
  generalize atV L B at_ = nd at *
  obtain ⟨nl, ps⟩ := nd
  simp only at hpl
  refine RunO.part 4 (h1 := h1.push ⟨nc 0 nZero, true⟩) rfl ?_
  have hcl : (cellsOf (.agg ⟨nc nl ps⟩)).length = 9 := by show (nc nl ps).length = 9; simp [nc, is_len, hpl]
  have hac : allCells (cellsOf (.agg ⟨nc nl ps⟩)) = true := by show allCells (.int .i64 nl :: is ps) = true; exact allCells_map (f := Value.int .i64) (fun _ => rfl) ps
  refine RunO.store rfl rfl (store_ow (s := 9) (Ow.push h1 (nc 0 nZero)) rfl hcl hac (Nat.le_refl 9)) (RunO.all rfl ?_)
  have e9 : (nc 0 nZero).take 0 ++ cellsOf (.agg ⟨nc nl ps⟩) ++ (nc 0 nZero).drop (0 + 9) = nc nl ps := by
    show [] ++ nc nl ps ++ [] = _; simp
  rw [e9]
  have on : Ow ((h1.push ⟨nc 0 nZero, true⟩).put h1.next (some ⟨nc nl ps, true⟩)) h1.next (nc nl ps) := Ow.put _ (Nat.lt_succ_self _)
  have f2 : Fr no h1 ((h1.push ⟨nc 0 nZero, true⟩).put h1.next (some ⟨nc nl ps, true⟩)) := (Fr.push _ _ _).trans (Fr.put (m := (· = h1.next)) _ (.inl rfl)) (fun j hj => .inr (by omega))
  have f12 := f1.same f2
  have hq : lo ≤ h1.next := Nat.le_trans hln f1.next
  have hnrow : ∀ b, At nv b → b ≠ h1.next := fun b ha => by have := hnv b ha; have := f1.next; omega
  generalize (h1.push ⟨nc 0 nZero, true⟩).put h1.next (some ⟨nc nl ps, true⟩) = h2 at *
  generalize h1.next = q at *
  have tw2 := tw0.quiet f12
  clear ow om row hln tw0
  obtain ⟨ow, om, row, _, _, _, _, hln⟩ := tw2
  have row : Row lo h2 nv 1 ns.length (is ns) := row
  have tw2 : TW lo h2 iv B wb mb nv (m, ns, false) := ⟨ow, om, row, hlen, hne, hlw, hlm, hln⟩
  have F2 : Fr (TM lo wb mb) h h2 := f12.weak (fun _ g => g.elim)
  -- is it none, or met?
  refine RunC.seq (RunC.seqE (upd (upd (upd (upd (upd (upd E0 0 (.pointer (some ⟨wb, 0, none⟩))) 1 (.int .i64 at_)) 2 (.int .i64 (lv : Int))) 3 (.int .i64 (from_ : Int))) 8 (.pointer (some ⟨q, 0, none⟩))) 36 (.bool (!atIs L B at_ (lv : Int) || ns.contains at_))) ?_ ?_)
  · refine RunC.region (RunO.part 3 rfl ?_)
    cases atIs L B at_ (lv : Int) with
    | false => exact RunO.all rfl ⟨rfl, Le.cons rfl (Le.cons rfl (Le.cons rfl (Le.cons rfl (Le.cons rfl (Le.cons rfl (Le.nil _))))))⟩
    | true =>
      refine RunO.part 3 rfl ?_
      refine RunO.loadG (v := nv) rfl rfl (ow.ld rfl) rfl ?_
      refine RunO.part 1 rfl ?_
      refine RunO.callDG rfl (containsInt_ok (row.sl (by show ns.length ≤ _; omega)) (by show ns.length ≤ _; omega)) rfl rfl rfl ?_
      rintro _ _ ⟨rfl, rfl⟩
      exact RunO.all rfl ⟨rfl, Le.cons rfl (Le.cons rfl (Le.cons rfl (Le.cons rfl (Le.cons rfl (Le.cons rfl (Le.nil _))))))⟩
  generalize (!atIs L B at_ (lv : Int) || ns.contains at_) = bd
  cases bd with
  | true =>
    rw [if_pos rfl]
    refine RunC.cond rfl (fun _ => ?_) (fun g => by cases g)
    obtain ⟨e1, e2, e3⟩ := tw2.bad
    refine RunC.seq (RunC.region (RunO.part 3 rfl ?_))
    refine RunO.store rfl rfl e1 (RunO.all rfl ?_)
    exact RunC.ret ⟨_, rfl, rfl, nv, e2, F2.same e3⟩
  | false =>
  rw [if_neg Bool.false_ne_true]
  refine RunC.cond rfl (fun g => by cases g) (fun _ => RunC.skip ?_)
  -- one node more
  refine RunC.seq (RunC.region (RunO.part 4 rfl ?_))
  refine RunO.load (v := nv) rfl (ow.ld rfl) rfl ?_
  refine RunO.part 2 (h1 := h2.push ⟨is [at_], true⟩) rfl ?_
  have fp : Fr no h2 (h2.push ⟨is [at_], true⟩) := Fr.push _ _ _
  have ob := Ow.push h2 (is [at_])
  have rowp := row.fr fp (fun _ _ _ g => g)
  have owp := ow.fr fp (fun g => g)
  have omp := om.fr fp (fun g => g)
  have onp := on.fr fp (fun g => g)
  have hlnp : lo ≤ (h2.push ⟨is [at_], true⟩).next := Nat.le_trans hln fp.next
  generalize h2.push ⟨is [at_], true⟩ = h3 at *
  refine RunO.append (s := 1) (m := 1) rfl rfl rfl rfl rfl rfl rfl rfl (Nat.le_refl 1) rowp hlnp ob.all rfl (Nat.le_refl 1) rfl (by show 2 * (ns.length + 1) * 8 ≤ _; omega) (by omega) ?_
  intro nv2 h4 row4 f4
  have hat : ∀ b, At nv b → lo ≤ b ∧ b < h3.next := fun b ha => rowp.at ha
  have ow4 := owp.fr f4 (fun g => by have := (hat _ g).1; omega)
  have om4 := omp.fr f4 (fun g => by have := (hat _ g).1; omega)
  have on4 := onp.fr f4 (fun g => hnrow _ g rfl)
  refine RunO.part 2 rfl ?_
  refine RunO.store rfl rfl (store1_ow ow4 rfl row4.cell.1 row4.cell.2 (Nat.le_of_ble_eq_true rfl)) (RunO.all rfl ?_)
  change RunC _ _ _ _ (h4.put wb (some ⟨wc iv B (.slice (some ⟨mb, 0, none⟩) 512 (exc 512)) nv2 false, true⟩)) _ _ _
  rw [← is_app] at row4
  have fw : Fr (· = wb) h4 (h4.put wb (some ⟨wc iv B (.slice (some ⟨mb, 0, none⟩) 512 (exc 512)) nv2 false, true⟩)) := Fr.put _ (.inl rfl)
  have tw5 : TW lo (h4.put wb (some ⟨wc iv B (.slice (some ⟨mb, 0, none⟩) 512 (exc 512)) nv2 false, true⟩)) iv B wb mb nv2 (m, ns ++ [at_], false) :=
    ⟨Ow.put _ ow4.1, om4.fr fw (fun e => hne e.symm), by
      have := row4.fr fw (fun b h1 _ e => by omega)
      rw [List.length_append]; exact this, hlen, hne, hlw, hlm, Nat.le_trans hlnp f4.next⟩
  have on5 := on4.fr fw (show ¬ q = wb by omega)
  have F5 : Fr (TM lo wb mb) h (h4.put wb (some ⟨wc iv B (.slice (some ⟨mb, 0, none⟩) 512 (exc 512)) nv2 false, true⟩)) :=
    ((F2.quiet fp).trans f4 (fun b g => .inl (.inr (.inr (hat b g).1)))).trans fw (fun b e => .inl (.inl e))
  have hn5 : (ns ++ [at_]).length + 8 * rN lv ≤ 100000 := by
    rw [nN_eq] at hns
    rw [List.length_append, List.length_singleton]; omega
  generalize h4.put wb (some ⟨wc iv B (.slice (some ⟨mb, 0, none⟩) 512 (exc 512)) nv2 false, true⟩) = h5 at *
  generalize ns ++ [at_] = ns5 at *
  clear tw2 ow om row on ow4 om4 on4 owp omp onp rowp row4 f4 fp ob fw f12 f2 F2
  refine RunC.seq (RunC.region (RunO.part 1 rfl ?_))
  refine RunO.load (v := .agg ⟨is ps⟩) rfl (nc_ptrs hpl on5) rfl (RunO.all rfl ?_)
  refine RunC.block ?_
  obtain ⟨st, hst⟩ : ∃ st : TS → Nat → TS, st = fun w i => tstep (trec L B lv) B (lv == 0) w (ps.getD i 0) (from_ + i * 8 ^ lv) := ⟨_, rfl⟩
  rw [← hst]
  have hstb : ∀ w i, w.2.2 = true → st w i = w := fun w i hw => by rw [hst]; show tstep _ _ _ _ _ _ = _; unfold tstep; rw [if_pos hw]
  let I : Nat → Env → Heap → Prop := fun d E h' => ∃ (i : Nat) (nv' : Value), i + d = 8 ∧ TW lo h' iv B wb mb nv' ((List.range i).foldl st (m, ns5, false)) ∧ ((List.range i).foldl st (m, ns5, false)).2.1.length ≤ ns5.length + i * rN lv ∧ Fr (TM lo wb mb) h h' ∧ Le (upd (upd (upd (upd (upd E0 0 (.pointer (some ⟨wb, 0, none⟩))) 2 (.int .i64 (lv : Int))) 3 (.int .i64 (from_ : Int))) 51 (.agg ⟨is ps⟩)) 52 (.int .i64 (i : Int))) E
  refine RunC.loop I ?_ (k := 8) ?_
  · rintro d E h6 ⟨i, nv6, hi, tw6, hl6, F6, hE⟩
    refine RunC.le hE ?_
    clear hE
    have hsucc : (List.range (i + 1)).foldl st (m, ns5, false) = st ((List.range i).foldl st (m, ns5, false)) i := by rw [List.range_succ, List.foldl_append]; rfl
    have hall : ((List.range i).foldl st (m, ns5, false)).2.2 = true → (List.range 8).foldl st (m, ns5, false) = (List.range i).foldl st (m, ns5, false) := fun hw => by
      rw [range8_split (i := i) (by omega), foldl_range_bad hstb _ _ hw]
    obtain ⟨w', hw'⟩ : ∃ w', w' = (List.range (i + 1)).foldl st (m, ns5, false) := ⟨_, rfl⟩
    rw [← hw'] at hsucc
    have hfin : i = 8 → (List.range 8).foldl st (m, ns5, false) = (List.range i).foldl st (m, ns5, false) := fun e => by rw [e]
    generalize (List.range i).foldl st (m, ns5, false) = w at *
    obtain ⟨m6, n6, b6⟩ := w
    simp only at hl6 hall
    refine RunC.seq (RunC.region (RunO.all rfl ?_))
    refine RunC.seq (RunC.cond rfl (fun hlt => ?_) (fun hge => ?_))
    · have hlt := of_decide_eq_true hlt
      have hi8 : i < 8 := by omega
      have hps : i < ps.length := by omega
      have hpi : ps.getD i 0 = ps[i] := by rw [List.getD_eq_getElem?_getD, List.getElem?_eq_getElem hps]; rfl
      have hnth := is_nth hps
      have hsti : w' = tstep (trec L B lv) B (lv == 0) (m6, n6, b6) ps[i] (from_ + i * 8 ^ lv) := by rw [hsucc, hst, ← hpi]
      generalize ps[i] = p at *
      have hto : from_ + i * 8 ^ lv + 8 ^ lv ≤ 512 := by
        have : i * 8 ^ lv + 8 ^ lv ≤ 8 ^ lv * 8 := by rw [← Nat.succ_mul, Nat.mul_comm]; exact Nat.mul_le_mul_left _ hi8
        omega
      have hpos : 1 ≤ 8 ^ lv := Nat.pow_pos (by decide)
      obtain ⟨to_, hto_⟩ : ∃ t, t = from_ + i * 8 ^ lv := ⟨_, rfl⟩
      rw [← hto_] at hsti hto
      refine RunC.skip ?_
      refine RunC.seq (RunC.block ?_)
      refine RunC.seq (RunC.region (RunO.part 1 rfl ?_))
      refine RunO.one rfl (v := .int .i64 p) (h1 := h6) ?_ rfl (RunO.all rfl ?_)
      · show pureR h6 (cond (Nat.ble (Nat.succ i) 8) (nth (is ps) (Nat.mul i 1)) none) = _
        rw [Nat.ble_eq_true_of_le (by omega), cond_true, show Nat.mul i 1 = i from Nat.mul_one i, hnth]; rfl
      refine RunC.seq (RunC.region (RunO.part 3 rfl ?_))
      refine RunO.callD (nodUnder_ok (k := lv) (by omega)) rfl rfl rfl ?_
      rintro _ _ ⟨rfl, rfl⟩
      refine RunO.part 1 rfl ?_
      have h1c : (i : Int) * ((8 ^ lv : Nat) : Int) = ((i * 8 ^ lv : Nat) : Int) := by rw [Int.natCast_mul]
      rw [h1c, fw64 (x := ((i * 8 ^ lv : Nat) : Int)) (by omega) (by omega)]
      refine RunO.part 1 rfl ?_
      rw [fw64 (x := (from_ : Int) + ((i * 8 ^ lv : Nat) : Int)) (by omega) (by omega), show (from_ : Int) + ((i * 8 ^ lv : Nat) : Int) = (to_ : Int) by omega]
      refine RunO.all rfl ?_
      refine RunC.block ?_
      have ow6 := tw6.ow
      refine RunC.seq (RunC.region (RunO.part 3 rfl ?_))
      refine RunO.load (v := .bool b6) rfl (ow6.ld rfl) rfl (RunO.all rfl ?_)
      cases b6 with
      | true =>
        refine RunC.cond rfl (fun _ => ?_) (fun g => by cases g)
        rw [hall rfl]
        exact RunC.ret ⟨_, rfl, rfl, nv6, tw6, F6⟩
      | false =>
      refine RunC.cond rfl (fun g => by cases g) (fun _ => ?_)
      have hrl : n6.length + rN lv ≤ 100000 := by
        have : i * rN lv + rN lv ≤ 8 * rN lv := by rw [← Nat.succ_mul]; exact Nat.mul_le_mul_right _ hi8
        omega
      have hnsl : w'.2.1.length ≤ ns5.length + (i + 1) * rN lv := by
        have := tstep_ns (trec_ns L B lv) B (lv == 0) (m6, n6, false) p to_
        rw [← hsti] at this
        rw [Nat.succ_mul]
        simp only at this
        omega
      -- what the loop goes on with
      have next : ∀ (h7 : Heap) (nv7 : Value), TW lo h7 iv B wb mb nv7 w' → Fr (TM lo wb mb) h h7 → ∀ E, Le (upd (upd (upd (upd (upd E0 0 (.pointer (some ⟨wb, 0, none⟩))) 2 (.int .i64 (lv : Int))) 3 (.int .i64 (from_ : Int))) 51 (.agg ⟨is ps⟩)) 52 (.int .i64 ((i + 1 : Nat) : Int))) E → ∃ d', d' < d ∧ I d' E h7 := by
        intro h7 nv7 t7 F7 E hE
        exact ⟨d - 1, by omega, i + 1, nv7, by omega, hw' ▸ t7, hw' ▸ hnsl, F7, hE⟩
      refine RunC.seq (RunC.region (RunO.part 4 rfl ?_))
      refine RunO.load (v := .int .i64 (B : Int)) rfl (ow6.ld rfl) rfl (RunO.all rfl ?_)
      cases hpB : decide (p ≥ (B : Int)) with
      | true =>
        have hw1 : w' = (m6, n6, true) := by rw [hsti]; unfold tstep; rw [if_neg Bool.false_ne_true, if_pos hpB]
        obtain ⟨e1, e2, e3⟩ := tw6.bad
        rw [← hw1] at e2
        refine RunC.cond rfl (fun _ => ?_) (fun g => by cases g)
        refine RunC.region (RunO.part 3 rfl ?_)
        refine RunO.store rfl rfl e1 (RunO.all rfl ?_)
        exact RunC.region (RunO.all rfl (next _ nv6 e2 (F6.same e3) _ (Le.cons (inc64 (by omega)) (Le.cons rfl (Le.cons rfl (Le.cons rfl (Le.cons rfl (Le.nil _))))))))
      | false =>
      refine RunC.cond rfl (fun g => by cases g) (fun _ => ?_)
      by_cases hp0 : p = 0
      · have hw1 : w' = (m6, n6, false) := by
          rw [hsti]; unfold tstep
          rw [if_neg Bool.false_ne_true, if_neg (by rw [hpB]; exact Bool.false_ne_true), hp0]; rfl
        rw [← hw1] at tw6
        subst hp0
        refine RunC.seq (RunC.region (RunO.all rfl (RunC.cond rfl (fun g => by cases g) (fun _ => ?_))))
        refine RunC.seq (RunC.region (RunO.all rfl (RunC.cond rfl (fun g => by cases g) (fun _ => RunC.skip ?_))))
        exact RunC.region (RunO.all rfl (next _ nv6 tw6 F6 _ (Le.cons (inc64 (by omega)) (Le.cons rfl (Le.cons rfl (Le.cons rfl (Le.cons rfl (Le.nil _))))))))
      have hpn : (p != 0) = true := bne_iff_ne.2 hp0
      refine RunC.seq (RunC.region (RunO.part 3 rfl ?_))
      rw [hpn]
      refine RunO.all rfl ?_
      cases hl0 : lv == 0 with
      | true =>
        have hl00 : lv = 0 := beq_iff_eq.1 hl0
        rw [show ((lv : Int) == 0) = true from beq_iff_eq.2 (by omega)]
        have hw1 : w' = (m6.set to_ p, n6, false) := by
          rw [hsti]; unfold tstep
          rw [if_neg Bool.false_ne_true, if_neg (by rw [hpB]; exact Bool.false_ne_true), hl0, hpn]; rfl
        refine RunC.cond rfl (fun _ => ?_) (fun g => by cases g)
        have hmt : to_ < m6.length := by have := tw6.len; simp only at this; omega
        refine RunC.region (RunO.part 3 rfl ?_)
        refine RunO.load (v := .slice (some ⟨mb, 0, none⟩) 512 (exc 512)) rfl (ow6.ld rfl) rfl ?_
        refine RunO.part 2 rfl ?_
        refine RunO.index (s := 1) rfl rfl rfl rfl (by omega) rfl ?_
        refine RunO.store rfl rfl (store1_ow tw6.om rfl rfl rfl (by rw [is_len]; simpa using hmt)) (RunO.all rfl ?_)
        have ei : (is m6).set (0 + to_ * 1) (.int .i64 p) = is (m6.set to_ p) := by rw [Nat.zero_add, Nat.mul_one]; unfold is; rw [List.map_set]
        have fm : Fr (· = mb) h6 (h6.put mb (some ⟨(is m6).set (0 + to_ * 1) (.int .i64 p), true⟩)) := Fr.put _ (.inl rfl)
        have t7 : TW lo (h6.put mb (some ⟨(is m6).set (0 + to_ * 1) (.int .i64 p), true⟩)) iv B wb mb nv6 (m6.set to_ p, n6, false) :=
          ⟨tw6.ow.fr fm hne, by show Ow _ mb (is (m6.set to_ p)); rw [← ei]; exact Ow.put _ tw6.om.1, tw6.row.fr fm (fun b h1 _ e => by omega), by show (m6.set to_ p).length = 512; rw [List.length_set]; exact tw6.len, hne, hlw, hlm, tw6.ln⟩
        rw [← hw1] at t7
        exact RunC.region (RunO.all rfl (next _ nv6 t7 (F6.trans fm (fun b e => .inl (.inr (.inl e)))) _ (Le.cons (inc64 (by omega)) (Le.cons rfl (Le.cons rfl (Le.cons rfl (Le.cons rfl (Le.nil _))))))))
      | false =>
        obtain ⟨k, rfl⟩ : ∃ k, lv = k + 1 := by
          cases lv with
          | zero => cases hl0
          | succ k => exact ⟨k, rfl⟩
        rw [show (((k + 1 : Nat) : Int) == 0) = false from beq_eq_false_iff_ne.2 (by omega)]
        have hw1 : w' = tgo L B k p to_ (m6, n6, false) := by
          rw [hsti]; unfold tstep
          rw [if_neg Bool.false_ne_true, if_neg (by rw [hpB]; exact Bool.false_ne_true), hl0, hpn]; rfl
        refine RunC.cond rfl (fun g => by cases g) (fun _ => ?_)
        refine RunC.seq (RunC.region (RunO.part 1 rfl ?_))
        refine RunO.part 1 rfl ?_
        rw [hpn]
        refine RunO.all rfl ?_
        refine RunC.cond rfl (fun _ => ?_) (fun g => by cases g)
        refine RunC.region (RunO.part 3 rfl ?_)
        refine RunO.part 1 rfl ?_
        rw [fw64 (x := ((k + 1 : Nat) : Int) - 1) (by omega) (by omega), show ((k + 1 : Nat) : Int) - 1 = (k : Int) by omega]
        refine RunO.part 1 rfl ?_
        refine RunO.callD (hrec k rfl (at_ := p) (from_ := to_) (sl_tm sl hiv F6) tw6 hrl hto rfl) rfl rfl rfl ?_
        rintro _ h7 ⟨rfl, nv7, t7, F7⟩
        rw [← hw1] at t7
        refine RunO.all rfl ?_
        exact RunC.region (RunO.all rfl (next _ nv7 t7 (F6.same F7) _ (Le.cons (inc64 (by omega)) (Le.cons rfl (Le.cons rfl (Le.cons rfl (Le.cons rfl (Le.nil _))))))))
    · have hge := of_decide_eq_false hge
      refine RunC.exit ?_
      rw [hfin (by omega)]
      exact ⟨_, rfl, rfl, nv6, tw6, F6⟩
  · exact ⟨0, nv2, by omega, tw5, by simp, F5, Le.cons rfl (Le.cons rfl (Le.cons rfl (Le.cons rfl (Le.cons rfl (Le.nil _)))))⟩
theorem treeGoes_ok {L : List Int} {B lo wb mb : Nat} {iv : Value} (hb : Byt L) (hB : B * 64 ≤ L.length) (hB2 : B ≤ 4096) (hm : L.length ≤ 4611686018427387904) (hiv : ∀ b o c, iv = .slice (some ⟨b, o, none⟩) L.length c → ¬ TM lo wb mb b) : ∀ (lv : Nat), lv ≤ 2 → GoesOk L B lo wb mb iv lv := by
  intro lv
  induction lv with
  | zero => intro h; exact goes_body hb hB hB2 hm hiv h (fun k e => by cases e)
  | succ k ih =>
    intro h
    exact goes_body hb hB hB2 hm hiv h (fun j e => by cases e; exact ih (by omega))
end Go.Proofs.Ytcbakhanpiemhaa
end
section
set_option linter.unusedVariables false
set_option maxRecDepth 100000
open Go Go.Am Go.RowKit
namespace Go.Proofs.Ytcbakhanpiemhaa
open Go.Proofs.Try
def treeW (L : List Int) (root : Int) : TS := tgo L (L.length / 64) 2 root 0 (List.replicate 512 0, [], false)
/-- Is there a tree at a root of a right device? -/
def treeOk (L : List Int) (root : Int) : Bool := root == 0 || (!(treeW L root).2.2 && !((treeW L root).1.any fun b => (treeW L root).2.1.contains b))
def treeM (L : List Int) (root : Int) : List Int := if root == 0 then List.replicate 512 0 else (treeW L root).1
def treeN (L : List Int) (root : Int) : List Int := if root == 0 then [] else (treeW L root).2.1
theorem treeW_len (L : List Int) (root : Int) : (treeW L root).1.length = 512 := by unfold treeW; rw [tgo_len]; exact List.length_replicate
theorem treeM_len (L : List Int) (root : Int) : (treeM L root).length = 512 := by
  unfold treeM; split
  · exact List.length_replicate
  · exact treeW_len L root
theorem treeW_ns (L : List Int) (root : Int) : (treeW L root).2.1.length ≤ 73 := by
  have := trec_ns L (L.length / 64) 3 root 0 (List.replicate 512 0, [], false)
  have e : rN 3 = 73 := rfl
  rw [e] at this
  have h2 : trec L (L.length / 64) 3 root 0 (List.replicate 512 0, [], false) = treeW L root := rfl
  rw [h2] at this
  simpa using this
/-- A walk that is told. -/
def WK (lo : Nat) (h : Heap) (wb : Nat) (iv : Value) (B : Nat) (m ns : List Int) : Prop :=
  ∃ mb nv, lo ≤ wb ∧ lo ≤ mb ∧ Ow h wb (wc iv B (.slice (some ⟨mb, 0, none⟩) 512 (exc 512)) nv false) ∧ Ow h mb (is m) ∧ Row lo h nv 1 ns.length (is ns) ∧ m.length = 512 ∧ ns.length ≤ 73
theorem Row.lo {lo lo' : Nat} {h : Heap} {v : Value} {s n : Nat} {cells : List Value} (r : Row lo h v s n cells) (hl : lo' ≤ lo) : Row lo' h v s n cells := by
  refine ⟨r.1, r.2.imp (fun x => x) ?_⟩
  rintro ⟨b, h1, h2⟩
  exact ⟨b, by omega, h2⟩
theorem treeGoC_ok {h : Heap} {pc wb : Nat} {iv mv nv : Value} {B : Nat} {bad : Bool} {ns : List Int} {lo : Nat} {b : Int} (op : Rd h ⟨pc, 0, none⟩ [.pointer (some ⟨wb, 0, none⟩)]) (ow : Ow h wb (wc iv B mv nv bad)) (row : Row lo h nv 1 ns.length (is ns)) (hl : ns.length ≤ 100000) :
    RunF prog 131 [.int .i64 b, .pointer (some ⟨pc, 0, none⟩)] h fun v h' => v = .bool (ns.contains b) ∧ Fr no h h' := by
  refine RunF.walk func131 rfl rfl ?_
  refine RunC.seq (RunC.region (RunO.all rfl ?_))
  refine RunC.seq (RunC.region ?_)
  refine RunO.load (v := .pointer (some ⟨wb, 0, none⟩)) rfl (op.ld rfl) rfl ?_
  refine RunO.part 2 rfl ?_
  refine RunO.load (v := nv) rfl (ow.ld rfl) rfl ?_
  refine RunO.part 1 rfl ?_
  refine RunO.callD (containsInt_ok (row.sl (by omega)) (by omega)) rfl rfl rfl ?_
  rintro _ _ ⟨rfl, rfl⟩
  exact RunO.all rfl (RunC.ret ⟨_, rfl, rfl, Fr.refl _ _⟩)
set_option maxHeartbeats 4000000 in
theorem treeGo_ok {h : Heap} {iv : Value} {L : List Int} {root : Int} (sl : Sl h iv 1 L.length (us L)) (hb : Byt L) (hd : devOk L.length = true) :
    RunF prog 105 [iv, .int .i64 root] h fun v h' => Fr no h h' ∧ ((treeOk L root = true ∧ ∃ wb, v = .tuple #[.pointer (some ⟨wb, 0, none⟩), .bool true] ∧ WK h.next h' wb iv (L.length / 64) (treeM L root) (treeN L root)) ∨ (treeOk L root = false ∧ v = .tuple #[.pointer none, .bool false])) := by
  have hdl : L.length % 64 = 0 ∧ 4 ≤ L.length / 64 ∧ L.length / 64 ≤ 4096 := by
    unfold devOk at hd
    simpa using hd
  have hm : L.length ≤ 4611686018427387904 := by omega
  refine RunF.walk func105 rfl rfl ?_
  have sl0 := sl
  obtain ⟨A, c, rfl, hc, hA⟩ := sl.form
  have hAlt : ∀ b o c', Value.slice A L.length c = .slice (some ⟨b, o, none⟩) L.length c' → b < h.next := fun b o c' e => by
    obtain ⟨b', o', rfl, rd⟩ := hA (by omega)
    cases e; exact rd.2.1
  refine RunC.seq (RunC.region (RunO.all rfl ?_))
  refine RunC.seq (RunC.region (RunO.part 1 rfl ?_))
  refine RunO.callD (devCheck_ok hm) rfl rfl rfl ?_
  rintro _ _ ⟨rfl, rfl⟩
  rw [hd, if_pos rfl, if_pos rfl]
  refine RunO.all rfl ?_
  obtain ⟨B, hBe⟩ : ∃ B, B = L.length / 64 := ⟨_, rfl⟩
  rw [← hBe] at hdl ⊢
  refine RunC.seq (RunC.region (RunO.part 2 rfl ?_))
  refine RunO.make (m := 512) rfl rfl rfl rfl rfl rfl (by decide) (by decide) rfl ?_
  rw [show reps (cellsOf (Value.int .i64 0)) 512 = is (List.replicate 512 0) by rw [show cellsOf (Value.int .i64 0) = [.int .i64 0] from rfl, reps_one]; unfold is; rw [List.map_replicate]]
  have om := Ow.push h (is (List.replicate 512 0))
  have f1 : Fr no h (h.push ⟨is (List.replicate 512 0), true⟩) := Fr.push _ _ _
  have hn1 : (h.push ⟨is (List.replicate 512 0), true⟩).next = h.next + 1 := rfl
  generalize h.push ⟨is (List.replicate 512 0), true⟩ = h1 at *
  generalize hmb : h.next = mb at om hn1 ⊢
  refine RunO.part 2 (h1 := h1.push ⟨wc (.slice A L.length c) B (.slice (some ⟨mb, 0, none⟩) 512 (exc 512)) (.slice none 0 0) false, true⟩) rfl ?_
  obtain ⟨iv, hiv⟩ : ∃ iv, iv = Value.slice A L.length c := ⟨_, rfl⟩
  rw [← hiv] at sl0 hAlt ⊢
  have ow := Ow.push h1 (wc iv B (.slice (some ⟨mb, 0, none⟩) 512 (exc 512)) (.slice none 0 0) false)
  have f2 : Fr no h1 (h1.push ⟨wc iv B (.slice (some ⟨mb, 0, none⟩) 512 (exc 512)) (.slice none 0 0) false, true⟩) := Fr.push _ _ _
  have hn2 : (h1.push ⟨wc iv B (.slice (some ⟨mb, 0, none⟩) 512 (exc 512)) (.slice none 0 0) false, true⟩).next = h1.next + 1 := rfl
  generalize h1.push ⟨wc iv B (.slice (some ⟨mb, 0, none⟩) 512 (exc 512)) (.slice none 0 0) false, true⟩ = h2 at *
  refine RunO.part 1 (h1 := h2.push ⟨[.pointer none], true⟩) rfl ?_
  refine RunO.store rfl rfl (store1_ow (Ow.push h2 [.pointer none]) rfl rfl rfl (Nat.le_refl 1)) (RunO.nil ?_)
  change RunC _ _ _ _ ((h2.push ⟨[.pointer none], true⟩).put h2.next (some ⟨[.pointer (some ⟨h1.next, 0, none⟩)], true⟩)) _ _ _
  have op : Ow ((h2.push ⟨[.pointer none], true⟩).put h2.next (some ⟨[.pointer (some ⟨h1.next, 0, none⟩)], true⟩)) h2.next [.pointer (some ⟨h1.next, 0, none⟩)] := Ow.put _ (Nat.lt_succ_self _)
  have f3 : Fr no h2 ((h2.push ⟨[.pointer none], true⟩).put h2.next (some ⟨[.pointer (some ⟨h1.next, 0, none⟩)], true⟩)) := (Fr.push _ _ _).trans (Fr.put (m := (· = h2.next)) _ (.inl rfl)) (fun j hj => .inr (by omega))
  have hn3 : ((h2.push ⟨[.pointer none], true⟩).put h2.next (some ⟨[.pointer (some ⟨h1.next, 0, none⟩)], true⟩)).next = h2.next + 1 := rfl
  replace om := (om.fr f2 (fun g => g)).fr f3 (fun g => g)
  replace ow := ow.fr f3 (fun g => g)
  have f13 := (f1.same f2).same f3
  generalize (h2.push ⟨[.pointer none], true⟩).put h2.next (some ⟨[.pointer (some ⟨h1.next, 0, none⟩)], true⟩) = h3 at *
  generalize h2.next = pc at *
  generalize h1.next = wb at *
  have hmB : B * 64 ≤ L.length := by omega
  have tm : ∀ b o c', iv = .slice (some ⟨b, o, none⟩) L.length c' → ¬ TM h3.next wb mb b := fun b o c' e => by
    have := hAlt b o c' e
    rintro (e | e | e) <;> omega
  have tw : TW h3.next h3 iv B wb mb (.slice none 0 0) (List.replicate 512 0, [], false) := ⟨ow, om, Row.nil _ _ _, List.length_replicate, by omega, by omega, by omega, Nat.le_refl _⟩
  have sl3 := sl0.fr0 f13
  refine RunC.seq (RunC.seq (RunC.region (RunO.all rfl ?_)))
  by_cases hr : root = 0
  · have h1 : treeOk L root = true := by unfold treeOk; rw [hr]; rfl
    have h2 : treeM L root = List.replicate 512 0 := by unfold treeM; rw [hr]; rfl
    have h3' : treeN L root = [] := by unfold treeN; rw [hr]; rfl
    rw [h1, h2, h3']
    subst hr
    refine RunC.cond rfl (fun _ => ?_) (fun g => by cases g)
    refine RunC.seq (RunC.region ?_)
    refine RunO.load (v := .pointer (some ⟨wb, 0, none⟩)) rfl (op.ld rfl) rfl (RunO.all rfl ?_)
    exact RunC.ret ⟨_, rfl, f13, .inl ⟨rfl, wb, rfl, mb, _, by omega, by omega, ow, om, Row.nil _ _ _, List.length_replicate, Nat.zero_le _⟩⟩
  rw [show (root == 0) = false from beq_eq_false_iff_ne.2 hr]
  refine RunC.cond rfl (fun g => by cases g) (fun _ => RunC.skip ?_)
  have hTok : treeOk L root = (!(treeW L root).2.2 && !((treeW L root).1.any fun b => (treeW L root).2.1.contains b)) := by unfold treeOk; rw [show (root == 0) = false from beq_eq_false_iff_ne.2 hr]; rfl
  have hTm : treeM L root = (treeW L root).1 := by unfold treeM; rw [show (root == 0) = false from beq_eq_false_iff_ne.2 hr]; rfl
  have hTn : treeN L root = (treeW L root).2.1 := by unfold treeN; rw [show (root == 0) = false from beq_eq_false_iff_ne.2 hr]; rfl
  rw [hTok, hTm, hTn]
  refine RunC.seq (RunC.region ?_)
  refine RunO.load (v := .pointer (some ⟨wb, 0, none⟩)) rfl (op.ld rfl) rfl ?_
  refine RunO.part 1 rfl ?_
  refine RunO.callD (treeGoes_ok hb hmB (by omega) hm tm 2 (by decide) (at_ := root) (from_ := 0) sl3 tw (by decide) (by decide) rfl) rfl rfl rfl ?_
  rintro _ h4 ⟨rfl, nv, t4, F4⟩
  have htw : tgo L B 2 root 0 (List.replicate 512 0, [], false) = treeW L root := by rw [hBe]; rfl
  rw [htw] at t4
  have hwl := treeW_len L root
  have hns := treeW_ns L root
  generalize treeW L root = w at *
  obtain ⟨m, ns, bad⟩ := w
  simp only at hwl hns
  obtain ⟨ow4, om4, row4, _, _, _, _, _⟩ := t4
  simp only at ow4 om4 row4
  have op4 := op.fr F4 (by rintro (e | e | e) <;> omega)
  have F04 : Fr no h h4 := (f13.trans F4 (fun i g => .inr (by rcases g with e | e | e <;> omega)))
  refine RunO.all rfl ?_
  have row0 : Row mb h4 nv 1 ns.length (is ns) := Row.lo row4 (by omega)
  refine RunC.seq (RunC.seq (RunC.region ?_))
  refine RunO.load (v := .pointer (some ⟨wb, 0, none⟩)) rfl (op4.ld rfl) rfl ?_
  refine RunO.part 2 rfl ?_
  refine RunO.load (v := .bool bad) rfl (ow4.ld rfl) rfl ?_
  refine RunO.part 1 rfl ?_
  cases bad with
  | true =>
    refine RunO.all rfl ?_
    refine RunC.cond rfl (fun _ => ?_) (fun g => by cases g)
    exact RunC.seq (RunC.region (RunO.all rfl (RunC.ret ⟨_, rfl, F04, .inr ⟨rfl, rfl⟩⟩)))
  | false =>
    refine RunO.loadG (v := .pointer (some ⟨wb, 0, none⟩)) rfl rfl (op4.ld rfl) rfl ?_
    refine RunO.part 2 rfl ?_
    refine RunO.loadG (v := .slice (some ⟨mb, 0, none⟩) 512 (exc 512)) rfl rfl (ow4.ld rfl) rfl ?_
    refine RunO.part 1 rfl ?_
    have slm : Sl h4 (.slice (some ⟨mb, 0, none⟩) 512 (exc 512)) 1 512 (is m) := om4.all.sl (by rw [is_len, hwl]) (by decide) (Cp.exc (Nat.le_refl _))
    refine RunO.callDG rfl (containsI_ok slm (u := fun j => .int .i64 (m.getD j 0)) (fun j hj => ?_) (p := fun j => ns.contains (m.getD j 0)) (fun j hj h5 f5 => ?_) (by decide)) rfl rfl rfl ?_
    · have hj2 : j < m.length := by omega
      rw [is_part hj2, List.getD_eq_getElem?_getD, List.getElem?_eq_getElem hj2]; rfl
    · exact treeGoC_ok (pc := pc) (op4.all.fr f5 (fun g => g)) (ow4.fr f5 (fun g => g)) (row4.fr f5 (fun _ _ _ g => g)) (by omega)
    rintro _ h5 ⟨rfl, f5⟩
    rw [← hwl, anyI_list (q := fun b => ns.contains b) (fun j x hx => by rw [List.getD_eq_getElem?_getD, hx]; rfl)]
    have ow5 := ow4.fr f5 (fun g => g)
    have om5 := om4.fr f5 (fun g => g)
    have op5 := op4.fr f5 (fun g => g)
    have row5 := row0.fr f5 (fun _ _ _ g => g)
    have F05 := F04.same f5
    refine RunO.all rfl ?_
    cases hc : m.any fun b => ns.contains b with
    | true =>
      refine RunC.cond rfl (fun _ => ?_) (fun g => by cases g)
      exact RunC.seq (RunC.region (RunO.all rfl (RunC.ret ⟨_, rfl, F05, .inr ⟨rfl, rfl⟩⟩)))
    | false =>
      refine RunC.cond rfl (fun g => by cases g) (fun _ => RunC.skip ?_)
      refine RunC.seq (RunC.region ?_)
      refine RunO.load (v := .pointer (some ⟨wb, 0, none⟩)) rfl (op5.ld rfl) rfl (RunO.all rfl ?_)
      exact RunC.ret ⟨_, rfl, F05, .inl ⟨rfl, wb, rfl, mb, nv, by omega, by omega, ow5, om5, row5, hwl, hns⟩⟩
end Go.Proofs.Ytcbakhanpiemhaa
end
section
set_option linter.unusedVariables false
set_option maxRecDepth 100000
open Go Go.Am Go.RowKit
namespace Go.Proofs.Ytcbakhanpiemhaa
open Go.Proofs.Try
theorem nd_sub {α : Type} [DecidableEq α] : ∀ (l d : List α), l.Nodup → (∀ x ∈ l, x ∈ d) → l.length ≤ d.length
  | [], d, _, _ => Nat.zero_le _
  | x :: l, d, hn, hs => by
    obtain ⟨h1, h2⟩ := List.nodup_cons.1 hn
    have hx : x ∈ d := hs x (List.mem_cons_self ..)
    have := nd_sub l (d.erase x) h2 (fun y hy => (List.mem_erase_of_ne (fun e => h1 (by rw [← e]; exact hy))).2 (hs y (List.mem_cons_of_mem _ hy)))
    rw [List.length_erase_of_mem hx] at this
    have : 0 < d.length := List.length_pos_of_mem hx
    rw [List.length_cons]; omega
theorem nd_blocks {B : Nat} {l : List Int} (h : l.Nodup) (hr : ∀ x ∈ l, 2 ≤ x ∧ x < (B : Int)) : l.length ≤ B - 2 := by
  have := nd_sub l ((List.range (B - 2)).map fun (j : Nat) => (j : Int) + 2) h (fun x hx => by
    obtain ⟨a, b⟩ := hr x hx
    refine List.mem_map.2 ⟨(x - 2).toNat, List.mem_range.2 (by omega), by omega⟩)
  rwa [List.length_map, List.length_range] at this
theorem idsN {lo s k n c kb tb : Nat} {h : Heap} {lv : Value} {cells : List Value} (r : Row lo h lv s k cells) (h1 : ∀ b, At lv b → b ≠ kb) (h2 : tb ≠ kb) : fpOk (.wr (idsOf [lv, .slice (some ⟨tb, 0, none⟩) n c])) (.rd kb) = true := by
  have key : ∀ l : List Nat, ¬ kb ∈ l → memN kb l = false := by
    intro l
    induction l with
    | nil => intro _; rfl
    | cons x l ih =>
      intro g
      simp only [List.mem_cons, not_or] at g
      unfold memN
      rw [show Nat.beq kb x = false from by cases e : Nat.beq kb x with | false => rfl | true => exact absurd (Nat.eq_of_beq_eq_true e) g.1]
      simpa using ih g.2
  show (!memN kb _) = true
  rw [key]
  · rfl
  · rcases r.2 with ⟨rfl, _⟩ | ⟨b, _, rfl, _⟩
    · simp only [idsOf, List.mem_cons, List.not_mem_nil, or_false]
      omega
    · have := h1 b ⟨_, _, rfl⟩
      simp only [idsOf, List.mem_cons, List.not_mem_nil, or_false]
      omega
/-- A chain of records, followed: what was met, and the block that is none of them. -/
def folB (B : Nat) (bs : List Int) (a : Int) : Bool := (decide (a < 2) || decide (a ≥ (B : Int))) || bs.contains a
def fol (L : List Int) (B : Nat) : Nat → Int → List R8 → List Int → Nat → List R8 × List Int × Nat × Int
  | 0, a, l, bs, w => (l, bs, w, a)
  | f + 1, a, l, bs, w => if a = 0 then (l, bs, w, 0) else if folB B bs a then (l, bs, w, a) else
    if (rCode (blkI L a.toNat) != 0) || !mayR l w (rPar (blkI L a.toNat)) then (l, bs, w, a) else
      fol L B f (rPar (blkI L a.toNat)).nx (l ++ [rPar (blkI L a.toNat)]) (bs ++ [a]) (if (rPar (blkI L a.toNat)).ki == 0 then w + 1 else w)
def folOf (L : List Int) (a : Int) : List R8 × List Int × Nat × Int := fol L (L.length / 64) (L.length / 64) a [] [] 0
theorem fol_end (L : List Int) (B f : Nat) (l : List R8) (bs : List Int) (w : Nat) : fol L B f 0 l bs w = (l, bs, w, 0) := by
  cases f with
  | zero => rfl
  | succ f => show (if (0 : Int) = 0 then _ else _) = _; rw [if_pos rfl]
/-- What follow leaves in memory. -/
def FolR (lo : Nat) (h : Heap) (kb : Nat) (x : List R8 × List Int × Nat × Int) : Prop :=
  ∃ lv bv, lo ≤ kb ∧ Ow h kb [lv, bv, .int .i64 (x.2.2.1 : Int), .int .i64 x.2.2.2] ∧ Row lo h lv 8 x.1.length (recCs x.1) ∧ Row lo h bv 1 x.2.1.length (is x.2.1)
set_option maxHeartbeats 32000000 in
theorem openFollow_ok {h : Heap} {iv : Value} {L : List Int} {a : Int} (sl : Sl h iv 1 L.length (us L)) (hb : Byt L) (hd : devOk L.length = true) :
    RunF prog 80 [iv, .int .i64 a] h fun v h' => Fr no h h' ∧ ∃ kb, v = .pointer (some ⟨kb, 0, none⟩) ∧ FolR h.next h' kb (folOf L a) := by
  have hdl : L.length % 64 = 0 ∧ 4 ≤ L.length / 64 ∧ L.length / 64 ≤ 4096 := by
    unfold devOk at hd
    simpa using hd
  have hm : L.length ≤ 4611686018427387904 := by omega
  refine RunF.walk func80 rfl rfl ?_
  have sl0 := sl
  obtain ⟨A, c, rfl, hc, hA⟩ := sl.form
  refine RunC.seq (RunC.region (RunO.all rfl ?_))
  refine RunC.seq (RunC.region (RunO.part 1 rfl ?_))
  refine RunO.callD (devCheck_ok hm) rfl rfl rfl ?_
  rintro _ _ ⟨rfl, rfl⟩
  rw [hd, if_pos rfl]
  have hB : ∃ B, B = L.length / 64 := ⟨_, rfl⟩
  have hfo : folOf L a = fol L (L.length / 64) (L.length / 64) a [] [] 0 := rfl
  obtain ⟨B, hB⟩ := hB
  rw [← hB] at hfo hdl ⊢
  refine RunO.all rfl ?_
  refine RunC.seq (RunC.region (RunO.all (h1 := h.push ⟨[.slice none 0 0, .slice none 0 0, .int .i64 0, .int .i64 0], true⟩) rfl ?_))
  have ok := Ow.push h [.slice none 0 0, .slice none 0 0, .int .i64 0, .int .i64 0]
  have f1 : Fr no h (h.push ⟨[.slice none 0 0, .slice none 0 0, .int .i64 0, .int .i64 0], true⟩) := Fr.push _ _ _
  generalize h.push ⟨[.slice none 0 0, .slice none 0 0, .int .i64 0, .int .i64 0], true⟩ = h1 at *
  obtain ⟨kb, hkb⟩ : ∃ q, q = h.next := ⟨_, rfl⟩
  rw [← hkb] at ok ⊢
  refine RunC.seq (RunC.seq (RunC.region (RunO.all rfl ?_)))
  refine RunC.block ?_
  refine RunC.loop (fun d E h' => ∃ (at_ : Int) (l : List R8) (bs : List Int) (w : Nat) (lv bv : Value), d + bs.length = B ∧ l.length = bs.length ∧ bs.Nodup ∧ (∀ x ∈ bs, 2 ≤ x ∧ x < (B : Int)) ∧ w ≤ bs.length ∧ folOf L a = fol L B d at_ l bs w ∧
      Fr no h h' ∧ Ow h' kb [lv, bv, .int .i64 (w : Int), .int .i64 0] ∧ Row kb h' lv 8 l.length (recCs l) ∧ Row kb h' bv 1 bs.length (is bs) ∧ (∀ b, At lv b → b ≠ kb ∧ ¬ At bv b) ∧ (∀ b, At bv b → b ≠ kb) ∧
      Le (upd (upd (upd (upd E0 0 (.slice A L.length c)) 5 (.int .i64 (B : Int))) 7 (.pointer (some ⟨kb, 0, none⟩))) 8 (.int .i64 at_)) E) ?st (k := B) ?ini
  case ini => exact ⟨a, [], [], 0, _, _, by simp, rfl, List.nodup_nil, fun x hx => absurd hx List.not_mem_nil, Nat.le_refl 0, hfo, f1, ok, Row.nil _ _ _, Row.nil _ _ _, (fun b g => by obtain ⟨_, _, e⟩ := g; cases e), (fun b g => by obtain ⟨_, _, e⟩ := g; cases e), Le.cons rfl (Le.cons rfl (Le.cons rfl (Le.cons rfl (Le.nil _))))⟩
  rintro d E g1 ⟨at_, l, bs, w, lv, bv, hdb, hll, hnd, hbr, hw, hfo, fg, ow, rl, rb, hx, hy, hE⟩
  refine RunC.le hE ?_
  clear hE
  refine RunC.seq (RunC.seq (RunC.region (RunO.all rfl ?_)))
  by_cases ha0 : at_ = 0
  · subst ha0
    refine RunC.cond rfl (fun g => by cases g) (fun _ => RunC.exit ?_)
    rw [fol_end] at hfo
    refine RunC.seq (RunC.region (RunO.all rfl (RunC.ret ⟨_, rfl, fg, kb, rfl, ?_⟩)))
    rw [hfo]
    exact ⟨lv, bv, Nat.le_refl _, ow, rl, rb⟩
  rw [show (at_ != 0) = true from bne_iff_ne.2 ha0]
  refine RunC.cond rfl (fun _ => RunC.skip ?_) (fun g => by cases g)
  have hbl := nd_blocks hnd hbr
  obtain ⟨f, rfl⟩ : ∃ f, d = f + 1 := ⟨d - 1, by omega⟩
  have hstep : fol L B (f + 1) at_ l bs w = if folB B bs at_ then (l, bs, w, at_) else
    if (rCode (blkI L at_.toNat) != 0) || !mayR l w (rPar (blkI L at_.toNat)) then (l, bs, w, at_) else
      fol L B f (rPar (blkI L at_.toNat)).nx (l ++ [rPar (blkI L at_.toNat)]) (bs ++ [at_]) (if (rPar (blkI L at_.toNat)).ki == 0 then w + 1 else w) := by
    show (if at_ = 0 then _ else _) = _
    rw [if_neg ha0]
  rw [hstep] at hfo
  refine RunC.block ?_
  -- the block is noted
  refine RunC.seq (RunC.region (RunO.part 4 rfl ?_))
  refine RunO.store rfl rfl (store1_ow ow rfl rfl rfl (Nat.le_of_ble_eq_true rfl)) (RunO.nil ?_)
  have ow2 : Ow (g1.put kb (some ⟨[lv, bv, .int .i64 (w : Int), .int .i64 at_], true⟩)) kb [lv, bv, .int .i64 (w : Int), .int .i64 at_] := Ow.put _ ow.1
  have fp : Fr (· = kb) g1 (g1.put kb (some ⟨[lv, bv, .int .i64 (w : Int), .int .i64 at_], true⟩)) := Fr.put _ (.inl rfl)
  have rl2 := rl.frm fp (fun b g e => (hx b g).1 e)
  have rb2 := rb.frm fp (fun b g e => hy b g e)
  have fg2 : Fr no h (g1.put kb (some ⟨[lv, bv, .int .i64 (w : Int), .int .i64 at_], true⟩)) := fg.trans fp (fun b e => .inr (by omega))
  show RunC prog _ _ _ (g1.put kb (some ⟨[lv, bv, .int .i64 (w : Int), .int .i64 at_], true⟩)) _ _ _
  generalize g1.put kb (some ⟨[lv, bv, .int .i64 (w : Int), .int .i64 at_], true⟩) = g2 at *
  have hret : FolR kb g2 kb (l, bs, w, at_) := ⟨lv, bv, Nat.le_refl _, ow2, rl2, rb2⟩
  have slb := rb2.sl (by omega)
  have sll := rl2.sl (by omega)
  refine RunC.seq (RunC.seq (RunC.region (RunO.part 3 rfl ?_)))
  have hF : folB B bs at_ = ((decide (at_ < 2) || decide (at_ ≥ (B : Int))) || bs.contains at_) := rfl
  cases h2 : decide (at_ < 2) with
  | true =>
    rw [hF, h2, Bool.true_or, Bool.true_or, if_pos rfl] at hfo
    refine RunO.all rfl (RunC.cond rfl (fun _ => ?_) (fun g => by cases g))
    exact RunC.seq (RunC.region (RunO.all rfl (RunC.ret ⟨_, rfl, fg2, kb, rfl, by rw [hfo]; exact hret⟩)))
  | false =>
  refine RunO.part 3 rfl ?_
  cases h3 : decide (at_ ≥ (B : Int)) with
  | true =>
    rw [hF, h2, h3, Bool.false_or, Bool.true_or, if_pos rfl] at hfo
    refine RunO.all rfl (RunC.cond rfl (fun _ => ?_) (fun g => by cases g))
    exact RunC.seq (RunC.region (RunO.all rfl (RunC.ret ⟨_, rfl, fg2, kb, rfl, by rw [hfo]; exact hret⟩)))
  | false =>
  refine RunO.part 5 rfl ?_
  refine RunO.loadG (v := bv) rfl rfl (ow2.ld rfl) rfl ?_
  refine RunO.part 1 rfl ?_
  refine RunO.callDG rfl (containsInt_ok slb (by omega)) rfl rfl rfl ?_
  rintro _ _ ⟨rfl, rfl⟩
  cases h4 : bs.contains at_ with
  | true =>
    rw [hF, h2, h3, h4, Bool.false_or, Bool.false_or, if_pos rfl] at hfo
    refine RunO.all rfl (RunC.cond rfl (fun _ => ?_) (fun g => by cases g))
    exact RunC.seq (RunC.region (RunO.all rfl (RunC.ret ⟨_, rfl, fg2, kb, rfl, by rw [hfo]; exact hret⟩)))
  | false =>
  rw [hF, h2, h3, h4, Bool.false_or, Bool.false_or, if_neg Bool.false_ne_true] at hfo
  refine RunO.all rfl (RunC.cond rfl (fun g => by cases g) (fun _ => RunC.skip ?_))
  have h2 := of_decide_eq_false h2
  have h3 := of_decide_eq_false h3
  -- the record
  obtain ⟨an, han⟩ := Int.eq_ofNat_of_zero_le (show 0 ≤ at_ by omega)
  subst han
  rw [Int.toNat_natCast] at hfo
  have haL : (an + 1) * 64 ≤ L.length := by
    have : an + 1 ≤ B := by omega
    have := Nat.mul_le_mul_right 64 this
    omega
  obtain ⟨ib, io, rfl, rd⟩ := hA (by omega)
  have rdb : Rd g2 ⟨ib, io, none⟩ (us L) := rd.fr fg2 (fun g => g)
  refine RunC.seq (RunC.region (RunO.part 2 rfl ?_))
  refine RunO.callD (devOf_ok (o := io) haL hm hc) rfl rfl rfl ?_
  rintro _ _ ⟨⟨c', hc', rfl⟩, rfl⟩
  have hbl2 := blkI_len haL
  have hparse := recParse_ok (h := g2) (A := some ⟨ib, io + an * 64, none⟩) (c := c') (l := blkI L an) (fun _ => ⟨_, rfl, rdBlk rdb haL⟩) (byt_blk hb an) (by rw [hbl2]; exact hc')
  rw [hbl2, rCells_eq] at hparse
  refine RunO.callD hparse rfl rfl rfl ?_
  rintro _ g3 ⟨rfl, f3⟩
  generalize rPar (blkI L an) = r at *
  generalize rCode (blkI L an) = rcd at *
  have ow3 := ow2.fr f3 (fun g => g)
  have rl3 := rl2.fr f3 (fun _ _ _ g => g)
  have rb3 := rb2.fr f3 (fun _ _ _ g => g)
  have fg3 := fg2.same f3
  refine RunO.part 4 (h1 := g3.push ⟨rc8 ⟨0, 0, 0, 0, 0, 0, 0, 0⟩, true⟩) rfl ?_
  refine RunO.store rfl rfl (store_ow (s := 8) (Ow.push g3 (rc8 ⟨0, 0, 0, 0, 0, 0, 0, 0⟩)) rfl rfl rfl (Nat.le_refl 8)) (RunO.all rfl ?_)
  have e8 : (rc8 ⟨0, 0, 0, 0, 0, 0, 0, 0⟩).take 0 ++ cellsOf (.agg ⟨rc8 r⟩) ++ (rc8 ⟨0, 0, 0, 0, 0, 0, 0, 0⟩).drop (0 + 8) = rc8 r := rfl
  rw [e8]
  have on : Ow ((g3.push ⟨rc8 ⟨0, 0, 0, 0, 0, 0, 0, 0⟩, true⟩).put g3.next (some ⟨rc8 r, true⟩)) g3.next (rc8 r) := Ow.put _ (Nat.lt_succ_self _)
  have f4 : Fr no g3 ((g3.push ⟨rc8 ⟨0, 0, 0, 0, 0, 0, 0, 0⟩, true⟩).put g3.next (some ⟨rc8 r, true⟩)) := (Fr.push _ _ _).trans (Fr.put (m := (· = g3.next)) _ (.inl rfl)) (fun j hj => .inr (by omega))
  have hkl := ow3.1
  have hlx : ∀ b, At lv b → b < g3.next := fun b g => (rl3.at g).2
  have hbx : ∀ b, At bv b → b < g3.next := fun b g => (rb3.at g).2
  replace ow3 := ow3.fr f4 (fun g => g)
  replace rl3 := rl3.fr f4 (fun _ _ _ g => g)
  replace rb3 := rb3.fr f4 (fun _ _ _ g => g)
  replace fg3 := fg3.same f4
  generalize (g3.push ⟨rc8 ⟨0, 0, 0, 0, 0, 0, 0, 0⟩, true⟩).put g3.next (some ⟨rc8 r, true⟩) = g4 at *
  obtain ⟨pb, hpb⟩ : ∃ q, q = g3.next := ⟨_, rfl⟩
  rw [← hpb] at on hkl hlx hbx ⊢
  have hret4 : FolR kb g4 kb (l, bs, w, (an : Int)) := ⟨lv, bv, Nat.le_refl _, ow3, rl3, rb3⟩
  have sll4 := rl3.sl (by omega)
  refine RunC.seq (RunC.seq (RunC.region (RunO.part 3 rfl ?_)))
  by_cases hc0 : rcd = 0
  case neg =>
    rw [show (rcd != 0) = true from bne_iff_ne.2 hc0, Bool.true_or, if_pos rfl] at hfo
    rw [show (rcd != 0) = true from bne_iff_ne.2 hc0]
    refine RunO.all rfl (RunC.cond rfl (fun _ => ?_) (fun g => by cases g))
    exact RunC.seq (RunC.region (RunO.all rfl (RunC.ret ⟨_, rfl, fg3, kb, rfl, by rw [hfo]; exact hret4⟩)))
  subst hc0
  rw [show ((0 : Int) != 0) = false from rfl, Bool.false_or] at hfo
  refine RunO.part 1 rfl ?_
  refine RunO.loadG (v := .agg ⟨rc8 r⟩) rfl rfl (on.ld rfl) rfl ?_
  refine RunO.callDG rfl (openMay_ok (r := r) ow3 sll4 (by omega)) rfl rfl rfl ?_
  rintro _ g5 ⟨rfl, f5⟩
  replace on := on.fr f5 (fun g => g)
  replace ow3 := ow3.fr f5 (fun g => g)
  replace rl3 := rl3.fr f5 (fun _ _ _ g => g)
  replace rb3 := rb3.fr f5 (fun _ _ _ g => g)
  replace fg3 := fg3.same f5
  cases hmay : mayR l w r with
  | false =>
    rw [hmay, if_pos (by rfl)] at hfo
    refine RunO.all rfl (RunC.cond rfl (fun _ => ?_) (fun g => by cases g))
    exact RunC.seq (RunC.region (RunO.all rfl (RunC.ret ⟨_, rfl, fg3, kb, rfl, by rw [hfo]; exact ⟨lv, bv, Nat.le_refl _, ow3, rl3, rb3⟩⟩)))
  | true =>
  rw [hmay, if_neg (by simp)] at hfo
  refine RunO.all rfl (RunC.cond rfl (fun g => by cases g) (fun _ => RunC.skip ?_))
  -- how many are whole
  have hpk : pb ≠ kb := by omega
  obtain ⟨w2, hw2⟩ : ∃ w2, w2 = if r.ki == 0 then w + 1 else w := ⟨_, rfl⟩
  have hw2l : w2 ≤ w + 1 := by rw [hw2]; split <;> omega
  rw [← hw2] at hfo
  refine RunC.seqc (fun E' h' => Ow h' kb [lv, bv, .int .i64 (w2 : Int), .int .i64 (an : Int)] ∧ Fr (· = kb) g5 h' ∧ Le (upd (upd (upd (upd (upd E0 0 (.slice (some ⟨ib, io, none⟩) L.length c)) 5 (.int .i64 (B : Int))) 7 (.pointer (some ⟨kb, 0, none⟩))) 8 (.int .i64 (an : Int))) 9 (.pointer (some ⟨pb, 0, none⟩))) E') ?wh ?go
  case wh =>
    refine RunC.seq (RunC.region (RunO.part 1 rfl ?_))
    refine RunO.load (v := .int .i64 r.ki) rfl (on.ld rfl) rfl (RunO.all rfl ?_)
    cases hk : (r.ki == 0) with
    | true =>
      rw [hk, if_pos rfl] at hw2
      refine RunC.cond rfl (fun _ => ?_) (fun g => by cases g)
      refine RunC.region (RunO.part 3 rfl ?_)
      refine RunO.load (v := .int .i64 (w : Int)) rfl (ow3.ld rfl) rfl ?_
      refine RunO.part 1 rfl ?_
      rw [fw64 (x := (w : Int) + 1) (by omega) (by omega), show (w : Int) + 1 = (w2 : Int) by omega]
      refine RunO.part 2 rfl ?_
      refine RunO.store rfl rfl (store1_ow ow3 rfl rfl rfl (Nat.le_of_ble_eq_true rfl)) (RunO.nil ?_)
      exact ⟨Ow.put _ ow3.1, Fr.put _ (.inl rfl), Le.cons rfl (Le.cons rfl (Le.cons rfl (Le.cons rfl (Le.cons rfl (Le.nil _)))))⟩
    | false =>
      rw [hk, if_neg Bool.false_ne_true] at hw2
      subst hw2
      exact RunC.cond rfl (fun g => by cases g) (fun _ => RunC.skip ⟨ow3, Fr.refl _ _, Le.cons rfl (Le.cons rfl (Le.cons rfl (Le.cons rfl (Le.cons rfl (Le.nil _)))))⟩)
  rintro E' g6 ⟨ow6, f6, hE⟩
  refine RunC.le hE ?_
  clear hE
  have on6 := on.fr f6 hpk
  have rl6 := rl3.frm f6 (fun b g e => (hx b g).1 e)
  have rb6 := rb3.frm f6 (fun b g e => hy b g e)
  have fg6 : Fr no h g6 := fg3.trans f6 (fun b e => .inr (by omega))
  have slx := rl6.sl (by omega)
  have hkl6 := ow6.1
  have hpl6 := on6.1
  have hlx6 : ∀ b, At lv b → b < g6.next := fun b g => (rl6.at g).2
  have hbx6 : ∀ b, At bv b → b < g6.next := fun b g => (rb6.at g).2
  have hpl : ¬ At lv pb := fun g => by have := hlx pb g; omega
  have hpb2 : ¬ At bv pb := fun g => by have := hbx pb g; omega
  refine RunC.seq (RunC.drawW (fun b => b = kb ∨ At lv b ∨ At bv b) (p := (9, 13)) (ps := []) rfl ?_)
  refine RunW.pure rfl rfl (fun _ => rfl) rfl ?_
  refine RunW.pure rfl rfl (fun _ => rfl) rfl ?_
  refine RunW.pure rfl rfl (fun _ => rfl) rfl ?_
  refine RunW.pure rfl rfl (fun _ => rfl) rfl ?_
  refine RunW.pure rfl rfl (fun _ => rfl) rfl ?_
  refine RunW.pure rfl rfl (fun _ => rfl) rfl ?_
  refine RunW.load (v := lv) rfl rfl (ow6.ld rfl) rfl ?_
  refine RunW.load (v := .agg ⟨rc8 r⟩) rfl rfl (on6.ld rfl) rfl ?_
  refine RunW.new (ob := ⟨rc8 r, true⟩) rfl rfl (fun _ => rfl) rfl ?_
  have ot := Ow.push g6 (rc8 r)
  have f7 : Fr no g6 (g6.push ⟨rc8 r, true⟩) := Fr.push _ _ _
  have rl7 := rl6.fr f7 (fun _ _ _ g => g)
  have rb7 := rb6.fr f7 (fun _ _ _ g => g)
  have ow7 := ow6.fr f7 (fun g => g)
  have on7 := on6.fr f7 (fun g => g)
  have hn7 : g6.next < (g6.push ⟨rc8 r, true⟩).next := ot.1
  generalize g6.push ⟨rc8 r, true⟩ = g7 at *
  obtain ⟨tb, htb⟩ : ∃ q, q = (g6.lo g6.next).next := ⟨_, rfl⟩
  have htb2 : tb = g6.next := htb
  rw [← htb]
  rw [← htb2] at ot hn7
  refine RunW.append2 (s := 8) (j := 1) rfl rfl rfl rfl rfl rfl rfl rfl rfl (by decide) rl7 ot.all rfl (Nat.le_refl 1) rfl (by show 2 * (_ + 1) * 64 ≤ _; omega) (by omega) (fun b g => .inr (.inl g)) ?_
  intro lv2 g8 rl8 f8
  have ow8 := ow7.fr f8 (fun g => (hx kb g).1 rfl)
  have on8 := on7.fr f8 hpl
  have rb8 := rb7.frm f8 (fun b g e => (hx b e).2 g)
  refine RunW.pure rfl rfl (fun _ => rfl) rfl ?_
  refine RunW.pure rfl rfl (fun _ => rfl) rfl ?_
  refine RunW.pure rfl rfl (fun _ => rfl) rfl ?_
  refine RunW.load (v := bv) rfl rfl (ow8.ld rfl) rfl ?_
  refine RunW.pure rfl rfl (fun _ => rfl) rfl ?_
  refine RunW.new (ob := ⟨is [(an : Int)], true⟩) rfl rfl (fun _ => rfl) rfl ?_
  have ot2 := Ow.push g8 (is [(an : Int)])
  have f9 : Fr no g8 (g8.push ⟨is [(an : Int)], true⟩) := Fr.push _ _ _
  have rl9 := rl8.fr f9 (fun _ _ _ g => g)
  have rb9 := rb8.fr f9 (fun _ _ _ g => g)
  have ow9 := ow8.fr f9 (fun g => g)
  have on9 := on8.fr f9 (fun g => g)
  have hn9 : g8.next < (g8.push ⟨is [(an : Int)], true⟩).next := ot2.1
  generalize g8.push ⟨is [(an : Int)], true⟩ = g9 at *
  refine RunW.append2 (s := 1) (j := 1) rfl rfl rfl rfl rfl rfl rfl rfl rfl (by decide) rb9 ot2.all rfl (Nat.le_refl 1) rfl (by show 2 * (_ + 1) * 8 ≤ _; omega) (by omega) (fun b g => .inr (.inr g)) ?_
  intro bv2 ga rba fa
  have hn8 := f8.next
  have hl2 : ∀ b, At lv2 b → g7.next ≤ b ∧ b < g8.next := fun b g => rl8.at g
  have hb2 : ∀ b, At bv2 b → g9.next ≤ b ∧ b < ga.next := fun b g => rba.at g
  have hbo : ∀ b, At bv b → b < g7.next := fun b g => (rb7.at g).2
  have owa := ow9.fr fa (fun g => hy kb g rfl)
  have ona := on9.fr fa hpb2
  have rla := rl9.frm fa (fun b g e => by have := hl2 b g; have := hbo b e; omega)
  refine RunW.pure rfl rfl (fun _ => rfl) rfl ?_
  refine RunW.pure rfl rfl (fun _ => rfl) rfl ?_
  have hkg7 : kb < g7.next := by omega
  have hn9a := fa.next
  have hkg9 : kb < g9.next := by omega
  have fsb : Fr (· = kb) (ga.lo ga.next) ((ga.lo ga.next).put kb (some ⟨[lv2, bv, .int .i64 (w2 : Int), .int .i64 (an : Int)], true⟩)) := Fr.put _ (.inl rfl)
  have owb : Ow ((ga.lo ga.next).put kb (some ⟨[lv2, bv, .int .i64 (w2 : Int), .int .i64 (an : Int)], true⟩)) kb [lv2, bv, .int .i64 (w2 : Int), .int .i64 (an : Int)] := Ow.put _ owa.1
  have onb := Ow.fr (h := ga.lo ga.next) ona fsb hpk
  have rlb := Row.frm (h := ga.lo ga.next) rla fsb (fun b g e => by have := hl2 b g; have e : b = kb := e; omega)
  have rbb := Row.frm (h := ga.lo ga.next) rba fsb (fun b g e => by have := hb2 b g; have e : b = kb := e; omega)
  refine RunW.store rfl rfl rfl (store1_ow (h := ga.lo ga.next) owa rfl (rl8.cell).1 (rl8.cell).2 (Nat.le_of_ble_eq_true rfl)) (Fr.put _ (.inl (.inl rfl))) ?_
  show RunW prog _ _ _ _ _ ((ga.lo ga.next).put kb (some ⟨[lv2, bv, .int .i64 (w2 : Int), .int .i64 (an : Int)], true⟩)) _
  generalize (ga.lo ga.next).put kb (some ⟨[lv2, bv, .int .i64 (w2 : Int), .int .i64 (an : Int)], true⟩) = gb at *
  refine RunW.pure rfl rfl (fun _ => rfl) rfl ?_
  refine RunW.pure rfl rfl (fun _ => rfl) rfl ?_
  have fsc : Fr (· = kb) (gb.lo gb.next) ((gb.lo gb.next).put kb (some ⟨[lv2, bv2, .int .i64 (w2 : Int), .int .i64 (an : Int)], true⟩)) := Fr.put _ (.inl rfl)
  have owc : Ow ((gb.lo gb.next).put kb (some ⟨[lv2, bv2, .int .i64 (w2 : Int), .int .i64 (an : Int)], true⟩)) kb [lv2, bv2, .int .i64 (w2 : Int), .int .i64 (an : Int)] := Ow.put _ owb.1
  have onc := Ow.fr (h := gb.lo gb.next) onb fsc hpk
  have rlc := Row.frm (h := gb.lo gb.next) rlb fsc (fun b g e => by have := hl2 b g; have e : b = kb := e; omega)
  have rbc := Row.frm (h := gb.lo gb.next) rbb fsc (fun b g e => by have := hb2 b g; have e : b = kb := e; omega)
  refine RunW.store rfl rfl rfl (store1_ow (h := gb.lo gb.next) owb rfl (rba.cell).1 (rba.cell).2 (Nat.le_of_ble_eq_true rfl)) (Fr.put _ (.inl (.inl rfl))) ?_
  show RunW prog _ _ _ _ _ ((gb.lo gb.next).put kb (some ⟨[lv2, bv2, .int .i64 (w2 : Int), .int .i64 (an : Int)], true⟩)) _
  generalize (gb.lo gb.next).put kb (some ⟨[lv2, bv2, .int .i64 (w2 : Int), .int .i64 (an : Int)], true⟩) = gc at *
  refine RunW.pure rfl rfl (fun _ => rfl) rfl ?_
  refine RunW.pure rfl rfl (fun _ => rfl) rfl ?_
  have fsd : Fr (· = kb) (gc.lo gc.next) ((gc.lo gc.next).put kb (some ⟨[lv2, bv2, .int .i64 (w2 : Int), .int .i64 0], true⟩)) := Fr.put _ (.inl rfl)
  have owd : Ow ((gc.lo gc.next).put kb (some ⟨[lv2, bv2, .int .i64 (w2 : Int), .int .i64 0], true⟩)) kb [lv2, bv2, .int .i64 (w2 : Int), .int .i64 0] := Ow.put _ owc.1
  have ond := Ow.fr (h := gc.lo gc.next) onc fsd hpk
  have rld := Row.frm (h := gc.lo gc.next) rlc fsd (fun b g e => by have := hl2 b g; have e : b = kb := e; omega)
  have rbd := Row.frm (h := gc.lo gc.next) rbc fsd (fun b g e => by have := hb2 b g; have e : b = kb := e; omega)
  refine RunW.store rfl rfl rfl (store1_ow (h := gc.lo gc.next) owc rfl rfl rfl (Nat.le_of_ble_eq_true rfl)) (Fr.put _ (.inl (.inl rfl))) ?_
  show RunW prog _ _ _ _ _ ((gc.lo gc.next).put kb (some ⟨[lv2, bv2, .int .i64 (w2 : Int), .int .i64 0], true⟩)) _
  generalize (gc.lo gc.next).put kb (some ⟨[lv2, bv2, .int .i64 (w2 : Int), .int .i64 0], true⟩) = gd at *
  refine RunW.nil ⟨?_, fun lw F => ?_⟩
  · show cond (fpOk (.wr (idsOf [lv, .slice (some ⟨tb, 0, none⟩) 1 (exc 1)])) (.rd kb)) true false = true
    rw [idsN rl7 (fun b g => (hx b g).1) (by omega)]; rfl
  have owz : Ow (gd.lo lw) kb [lv2, bv2, .int .i64 (w2 : Int), .int .i64 0] := owd
  have onz : Ow (gd.lo lw) pb (rc8 r) := ond
  have rlz : Row kb (gd.lo lw) lv2 8 (l ++ [r]).length (recCs (l ++ [r])) := by
    have e1 : recCs l ++ rc8 r = recCs (l ++ [r]) := by rw [recCs_app]; show _ = _ ++ (rc8 r ++ []); rw [List.append_nil]
    have rld : Row g7.next (gd.lo lw) lv2 8 (l.length + 1) (recCs l ++ rc8 r) := rld
    rw [e1] at rld
    rw [List.length_append]
    exact Row.lo rld (by omega)
  have rbz : Row kb (gd.lo lw) bv2 1 (bs ++ [(an : Int)]).length (is (bs ++ [(an : Int)])) := by
    have e1 : is bs ++ is [(an : Int)] = is (bs ++ [(an : Int)]) := (List.map_append ..).symm
    have rbd : Row g9.next (gd.lo lw) bv2 1 (bs.length + 1) (is bs ++ is [(an : Int)]) := rbd
    rw [e1] at rbd
    rw [List.length_append]
    exact Row.lo rbd (by omega)
  refine RunC.region (RunO.part 1 rfl ?_)
  refine RunO.load (v := .int .i64 r.nx) rfl (onz.ld rfl) rfl (RunO.all rfl ?_)
  refine ⟨f, by omega, r.nx, l ++ [r], bs ++ [(an : Int)], w2, lv2, bv2, ?_, ?_, nodup_snoc hnd ?_, ?_, ?_, hfo, fg6.trans F (fun b g => .inr ?_), owz, rlz, rbz, ?_, ?_, Le.cons rfl (Le.cons rfl (Le.cons rfl (Le.cons rfl (Le.nil _))))⟩
  · rw [List.length_append, List.length_singleton]; omega
  · rw [List.length_append, List.length_append, hll]; rfl
  · intro g
    rw [List.contains_iff_mem.2 g] at h4; cases h4
  · intro x g
    rcases List.mem_append.1 g with g | g
    · exact hbr x g
    · rw [List.mem_singleton.1 g]; omega
  · rw [List.length_append, List.length_singleton]; omega
  · rcases g with g | g | g
    · omega
    · have := (rl.at g).1; omega
    · have := (rb.at g).1; omega
  · intro b g
    have h8 := hl2 b g
    exact ⟨by omega, fun g2 => by have := hb2 b g2; omega⟩
  · intro b g
    have := hb2 b g; omega
end Go.Proofs.Ytcbakhanpiemhaa
end
section
set_option linter.unusedVariables false
set_option linter.unusedSectionVars false
set_option maxRecDepth 100000
open Go Go.Am Go.RowKit
namespace Go.Proofs.Ytcbakhanpiemhaa
open Go.Proofs.Try
def bo (l : List Bool) : List Value := l.map Value.bool
theorem bo_len (l : List Bool) : (bo l).length = l.length := List.length_map _
theorem bo_part {l : List Bool} {i : Nat} (h : i < l.length) : apart prog 4 (bo l) (i * 1) = some (.bool (l.getD i false)) := by
  show nth (bo l) (i * 1) = _
  rw [Nat.mul_one, nth_eq, bo, List.getElem?_map, List.getElem?_eq_getElem h, List.getD_eq_getElem?_getD, List.getElem?_eq_getElem h]; rfl
theorem bo_set (l : List Bool) (i : Nat) (x : Bool) : (bo l).set (0 + i * 1) (.bool x) = bo (l.set i x) := by unfold bo; rw [List.map_set, Nat.zero_add, Nat.mul_one]
theorem getD_setBo (l : List Bool) {k : Nat} (hk : k < l.length) (v : Bool) (s : Nat) : (l.set k v).getD s false = if s = k then v else l.getD s false := by
  rw [List.getD_eq_getElem?_getD, List.getElem?_set]
  by_cases e : s = k
  · subst e; rw [if_pos rfl, if_pos rfl, if_pos hk]; rfl
  · rw [if_neg (Ne.symm e), if_neg e, List.getD_eq_getElem?_getD]
theorem cont_succ {l : List Int} {i : Nat} (h : i < l.length) (x : Int) : (l.take (i + 1)).contains x = (decide (x = l[i]) || (l.take i).contains x) := by
  rw [Bool.eq_iff_iff, List.contains_iff_mem, List.take_succ_eq_append_getElem h, List.mem_append, List.mem_singleton, Bool.or_eq_true, decide_eq_true_eq, List.contains_iff_mem]
  exact ⟨fun g => g.symm, fun g => g.symm⟩
/-- A tree that was walked: its block, its map, its nodes. -/
abbrev Tr3 : Type := Nat × List Int × List Int
def tps (l : List Tr3) : List Value := l.map fun t => .pointer (some ⟨t.1, 0, none⟩)
theorem tps_part {l : List Tr3} {i : Nat} (h : i < l.length) : apart prog 155 (tps l) (i * 1) = some (.pointer (some ⟨l[i].1, 0, none⟩)) := by
  show nth (tps l) (i * 1) = _
  rw [Nat.mul_one, nth_eq, tps, List.getElem?_map, List.getElem?_eq_getElem h]; rfl
/-- It reads so, and is in range. -/
def TrOk (B : Nat) (h : Heap) (t : Tr3) : Prop :=
  ∃ iv mv nv, Ow h t.1 (wc iv B mv nv false) ∧ Sl h mv 1 t.2.1.length (is t.2.1) ∧ Sl h nv 1 t.2.2.length (is t.2.2) ∧ t.2.1.length = 512 ∧ t.2.2.length ≤ 100000 ∧ (∀ x ∈ t.2.1, 0 ≤ x ∧ x < (B : Int)) ∧ ∀ x ∈ t.2.2, 0 ≤ x ∧ x < (B : Int)
theorem TrOk.fr0 {B : Nat} {h h' : Heap} {t : Tr3} (r : TrOk B h t) (f : Fr no h h') : TrOk B h' t := by
  obtain ⟨iv, mv, nv, h1, h2, h3, h4⟩ := r
  exact ⟨iv, mv, nv, h1.fr f (fun g => g), h2.fr0 f, h3.fr0 f, h4⟩
/-- The marks. -/
structure CW (h : Heap) (B pb nb rb sb : Nat) (N R S : List Bool) : Prop where
  op : Ow h pb [.slice (some ⟨nb, 0, none⟩) B (exc B), .slice (some ⟨rb, 0, none⟩) B (exc B), .slice (some ⟨sb, 0, none⟩) B (exc B)]
  on : Ow h nb (bo N)
  or : Ow h rb (bo R)
  os : Ow h sb (bo S)
  ln : N.length = B
  lr : R.length = B
  ls : S.length = B
structure CD (pb nb rb sb : Nat) : Prop where
  pn : pb ≠ nb
  pr : pb ≠ rb
  ps : pb ≠ sb
  nr : nb ≠ rb
  ns : nb ≠ sb
  rs : rb ≠ sb
section
variable {h : Heap} {B pb nb rb sb : Nat} {N R S : List Bool} (d : CD pb nb rb sb) (t : CW h B pb nb rb sb N R S)
include d t
theorem CW.putR {i : Nat} (x : Bool) : CW (h.put rb (some ⟨bo (R.set i x), true⟩)) B pb nb rb sb N (R.set i x) S := by
  have f : Fr (· = rb) h (h.put rb (some ⟨bo (R.set i x), true⟩)) := Fr.put _ (.inl rfl)
  exact ⟨t.op.fr f d.pr, t.on.fr f d.nr, Ow.put _ t.or.1, t.os.fr f (fun e => d.rs e.symm), t.ln, by rw [List.length_set]; exact t.lr, t.ls⟩
theorem CW.putN {i : Nat} (x : Bool) : CW (h.put nb (some ⟨bo (N.set i x), true⟩)) B pb nb rb sb (N.set i x) R S := by
  have f : Fr (· = nb) h (h.put nb (some ⟨bo (N.set i x), true⟩)) := Fr.put _ (.inl rfl)
  exact ⟨t.op.fr f d.pn, Ow.put _ t.on.1, t.or.fr f (fun e => d.nr e.symm), t.os.fr f (fun e => d.ns e.symm), by rw [List.length_set]; exact t.ln, t.lr, t.ls⟩
theorem CW.putS {i : Nat} (x : Bool) : CW (h.put sb (some ⟨bo (S.set i x), true⟩)) B pb nb rb sb N R (S.set i x) := by
  have f : Fr (· = sb) h (h.put sb (some ⟨bo (S.set i x), true⟩)) := Fr.put _ (.inl rfl)
  exact ⟨t.op.fr f d.ps, t.on.fr f d.ns, t.or.fr f d.rs, Ow.put _ t.os.1, t.ln, t.lr, by rw [List.length_set]; exact t.ls⟩
end
/-- What a block is of two kinds. -/
def isN (TL : List Tr3) (j : Nat) : Bool := TL.any fun t => t.2.2.contains (j : Int)
def isS (TL : List Tr3) (j : Nat) : Bool := TL.any fun t => decide (j ≠ 0) && t.2.1.contains (j : Int)
def clP (bl : List Int) (TL : List Tr3) (j : Nat) : Bool := (isS TL j && (isN TL j || bl.contains (j : Int))) || (isN TL j && bl.contains (j : Int))
theorem any_snoc {α : Type} {l : List α} {i : Nat} (h : i < l.length) (p : α → Bool) : (l.take (i + 1)).any p = ((l.take i).any p || p l[i]) := by
  rw [List.take_succ_eq_append_getElem h, List.any_append, List.any_cons, List.any_nil, Bool.or_false]
def imC (s5 : List Value) (sl : Value) (rv bv tv : Value) : List Value := s5 ++ [sl, rv, bv, tv]
end Go.Proofs.Ytcbakhanpiemhaa
end
