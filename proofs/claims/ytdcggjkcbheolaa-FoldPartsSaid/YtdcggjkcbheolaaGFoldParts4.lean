/- FoldParts: a calculus over an abstract machine that stands beside the model, and contracts of functions by it (part 4).
Conditions: what each theorem says of its arguments. -/
import Derived.Test.YtdcggjkcbheolaaGFoldParts3
section
set_option linter.unusedVariables false
set_option maxRecDepth 100000
open Go Go.Am
namespace Go.Proofs.Ytdcggjkcbheolaa
open Go.Proofs.Try
theorem superLay_ok {h : Heap} : RunF prog 104 [] h fun v h' => Row h.next h' v 2 5 (fcs (layF 4 [8, 4, 4, 4, 4])) ∧ Fr no h h' := by
  refine RunF.walk func104 rfl rfl ?_
  refine RunC.seq (RunC.region (RunO.all rfl ?_))
  refine RunC.seq (RunC.region (RunO.part 1 (h1 := h.push ⟨ns [8, 4, 4, 4, 4], true⟩) rfl ?_))
  refine RunO.callD (superLayout_ok (ss := [8, 4, 4, 4, 4]) (c := exc 5) (Ow.push h (ns [8, 4, 4, 4, 4])).all (by decide) (by decide)) rfl rfl rfl ?_
  rintro v h' ⟨hr, hf⟩
  refine RunO.all rfl (RunC.ret ⟨_, rfl, ?_, ?_⟩)
  · refine ⟨hr.1, hr.2.imp (fun x => x) ?_⟩
    rintro ⟨b, h1, h2⟩
    exact ⟨b, Nat.le_trans (Nat.le_succ _) h1, h2⟩
  · exact (Fr.push no _ _).same hf
theorem superIn_ok {h : Heap} {a lo hi : Int} : RunF prog 131 [.int .i64 a, .int .i64 lo, .int .i64 hi] h fun v h' => v = .bool (inB a lo hi) ∧ h = h' := by
  refine RunF.walk func131 rfl rfl ?_
  refine RunC.seq (RunC.region (RunO.all rfl ?_))
  refine RunC.seq (RunC.region (RunO.part 4 rfl ?_))
  unfold inB
  cases decide (a ≥ lo) with
  | true => exact RunO.all rfl (RunC.ret ⟨_, rfl, by simp, rfl⟩)
  | false => exact RunO.all rfl (RunC.ret ⟨_, rfl, by simp, rfl⟩)
/-- A superblock's cells. -/
def sc (g bl rt sz fi : Int) : List Value := [.int .i64 g, .int .i64 bl, .int .i64 rt, .int .i64 sz, .int .i64 fi]
def superOk (g bl rt sz fi : Int) : Bool :=
  ((inB g 1 1099511627776 && inB bl 4 4096) && inB sz 0 512) && ((rt == 0 || inB rt 2 (fwrap .i64 (bl - 1))) && (fi == 0 || inB fi 2 (fwrap .i64 (bl - 1))))
theorem superCheck_ok {h : Heap} {g bl rt sz fi : Int} : RunF prog 103 [.agg ⟨sc g bl rt sz fi⟩] h fun v h' => v = .int .i64 (if superOk g bl rt sz fi then 0 else 1) ∧ Fr no h h' := by
  refine RunF.walk func103 rfl rfl ?_
  refine RunC.seq (RunC.region (RunO.all (h1 := h.push ⟨sc g bl rt sz fi, true⟩) rfl ?_))
  have ow : Ow (h.push ⟨sc g bl rt sz fi, true⟩) h.next (sc g bl rt sz fi) := Ow.push _ _
  have f1 : Fr no h (h.push ⟨sc g bl rt sz fi, true⟩) := Fr.push _ _ _
  generalize h.push ⟨sc g bl rt sz fi, true⟩ = h1 at *
  refine RunC.seqE (upd (upd E0 1 (.pointer (some ⟨h.next, 0, none⟩))) 3 (.bool ((inB g 1 1099511627776 && inB bl 4 4096) && inB sz 0 512))) ?_ ?_
  · refine RunC.region (RunO.part 1 rfl ?_)
    refine RunO.load (v := .int .i64 g) rfl (ow.all.cell1 (k := 0) rfl rfl) rfl ?_
    refine RunO.callD superIn_ok rfl rfl rfl ?_
    rintro _ _ ⟨rfl, rfl⟩
    refine RunO.part 1 rfl ?_
    cases inB g 1 1099511627776 with
    | false => exact RunO.all rfl ⟨rfl, Le.cons rfl (Le.cons rfl (Le.nil _))⟩
    | true =>
      refine RunO.part 1 rfl ?_
      refine RunO.loadG (v := .int .i64 bl) rfl rfl (ow.all.cell1 (k := 1) rfl rfl) rfl ?_
      refine RunO.callDG rfl superIn_ok rfl rfl rfl ?_
      rintro _ _ ⟨rfl, rfl⟩
      refine RunO.part 2 rfl ?_
      cases inB bl 4 4096 with
      | false => exact RunO.all rfl ⟨rfl, Le.cons rfl (Le.cons rfl (Le.nil _))⟩
      | true =>
        refine RunO.part 1 rfl ?_
        refine RunO.loadG (v := .int .i64 sz) rfl rfl (ow.all.cell1 (k := 3) rfl rfl) rfl ?_
        refine RunO.callDG rfl superIn_ok rfl rfl rfl ?_
        rintro _ _ ⟨rfl, rfl⟩
        exact RunO.all rfl ⟨rfl, Le.cons rfl (Le.cons rfl (Le.nil _))⟩
  refine RunC.seqE (upd (upd (upd E0 1 (.pointer (some ⟨h.next, 0, none⟩))) 3 (.bool ((inB g 1 1099511627776 && inB bl 4 4096) && inB sz 0 512))) 4 (.bool (rt == 0 || inB rt 2 (fwrap .i64 (bl - 1))))) ?_ ?_
  · refine RunC.region (RunO.part 1 rfl ?_)
    refine RunO.load (v := .int .i64 rt) rfl (ow.all.cell1 (k := 2) rfl rfl) rfl ?_
    refine RunO.part 2 rfl ?_
    cases (rt == 0) with
    | true => exact RunO.all rfl ⟨rfl, Le.cons rfl (Le.cons rfl (Le.cons rfl (Le.nil _)))⟩
    | false =>
      refine RunO.part 1 rfl ?_
      refine RunO.loadG (v := .int .i64 rt) rfl rfl (ow.all.cell1 (k := 2) rfl rfl) rfl ?_
      refine RunO.part 1 rfl ?_
      refine RunO.loadG (v := .int .i64 bl) rfl rfl (ow.all.cell1 (k := 1) rfl rfl) rfl ?_
      refine RunO.part 1 rfl ?_
      refine RunO.callDG rfl superIn_ok rfl rfl rfl ?_
      rintro _ _ ⟨rfl, rfl⟩
      exact RunO.all rfl ⟨rfl, Le.cons rfl (Le.cons rfl (Le.cons rfl (Le.nil _)))⟩
  refine RunC.seqE (upd (upd (upd E0 3 (.bool ((inB g 1 1099511627776 && inB bl 4 4096) && inB sz 0 512))) 4 (.bool (rt == 0 || inB rt 2 (fwrap .i64 (bl - 1))))) 5 (.bool (fi == 0 || inB fi 2 (fwrap .i64 (bl - 1))))) ?_ ?_
  · refine RunC.region (RunO.part 1 rfl ?_)
    refine RunO.load (v := .int .i64 fi) rfl (ow.all.cell1 (k := 4) rfl rfl) rfl ?_
    refine RunO.part 2 rfl ?_
    cases (fi == 0) with
    | true => exact RunO.all rfl ⟨rfl, Le.cons rfl (Le.cons rfl (Le.cons rfl (Le.nil _)))⟩
    | false =>
      refine RunO.part 1 rfl ?_
      refine RunO.loadG (v := .int .i64 fi) rfl rfl (ow.all.cell1 (k := 4) rfl rfl) rfl ?_
      refine RunO.part 1 rfl ?_
      refine RunO.loadG (v := .int .i64 bl) rfl rfl (ow.all.cell1 (k := 1) rfl rfl) rfl ?_
      refine RunO.part 1 rfl ?_
      refine RunO.callDG rfl superIn_ok rfl rfl rfl ?_
      rintro _ _ ⟨rfl, rfl⟩
      exact RunO.all rfl ⟨rfl, Le.cons rfl (Le.cons rfl (Le.cons rfl (Le.nil _)))⟩
  unfold superOk
  generalize ((inB g 1 1099511627776 && inB bl 4 4096) && inB sz 0 512) = b1
  generalize (rt == 0 || inB rt 2 (fwrap .i64 (bl - 1))) = b2
  generalize (fi == 0 || inB fi 2 (fwrap .i64 (bl - 1))) = b3
  cases b1 <;> cases b2 <;> cases b3 <;> refine RunC.seq (RunC.seq (RunC.region (RunO.all rfl (RunC.cond rfl (fun g => ?_) (fun g => ?_))))) <;> first
    | (cases g; done)
    | exact RunC.seq (RunC.region (RunO.all rfl (RunC.ret ⟨_, rfl, rfl, f1⟩)))
    | exact RunC.skip (RunC.seq (RunC.region (RunO.all rfl (RunC.ret ⟨_, rfl, rfl, f1⟩))))
/-- A superblock's block. -/
def superBlock (g bl rt sz fi : Int) : List Int := makeB [87, 67, 85, 84] (layF 4 [8, 4, 4, 4, 4]) [g, bl, rt, sz, fi]
theorem superBytes_ok {h : Heap} {g bl rt sz fi : Int} : RunF prog 69 [.agg ⟨sc g bl rt sz fi⟩] h fun v h' => Fr no h h' ∧ ((superOk g bl rt sz fi = true ∧ ∃ b, h.next ≤ b ∧ v = .tuple #[.slice (some ⟨b, 0, none⟩) 64 (exc 64), .int .i64 0] ∧ Ow h' b (us (superBlock g bl rt sz fi))) ∨ (superOk g bl rt sz fi = false ∧ v = .tuple #[.slice none 0 0, .int .i64 1])) := by
  refine RunF.walk func69 rfl rfl ?_
  refine RunC.seq (RunC.region (RunO.all (h1 := h.push ⟨sc g bl rt sz fi, true⟩) rfl ?_))
  have ow : Ow (h.push ⟨sc g bl rt sz fi, true⟩) h.next (sc g bl rt sz fi) := Ow.push _ _
  have f1 : Fr no h (h.push ⟨sc g bl rt sz fi, true⟩) := Fr.push _ _ _
  generalize h.push ⟨sc g bl rt sz fi, true⟩ = h1 at *
  refine RunC.seq (RunC.region ?_)
  refine RunO.load (v := .agg ⟨sc g bl rt sz fi⟩) rfl (ow.all.part (k := 0) rfl) rfl ?_
  refine RunO.callD superCheck_ok rfl rfl rfl ?_
  rintro v h2 ⟨rfl, hf2⟩
  have f2 := f1.same hf2
  have ow2 := ow.fr hf2 (fun g => g)
  refine RunO.all rfl ?_
  cases hok : superOk g bl rt sz fi with
  | false =>
    refine RunC.seq (RunC.seq (RunC.region (RunO.all rfl (RunC.cond rfl (fun _ => ?_) (fun g => by cases g)))))
    exact RunC.seq (RunC.region (RunO.all rfl (RunC.ret ⟨_, rfl, f2, .inr ⟨rfl, rfl⟩⟩)))
  | true =>
    refine RunC.seq (RunC.seq (RunC.region (RunO.all rfl (RunC.cond rfl (fun g => by cases g) (fun _ => RunC.skip ?_)))))
    refine RunC.seq (RunC.draw (l0 := min h2.low h2.next) (Nat.min_le_left _ _) rfl ?_)
    refine RunD.callD superLay_ok rfl rfl rfl ?_
    rintro v h3 ⟨hr, hf3⟩
    have hl3 : min h2.low h2.next ≤ h3.low := hf3.from (Nat.min_le_right _ _) (fun _ g => g.elim)
    refine ⟨hl3, ?_⟩
    have ow3 : Ow h3 h.next (sc g bl rt sz fi) := Ow.fr (h := h2.lo h2.next) ow2 hf3 (fun g => g)
    have hn3 : min h2.low h2.next ≤ h3.next := Nat.le_trans (Nat.min_le_right _ _) hf3.next
    obtain ⟨bf, hbf, rfl, owf⟩ := rowOut hr (by decide)
    have hq := hf3.quietB
    rw [hq]
    refine RunD.pure hn3 rfl rfl (fun _ => rfl) rfl ?_
    refine RunD.load (v := .int .i64 g) hn3 rfl (ow3.all.cell1 (k := 0) rfl rfl) rfl ?_
    refine RunD.pure hn3 rfl rfl (fun _ => rfl) rfl ?_
    refine RunD.load (v := .int .i64 bl) hn3 rfl (ow3.all.cell1 (k := 1) rfl rfl) rfl ?_
    refine RunD.pure hn3 rfl rfl (fun _ => rfl) rfl ?_
    refine RunD.load (v := .int .i64 rt) hn3 rfl (ow3.all.cell1 (k := 2) rfl rfl) rfl ?_
    refine RunD.pure hn3 rfl rfl (fun _ => rfl) rfl ?_
    refine RunD.load (v := .int .i64 sz) hn3 rfl (ow3.all.cell1 (k := 3) rfl rfl) rfl ?_
    refine RunD.pure hn3 rfl rfl (fun _ => rfl) rfl ?_
    refine RunD.load (v := .int .i64 fi) hn3 rfl (ow3.all.cell1 (k := 4) rfl rfl) rfl ?_
    refine RunD.one (h1 := (h3.lo h3.next).push ⟨is [g, bl, rt, sz, fi], true⟩) rfl rfl (fun _ => rfl) hn3 rfl ?_
    have ow4 := Ow.push (h3.lo h3.next) (is [g, bl, rt, sz, fi])
    have f4 : Fr no h3 ((h3.lo h3.next).push ⟨is [g, bl, rt, sz, fi], true⟩) := ⟨Nat.le_succ _, (Fr.push no (h3.lo h3.next) _).get, fun l a b c => b⟩
    have owf4 := owf.fr f4 (fun g => g)
    generalize (h3.lo h3.next).push ⟨is [g, bl, rt, sz, fi], true⟩ = h4 at *
    refine RunD.callD (superMake_ok (h := h4.lo h4.next) (mb := [87, 67, 85, 84]) (fl := layF 4 [8, 4, 4, 4, 4]) (nums := [g, bl, rt, sz, fi]) rfl rfl owf4.all ow4.all rfl (by decide) (by decide)) rfl rfl rfl ?_
    rintro v h5 ⟨b, hb, rfl, ow5, hf5⟩
    have hn4 : min h2.low h2.next ≤ h4.next := Nat.le_trans hn3 f4.next
    refine ⟨hf5.from hn4 (fun _ g => g.elim), ?_⟩
    rw [hf5.quietB]
    have hn5 : min h2.low h2.next ≤ h5.next := Nat.le_trans hn4 hf5.next
    refine RunD.pure hn5 rfl rfl (fun _ => rfl) rfl ?_
    refine RunD.pure hn5 rfl rfl (fun _ => rfl) rfl ?_
    refine RunD.nil ⟨rfl, fun lw hlw => ?_⟩
    refine RunC.ret ⟨_, rfl, ?_, .inl ⟨rfl, b, ?_, rfl, ow5⟩⟩
    · exact ((f2.fg0.same hf3.fg).same (f4.fg0.same hf5.fg)).close (fun l h1 h2 h3 => Nat.le_trans (Nat.le_min.2 ⟨f2.low l h1 h2 h3, Nat.le_trans h2 f2.next⟩) hlw)
    · exact Nat.le_trans (Nat.le_trans f2.next (Nat.le_trans hf3.next f4.next)) hb
end Go.Proofs.Ytdcggjkcbheolaa
end
section
set_option linter.unusedVariables false
set_option maxRecDepth 100000
open Go Go.Am
namespace Go.Proofs.Ytdcggjkcbheolaa
open Go.Proofs.Try
def sLay : List (Nat × Nat) := layF 4 [8, 4, 4, 4, 4]
def sMag : List Int := [87, 67, 85, 84]
def sGet (l : List Int) (k s : Nat) : Int := (leGet l k s).1
/-- Why bytes are no superblock; 0: they are one. -/
def sCode (l : List Int) : Int :=
  if readB sMag sLay l = 0 then (if superOk (sGet l 4 8) (sGet l 12 4) (sGet l 16 4) (sGet l 20 4) (sGet l 24 4) then 0 else 1) else readB sMag sLay l
/-- The superblock that bytes tell, as cells. -/
def sCells (l : List Int) : List Value :=
  if sCode l = 0 then sc (sGet l 4 8) (sGet l 12 4) (sGet l 16 4) (sGet l 20 4) (sGet l 24 4) else sc 0 0 0 0 0
end Go.Proofs.Ytdcggjkcbheolaa
end
section
set_option linter.unusedVariables false
set_option maxRecDepth 100000
open Go Go.Am
namespace Go.Proofs.Ytdcggjkcbheolaa
open Go.Proofs.Try
abbrev S5 := Int × Int × Int × Int × Int
def sc5 (s : S5) : List Value := sc s.1 s.2.1 s.2.2.1 s.2.2.2.1 s.2.2.2.2
def sVal (l : List Int) : S5 := if sCode l = 0 then (sGet l 4 8, sGet l 12 4, sGet l 16 4, sGet l 20 4, sGet l 24 4) else (0, 0, 0, 0, 0)
/-- A slot looked at. -/
def pickStep (l : List Int) (st : S5 × Int × Bool) (i : Nat) : S5 × Int × Bool :=
  if (sCode (blkI l i) == 0 && ((sVal (blkI l i)).2.1 == ((l.length / 64 : Nat) : Int) && (!st.2.2 || decide ((sVal (blkI l i)).1 > st.1.1)))) = true then (sVal (blkI l i), (i : Int), true) else st
def pickS (l : List Int) : S5 × Int × Bool := (List.range 2).foldl (pickStep l) ((0, 0, 0, 0, 0), 0, false)
/-- Which superblock stands, in which slot; why none does. -/
def pickCode (l : List Int) : Int := if devOk l.length then (if (pickS l).2.2 then 0 else 8) else 2
end Go.Proofs.Ytdcggjkcbheolaa
end
section
set_option linter.unusedVariables false
set_option maxRecDepth 100000
open Go Go.Am
namespace Go.Proofs.Ytdcggjkcbheolaa
open Go.Proofs.Try
end Go.Proofs.Ytdcggjkcbheolaa
end
section
set_option linter.unusedVariables false
set_option maxRecDepth 100000
open Go Go.Am
namespace Go.Proofs.Ytdcggjkcbheolaa
open Go.Proofs.Try
theorem superOk_iff (g bl rt sz fi : Int) : superOk g bl rt sz fi = true ↔ (1 ≤ g ∧ g ≤ 1099511627776) ∧ (4 ≤ bl ∧ bl ≤ 4096) ∧ (0 ≤ sz ∧ sz ≤ 512) ∧ (rt = 0 ∨ 2 ≤ rt ∧ rt ≤ bl - 1) ∧ (fi = 0 ∨ 2 ≤ fi ∧ fi ≤ bl - 1) := by
  unfold superOk
  rw [Bool.and_eq_true, Bool.and_eq_true, Bool.and_eq_true, Bool.and_eq_true, Bool.or_eq_true, Bool.or_eq_true, inB_iff, inB_iff, inB_iff, inB_iff, inB_iff, beq_iff_eq, beq_iff_eq]
  constructor
  · rintro ⟨⟨⟨h1, h2⟩, h3⟩, h4, h5⟩
    rw [fw64 (by omega) (by omega)] at h4 h5
    exact ⟨h1, h2, h3, h4, h5⟩
  · rintro ⟨h1, h2, h3, h4, h5⟩
    rw [fw64 (by omega) (by omega)]
    exact ⟨⟨⟨h1, h2⟩, h3⟩, h4, h5⟩
theorem superBlock_len (g bl rt sz fi : Int) : (superBlock g bl rt sz fi).length = 64 := makeB_len rfl rfl (by decide)
end Go.Proofs.Ytdcggjkcbheolaa
end
section
set_option linter.unusedVariables false
set_option maxRecDepth 100000
open Go Go.Am
namespace Go.Proofs.Ytdcggjkcbheolaa
open Go.Proofs.Try
def idB (n : Int) : Bool := !(decide (n < 1)) && !(decide (n > 4611686018427387903))
theorem idsCheck_ok {h : Heap} {n : Int} : RunF prog 130 [.int .i64 n] h fun v h' => v = .int .i64 (if idB n then 0 else 1) ∧ h = h' := by
  refine RunF.walk func130 rfl rfl ?_
  refine RunC.seq (RunC.region (RunO.all rfl ?_))
  refine RunC.seq (RunC.seq (RunC.region (RunO.part 3 rfl ?_)))
  unfold idB
  cases decide (n < 1) with
  | true =>
    refine RunO.all rfl (RunC.cond rfl (fun _ => ?_) (fun g => by cases g))
    exact RunC.seq (RunC.region (RunO.all rfl (RunC.ret ⟨_, rfl, rfl, rfl⟩)))
  | false =>
    refine RunO.part 2 rfl ?_
    cases decide (n > 4611686018427387903) with
    | true =>
      refine RunO.all rfl (RunC.cond rfl (fun _ => ?_) (fun g => by cases g))
      exact RunC.seq (RunC.region (RunO.all rfl (RunC.ret ⟨_, rfl, rfl, rfl⟩)))
    | false =>
      refine RunO.all rfl (RunC.cond rfl (fun g => by cases g) (fun _ => RunC.skip ?_))
      exact RunC.seq (RunC.region (RunO.all rfl (RunC.ret ⟨_, rfl, rfl, rfl⟩)))
def parB (id pa : Int) : Bool := idB id && ((pa != id) && (pa == 0 || idB pa))
theorem recParents_ok {h : Heap} {id pa : Int} : RunF prog 99 [.int .i64 id, .int .i64 pa] h fun v h' => v = .bool (parB id pa) ∧ h = h' := by
  refine RunF.walk func99 rfl rfl ?_
  refine RunC.seq (RunC.region (RunO.all rfl ?_))
  refine RunC.seq (RunC.region (RunO.part 1 rfl ?_))
  refine RunO.callD idsCheck_ok rfl rfl rfl ?_
  rintro _ _ ⟨rfl, rfl⟩
  refine RunO.part 1 rfl ?_
  rw [if_eq0]
  refine RunO.part 1 rfl ?_
  unfold parB
  cases idB id with
  | false => exact RunO.all rfl (RunC.ret ⟨_, rfl, rfl, rfl⟩)
  | true =>
    refine RunO.part 4 rfl ?_
    refine RunO.part 1 rfl ?_
    cases (pa != id) with
    | false => exact RunO.all rfl (RunC.ret ⟨_, rfl, rfl, rfl⟩)
    | true =>
      refine RunO.part 3 rfl ?_
      cases (pa == 0) with
      | true => exact RunO.all rfl (RunC.ret ⟨_, rfl, rfl, rfl⟩)
      | false =>
        refine RunO.part 1 rfl ?_
        refine RunO.callDG rfl idsCheck_ok rfl rfl rfl ?_
        rintro _ _ ⟨rfl, rfl⟩
        refine RunO.part 1 rfl ?_
        rw [if_eq0]
        refine RunO.all rfl (RunC.ret ⟨_, rfl, ?_, rfl⟩)
        simp
/-- A record's cells. -/
def rc (n id pa ro sz ki fr di : Int) : List Value := [.int .i64 n, .int .i64 id, .int .i64 pa, .int .i64 ro, .int .i64 sz, .int .i64 ki, .int .i64 fr, .int .i64 di]
def recIs (n id pa ro sz : Int) : Bool := (((ptrB n && ptrB ro) && parB id pa) && inB sz 0 512)
def recOk (n id pa ro sz ki fr di : Int) : Bool :=
  if ki = 0 then ((recIs n id pa ro sz && fr == 0) && di == 0) else if ki = 1 then ((recIs n id pa ro sz && inB fr 1 65535) && inB di 0 4294967295) else false
end Go.Proofs.Ytdcggjkcbheolaa
end
section
set_option linter.unusedVariables false
set_option linter.unusedSectionVars false
set_option maxRecDepth 100000
open Go Go.Am Go.RowKit
namespace Go.Proofs.Ytdcggjkcbheolaa
open Go.Proofs.Try

/- A command. -/
structure Cm where
  k : Int
  id : Int
  pa : Int
  sz : Int
  fr : Int
  ct : Int
  so : Int
  dg : Int
  da : List Int
def cm9 (k id pa sz fr ct so dg : Int) (v : Value) : List Value := [.int .i64 k, .int .i64 id, .int .i64 pa, .int .i64 sz, .int .i64 fr, .int .i64 ct, .int .i64 so, .int .i64 dg, v]
def cmv (c : Cm) (v : Value) : Value := .agg ⟨cm9 c.k c.id c.pa c.sz c.fr c.ct c.so c.dg v⟩
theorem frameIn_ok {h : Heap} {a lo hi : Int} : RunF prog 100 [.int .i64 a, .int .i64 lo, .int .i64 hi] h fun v h' => v = .bool (inB a lo hi) ∧ h = h' := by
  refine RunF.walk func100 rfl rfl ?_
  refine RunC.seq (RunC.region (RunO.all rfl ?_))
  refine RunC.seq (RunC.region (RunO.part 4 rfl ?_))
  unfold inB
  cases decide (a ≥ lo) with
  | true => exact RunO.all rfl (RunC.ret ⟨_, rfl, by simp, rfl⟩)
  | false => exact RunO.all rfl (RunC.ret ⟨_, rfl, by simp, rfl⟩)
/-- So many from one on, among so many. -/
def wi (a n m : Int) : Bool := decide (a ≥ 0) && (decide (n ≥ 0) && (decide (n ≤ m) && decide (a ≤ m - n)))
theorem wi_iff {a n m : Int} : wi a n m = true ↔ 0 ≤ a ∧ 0 ≤ n ∧ n ≤ m ∧ a ≤ m - n := by
  unfold wi
  rw [Bool.and_eq_true, Bool.and_eq_true, Bool.and_eq_true, decide_eq_true_iff, decide_eq_true_iff, decide_eq_true_iff, decide_eq_true_iff]
theorem frameWithin_ok {h : Heap} {a n m : Int} (hm : m ≤ 4611686018427387904) : RunF prog 102 [.int .i64 a, .int .i64 n, .int .i64 m] h fun v h' => v = .bool (wi a n m) ∧ h = h' := by
  refine RunF.walk func102 rfl rfl ?_
  refine RunC.seq (RunC.region (RunO.all rfl ?_))
  refine RunC.seq (RunC.region (RunO.part 3 rfl ?_))
  unfold wi
  cases decide (a ≥ 0) with
  | false => exact RunO.all rfl (RunC.ret ⟨_, rfl, rfl, rfl⟩)
  | true =>
  refine RunO.part 2 rfl ?_
  by_cases hn : n ≥ 0
  case neg =>
    rw [decide_eq_false hn]
    exact RunO.all rfl (RunC.ret ⟨_, rfl, rfl, rfl⟩)
  rw [decide_eq_true hn]
  refine RunO.part 5 rfl ?_
  by_cases hnm : n ≤ m
  case neg =>
    rw [decide_eq_false hnm]
    exact RunO.all rfl (RunC.ret ⟨_, rfl, rfl, rfl⟩)
  rw [decide_eq_true hnm]
  refine RunO.part 5 rfl ?_
  refine RunO.part 1 rfl ?_
  rw [fw64 (x := m - n) (by omega) (by omega)]
  exact RunO.all rfl (RunC.ret ⟨_, rfl, rfl, rfl⟩)
theorem frameSectors_ok {h : Heap} {k id pa sz fr ct so dg : Int} {A : Option Addr} {n c : Nat} (hn : n ≤ 9223372036854775807) : RunF prog 40 [.agg ⟨cm9 k id pa sz fr ct so dg (.slice A n c)⟩] h fun v h' => v = .int .i64 ((n / 64 : Nat) : Int) ∧ Fr no h h' := by
  refine RunF.walk func40 rfl rfl ?_
  refine RunC.seq (RunC.region (RunO.all (h1 := h.push ⟨cm9 k id pa sz fr ct so dg (.slice A n c), true⟩) rfl ?_))
  have ow : Ow (h.push ⟨cm9 k id pa sz fr ct so dg (.slice A n c), true⟩) h.next (cm9 k id pa sz fr ct so dg (.slice A n c)) := Ow.push _ _
  have f1 : Fr no h (h.push ⟨cm9 k id pa sz fr ct so dg (.slice A n c), true⟩) := Fr.push _ _ _
  generalize h.push ⟨cm9 k id pa sz fr ct so dg (.slice A n c), true⟩ = h1 at *
  generalize h.next = p at *
  refine RunC.seq (RunC.region (RunO.part 1 rfl ?_))
  refine RunO.load (v := .slice A n c) rfl (ow.all.cell1 (k := 8) rfl rfl) rfl ?_
  refine RunO.part 1 rfl ?_
  refine RunO.bin rfl rfl (v := .int .i64 ((n / 64 : Nat) : Int)) ?_ rfl ?_
  · show some (Value.int .i64 (fwrap .i64 ((n : Int).tdiv 64))) = _
    have e1 : (n : Int).tdiv 64 = ((n / 64 : Nat) : Int) := by rw [Int.tdiv_eq_ediv_of_nonneg (by omega)]; omega
    rw [e1, fw64 (by omega) (by omega)]
  exact RunO.all rfl (RunC.ret ⟨_, rfl, rfl, f1⟩)
def wrB (fr : Int) (n : Nat) : Bool := (n % 64 == 0) && (inB ((n / 64 : Nat) : Int) 1 8 && wi fr ((n / 64 : Nat) : Int) 512)
theorem frameWrites_ok {h : Heap} {k id pa sz fr ct so dg : Int} {A : Option Addr} {n c : Nat} (hn : n ≤ 9223372036854775807) : RunF prog 101 [.agg ⟨cm9 k id pa sz fr ct so dg (.slice A n c)⟩] h fun v h' => v = .bool (wrB fr n) ∧ Fr no h h' := by
  refine RunF.walk func101 rfl rfl ?_
  refine RunC.seq (RunC.region (RunO.all (h1 := h.push ⟨cm9 k id pa sz fr ct so dg (.slice A n c), true⟩) rfl ?_))
  have ow : Ow (h.push ⟨cm9 k id pa sz fr ct so dg (.slice A n c), true⟩) h.next (cm9 k id pa sz fr ct so dg (.slice A n c)) := Ow.push _ _
  have f1 : Fr no h (h.push ⟨cm9 k id pa sz fr ct so dg (.slice A n c), true⟩) := Fr.push _ _ _
  generalize h.push ⟨cm9 k id pa sz fr ct so dg (.slice A n c), true⟩ = h1 at *
  generalize h.next = p at *
  have e2 : (n : Int).tmod 64 = ((n % 64 : Nat) : Int) := by rw [Int.tmod_eq_emod_of_nonneg (by omega)]; omega
  have e3 : (((n % 64 : Nat) : Int) == 0) = (n % 64 == 0) := by
    by_cases h0 : n % 64 = 0
    · rw [h0]; rfl
    · rw [beq_eq_false_iff_ne.2 h0]; exact beq_eq_false_iff_ne.2 (by omega)
  refine RunC.seq (RunC.drawQ rfl ?_)
  unfold wrB
  (repeat (first | refine RunQ.step rfl ?_ | refine RunQ.load rfl rfl (Ow.ld (by assumption) (by rfl)) rfl ?_ | refine RunQ.nil ?_))
  rw [e2, e3]
  cases n % 64 == 0 with
  | false =>
    (repeat (first | refine RunQ.step rfl ?_ | refine RunQ.load rfl rfl (Ow.ld (by assumption) (by rfl)) rfl ?_ | refine RunQ.nil ?_))
    exact fun lw f2 => RunC.ret ⟨_, rfl, rfl, f1.same f2⟩
  | true =>
  (repeat (first | refine RunQ.step rfl ?_ | refine RunQ.load rfl rfl (Ow.ld (by assumption) (by rfl)) rfl ?_ | refine RunQ.nil ?_))
  refine RunQ.call rfl (frameSectors_ok hn) (fun v h1 q => q.2) rfl rfl rfl ?_
  rintro _ g1 ⟨rfl, f2⟩
  have f2 : Fr no h1 g1 := ⟨f2.next, f2.get, fun l a b c => f2.low l b b c⟩
  have ow2 : Ow (g1.lo g1.next) p (cm9 k id pa sz fr ct so dg (.slice A n c)) := (show Ow g1 p _ from ow.fr f2 (fun g => g))
  refine RunQ.call rfl frameIn_ok (fun v h1 q => q.2 ▸ Fr.refl _ _) rfl rfl rfl ?_
  rintro _ _ ⟨rfl, rfl⟩
  generalize inB ((n / 64 : Nat) : Int) 1 8 = b1
  cases b1 with
  | false =>
    (repeat (first | refine RunQ.step rfl ?_ | refine RunQ.load rfl rfl (Ow.ld (by assumption) (by rfl)) rfl ?_ | refine RunQ.nil ?_))
    exact fun lw f3 => RunC.ret ⟨_, rfl, rfl, f1.same f3⟩
  | true =>
  (repeat (first | refine RunQ.step rfl ?_ | refine RunQ.load rfl rfl (Ow.ld (by assumption) (by rfl)) rfl ?_ | refine RunQ.nil ?_))
  refine RunQ.call rfl (frameSectors_ok hn) (fun v h1 q => q.2) rfl rfl rfl ?_
  rintro _ g2 ⟨rfl, f3⟩
  refine RunQ.call rfl (frameWithin_ok (by decide)) (fun v h1 q => q.2 ▸ Fr.refl _ _) rfl rfl rfl ?_
  rintro _ _ ⟨rfl, rfl⟩
  (repeat (first | refine RunQ.step rfl ?_ | refine RunQ.load rfl rfl (Ow.ld (by assumption) (by rfl)) rfl ?_ | refine RunQ.nil ?_))
  exact fun lw f3 => RunC.ret ⟨_, rfl, rfl, f1.same f3⟩
/-- What a kind has is right; the rest. -/
def bareOk (k id pa sz fr ct so dg : Int) (n : Nat) : Bool :=
  if k = 1 then (parB id pa && inB sz 0 512) && inB ct 0 65535
  else if k = 2 then wrB fr n
  else if k = 3 then decide (ct > 0) && wi fr ct 512
  else if k = 4 then (decide (ct > 0) && wi fr ct 512) && wi so ct 512
  else if k = 5 then inB sz 0 512
  else if k = 6 then inB ct 0 65535 && inB dg 0 4294967295
  else false
def bare9 (k id pa sz fr ct so dg : Int) (v : Value) : List Value :=
  if k = 1 then cm9 k 0 0 0 fr 0 so dg v
  else if k = 2 then cm9 k id pa sz 0 ct so dg (.slice none 0 0)
  else if k = 3 then cm9 k id pa sz 0 0 so dg v
  else if k = 4 then cm9 k id pa sz 0 0 0 dg v
  else if k = 5 then cm9 k id pa 0 fr ct so dg v
  else if k = 6 then cm9 k id pa sz fr 0 so 0 v
  else cm9 k id pa sz fr ct so dg v
theorem RunO.putC {P : Program} {n : Nat} {ops rest : List Oper} {E : Env} {h : Heap} {Q : Env → Heap → Prop} {t ty : TypeId} {x y : Operand} {pos : String} {after : Array Edge} {b off : Nat} {v : Value} {cs : List Value}
    (hx : gE E x = some (.pointer (some ⟨b, off, none⟩))) (hy : gE E y = some v) (ow : Ow h b cs) (hs : Am.sizeOf P t = some 1) (hc : cellsOf v = [v]) (ha : isCell v = true) (hb : off < cs.length)
    (r : ∀ h', Ow h' b (cs.set off v) → Fr (· = b) h h' → RunO P n ops rest E h' Q) : RunO P n ops (⟨none, .store t x y, ty, pos, after, none⟩ :: rest) E h Q := by
  refine RunO.store hx hy (store1_ow ow hs hc ha hb) (r _ (Ow.put _ ow.1) (Fr.put _ (.inl rfl)))
theorem bare9_form {k id pa sz fr ct so dg : Int} {A : Option Addr} {n c : Nat} : ∃ k' id' pa' sz' fr' ct' so' dg' A' n' c', bare9 k id pa sz fr ct so dg (.slice A n c) = cm9 k' id' pa' sz' fr' ct' so' dg' (.slice A' n' c') := by
  unfold bare9
  repeat' split
  all_goals exact ⟨_, _, _, _, _, _, _, _, _, _, _, rfl⟩
set_option maxHeartbeats 4000000 in
theorem frameBare_ok {h : Heap} {k id pa sz fr ct so dg : Int} {A : Option Addr} {n c : Nat} (hn : n ≤ 9223372036854775807) : RunF prog 67 [.agg ⟨cm9 k id pa sz fr ct so dg (.slice A n c)⟩] h fun v h' => v = .tuple #[.agg ⟨bare9 k id pa sz fr ct so dg (.slice A n c)⟩, .bool (bareOk k id pa sz fr ct so dg n)] ∧ Fr no h h' := by
  refine RunF.walk func67 rfl rfl ?_
  refine RunC.seq (RunC.region (RunO.part 1 (h1 := h.push ⟨cm9 k id pa sz fr ct so dg (.slice A n c), true⟩) rfl ?_))
  have ow := Ow.push h (cm9 k id pa sz fr ct so dg (.slice A n c))
  have f1 : Fr no h (h.push ⟨cm9 k id pa sz fr ct so dg (.slice A n c), true⟩) := Fr.push _ _ _
  obtain ⟨p, hp⟩ : ∃ q, q = h.next := ⟨_, rfl⟩
  rw [← hp] at ow ⊢
  generalize h.push ⟨cm9 k id pa sz fr ct so dg (.slice A n c), true⟩ = h1 at *
  refine RunO.part 1 (h1 := h1.push ⟨cm9 0 0 0 0 0 0 0 0 (.slice none 0 0), true⟩) rfl ?_
  have oz := Ow.push h1 (cm9 0 0 0 0 0 0 0 0 (.slice none 0 0))
  have f2 : Fr no h1 (h1.push ⟨cm9 0 0 0 0 0 0 0 0 (.slice none 0 0), true⟩) := Fr.push _ _ _
  obtain ⟨q, hq⟩ : ∃ q, q = h1.next := ⟨_, rfl⟩
  rw [← hq] at oz ⊢
  have hpq : p < q := by rw [hq]; exact ow.1
  have hp0 : h.next ≤ p := by omega
  have hq0 : h.next ≤ q := by omega
  replace ow := ow.fr f2 (fun g => g)
  generalize h1.push ⟨cm9 0 0 0 0 0 0 0 0 (.slice none 0 0), true⟩ = h2 at *
  have f12 := f1.same f2
  refine RunO.all rfl ?_
  refine ((RunC.seqc (fun E' h' => Fr (· = p) h2 h' ∧ Ow h' p (bare9 k id pa sz fr ct so dg (.slice A n c)) ∧ Le (upd (upd (upd E0 1 (.pointer (some ⟨p, 0, none⟩))) 2 (.pointer (some ⟨q, 0, none⟩))) 3 (.bool (bareOk k id pa sz fr ct so dg n))) E') ?bo ?fi))
  case fi =>
    rintro E' h3 ⟨f3, ow3, hE⟩
    refine RunC.le hE ?_
    clear hE
    have oz3 := oz.fr f3 (fun e => by have e : q = p := e; omega)
    obtain ⟨k', id', pa', sz', fr', ct', so', dg', A', n', c', hb⟩ := bare9_form (k := k) (id := id) (pa := pa) (sz := sz) (fr := fr) (ct := ct) (so := so) (dg := dg) (A := A) (n := n) (c := c)
    rw [hb] at ow3 ⊢
    refine RunC.seq (RunC.region ?_)
    (repeat (first | refine RunO.step rfl ?_ | refine RunO.loadG rfl rfl (Ow.ld (by assumption) (by rfl)) rfl ?_ | refine RunO.nil ?_))
    refine RunO.store rfl rfl (store_ow (s := 9) oz3 rfl rfl rfl (Nat.le_refl 9)) ?_
    have f4 : Fr (· = q) h3 (h3.put q (some ⟨cm9 k' id' pa' sz' fr' ct' so' dg' (.slice A' n' c'), true⟩)) := Fr.put _ (.inl rfl)
    have oz4 : Ow (h3.put q (some ⟨cm9 k' id' pa' sz' fr' ct' so' dg' (.slice A' n' c'), true⟩)) q (cm9 k' id' pa' sz' fr' ct' so' dg' (.slice A' n' c')) := Ow.put _ oz3.1
    show RunO prog _ _ _ _ (h3.put q (some ⟨cm9 k' id' pa' sz' fr' ct' so' dg' (.slice A' n' c'), true⟩)) _
    generalize h3.put q (some ⟨cm9 k' id' pa' sz' fr' ct' so' dg' (.slice A' n' c'), true⟩) = h4 at *
    refine RunO.all rfl (RunC.ret ⟨.tuple #[.agg ⟨cm9 k' id' pa' sz' fr' ct' so' dg' (.slice A' n' c')⟩, .bool (bareOk k id pa sz fr ct so dg n)], eresults_cell rfl (oz4.all.part (k := 0) rfl) rfl, rfl, (f12.trans f3 (fun b e => .inr (by have e : b = p := e; omega))).trans f4 (fun b e => .inr (by have e : b = q := e; omega))⟩)
  unfold bareOk bare9
  refine RunC.seq (RunC.region ?_)
  (repeat (first | refine RunO.step rfl ?_ | refine RunO.loadG rfl rfl (Ow.ld (by assumption) (by rfl)) rfl ?_ | refine RunO.nil ?_))
  refine RunC.block ?_
  refine RunC.seq (RunC.region (RunO.all rfl (RunC.cond rfl (fun c1 => ?_) (fun c1 => ?_))))
  · have c1 := beq_iff_eq.1 c1
    rw [if_pos c1, if_pos c1]
    refine RunC.seqE (upd (upd (upd E0 1 (.pointer (some ⟨p, 0, none⟩))) 2 (.pointer (some ⟨q, 0, none⟩))) 3 (.bool ((parB id pa && inB sz 0 512) && inB ct 0 65535))) ?_ ?_
    · refine RunC.region ?_
      (repeat (first | refine RunO.step rfl ?_ | refine RunO.loadG rfl rfl (Ow.ld (by assumption) (by rfl)) rfl ?_ | refine RunO.nil ?_))
      refine RunO.callD recParents_ok rfl rfl rfl ?_
      rintro _ _ ⟨rfl, rfl⟩
      (repeat (first | refine RunO.step rfl ?_ | refine RunO.loadG rfl rfl (Ow.ld (by assumption) (by rfl)) rfl ?_ | refine RunO.nil ?_))
      cases parB id pa with
      | false =>
        (repeat (first | refine RunO.step rfl ?_ | refine RunO.loadG rfl rfl (Ow.ld (by assumption) (by rfl)) rfl ?_ | refine RunO.nil ?_))
        exact ⟨rfl, Le.cons rfl (Le.cons rfl (Le.cons rfl (Le.nil _)))⟩
      | true =>
      (repeat (first | refine RunO.step rfl ?_ | refine RunO.loadG rfl rfl (Ow.ld (by assumption) (by rfl)) rfl ?_ | refine RunO.nil ?_))
      refine RunO.callDG rfl frameIn_ok rfl rfl rfl ?_
      rintro _ _ ⟨rfl, rfl⟩
      (repeat (first | refine RunO.step rfl ?_ | refine RunO.loadG rfl rfl (Ow.ld (by assumption) (by rfl)) rfl ?_ | refine RunO.nil ?_))
      cases inB sz 0 512 with
      | false =>
        (repeat (first | refine RunO.step rfl ?_ | refine RunO.loadG rfl rfl (Ow.ld (by assumption) (by rfl)) rfl ?_ | refine RunO.nil ?_))
        exact ⟨rfl, Le.cons rfl (Le.cons rfl (Le.cons rfl (Le.nil _)))⟩
      | true =>
      (repeat (first | refine RunO.step rfl ?_ | refine RunO.loadG rfl rfl (Ow.ld (by assumption) (by rfl)) rfl ?_ | refine RunO.nil ?_))
      refine RunO.callDG rfl frameIn_ok rfl rfl rfl ?_
      rintro _ _ ⟨rfl, rfl⟩
      (repeat (first | refine RunO.step rfl ?_ | refine RunO.loadG rfl rfl (Ow.ld (by assumption) (by rfl)) rfl ?_ | refine RunO.nil ?_))
      exact ⟨rfl, Le.cons rfl (Le.cons rfl (Le.cons rfl (Le.nil _)))⟩
    refine RunC.region ?_
    (repeat (first | refine RunO.step rfl ?_ | refine RunO.loadG rfl rfl (Ow.ld (by assumption) (by rfl)) rfl ?_ | refine RunO.nil ?_))
    refine RunO.putC (off := 1) rfl rfl ow rfl rfl rfl (Nat.le_of_ble_eq_true rfl) ?_
    intro g11 ow f11
    (repeat (first | refine RunO.step rfl ?_ | refine RunO.loadG rfl rfl (Ow.ld (by assumption) (by rfl)) rfl ?_ | refine RunO.nil ?_))
    refine RunO.putC (off := 2) rfl rfl ow rfl rfl rfl (Nat.le_of_ble_eq_true rfl) ?_
    intro g12 ow f12
    (repeat (first | refine RunO.step rfl ?_ | refine RunO.loadG rfl rfl (Ow.ld (by assumption) (by rfl)) rfl ?_ | refine RunO.nil ?_))
    refine RunO.putC (off := 3) rfl rfl ow rfl rfl rfl (Nat.le_of_ble_eq_true rfl) ?_
    intro g13 ow f13
    (repeat (first | refine RunO.step rfl ?_ | refine RunO.loadG rfl rfl (Ow.ld (by assumption) (by rfl)) rfl ?_ | refine RunO.nil ?_))
    refine RunO.putC (off := 5) rfl rfl ow rfl rfl rfl (Nat.le_of_ble_eq_true rfl) ?_
    intro g14 ow f14
    (repeat (first | refine RunO.step rfl ?_ | refine RunO.loadG rfl rfl (Ow.ld (by assumption) (by rfl)) rfl ?_ | refine RunO.nil ?_))
    exact ⟨(((f11.trans f12 (fun b e => .inl e)).trans f13 (fun b e => .inl e)).trans f14 (fun b e => .inl e)), ow, Le.cons rfl (Le.cons rfl (Le.cons rfl (Le.nil _)))⟩
  have c1 := beq_eq_false_iff_ne.1 c1
  rw [if_neg c1, if_neg c1]
  refine RunC.seq (RunC.region (RunO.all rfl (RunC.cond rfl (fun c2 => ?_) (fun c2 => ?_))))
  · have c2 := beq_iff_eq.1 c2
    rw [if_pos c2, if_pos c2]
    refine RunC.seq (RunC.region ?_)
    (repeat (first | refine RunO.step rfl ?_ | refine RunO.loadG rfl rfl (Ow.ld (by assumption) (by rfl)) rfl ?_ | refine RunO.nil ?_))
    refine RunO.callD (frameWrites_ok hn) rfl rfl rfl ?_
    rintro _ h3 ⟨rfl, fa⟩
    replace ow := ow.fr fa (fun g => g)
    (repeat (first | refine RunO.step rfl ?_ | refine RunO.loadG rfl rfl (Ow.ld (by assumption) (by rfl)) rfl ?_ | refine RunO.nil ?_))
    refine RunC.region ?_
    (repeat (first | refine RunO.step rfl ?_ | refine RunO.loadG rfl rfl (Ow.ld (by assumption) (by rfl)) rfl ?_ | refine RunO.nil ?_))
    refine RunO.putC (off := 4) rfl rfl ow rfl rfl rfl (Nat.le_of_ble_eq_true rfl) ?_
    intro g11 ow f11
    (repeat (first | refine RunO.step rfl ?_ | refine RunO.loadG rfl rfl (Ow.ld (by assumption) (by rfl)) rfl ?_ | refine RunO.nil ?_))
    refine RunO.putC (off := 8) rfl rfl ow rfl rfl rfl (Nat.le_of_ble_eq_true rfl) ?_
    intro g12 ow f12
    (repeat (first | refine RunO.step rfl ?_ | refine RunO.loadG rfl rfl (Ow.ld (by assumption) (by rfl)) rfl ?_ | refine RunO.nil ?_))
    exact ⟨(fa.weak (m1 := fun b => b = p) (fun _ g => by cases g)).trans (f11.trans f12 (fun b e => .inl e)) (fun b e => .inl e), ow, Le.cons rfl (Le.cons rfl (Le.cons rfl (Le.nil _)))⟩
  have c2 := beq_eq_false_iff_ne.1 c2
  rw [if_neg c2, if_neg c2]
  refine RunC.seq (RunC.region (RunO.all rfl (RunC.cond rfl (fun c3 => ?_) (fun c3 => ?_))))
  · have c3 := beq_iff_eq.1 c3
    rw [if_pos c3, if_pos c3]
    refine RunC.seqE (upd (upd (upd E0 1 (.pointer (some ⟨p, 0, none⟩))) 2 (.pointer (some ⟨q, 0, none⟩))) 3 (.bool (decide (ct > 0) && wi fr ct 512))) ?_ ?_
    · refine RunC.region ?_
      (repeat (first | refine RunO.step rfl ?_ | refine RunO.loadG rfl rfl (Ow.ld (by assumption) (by rfl)) rfl ?_ | refine RunO.nil ?_))
      cases decide (ct > 0) with
      | false =>
        (repeat (first | refine RunO.step rfl ?_ | refine RunO.loadG rfl rfl (Ow.ld (by assumption) (by rfl)) rfl ?_ | refine RunO.nil ?_))
        exact ⟨rfl, Le.cons rfl (Le.cons rfl (Le.cons rfl (Le.nil _)))⟩
      | true =>
      (repeat (first | refine RunO.step rfl ?_ | refine RunO.loadG rfl rfl (Ow.ld (by assumption) (by rfl)) rfl ?_ | refine RunO.nil ?_))
      refine RunO.callDG rfl (frameWithin_ok (by decide)) rfl rfl rfl ?_
      rintro _ _ ⟨rfl, rfl⟩
      (repeat (first | refine RunO.step rfl ?_ | refine RunO.loadG rfl rfl (Ow.ld (by assumption) (by rfl)) rfl ?_ | refine RunO.nil ?_))
      exact ⟨rfl, Le.cons rfl (Le.cons rfl (Le.cons rfl (Le.nil _)))⟩
    refine RunC.region ?_
    (repeat (first | refine RunO.step rfl ?_ | refine RunO.loadG rfl rfl (Ow.ld (by assumption) (by rfl)) rfl ?_ | refine RunO.nil ?_))
    refine RunO.putC (off := 4) rfl rfl ow rfl rfl rfl (Nat.le_of_ble_eq_true rfl) ?_
    intro g11 ow f11
    (repeat (first | refine RunO.step rfl ?_ | refine RunO.loadG rfl rfl (Ow.ld (by assumption) (by rfl)) rfl ?_ | refine RunO.nil ?_))
    refine RunO.putC (off := 5) rfl rfl ow rfl rfl rfl (Nat.le_of_ble_eq_true rfl) ?_
    intro g12 ow f12
    (repeat (first | refine RunO.step rfl ?_ | refine RunO.loadG rfl rfl (Ow.ld (by assumption) (by rfl)) rfl ?_ | refine RunO.nil ?_))
    exact ⟨(f11.trans f12 (fun b e => .inl e)), ow, Le.cons rfl (Le.cons rfl (Le.cons rfl (Le.nil _)))⟩
  have c3 := beq_eq_false_iff_ne.1 c3
  rw [if_neg c3, if_neg c3]
  refine RunC.seq (RunC.region (RunO.all rfl (RunC.cond rfl (fun c4 => ?_) (fun c4 => ?_))))
  · have c4 := beq_iff_eq.1 c4
    rw [if_pos c4, if_pos c4]
    refine RunC.seqE (upd (upd (upd E0 1 (.pointer (some ⟨p, 0, none⟩))) 2 (.pointer (some ⟨q, 0, none⟩))) 3 (.bool ((decide (ct > 0) && wi fr ct 512) && wi so ct 512))) ?_ ?_
    · refine RunC.region ?_
      (repeat (first | refine RunO.step rfl ?_ | refine RunO.loadG rfl rfl (Ow.ld (by assumption) (by rfl)) rfl ?_ | refine RunO.nil ?_))
      cases decide (ct > 0) with
      | false =>
        (repeat (first | refine RunO.step rfl ?_ | refine RunO.loadG rfl rfl (Ow.ld (by assumption) (by rfl)) rfl ?_ | refine RunO.nil ?_))
        exact ⟨rfl, Le.cons rfl (Le.cons rfl (Le.cons rfl (Le.nil _)))⟩
      | true =>
      (repeat (first | refine RunO.step rfl ?_ | refine RunO.loadG rfl rfl (Ow.ld (by assumption) (by rfl)) rfl ?_ | refine RunO.nil ?_))
      refine RunO.callDG rfl (frameWithin_ok (by decide)) rfl rfl rfl ?_
      rintro _ _ ⟨rfl, rfl⟩
      (repeat (first | refine RunO.step rfl ?_ | refine RunO.loadG rfl rfl (Ow.ld (by assumption) (by rfl)) rfl ?_ | refine RunO.nil ?_))
      cases wi fr ct 512 with
      | false =>
        (repeat (first | refine RunO.step rfl ?_ | refine RunO.loadG rfl rfl (Ow.ld (by assumption) (by rfl)) rfl ?_ | refine RunO.nil ?_))
        exact ⟨rfl, Le.cons rfl (Le.cons rfl (Le.cons rfl (Le.nil _)))⟩
      | true =>
      (repeat (first | refine RunO.step rfl ?_ | refine RunO.loadG rfl rfl (Ow.ld (by assumption) (by rfl)) rfl ?_ | refine RunO.nil ?_))
      refine RunO.callDG rfl (frameWithin_ok (by decide)) rfl rfl rfl ?_
      rintro _ _ ⟨rfl, rfl⟩
      (repeat (first | refine RunO.step rfl ?_ | refine RunO.loadG rfl rfl (Ow.ld (by assumption) (by rfl)) rfl ?_ | refine RunO.nil ?_))
      exact ⟨rfl, Le.cons rfl (Le.cons rfl (Le.cons rfl (Le.nil _)))⟩
    refine RunC.region ?_
    (repeat (first | refine RunO.step rfl ?_ | refine RunO.loadG rfl rfl (Ow.ld (by assumption) (by rfl)) rfl ?_ | refine RunO.nil ?_))
    refine RunO.putC (off := 4) rfl rfl ow rfl rfl rfl (Nat.le_of_ble_eq_true rfl) ?_
    intro g11 ow f11
    (repeat (first | refine RunO.step rfl ?_ | refine RunO.loadG rfl rfl (Ow.ld (by assumption) (by rfl)) rfl ?_ | refine RunO.nil ?_))
    refine RunO.putC (off := 5) rfl rfl ow rfl rfl rfl (Nat.le_of_ble_eq_true rfl) ?_
    intro g12 ow f12
    (repeat (first | refine RunO.step rfl ?_ | refine RunO.loadG rfl rfl (Ow.ld (by assumption) (by rfl)) rfl ?_ | refine RunO.nil ?_))
    refine RunO.putC (off := 6) rfl rfl ow rfl rfl rfl (Nat.le_of_ble_eq_true rfl) ?_
    intro g13 ow f13
    (repeat (first | refine RunO.step rfl ?_ | refine RunO.loadG rfl rfl (Ow.ld (by assumption) (by rfl)) rfl ?_ | refine RunO.nil ?_))
    exact ⟨((f11.trans f12 (fun b e => .inl e)).trans f13 (fun b e => .inl e)), ow, Le.cons rfl (Le.cons rfl (Le.cons rfl (Le.nil _)))⟩
  have c4 := beq_eq_false_iff_ne.1 c4
  rw [if_neg c4, if_neg c4]
  refine RunC.seq (RunC.region (RunO.all rfl (RunC.cond rfl (fun c5 => ?_) (fun c5 => ?_))))
  · have c5 := beq_iff_eq.1 c5
    rw [if_pos c5, if_pos c5]
    refine RunC.seqE (upd (upd (upd E0 1 (.pointer (some ⟨p, 0, none⟩))) 2 (.pointer (some ⟨q, 0, none⟩))) 3 (.bool (inB sz 0 512))) ?_ ?_
    · refine RunC.region ?_
      (repeat (first | refine RunO.step rfl ?_ | refine RunO.loadG rfl rfl (Ow.ld (by assumption) (by rfl)) rfl ?_ | refine RunO.nil ?_))
      refine RunO.callD frameIn_ok rfl rfl rfl ?_
      rintro _ _ ⟨rfl, rfl⟩
      (repeat (first | refine RunO.step rfl ?_ | refine RunO.loadG rfl rfl (Ow.ld (by assumption) (by rfl)) rfl ?_ | refine RunO.nil ?_))
      exact ⟨rfl, Le.cons rfl (Le.cons rfl (Le.cons rfl (Le.nil _)))⟩
    refine RunC.region ?_
    (repeat (first | refine RunO.step rfl ?_ | refine RunO.loadG rfl rfl (Ow.ld (by assumption) (by rfl)) rfl ?_ | refine RunO.nil ?_))
    refine RunO.putC (off := 3) rfl rfl ow rfl rfl rfl (Nat.le_of_ble_eq_true rfl) ?_
    intro g11 ow f11
    (repeat (first | refine RunO.step rfl ?_ | refine RunO.loadG rfl rfl (Ow.ld (by assumption) (by rfl)) rfl ?_ | refine RunO.nil ?_))
    exact ⟨f11, ow, Le.cons rfl (Le.cons rfl (Le.cons rfl (Le.nil _)))⟩
  have c5 := beq_eq_false_iff_ne.1 c5
  rw [if_neg c5, if_neg c5]
  refine RunC.seq (RunC.region (RunO.all rfl (RunC.cond rfl (fun c6 => ?_) (fun c6 => ?_))))
  · have c6 := beq_iff_eq.1 c6
    rw [if_pos c6, if_pos c6]
    refine RunC.seqE (upd (upd (upd E0 1 (.pointer (some ⟨p, 0, none⟩))) 2 (.pointer (some ⟨q, 0, none⟩))) 3 (.bool (inB ct 0 65535 && inB dg 0 4294967295))) ?_ ?_
    · refine RunC.region ?_
      (repeat (first | refine RunO.step rfl ?_ | refine RunO.loadG rfl rfl (Ow.ld (by assumption) (by rfl)) rfl ?_ | refine RunO.nil ?_))
      refine RunO.callD frameIn_ok rfl rfl rfl ?_
      rintro _ _ ⟨rfl, rfl⟩
      (repeat (first | refine RunO.step rfl ?_ | refine RunO.loadG rfl rfl (Ow.ld (by assumption) (by rfl)) rfl ?_ | refine RunO.nil ?_))
      cases inB ct 0 65535 with
      | false =>
        (repeat (first | refine RunO.step rfl ?_ | refine RunO.loadG rfl rfl (Ow.ld (by assumption) (by rfl)) rfl ?_ | refine RunO.nil ?_))
        exact ⟨rfl, Le.cons rfl (Le.cons rfl (Le.cons rfl (Le.nil _)))⟩
      | true =>
      (repeat (first | refine RunO.step rfl ?_ | refine RunO.loadG rfl rfl (Ow.ld (by assumption) (by rfl)) rfl ?_ | refine RunO.nil ?_))
      refine RunO.callDG rfl frameIn_ok rfl rfl rfl ?_
      rintro _ _ ⟨rfl, rfl⟩
      (repeat (first | refine RunO.step rfl ?_ | refine RunO.loadG rfl rfl (Ow.ld (by assumption) (by rfl)) rfl ?_ | refine RunO.nil ?_))
      exact ⟨rfl, Le.cons rfl (Le.cons rfl (Le.cons rfl (Le.nil _)))⟩
    refine RunC.region ?_
    (repeat (first | refine RunO.step rfl ?_ | refine RunO.loadG rfl rfl (Ow.ld (by assumption) (by rfl)) rfl ?_ | refine RunO.nil ?_))
    refine RunO.putC (off := 5) rfl rfl ow rfl rfl rfl (Nat.le_of_ble_eq_true rfl) ?_
    intro g11 ow f11
    (repeat (first | refine RunO.step rfl ?_ | refine RunO.loadG rfl rfl (Ow.ld (by assumption) (by rfl)) rfl ?_ | refine RunO.nil ?_))
    refine RunO.putC (off := 7) rfl rfl ow rfl rfl rfl (Nat.le_of_ble_eq_true rfl) ?_
    intro g12 ow f12
    (repeat (first | refine RunO.step rfl ?_ | refine RunO.loadG rfl rfl (Ow.ld (by assumption) (by rfl)) rfl ?_ | refine RunO.nil ?_))
    exact ⟨(f11.trans f12 (fun b e => .inl e)), ow, Le.cons rfl (Le.cons rfl (Le.cons rfl (Le.nil _)))⟩
  have c6 := beq_eq_false_iff_ne.1 c6
  rw [if_neg c6, if_neg c6]
  exact RunC.skip ⟨Fr.refl _ _, ow, Le.cons rfl (Le.cons rfl (Le.cons rfl (Le.nil _)))⟩
/-- What is left is zero. -/
def restB (id pa sz fr ct so dg : Int) (n : Nat) : Bool := (id == 0) && ((pa == 0) && ((sz == 0) && ((fr == 0) && ((ct == 0) && ((so == 0) && ((dg == 0) && (n == 0)))))))
def restK (k id pa sz fr ct so dg : Int) (n : Nat) : Bool :=
  if k = 1 then restB 0 0 0 fr 0 so dg n
  else if k = 2 then restB id pa sz 0 ct so dg 0
  else if k = 3 then restB id pa sz 0 0 so dg n
  else if k = 4 then restB id pa sz 0 0 0 dg n
  else if k = 5 then restB id pa 0 fr ct so dg n
  else if k = 6 then restB id pa sz fr 0 so 0 n
  else restB id pa sz fr ct so dg n
def chkB (k id pa sz fr ct so dg : Int) (n : Nat) : Bool := bareOk k id pa sz fr ct so dg n && restK k id pa sz fr ct so dg n
theorem bare9_rest {k id pa sz fr ct so dg : Int} {A : Option Addr} {n c : Nat} : ∃ k' id' pa' sz' fr' ct' so' dg' A' n' c', bare9 k id pa sz fr ct so dg (.slice A n c) = cm9 k' id' pa' sz' fr' ct' so' dg' (.slice A' n' c') ∧ restK k id pa sz fr ct so dg n = restB id' pa' sz' fr' ct' so' dg' n' := by
  unfold bare9 restK
  repeat' split
  all_goals exact ⟨_, _, _, _, _, _, _, _, _, _, _, rfl, rfl⟩
set_option maxHeartbeats 4000000 in
theorem frameCheck_ok {h : Heap} {k id pa sz fr ct so dg : Int} {A : Option Addr} {n c : Nat} (hn : n ≤ 9223372036854775807) : RunF prog 37 [.agg ⟨cm9 k id pa sz fr ct so dg (.slice A n c)⟩] h fun v h' => v = .int .i64 (if chkB k id pa sz fr ct so dg n then 0 else 1) ∧ Fr no h h' := by
  refine RunF.walk func37 rfl rfl ?_
  refine RunC.seq (RunC.region (RunO.part 1 (h1 := h.push ⟨cm9 k id pa sz fr ct so dg (.slice A n c), true⟩) rfl ?_))
  have ow := Ow.push h (cm9 k id pa sz fr ct so dg (.slice A n c))
  have f1 : Fr no h (h.push ⟨cm9 k id pa sz fr ct so dg (.slice A n c), true⟩) := Fr.push _ _ _
  obtain ⟨p, hp⟩ : ∃ q, q = h.next := ⟨_, rfl⟩
  rw [← hp] at ow ⊢
  generalize h.push ⟨cm9 k id pa sz fr ct so dg (.slice A n c), true⟩ = h1 at *
  refine RunO.all rfl ?_
  refine RunC.seq (RunC.region ?_)
  (repeat (first | refine RunO.step rfl ?_ | refine RunO.loadG rfl rfl (Ow.ld (by assumption) (by rfl)) rfl ?_ | refine RunO.nil ?_))
  refine RunO.callD (frameBare_ok hn) rfl rfl rfl ?_
  rintro _ h2 ⟨rfl, f2⟩
  unfold chkB
  obtain ⟨k', id', pa', sz', fr', ct', so', dg', A', n', c', hb, hr⟩ := bare9_rest (k := k) (id := id) (pa := pa) (sz := sz) (fr := fr) (ct := ct) (so := so) (dg := dg) (A := A) (n := n) (c := c)
  rw [hb, hr]
  generalize bareOk k id pa sz fr ct so dg n = bl
  refine RunO.part 3 rfl ?_
  refine RunO.part 1 (h1 := h2.push ⟨cm9 0 0 0 0 0 0 0 0 (.slice none 0 0), true⟩) rfl ?_
  have oz := Ow.push h2 (cm9 0 0 0 0 0 0 0 0 (.slice none 0 0))
  have f3 : Fr no h2 (h2.push ⟨cm9 0 0 0 0 0 0 0 0 (.slice none 0 0), true⟩) := Fr.push _ _ _
  obtain ⟨q, hq⟩ : ∃ q, q = h2.next := ⟨_, rfl⟩
  rw [← hq] at oz ⊢
  have hq0 : h.next ≤ q := by have := (f1.same f2).next; omega
  generalize h2.push ⟨cm9 0 0 0 0 0 0 0 0 (.slice none 0 0), true⟩ = h3 at *
  refine RunO.store rfl rfl (store_ow (s := 9) oz rfl rfl rfl (Nat.le_refl 9)) ?_
  have f4 : Fr (· = q) h3 (h3.put q (some ⟨cm9 k' id' pa' sz' fr' ct' so' dg' (.slice A' n' c'), true⟩)) := Fr.put _ (.inl rfl)
  have oz4 : Ow (h3.put q (some ⟨cm9 k' id' pa' sz' fr' ct' so' dg' (.slice A' n' c'), true⟩)) q (cm9 k' id' pa' sz' fr' ct' so' dg' (.slice A' n' c')) := Ow.put _ oz.1
  show RunO prog _ _ _ _ (h3.put q (some ⟨cm9 k' id' pa' sz' fr' ct' so' dg' (.slice A' n' c'), true⟩)) _
  generalize h3.put q (some ⟨cm9 k' id' pa' sz' fr' ct' so' dg' (.slice A' n' c'), true⟩) = h4 at *
  have fz : Fr no h h4 := ((f1.same f2).same f3).trans f4 (fun b e => .inr (by have e : b = q := e; omega))
  refine RunO.all rfl ?_
  refine RunC.seq (RunC.seqE (upd E0 52 (.bool (!(bl && restB id' pa' sz' fr' ct' so' dg' n')))) ?_ ?_)
  · refine RunC.region ?_
    unfold restB
    (repeat (first | refine RunO.step rfl ?_ | refine RunO.loadG rfl rfl (Ow.ld (by assumption) (by rfl)) rfl ?_ | refine RunO.nil ?_))
    cases bl with
    | false =>
      (repeat (first | refine RunO.step rfl ?_ | refine RunO.loadG rfl rfl (Ow.ld (by assumption) (by rfl)) rfl ?_ | refine RunO.nil ?_))
      exact ⟨rfl, Le.cons rfl (Le.nil _)⟩
    | true =>
    (repeat (first | refine RunO.step rfl ?_ | refine RunO.loadG rfl rfl (Ow.ld (by assumption) (by rfl)) rfl ?_ | refine RunO.nil ?_))
    rw [show (id' == 0) = !(id' != 0) from (Bool.not_not _).symm]
    generalize (id' != 0) = b0
    cases b0 with
    | true =>
      (repeat (first | refine RunO.step rfl ?_ | refine RunO.loadG rfl rfl (Ow.ld (by assumption) (by rfl)) rfl ?_ | refine RunO.nil ?_))
      exact ⟨rfl, Le.cons rfl (Le.nil _)⟩
    | false =>
    (repeat (first | refine RunO.step rfl ?_ | refine RunO.loadG rfl rfl (Ow.ld (by assumption) (by rfl)) rfl ?_ | refine RunO.nil ?_))
    rw [show (pa' == 0) = !(pa' != 0) from (Bool.not_not _).symm]
    generalize (pa' != 0) = b1
    cases b1 with
    | true =>
      (repeat (first | refine RunO.step rfl ?_ | refine RunO.loadG rfl rfl (Ow.ld (by assumption) (by rfl)) rfl ?_ | refine RunO.nil ?_))
      exact ⟨rfl, Le.cons rfl (Le.nil _)⟩
    | false =>
    (repeat (first | refine RunO.step rfl ?_ | refine RunO.loadG rfl rfl (Ow.ld (by assumption) (by rfl)) rfl ?_ | refine RunO.nil ?_))
    rw [show (sz' == 0) = !(sz' != 0) from (Bool.not_not _).symm]
    generalize (sz' != 0) = b2
    cases b2 with
    | true =>
      (repeat (first | refine RunO.step rfl ?_ | refine RunO.loadG rfl rfl (Ow.ld (by assumption) (by rfl)) rfl ?_ | refine RunO.nil ?_))
      exact ⟨rfl, Le.cons rfl (Le.nil _)⟩
    | false =>
    (repeat (first | refine RunO.step rfl ?_ | refine RunO.loadG rfl rfl (Ow.ld (by assumption) (by rfl)) rfl ?_ | refine RunO.nil ?_))
    rw [show (fr' == 0) = !(fr' != 0) from (Bool.not_not _).symm]
    generalize (fr' != 0) = b3
    cases b3 with
    | true =>
      (repeat (first | refine RunO.step rfl ?_ | refine RunO.loadG rfl rfl (Ow.ld (by assumption) (by rfl)) rfl ?_ | refine RunO.nil ?_))
      exact ⟨rfl, Le.cons rfl (Le.nil _)⟩
    | false =>
    (repeat (first | refine RunO.step rfl ?_ | refine RunO.loadG rfl rfl (Ow.ld (by assumption) (by rfl)) rfl ?_ | refine RunO.nil ?_))
    rw [show (ct' == 0) = !(ct' != 0) from (Bool.not_not _).symm]
    generalize (ct' != 0) = b4
    cases b4 with
    | true =>
      (repeat (first | refine RunO.step rfl ?_ | refine RunO.loadG rfl rfl (Ow.ld (by assumption) (by rfl)) rfl ?_ | refine RunO.nil ?_))
      exact ⟨rfl, Le.cons rfl (Le.nil _)⟩
    | false =>
    (repeat (first | refine RunO.step rfl ?_ | refine RunO.loadG rfl rfl (Ow.ld (by assumption) (by rfl)) rfl ?_ | refine RunO.nil ?_))
    rw [show (so' == 0) = !(so' != 0) from (Bool.not_not _).symm]
    generalize (so' != 0) = b5
    cases b5 with
    | true =>
      (repeat (first | refine RunO.step rfl ?_ | refine RunO.loadG rfl rfl (Ow.ld (by assumption) (by rfl)) rfl ?_ | refine RunO.nil ?_))
      exact ⟨rfl, Le.cons rfl (Le.nil _)⟩
    | false =>
    (repeat (first | refine RunO.step rfl ?_ | refine RunO.loadG rfl rfl (Ow.ld (by assumption) (by rfl)) rfl ?_ | refine RunO.nil ?_))
    rw [show (dg' == 0) = !(dg' != 0) from (Bool.not_not _).symm]
    generalize (dg' != 0) = b6
    cases b6 with
    | true =>
      (repeat (first | refine RunO.step rfl ?_ | refine RunO.loadG rfl rfl (Ow.ld (by assumption) (by rfl)) rfl ?_ | refine RunO.nil ?_))
      exact ⟨rfl, Le.cons rfl (Le.nil _)⟩
    | false =>
    (repeat (first | refine RunO.step rfl ?_ | refine RunO.loadG rfl rfl (Ow.ld (by assumption) (by rfl)) rfl ?_ | refine RunO.nil ?_))
    refine ⟨rfl, Le.cons (congrArg (fun b => some (Value.bool b)) ?_) (Le.nil _)⟩
    show decide ((n' : Int) > 0) = !(n' == 0)
    by_cases h0 : n' = 0
    · rw [h0]; rfl
    · rw [beq_eq_false_iff_ne.2 h0, decide_eq_true (by omega)]; rfl
  cases bl && restB id' pa' sz' fr' ct' so' dg' n' with
  | true =>
    refine RunC.cond rfl (fun g => by cases g) (fun _ => RunC.skip ?_)
    exact RunC.seq (RunC.region (RunO.all rfl (RunC.ret ⟨_, rfl, rfl, fz⟩)))
  | false =>
    refine RunC.cond rfl (fun _ => ?_) (fun g => by cases g)
    exact RunC.seq (RunC.region (RunO.all rfl (RunC.ret ⟨_, rfl, rfl, fz⟩)))
/-- A command stays within. -/
def reachB (k fr ct so : Int) (n : Nat) (size par : Int) : Bool :=
  if k = 2 then wi fr ((n / 64 : Nat) : Int) size
  else if k = 3 then wi fr ct size
  else if k = 4 then wi fr ct size && wi so ct par
  else true
set_option maxHeartbeats 4000000 in
theorem foldReach1_ok {h : Heap} {k id pa sz fr ct so dg size par : Int} {A : Option Addr} {n c : Nat} (hn : n ≤ 9223372036854775807) (hs : size ≤ 4611686018427387904) (hp : par ≤ 4611686018427387904) : RunF prog 68 [.agg ⟨cm9 k id pa sz fr ct so dg (.slice A n c)⟩, .int .i64 size, .int .i64 par] h fun v h' => v = .bool (reachB k fr ct so n size par) ∧ Fr no h h' := by
  refine RunF.walk func68 rfl rfl ?_
  refine RunC.seq (RunC.region (RunO.part 1 (h1 := h.push ⟨cm9 k id pa sz fr ct so dg (.slice A n c), true⟩) rfl ?_))
  have ow := Ow.push h (cm9 k id pa sz fr ct so dg (.slice A n c))
  have f1 : Fr no h (h.push ⟨cm9 k id pa sz fr ct so dg (.slice A n c), true⟩) := Fr.push _ _ _
  generalize h.push ⟨cm9 k id pa sz fr ct so dg (.slice A n c), true⟩ = h1 at *
  generalize h.next = p at *
  refine RunO.all rfl ?_
  refine RunC.seq (RunC.seq (RunC.region ?_))
  (repeat (first | refine RunO.step rfl ?_ | refine RunO.loadG rfl rfl (Ow.ld (by assumption) (by rfl)) rfl ?_ | refine RunO.nil ?_))
  unfold reachB
  refine RunC.block ?_
  refine RunC.seq (RunC.region (RunO.all rfl (RunC.cond rfl (fun c1 => ?_) (fun c1 => ?_))))
  · have c1 := beq_iff_eq.1 c1
    rw [if_pos c1]
    refine RunC.seq (RunC.drawQ rfl ?_)
    (repeat (first | refine RunQ.step rfl ?_ | refine RunQ.load rfl rfl (Ow.ld (by assumption) (by rfl)) rfl ?_ | refine RunQ.nil ?_))
    refine RunQ.call rfl (frameSectors_ok hn) (fun v h1 q => q.2) rfl rfl rfl ?_
    rintro _ g1 ⟨rfl, f2⟩
    (repeat (first | refine RunQ.step rfl ?_ | refine RunQ.load rfl rfl (Ow.ld (by assumption) (by rfl)) rfl ?_ | refine RunQ.nil ?_))
    refine RunQ.call rfl (frameWithin_ok hs) (fun v h1 q => q.2 ▸ Fr.refl _ _) rfl rfl rfl ?_
    rintro _ _ ⟨rfl, rfl⟩
    (repeat (first | refine RunQ.step rfl ?_ | refine RunQ.load rfl rfl (Ow.ld (by assumption) (by rfl)) rfl ?_ | refine RunQ.nil ?_))
    exact fun lw f3 => RunC.ret ⟨_, rfl, rfl, f1.same f3⟩
  have c1 := beq_eq_false_iff_ne.1 c1
  rw [if_neg c1]
  refine RunC.seq (RunC.region (RunO.all rfl (RunC.cond rfl (fun c2 => ?_) (fun c2 => ?_))))
  · have c2 := beq_iff_eq.1 c2
    rw [if_pos c2]
    refine RunC.seq (RunC.region ?_)
    (repeat (first | refine RunO.step rfl ?_ | refine RunO.loadG rfl rfl (Ow.ld (by assumption) (by rfl)) rfl ?_ | refine RunO.nil ?_))
    refine RunO.callD (frameWithin_ok hs) rfl rfl rfl ?_
    rintro _ _ ⟨rfl, rfl⟩
    (repeat (first | refine RunO.step rfl ?_ | refine RunO.loadG rfl rfl (Ow.ld (by assumption) (by rfl)) rfl ?_ | refine RunO.nil ?_))
    exact RunC.ret ⟨_, rfl, rfl, f1⟩
  have c2 := beq_eq_false_iff_ne.1 c2
  rw [if_neg c2]
  refine RunC.seq (RunC.region (RunO.all rfl (RunC.cond rfl (fun c3 => ?_) (fun c3 => ?_))))
  · have c3 := beq_iff_eq.1 c3
    rw [if_pos c3]
    refine RunC.seq (RunC.region ?_)
    (repeat (first | refine RunO.step rfl ?_ | refine RunO.loadG rfl rfl (Ow.ld (by assumption) (by rfl)) rfl ?_ | refine RunO.nil ?_))
    refine RunO.callD (frameWithin_ok hs) rfl rfl rfl ?_
    rintro _ _ ⟨rfl, rfl⟩
    (repeat (first | refine RunO.step rfl ?_ | refine RunO.loadG rfl rfl (Ow.ld (by assumption) (by rfl)) rfl ?_ | refine RunO.nil ?_))
    cases wi fr ct size with
    | false =>
      (repeat (first | refine RunO.step rfl ?_ | refine RunO.loadG rfl rfl (Ow.ld (by assumption) (by rfl)) rfl ?_ | refine RunO.nil ?_))
      exact RunC.ret ⟨_, rfl, rfl, f1⟩
    | true =>
    (repeat (first | refine RunO.step rfl ?_ | refine RunO.loadG rfl rfl (Ow.ld (by assumption) (by rfl)) rfl ?_ | refine RunO.nil ?_))
    refine RunO.callDG rfl (frameWithin_ok hp) rfl rfl rfl ?_
    rintro _ _ ⟨rfl, rfl⟩
    (repeat (first | refine RunO.step rfl ?_ | refine RunO.loadG rfl rfl (Ow.ld (by assumption) (by rfl)) rfl ?_ | refine RunO.nil ?_))
    exact RunC.ret ⟨_, rfl, rfl, f1⟩
  have c3 := beq_eq_false_iff_ne.1 c3
  rw [if_neg c3]
  refine RunC.skip ?_
  exact RunC.seq (RunC.region (RunO.all rfl (RunC.ret ⟨_, rfl, rfl, f1⟩)))
theorem foldReach_ok {h : Heap} {k id pa sz fr ct so dg size par : Int} {A : Option Addr} {n c : Nat} (hn : n ≤ 9223372036854775807) (hs : size ≤ 4611686018427387904) (hp : par ≤ 4611686018427387904) : RunF prog 38 [.agg ⟨cm9 k id pa sz fr ct so dg (.slice A n c)⟩, .int .i64 size, .int .i64 par] h fun v h' => v = .int .i64 (if reachB k fr ct so n size par then 0 else 3) ∧ Fr no h h' := by
  refine RunF.walk func38 rfl rfl ?_
  refine RunC.seq (RunC.region (RunO.part 1 (h1 := h.push ⟨cm9 k id pa sz fr ct so dg (.slice A n c), true⟩) rfl ?_))
  have ow := Ow.push h (cm9 k id pa sz fr ct so dg (.slice A n c))
  have f1 : Fr no h (h.push ⟨cm9 k id pa sz fr ct so dg (.slice A n c), true⟩) := Fr.push _ _ _
  generalize h.push ⟨cm9 k id pa sz fr ct so dg (.slice A n c), true⟩ = h1 at *
  generalize h.next = p at *
  refine RunO.all rfl ?_
  refine RunC.seq (RunC.seq (RunC.region ?_))
  (repeat (first | refine RunO.step rfl ?_ | refine RunO.loadG rfl rfl (Ow.ld (by assumption) (by rfl)) rfl ?_ | refine RunO.nil ?_))
  refine RunO.callD (foldReach1_ok hn hs hp) rfl rfl rfl ?_
  rintro _ h2 ⟨rfl, f2⟩
  cases reachB k fr ct so n size par with
  | true =>
    refine RunO.all rfl (RunC.cond rfl (fun g => by cases g) (fun _ => RunC.skip ?_))
    exact RunC.seq (RunC.region (RunO.all rfl (RunC.ret ⟨_, rfl, rfl, f1.same f2⟩)))
  | false =>
    refine RunO.all rfl (RunC.cond rfl (fun _ => ?_) (fun g => by cases g))
    exact RunC.seq (RunC.region (RunO.all rfl (RunC.ret ⟨_, rfl, rfl, f1.same f2⟩)))
end Go.Proofs.Ytdcggjkcbheolaa
end
section
set_option linter.unusedVariables false
open Go Go.Am Go.RowKit
namespace Go.Am
section
variable {P : Program} {n : Nat} {ops rest : List Oper} {m : Nat → Prop} {E E1 : Env} {h h1 : Heap} {Q : Env → Heap → Prop}
theorem RunT.copyAt {d : Tmp} {t t2 ty e : TypeId} {x y : Operand} {pos : String} {after : Array Edge} {gd : Option (Nat × Bool)} {b o dn dc sn k : Nat} {src : Value} {cs news : List Value}
    (hw : ewanted ops E ⟨some d, .call ⟨.builtin .copy, #[x, y], #[t, t2]⟩, ty, pos, after, gd⟩ = some true) (hx : gE E x = some (.slice (some ⟨b, o, none⟩) dn dc)) (hy : gE E y = some src) (hu : P.underlying t = some (.slice e)) (hs : sizeOf P e = some 1) (ow : Ow h b cs) (sl : Sl h src 1 sn news) (ha : allCells news = true) (hm : min sn dn = k) (hc : o + k ≤ cs.length) (hd : Nat.ble (Nat.succ d) n = true) (hmm : m b)
    (r : ∀ h', Ow h' b (cs.take o ++ news.take k ++ cs.drop (o + k)) → Fr (· = b) h h' → RunT P n ops rest m (upd E d (goInt k)) h' Q) : RunT P n ops (⟨some d, .call ⟨.builtin .copy, #[x, y], #[t, t2]⟩, ty, pos, after, gd⟩ :: rest) m E h Q := by
  obtain ⟨h', e1, e2, e3, e4⟩ := copy_sl (P := P) (h := h.lo h.next) (t := t) (dc := dc) hu hs ow sl ha hm hc
  refine RunT.oneG (v := goInt k) (f := .wr (idsOf [.slice (some ⟨b, o, none⟩) dn dc, src])) (h1 := h') (E1 := upd E d (goInt k)) hw ?_ ?_ (e3.weak (fun i g => .inl (by have g : i = b := g; rw [g]; exact hmm))) (by simp only [eput, hd, cond_true]) (r h' e2 ?_)
  · simp only [eop, gs, hx, hy, abuiltin, e1]
  · intro q; simp only [fpE, gs, hx, hy, Array.toList]
  · exact ⟨e3.next, e3.get, fun l a b c => e3.low l b b c⟩
end
end Go.Am
end
section
set_option linter.unusedVariables false
set_option linter.unusedSectionVars false
set_option maxRecDepth 100000
open Go Go.Am Go.RowKit
namespace Go.Proofs.Ytdcggjkcbheolaa
open Go.Proofs.Try

theorem RunO.clearC {n : Nat} {ops rest : List Oper} {E : Env} {h : Heap} {Q : Env → Heap → Prop} {ty : TypeId} {x : Operand} {pos : String} {after : Array Edge} {b c : Nat} {l : List Int}
    (hx : gE E x = some (.slice (some ⟨b, 0, none⟩) 64 c)) (ow : Ow h b (us l)) (hl : l.length = 64)
    (r : ∀ h', Ow h' b (us (List.replicate 64 0)) → Fr (· = b) h h' → RunO prog n ops rest E h' Q) : RunO prog n ops (⟨none, .call ⟨.builtin .clear, #[x], #[23]⟩, ty, pos, after, none⟩ :: rest) E h Q := by
  have e1 : aclear prog h 23 (.slice (some ⟨b, 0, none⟩) 64 c) = some (.tuple #[], h.put b (some ⟨us (List.replicate 64 0), true⟩)) := by
    have e2 : astoreL h ⟨b, 0, none⟩ (reps (cellsOf (.int .u8 0)) 64) = some (h.put b (some ⟨us (List.replicate 64 0), true⟩)) := by
      rw [reps_us, storeL_ow (vs := us (List.replicate 64 0)) ow (allCells_map (f := Value.int .u8) (fun _ => rfl) _) (by rw [us_len, us_len, hl]; decide)]
      rw [us_len, List.length_replicate, List.take_zero, List.nil_append, List.drop_eq_nil_of_le (by rw [us_len, hl]; decide), List.append_nil]
    show (match astoreL h ⟨b, 0, none⟩ (reps (cellsOf (.int .u8 0)) 64) with | some h' => some (Value.tuple #[], h') | none => none) = _
    rw [e2]
  refine RunO.one (v := .tuple #[]) (h1 := h.put b (some ⟨us (List.replicate 64 0), true⟩)) (E1 := E) rfl ?_ rfl (r _ (Ow.put _ ow.1) (Fr.put _ (.inl rfl)))
  simp only [eop, gs, hx, abuiltin, e1]
/-- Rows from one on are others. -/
def ovl (l : List (List Int)) (a : Nat) (g : Nat → List Int) : Nat → List (List Int)
  | 0 => l
  | n + 1 => (ovl l a g n).set (a + n) (g n)
theorem ovl_len (l : List (List Int)) (a : Nat) (g : Nat → List Int) : ∀ n, (ovl l a g n).length = l.length
  | 0 => rfl
  | n + 1 => by rw [ovl, List.length_set, ovl_len l a g n]
/-- What a command does to rows. -/
def oneR (l par : List (List Int)) (k sz fr ct so : Int) (da : List Int) : List (List Int) :=
  if k = 2 then ovl l fr.toNat (fun i => blkI da i) (da.length / 64)
  else if k = 3 then ovl l fr.toNat (fun _ => List.replicate 64 0) ct.toNat
  else if k = 4 then ovl l fr.toNat (fun i => par.getD (so.toNat + i) []) ct.toNat
  else if k = 5 then szR l sz.toNat
  else l
def oneW (l par : List (List Int)) (k id pa sz fr ct so dg : Int) (n : Nat) : Int :=
  if !(rgt l) || (!(rgt par) || !(chkB k id pa sz fr ct so dg n)) then 1 else if reachB k fr ct so n l.length par.length then 0 else 3
/-- What is then known of a command. -/
theorem one_facts {l par : List (List Int)} {k id pa sz fr ct so dg : Int} {n : Nat} (h : oneW l par k id pa sz fr ct so dg n = 0) :
    rgt l = true ∧ rgt par = true ∧ (k = 2 → n = (n / 64) * 64 ∧ ∃ f : Nat, fr = (f : Int) ∧ f + n / 64 ≤ l.length) ∧ (k = 3 → ∃ f c : Nat, fr = (f : Int) ∧ ct = (c : Int) ∧ f + c ≤ l.length) ∧
    (k = 4 → ∃ f c s : Nat, fr = (f : Int) ∧ ct = (c : Int) ∧ so = (s : Int) ∧ f + c ≤ l.length ∧ s + c ≤ par.length) ∧ (k = 5 → ∃ s : Nat, sz = (s : Int) ∧ s ≤ 512) := by
  unfold oneW at h
  split at h
  · cases h
  rename_i h1
  split at h
  case isFalse => cases h
  rename_i h2
  rw [Bool.not_eq_true, Bool.or_eq_false_iff, Bool.or_eq_false_iff, Bool.not_eq_false', Bool.not_eq_false', Bool.not_eq_false'] at h1
  obtain ⟨a1, a2, a3⟩ := h1
  refine ⟨a1, a2, fun e => ?_, fun e => ?_, fun e => ?_, fun e => ?_⟩
  all_goals subst e
  · unfold reachB at h2
    rw [if_pos rfl, wi_iff] at h2
    unfold chkB bareOk wrB at a3
    rw [if_neg (by decide), if_pos rfl, Bool.and_eq_true, Bool.and_eq_true, beq_iff_eq] at a3
    refine ⟨by have := a3.1.1; omega, fr.toNat, by omega, by omega⟩
  · unfold reachB at h2
    rw [if_neg (by decide), if_pos rfl, wi_iff] at h2
    exact ⟨fr.toNat, ct.toNat, by omega, by omega, by omega⟩
  · unfold reachB at h2
    rw [if_neg (by decide), if_neg (by decide), if_pos rfl, Bool.and_eq_true, wi_iff, wi_iff] at h2
    exact ⟨fr.toNat, ct.toNat, so.toNat, by omega, by omega, by omega, by omega, by omega⟩
  · unfold chkB bareOk at a3
    rw [if_neg (by decide), if_neg (by decide), if_neg (by decide), if_neg (by decide), if_pos rfl, Bool.and_eq_true, inB_iff] at a3
    exact ⟨sz.toNat, by omega, by omega⟩
set_option maxHeartbeats 8000000 in
theorem foldOne_ok {h : Heap} {lv pv : Value} {l par : List (List Int)} {k id pa sz fr ct so dg : Int} {da : List Int} {A : Option Addr} {c : Nat} (rl : Rws h lv l) (rp : Rws h pv par) (hl : l.length ≤ 100000) (hp : par.length ≤ 100000)
    (sd : Sl h (.slice A da.length c) 1 da.length (us da)) (hd : da.length ≤ 1000000) :
    RunF prog 10 [lv, pv, .agg ⟨cm9 k id pa sz fr ct so dg (.slice A da.length c)⟩] h fun v h' => Fr no h h' ∧ ∃ w, v = .tuple #[w, .int .i64 (oneW l par k id pa sz fr ct so dg da.length)] ∧
      (oneW l par k id pa sz fr ct so dg da.length = 0 → Rws h' w (oneR l par k sz fr ct so da)) ∧ (oneW l par k id pa sz fr ct so dg da.length ≠ 0 → w = .slice none 0 0) := by
  refine RunF.walk func10 rfl rfl ?_
  refine RunC.seq (RunC.region (RunO.part 1 (h1 := h.push ⟨cm9 k id pa sz fr ct so dg (.slice A da.length c), true⟩) rfl ?_))
  have ow := Ow.push h (cm9 k id pa sz fr ct so dg (.slice A da.length c))
  have f1 : Fr no h (h.push ⟨cm9 k id pa sz fr ct so dg (.slice A da.length c), true⟩) := Fr.push _ _ _
  obtain ⟨p, hp0⟩ : ∃ q, q = h.next := ⟨_, rfl⟩
  rw [← hp0] at ow ⊢
  generalize h.push ⟨cm9 k id pa sz fr ct so dg (.slice A da.length c), true⟩ = h1 at *
  refine RunO.all rfl ?_
  replace rl := rl.fr0 f1
  replace rp := rp.fr0 f1
  replace sd := sd.fr0 f1
  have h0l := rl
  have h0p := rp
  obtain ⟨lcs, sl, _⟩ := h0l
  obtain ⟨pcs, sp, _⟩ := h0p
  obtain ⟨lA, lc, rfl, _, _⟩ := sl.form
  obtain ⟨pA, pc, rfl, _, _⟩ := sp.form
  have hdl : da.length ≤ 9223372036854775807 := by omega
  unfold oneW
  refine RunC.seq ((RunC.seqc (fun E' h' => Fr no h1 h' ∧ Le (upd (upd (upd (upd (upd E0 0 (.slice lA l.length lc)) 1 (.slice pA par.length pc)) 5 (.pointer (some ⟨p, 0, none⟩))) 6 (.slice none 0 0)) 25 (.bool (!(rgt l) || (!(rgt par) || !(chkB k id pa sz fr ct so dg da.length))))) E') ?g1 ?g2))
  case g1 =>
    refine RunC.region (RunO.part 1 rfl ?_)
    refine RunO.callD (foldRight_ok rl hl) rfl rfl rfl ?_
    rintro _ h2 ⟨rfl, f2⟩
    replace ow := ow.fr f2 (fun g => g)
    cases rgt l with
    | false =>
      (repeat (first | refine RunO.step rfl ?_ | refine RunO.loadG rfl rfl (Ow.ld (by assumption) (by rfl)) rfl ?_ | refine RunO.nil ?_))
      exact ⟨f2, Le.cons rfl (Le.cons rfl (Le.cons rfl (Le.cons rfl (Le.cons rfl (Le.nil _)))))⟩
    | true =>
    (repeat (first | refine RunO.step rfl ?_ | refine RunO.loadG rfl rfl (Ow.ld (by assumption) (by rfl)) rfl ?_ | refine RunO.nil ?_))
    refine RunO.callDG rfl (foldRight_ok (rp.fr0 f2) hp) rfl rfl rfl ?_
    rintro _ h3 ⟨rfl, f3⟩
    replace ow := ow.fr f3 (fun g => g)
    cases rgt par with
    | false =>
      (repeat (first | refine RunO.step rfl ?_ | refine RunO.loadG rfl rfl (Ow.ld (by assumption) (by rfl)) rfl ?_ | refine RunO.nil ?_))
      exact ⟨f2.same f3, Le.cons rfl (Le.cons rfl (Le.cons rfl (Le.cons rfl (Le.cons rfl (Le.nil _)))))⟩
    | true =>
    (repeat (first | refine RunO.step rfl ?_ | refine RunO.loadG rfl rfl (Ow.ld (by assumption) (by rfl)) rfl ?_ | refine RunO.nil ?_))
    refine RunO.callDG rfl (frameCheck_ok hdl) rfl rfl rfl ?_
    rintro _ h4 ⟨rfl, f4⟩
    cases chkB k id pa sz fr ct so dg da.length with
    | false =>
      (repeat (first | refine RunO.step rfl ?_ | refine RunO.loadG rfl rfl (Ow.ld (by assumption) (by rfl)) rfl ?_ | refine RunO.nil ?_))
      exact ⟨(f2.same f3).same f4, Le.cons rfl (Le.cons rfl (Le.cons rfl (Le.cons rfl (Le.cons rfl (Le.nil _)))))⟩
    | true =>
      (repeat (first | refine RunO.step rfl ?_ | refine RunO.loadG rfl rfl (Ow.ld (by assumption) (by rfl)) rfl ?_ | refine RunO.nil ?_))
      exact ⟨(f2.same f3).same f4, Le.cons rfl (Le.cons rfl (Le.cons rfl (Le.cons rfl (Le.cons rfl (Le.nil _)))))⟩
  rintro E' h2 ⟨f2, hE⟩
  refine RunC.le hE ?_
  clear hE
  by_cases hb : (!(rgt l) || (!(rgt par) || !(chkB k id pa sz fr ct so dg da.length))) = true
  · rw [hb, if_pos rfl]
    refine RunC.cond rfl (fun _ => ?_) (fun g => by cases g)
    exact RunC.seq (RunC.region (RunO.all rfl (RunC.ret ⟨_, rfl, f1.same f2, _, rfl, (fun e => absurd e (by decide)), fun _ => rfl⟩)))
  have hb2 := hb
  rw [Bool.not_eq_true] at hb2
  rw [hb2, if_neg Bool.false_ne_true]
  refine RunC.cond rfl (fun g => by cases g) (fun _ => RunC.skip ?_)
  have ow2 := ow.fr f2 (fun g => g)
  refine RunC.seq (RunC.region ?_)
  (repeat (first | refine RunO.step rfl ?_ | refine RunO.loadG rfl rfl (Ow.ld (by assumption) (by rfl)) rfl ?_ | refine RunO.nil ?_))
  refine RunO.callD (foldReach_ok hdl (by omega) (by omega)) rfl rfl rfl ?_
  rintro _ h3 ⟨rfl, f3⟩
  have ow3 := ow2.fr f3 (fun g => g)
  have f13 := f2.same f3
  cases hrb : reachB k fr ct so da.length l.length par.length with
  | false =>
    (repeat (first | refine RunO.step rfl ?_ | refine RunO.loadG rfl rfl (Ow.ld (by assumption) (by rfl)) rfl ?_ | refine RunO.nil ?_))
    refine RunC.seq (RunC.seq (RunC.region (RunO.all rfl (RunC.cond rfl (fun _ => ?_) (fun g => by cases g)))))
    exact RunC.seq (RunC.region (RunO.all rfl (RunC.ret ⟨_, rfl, f1.same f13, _, rfl, (fun e => absurd e (by decide)), fun _ => rfl⟩)))
  | true =>
  have hfa : oneW l par k id pa sz fr ct so dg da.length = 0 := by
    unfold oneW
    rw [if_neg hb, if_pos hrb]
  obtain ⟨w1, w2, w3, w4, w5, w6⟩ := one_facts hfa
  clear hfa hb hb2 hrb
  have hl5 := (rgt_of w1).1
  have h64 := (rgt_of w1).2
  (repeat (first | refine RunO.step rfl ?_ | refine RunO.loadG rfl rfl (Ow.ld (by assumption) (by rfl)) rfl ?_ | refine RunO.nil ?_))
  refine RunC.seq (RunC.seq (RunC.region (RunO.all rfl (RunC.cond rfl (fun g => by cases g) (fun _ => RunC.skip ?_)))))
  replace rl := rl.fr0 f13
  replace rp := rp.fr0 f13
  replace sd := sd.fr0 f13
  refine RunC.seq (RunC.region (RunO.part 1 rfl ?_))
  refine RunO.callD (foldTwin_ok rl hl5 h64) rfl rfl rfl ?_
  rintro tv h4 ⟨ro, hz, f4⟩
  have f14 := f13.same f4
  have ow4 := ow3.fr f4 (fun g => g)
  obtain ⟨lo, hlo⟩ : ∃ q, q = h3.next := ⟨_, rfl⟩
  rw [← hlo] at ro
  have hlo4 : lo ≤ h4.next := by have := f4.next; omega
  have hplo : p < lo := by have := ow3.1; omega
  have hlo0 : h.next ≤ lo := by omega
  (repeat (first | refine RunO.step rfl ?_ | refine RunO.loadG rfl rfl (Ow.ld (by assumption) (by rfl)) rfl ?_ | refine RunO.nil ?_))
  refine (RunC.seqc (fun E' h' => Fr (fun b => lo ≤ b) h4 h' ∧ ∃ w, Rws h' w (oneR l par k sz fr ct so da) ∧ Le (upd E0 9 w) E') ?wr ?fi)
  case fi =>
    rintro E' h5 ⟨f5, w, rw_, hE⟩
    refine RunC.le hE ?_
    clear hE
    refine RunC.seq (RunC.region (RunO.all rfl ?_))
    exact RunC.ret ⟨_, rfl, ((f1.same f14).trans f5 (fun b g => .inr (by have g : lo ≤ b := g; omega))), _, rfl, fun _ => rw_, fun g => absurd rfl g⟩
  unfold oneR
  refine RunC.seq (RunC.region ?_)
  (repeat (first | refine RunO.step rfl ?_ | refine RunO.loadG rfl rfl (Ow.ld (by assumption) (by rfl)) rfl ?_ | refine RunO.nil ?_))
  refine RunC.block ?_
  refine RunC.seq (RunC.region (RunO.all rfl (RunC.cond rfl (fun c2 => ?_) (fun c2 => ?_))))
  · have c2 := beq_iff_eq.1 c2
    rw [if_pos c2]
    obtain ⟨hn64, F, rfl, hF⟩ := w3 c2
    rw [Int.toNat_natCast]
    refine RunC.seq (RunC.region ?_)
    (repeat (first | refine RunO.step rfl ?_ | refine RunO.loadG rfl rfl (Ow.ld (by assumption) (by rfl)) rfl ?_ | refine RunO.nil ?_))
    refine RunO.callD (frameSectors_ok hdl) rfl rfl rfl ?_
    rintro _ h5 ⟨rfl, f5⟩
    replace ro := ro.fr0 f5
    have ow5 := ow4.fr f5 (fun g => g)
    have hlo5 : lo ≤ h5.next := by have := f5.next; omega
    (repeat (first | refine RunO.step rfl ?_ | refine RunO.loadG rfl rfl (Ow.ld (by assumption) (by rfl)) rfl ?_ | refine RunO.nil ?_))
    refine RunC.block ?_
    refine RunC.loop (fun d E h' => ∃ i : Nat, i + d = (da.length / 64) ∧ Fr (fun b => lo ≤ b) h5 h' ∧ RwO lo h' tv (ovl l F (fun i => blkI da i) i) ∧ Le (upd (upd (upd (upd (upd E0 1 (.slice pA par.length pc)) 5 (.pointer (some ⟨p, 0, none⟩))) 9 tv) 42 (.int .i64 (((da.length / 64) : Nat) : Int))) 43 (.int .i64 (i : Int))) E) ?st2 (k := (da.length / 64)) ?ini2
    case ini2 => exact ⟨0, by omega, Fr.refl _ _, ro, Le.cons rfl (Le.cons rfl (Le.cons rfl (Le.cons rfl (Le.cons rfl (Le.nil _)))))⟩
    rintro d E g1 ⟨i, hi, fq, rq, hE⟩
    refine RunC.le hE ?_
    clear hE
    refine RunC.seq (RunC.region (RunO.all rfl ?_))
    refine RunC.seq (RunC.cond rfl (fun hlt => RunC.skip ?go2) (fun hge => RunC.exit ?ex2))
    case ex2 =>
      have hge := of_decide_eq_false hge
      obtain rfl : i = (da.length / 64) := by omega
      exact ⟨(f5.weak (m1 := fun b => lo ≤ b) (fun _ g => by cases g)).trans fq (fun b g => .inl g), tv, rq.rws (by rw [ovl_len]; omega), Le.cons rfl (Le.nil _)⟩
    have hlt := of_decide_eq_true hlt
    have hlt : i < (da.length / 64) := by omega
    have hlen := ovl_len l F (fun i => blkI da i) i
    have owg := ow5.fr fq (fun g => by have g : lo ≤ p := g; omega)
    have fn : Fr no h3 g1 := (f4.same f5).trans fq (fun b g => .inr (by have g : lo ≤ b := g; omega))
    obtain ⟨bs, row, k2, k3⟩ := rq
    have hbl := RwO.len row
    have hFi : F + i < bs.length := by omega
    obtain ⟨a1, a2, a3, a4, a5⟩ := k3 (F + i) bs[F + i] _ (List.getElem?_eq_getElem hFi) (List.getElem?_eq_getElem (by omega))
    have hrow : (bs.map rowC)[F + i]? = some (rowC bs[F + i]) := by rw [List.getElem?_map, List.getElem?_eq_getElem hFi]; rfl
    have srow := row.sl (by omega)
    refine RunC.seq (RunC.block ?_)
    refine RunC.seq (RunC.region (RunO.all rfl ?_))
    have sdg := sd.fr0 fn
    obtain ⟨bd, od, cd, e0, hcd, rd⟩ := sdg.nz (by omega)
    have hbl2 := blkI_len (l := da) (i := i) (by omega)
    refine RunC.drawT 11 (fun b => lo ≤ b) rfl ?_
    (repeat (first | refine RunQ.step rfl ?_ | refine RunQ.load rfl rfl (Ow.ld (by assumption) (by rfl)) rfl ?_ | refine RunQ.nil ?_))
    rw [fw64 (x := (F : Int) + (i : Int)) (by omega) (by omega), show (F : Int) + (i : Int) = ((F + i : Nat) : Int) by omega]
    refine RunQ.at (s := 1) (k := F + i) rfl (fun _ => rfl) rfl rfl srow rfl rfl (by omega) (row_part hrow) rfl rfl rfl ?_
    (repeat (first | refine RunQ.step rfl ?_ | refine RunQ.load rfl rfl (Ow.ld (by assumption) (by rfl)) rfl ?_ | refine RunQ.nil ?_))
    rw [e0]
    refine RunQ.call rfl (devOf_ok (b := bd) (o := od) (c := cd) (i := i) (l := da) (by omega) (by omega) hcd) (fun v h1 q => by obtain ⟨_, rfl⟩ := q; exact Fr.refl _ _) rfl rfl rfl ?_
    rintro _ _ ⟨⟨c', hc', rfl⟩, rfl⟩
    refine RunQ.lo ?_
    refine RunQ.all rfl ?_
    have sb : Sl g1 (.slice (some ⟨bd, od + i * 64, none⟩) 64 c') 1 64 (us (blkI da i)) := (rdBlk rd (by omega)).sl (by rw [us_len, hbl2]) (by decide) hc'
    refine RunT.copyAt (k := 64) rfl rfl rfl rfl rfl a3 sb (allCells_map (f := Value.int .u8) (fun _ => rfl) _) rfl (by rw [us_len, a1]; decide) rfl a4 ?_
    intro g2 o2 f6
    refine RunT.nil ?_
    intro lw F8
    rw [List.take_zero, List.nil_append, List.take_of_length_le (by rw [us_len, hbl2]; decide), List.drop_eq_nil_of_le (by rw [us_len, a1]; decide), List.append_nil] at o2
    have rq2 := RwO.set row k2 k3 (i := F + i) (List.getElem?_eq_getElem hFi) hbl2 o2 f6
    have rq3 : RwO lo (g2.lo lw) tv (ovl l F (fun i => blkI da i) (i + 1)) := rq2
    generalize g2.lo lw = g3 at *
    refine RunC.region (RunO.all rfl ?_)
    exact ⟨d - 1, by omega, i + 1, by omega, fq.trans F8 (fun b g => .inl g), rq3, Le.cons (inc64 (by omega)) (Le.cons rfl (Le.cons rfl (Le.cons rfl (Le.cons rfl (Le.nil _)))))⟩
  have c2 := beq_eq_false_iff_ne.1 c2
  rw [if_neg c2]
  refine RunC.seq (RunC.region (RunO.all rfl (RunC.cond rfl (fun c3 => ?_) (fun c3 => ?_))))
  · have c3 := beq_iff_eq.1 c3
    rw [if_pos c3]
    obtain ⟨F, C, rfl, rfl, hF⟩ := w4 c3
    rw [Int.toNat_natCast, Int.toNat_natCast]
    refine RunC.seq (RunC.region ?_)
    (repeat (first | refine RunO.step rfl ?_ | refine RunO.loadG rfl rfl (Ow.ld (by assumption) (by rfl)) rfl ?_ | refine RunO.nil ?_))
    refine RunC.block ?_
    refine RunC.loop (fun d E h' => ∃ i : Nat, i + d = C ∧ Fr (fun b => lo ≤ b) h4 h' ∧ RwO lo h' tv (ovl l F (fun _ => List.replicate 64 0) i) ∧ Le (upd (upd (upd (upd (upd E0 1 (.slice pA par.length pc)) 5 (.pointer (some ⟨p, 0, none⟩))) 9 tv) 62 (.int .i64 ((C : Nat) : Int))) 63 (.int .i64 (i : Int))) E) ?st3 (k := C) ?ini3
    case ini3 => exact ⟨0, by omega, Fr.refl _ _, ro, Le.cons rfl (Le.cons rfl (Le.cons rfl (Le.cons rfl (Le.cons rfl (Le.nil _)))))⟩
    rintro d E g1 ⟨i, hi, fq, rq, hE⟩
    refine RunC.le hE ?_
    clear hE
    refine RunC.seq (RunC.region (RunO.all rfl ?_))
    refine RunC.seq (RunC.cond rfl (fun hlt => RunC.skip ?go3) (fun hge => RunC.exit ?ex3))
    case ex3 =>
      have hge := of_decide_eq_false hge
      obtain rfl : i = C := by omega
      exact ⟨fq, tv, rq.rws (by rw [ovl_len]; omega), Le.cons rfl (Le.nil _)⟩
    have hlt := of_decide_eq_true hlt
    have hlt : i < C := by omega
    have hlen := ovl_len l F (fun _ => List.replicate 64 0) i
    have owg := ow4.fr fq (fun g => by have g : lo ≤ p := g; omega)
    have fn : Fr no h3 g1 := f4.trans fq (fun b g => .inr (by have g : lo ≤ b := g; omega))
    obtain ⟨bs, row, k2, k3⟩ := rq
    have hbl := RwO.len row
    have hFi : F + i < bs.length := by omega
    obtain ⟨a1, a2, a3, a4, a5⟩ := k3 (F + i) bs[F + i] _ (List.getElem?_eq_getElem hFi) (List.getElem?_eq_getElem (by omega))
    have hrow : (bs.map rowC)[F + i]? = some (rowC bs[F + i]) := by rw [List.getElem?_map, List.getElem?_eq_getElem hFi]; rfl
    have srow := row.sl (by omega)
    refine RunC.seq (RunC.block ?_)
    refine RunC.seq (RunC.region (RunO.all rfl ?_))
    refine RunC.region ?_
    (repeat (first | refine RunO.step rfl ?_ | refine RunO.loadG rfl rfl (Ow.ld (by assumption) (by rfl)) rfl ?_ | refine RunO.nil ?_))
    rw [fw64 (x := (F : Int) + (i : Int)) (by omega) (by omega), show (F : Int) + (i : Int) = ((F + i : Nat) : Int) by omega]
    refine RunO.at (s := 1) (k := F + i) rfl rfl srow rfl rfl (by omega) (row_part hrow) rfl rfl rfl ?_
    refine RunO.clearC rfl a3 a1 ?_
    intro g2 o2 f6
    have rq2 := RwO.set row k2 k3 (i := F + i) (List.getElem?_eq_getElem hFi) (by rfl) o2 f6
    refine RunO.nil ?_
    refine RunC.region (RunO.all rfl ?_)
    exact ⟨d - 1, by omega, i + 1, by omega, fq.trans f6 (fun b g => .inl (by have g : b = _ := g; rw [g]; exact a4)), rq2, Le.cons (inc64 (by omega)) (Le.cons rfl (Le.cons rfl (Le.cons rfl (Le.cons rfl (Le.nil _)))))⟩
  have c3 := beq_eq_false_iff_ne.1 c3
  rw [if_neg c3]
  refine RunC.seq (RunC.region (RunO.all rfl (RunC.cond rfl (fun c4 => ?_) (fun c4 => ?_))))
  · have c4 := beq_iff_eq.1 c4
    rw [if_pos c4]
    obtain ⟨F, C, S, rfl, rfl, rfl, hF, hS⟩ := w5 c4
    rw [Int.toNat_natCast, Int.toNat_natCast, Int.toNat_natCast]
    refine RunC.seq (RunC.region ?_)
    (repeat (first | refine RunO.step rfl ?_ | refine RunO.loadG rfl rfl (Ow.ld (by assumption) (by rfl)) rfl ?_ | refine RunO.nil ?_))
    refine RunC.block ?_
    refine RunC.loop (fun d E h' => ∃ i : Nat, i + d = C ∧ Fr (fun b => lo ≤ b) h4 h' ∧ RwO lo h' tv (ovl l F (fun i => par.getD (S + i) []) i) ∧ Le (upd (upd (upd (upd (upd E0 1 (.slice pA par.length pc)) 5 (.pointer (some ⟨p, 0, none⟩))) 9 tv) 77 (.int .i64 ((C : Nat) : Int))) 78 (.int .i64 (i : Int))) E) ?st4 (k := C) ?ini4
    case ini4 => exact ⟨0, by omega, Fr.refl _ _, ro, Le.cons rfl (Le.cons rfl (Le.cons rfl (Le.cons rfl (Le.cons rfl (Le.nil _)))))⟩
    rintro d E g1 ⟨i, hi, fq, rq, hE⟩
    refine RunC.le hE ?_
    clear hE
    refine RunC.seq (RunC.region (RunO.all rfl ?_))
    refine RunC.seq (RunC.cond rfl (fun hlt => RunC.skip ?go4) (fun hge => RunC.exit ?ex4))
    case ex4 =>
      have hge := of_decide_eq_false hge
      obtain rfl : i = C := by omega
      exact ⟨fq, tv, rq.rws (by rw [ovl_len]; omega), Le.cons rfl (Le.nil _)⟩
    have hlt := of_decide_eq_true hlt
    have hlt : i < C := by omega
    have hlen := ovl_len l F (fun i => par.getD (S + i) []) i
    have owg := ow4.fr fq (fun g => by have g : lo ≤ p := g; omega)
    have fn : Fr no h3 g1 := f4.trans fq (fun b g => .inr (by have g : lo ≤ b := g; omega))
    obtain ⟨bs, row, k2, k3⟩ := rq
    have hbl := RwO.len row
    have hFi : F + i < bs.length := by omega
    obtain ⟨a1, a2, a3, a4, a5⟩ := k3 (F + i) bs[F + i] _ (List.getElem?_eq_getElem hFi) (List.getElem?_eq_getElem (by omega))
    have hrow : (bs.map rowC)[F + i]? = some (rowC bs[F + i]) := by rw [List.getElem?_map, List.getElem?_eq_getElem hFi]; rfl
    have srow := row.sl (by omega)
    refine RunC.seq (RunC.block ?_)
    refine RunC.seq (RunC.region (RunO.all rfl ?_))
    have rpg := rp.fr0 fn
    obtain ⟨pcs, sp2, kp⟩ := rpg
    have hSi : S + i < par.length := by omega
    have eg : par.getD (S + i) [] = par[S + i] := by rw [List.getD_eq_getElem?_getD, List.getElem?_eq_getElem hSi]; rfl
    obtain ⟨pw, ep, spw⟩ := kp (S + i) par[S + i] (List.getElem?_eq_getElem hSi)
    have hp64 := (rgt_of w2).2 par[S + i] (List.getElem_mem hSi)
    refine RunC.draw0 rfl ?_
    (repeat (first | refine RunO.step rfl ?_ | refine RunO.loadG rfl rfl (Ow.ld (by assumption) (by rfl)) rfl ?_ | refine RunO.nil ?_))
    rw [fw64 (x := (F : Int) + (i : Int)) (by omega) (by omega), show (F : Int) + (i : Int) = ((F + i : Nat) : Int) by omega]
    refine RunO.at (s := 1) (k := F + i) rfl rfl srow rfl rfl (by omega) (row_part hrow) rfl rfl rfl ?_
    (repeat (first | refine RunO.step rfl ?_ | refine RunO.loadG rfl rfl (Ow.ld (by assumption) (by rfl)) rfl ?_ | refine RunO.nil ?_))
    rw [fw64 (x := (S : Int) + (i : Int)) (by omega) (by omega), show (S : Int) + (i : Int) = ((S + i : Nat) : Int) by omega]
    refine RunO.at (s := 1) (k := S + i) rfl rfl sp2 rfl rfl hSi (row_part ep) rfl rfl rfl ?_
    refine RunO.copy (k := 64) rfl rfl rfl rfl a3 spw (allCells_map (f := Value.int .u8) (fun _ => rfl) _) (by rw [hp64]; rfl) (by rw [us_len, a1]; decide) rfl ?_
    intro g2 o2 f6 _
    rw [List.take_of_length_le (by rw [us_len, hp64]; decide), List.drop_eq_nil_of_le (by rw [us_len, a1]; decide), List.append_nil] at o2
    have rq2 := RwO.set row k2 k3 (i := F + i) (List.getElem?_eq_getElem hFi) hp64 o2 f6
    refine RunO.nil ?_
    refine RunC.region (RunO.all rfl ?_)
    exact ⟨d - 1, by omega, i + 1, by omega, fq.trans f6 (fun b g => .inl (by have g : b = _ := g; rw [g]; exact a4)), (by rw [ovl, eg]; exact rq2), Le.cons (inc64 (by omega)) (Le.cons rfl (Le.cons rfl (Le.cons rfl (Le.cons rfl (Le.nil _)))))⟩
  have c4 := beq_eq_false_iff_ne.1 c4
  rw [if_neg c4]
  refine RunC.seq (RunC.region (RunO.all rfl (RunC.cond rfl (fun c5 => ?_) (fun c5 => ?_))))
  · have c5 := beq_iff_eq.1 c5
    rw [if_pos c5]
    obtain ⟨S, rfl, hS⟩ := w6 c5
    rw [Int.toNat_natCast]
    refine RunC.region ?_
    (repeat (first | refine RunO.step rfl ?_ | refine RunO.loadG rfl rfl (Ow.ld (by assumption) (by rfl)) rfl ?_ | refine RunO.nil ?_))
    refine RunO.callD (foldSize_ok ro hlo4 hl5 hS hz) rfl rfl rfl ?_
    rintro w h5 ⟨rw_, f5⟩
    refine RunO.all rfl ?_
    exact ⟨f5, w, rw_, Le.cons rfl (Le.nil _)⟩
  have c5 := beq_eq_false_iff_ne.1 c5
  rw [if_neg c5]
  exact RunC.skip ⟨Fr.refl _ _, tv, ro.rws (by omega), Le.cons rfl (Le.nil _)⟩
end Go.Proofs.Ytdcggjkcbheolaa
end
section
set_option linter.unusedVariables false
set_option linter.unusedSectionVars false
set_option maxRecDepth 100000
open Go Go.Am Go.RowKit
namespace Go.Proofs.Ytdcggjkcbheolaa
open Go.Proofs.Try

/- Rows of commands. -/
def Cms (h : Heap) (v : Value) (l : List Cm) : Prop :=
  ∃ acs, Sl h v 9 l.length acs ∧ ∀ (j : Nat) (x : Cm), l[j]? = some x → ∃ dv, (acs.drop (j * 9)).take 9 = cm9 x.k x.id x.pa x.sz x.fr x.ct x.so x.dg dv ∧ Sl h dv 1 x.da.length (us x.da)
theorem cm_part {acs : List Value} {n j : Nat} (hl : acs.length = n * 9) (hj : j < n) : apart prog 25 acs (j * 9) = some (.agg ⟨(acs.drop (j * 9)).take 9⟩) := by
  show (match takeN 9 (dropN (j * 9) acs) with | some l => some (Value.agg ⟨l⟩) | none => none) = _
  rw [takeN_eq, dropN_eq, if_pos (by rw [List.length_drop]; omega)]
def oneWc (l par : List (List Int)) (x : Cm) : Int := oneW l par x.k x.id x.pa x.sz x.fr x.ct x.so x.dg x.da.length
def oneRc (l par : List (List Int)) (x : Cm) : List (List Int) := oneR l par x.k x.sz x.fr x.ct x.so x.da
/-- What commands do, one behind the other. -/
def allG (par : List (List Int)) : List Cm → List (List Int) → List (List Int) × Int
  | [], R => (R, 0)
  | x :: l, R => if oneWc R par x = 0 then allG par l (oneRc R par x) else ([], oneWc R par x)
theorem oneR_len {l par : List (List Int)} {x : Cm} (h : oneWc l par x = 0) : (oneRc l par x).length ≤ 512 := by
  obtain ⟨w1, w2, w3, w4, w5, w6⟩ := one_facts h
  have hl := (rgt_of w1).1
  unfold oneRc oneR
  split
  · rw [ovl_len]; exact hl
  split
  · rw [ovl_len]; exact hl
  split
  · rw [ovl_len]; exact hl
  split
  · rename_i h5
    obtain ⟨s, e, hs⟩ := w6 h5
    rw [e, Int.toNat_natCast]
    unfold szR
    rw [List.length_take]
    omega
  · exact hl
def allW (par : List (List Int)) (l : List Cm) : Int := if rgt par then (allG par l par).2 else 1
set_option maxHeartbeats 4000000 in
theorem foldAll_ok {h : Heap} {pv cv : Value} {par : List (List Int)} {l : List Cm} (rp : Rws h pv par) (rc : Cms h cv l) (hp : par.length ≤ 100000) (hl : l.length ≤ 100000) (hd : ∀ x ∈ l, x.da.length ≤ 1000000) :
    RunF prog 14 [pv, cv] h fun v h' => Fr no h h' ∧ ∃ w, v = .tuple #[w, .int .i64 (allW par l)] ∧ (allW par l = 0 → Rws h' w (allG par l par).1) ∧ (allW par l ≠ 0 → w = .slice none 0 0) := by
  refine RunF.walk func14 rfl rfl ?_
  have h0p := rp
  obtain ⟨pcs, sp, _⟩ := h0p
  obtain ⟨pA, pc, rfl, _, _⟩ := sp.form
  obtain ⟨acs, sc, kc⟩ := rc
  have sc0 := sc
  obtain ⟨cA, cc, rfl, _, _⟩ := sc.form
  refine RunC.seq (RunC.region (RunO.all rfl ?_))
  refine RunC.seq (RunC.seq (RunC.region (RunO.part 1 rfl ?_)))
  refine RunO.callD (foldRight_ok rp hp) rfl rfl rfl ?_
  rintro _ h1 ⟨rfl, f1⟩
  unfold allW
  cases hr : rgt par with
  | false =>
    rw [if_neg Bool.false_ne_true]
    refine RunO.all rfl (RunC.cond rfl (fun _ => ?_) (fun g => by cases g))
    exact RunC.seq (RunC.region (RunO.all rfl (RunC.ret ⟨_, rfl, f1, _, rfl, (fun e => absurd e (by decide)), fun _ => rfl⟩)))
  | true =>
  rw [if_pos rfl]
  refine RunO.all rfl (RunC.cond rfl (fun g => by cases g) (fun _ => RunC.skip ?_))
  obtain ⟨hp5, hp64⟩ := rgt_of hr
  refine RunC.seq (RunC.region (RunO.part 1 rfl ?_))
  refine RunO.callD (foldTwin_ok (rp.fr0 f1) hp5 hp64) rfl rfl rfl ?_
  rintro tv h2 ⟨ro, _, f2⟩
  have F2 := f1.same f2
  refine RunO.all rfl ?_
  refine RunC.seq (RunC.seq (RunC.region (RunO.all rfl ?_)))
  refine RunC.block ?_
  refine RunC.loop (fun d E h' => ∃ (i : Nat) (R : List (List Int)) (ov : Value), i + d = l.length ∧ Fr no h h' ∧ Rws h' ov R ∧ R.length ≤ 512 ∧ allG par l par = allG par (l.drop i) R ∧ Le ((upd (upd (upd (upd (upd E0 0 (.slice pA par.length pc)) 6 ov) 16 (.slice cA l.length cc)) 17 (.int .i64 (l.length : Int))) 18 (.int .i64 (i : Int)))) E) ?st (k := l.length) ?ini
  case ini => exact ⟨0, par, tv, by omega, F2, ro.rws (by omega), hp5, rfl, Le.cons rfl (Le.cons rfl (Le.cons rfl (Le.cons rfl (Le.cons rfl (Le.nil _)))))⟩
  rintro d E g1 ⟨i, R, ov, hi, fg, rR, hR, hall, hE⟩
  refine RunC.le hE ?_
  clear hE
  refine RunC.seq (RunC.region (RunO.all rfl ?_))
  refine RunC.seq (RunC.cond rfl (fun hlt => RunC.skip ?go) (fun hge => RunC.exit ?ex))
  case ex =>
    have hge := of_decide_eq_false hge
    obtain rfl : i = l.length := by omega
    rw [List.drop_length] at hall
    rw [hall]
    refine RunC.seq (RunC.region (RunO.all rfl ?_))
    exact RunC.ret ⟨_, rfl, fg, _, rfl, fun _ => rR, fun g => absurd rfl g⟩
  have hlt := of_decide_eq_true hlt
  have hlt : i < l.length := by omega
  obtain ⟨dv, e, sd⟩ := kc i l[i] (List.getElem?_eq_getElem hlt)
  have hpt := cm_part sc0.1 hlt
  rw [e] at hpt
  have hxd := hd l[i] (List.getElem_mem hlt)
  rw [List.drop_eq_getElem_cons hlt] at hall
  generalize l[i] = x at *
  replace sd := sd.fr0 fg
  obtain ⟨dA, dc, rfl, _, _⟩ := sd.form
  refine RunC.seq (RunC.block ?_)
  refine RunC.seq (RunC.region ?_)
  refine RunO.at (s := 9) (k := i) rfl rfl (sc0.fr0 fg) rfl rfl hlt hpt rfl rfl rfl ?_
  refine RunO.part 1 (h1 := g1.push ⟨cm9 0 0 0 0 0 0 0 0 (.slice none 0 0), true⟩) rfl ?_
  have oz := Ow.push g1 (cm9 0 0 0 0 0 0 0 0 (.slice none 0 0))
  have f3 : Fr no g1 (g1.push ⟨cm9 0 0 0 0 0 0 0 0 (.slice none 0 0), true⟩) := Fr.push _ _ _
  obtain ⟨q, hq⟩ : ∃ q, q = g1.next := ⟨_, rfl⟩
  rw [← hq] at oz ⊢
  have hq0 : g1.next ≤ q := by omega
  generalize g1.push ⟨cm9 0 0 0 0 0 0 0 0 (.slice none 0 0), true⟩ = g2 at *
  refine RunO.store rfl rfl (store_ow (s := 9) oz rfl rfl rfl (Nat.le_refl 9)) ?_
  have f4 : Fr (· = q) g2 (g2.put q (some ⟨cm9 x.k x.id x.pa x.sz x.fr x.ct x.so x.dg (.slice dA x.da.length dc), true⟩)) := Fr.put _ (.inl rfl)
  have oz4 : Ow (g2.put q (some ⟨cm9 x.k x.id x.pa x.sz x.fr x.ct x.so x.dg (.slice dA x.da.length dc), true⟩)) q (cm9 x.k x.id x.pa x.sz x.fr x.ct x.so x.dg (.slice dA x.da.length dc)) := Ow.put _ oz.1
  show RunO prog _ _ _ _ (g2.put q (some ⟨cm9 x.k x.id x.pa x.sz x.fr x.ct x.so x.dg (.slice dA x.da.length dc), true⟩)) _
  generalize g2.put q (some ⟨cm9 x.k x.id x.pa x.sz x.fr x.ct x.so x.dg (.slice dA x.da.length dc), true⟩) = g3 at *
  have f34 : Fr no g1 g3 := f3.trans f4 (fun b e => .inr (by have e : b = q := e; omega))
  refine RunO.nil ?_
  have fg3 := fg.same f34
  refine RunC.seq (RunC.region ?_)
  (repeat (first | refine RunO.step rfl ?_ | refine RunO.loadG rfl rfl (Ow.ld (by assumption) (by rfl)) rfl ?_ | refine RunO.nil ?_))
  refine RunO.callD (foldOne_ok (rR.fr0 f34) (rp.fr0 fg3) (by omega) hp (sd.fr0 f34) hxd) rfl rfl rfl ?_
  rintro _ g4 ⟨f5, w, rfl, hw0, hw1⟩
  have fg4 := fg3.same f5
  have hWe : oneW R par x.k x.id x.pa x.sz x.fr x.ct x.so x.dg x.da.length = oneWc R par x := rfl
  have hRe : oneR R par x.k x.sz x.fr x.ct x.so x.da = oneRc R par x := rfl
  rw [hWe] at hw0 hw1 ⊢
  rw [hRe] at hw0
  refine RunO.all rfl ?_
  rw [allG] at hall
  by_cases h0 : oneWc R par x = 0
  · rw [if_pos h0] at hall
    have hlen := oneR_len h0
    rw [h0]
    refine RunC.seq (RunC.seq (RunC.region (RunO.all rfl (RunC.cond rfl (fun g => by cases g) (fun _ => RunC.skip ?_)))))
    refine RunC.region (RunO.all rfl ?_)
    refine RunC.region (RunO.all rfl ?_)
    exact ⟨d - 1, by omega, i + 1, _, w, by omega, fg4, hw0 h0, hlen, hall, Le.cons (inc64 (by omega)) (Le.cons rfl (Le.cons rfl (Le.cons rfl (Le.cons rfl (Le.nil _)))))⟩
  · rw [if_neg h0] at hall
    rw [hall]
    refine RunC.seq (RunC.seq (RunC.region (RunO.all rfl (RunC.cond (t := true) (congrArg (fun b => some (Value.bool b)) (bne_iff_ne.2 h0)) (fun _ => ?_) (fun g => by cases g)))))
    exact RunC.seq (RunC.region (RunO.all rfl (RunC.ret ⟨_, rfl, fg4, _, rfl, (fun e => absurd e h0), fun _ => rfl⟩)))
end Go.Proofs.Ytdcggjkcbheolaa
end
section
set_option linter.unusedVariables false
set_option maxRecDepth 100000
open Go Go.Am
namespace Go.Proofs.Ytdcggjkcbheolaa
open Go.Proofs.Try
end Go.Proofs.Ytdcggjkcbheolaa
end
section
set_option linter.unusedVariables false
set_option maxRecDepth 100000
open Go Go.Am
namespace Go.Proofs.Ytdcggjkcbheolaa
open Go.Proofs.Try
def rSiz : List Nat := [4, 8, 8, 4, 4, 4, 4, 4]
def rLay : List (Nat × Nat) := layF 4 rSiz
def rMag : List Int := [83, 78, 65, 80]
/-- A record's block. -/
def recBlock (n id pa ro sz ki fr di : Int) : List Int := makeB rMag rLay [n, id, pa, ro, sz, ki, fr, di]
/-- The numbers of a record's block. -/
def rNum (l : List Int) (i : Nat) : Int := (numsB rLay l).getD i 0
def rOkL (l : List Int) : Bool := recOk (rNum l 0) (rNum l 1) (rNum l 2) (rNum l 3) (rNum l 4) (rNum l 5) (rNum l 6) (rNum l 7)
def rCode (l : List Int) : Int := if readB rMag rLay l = 0 then (if rOkL l then 0 else 1) else readB rMag rLay l
def rCells (l : List Int) : List Value := if rCode l = 0 then rc (rNum l 0) (rNum l 1) (rNum l 2) (rNum l 3) (rNum l 4) (rNum l 5) (rNum l 6) (rNum l 7) else rc 0 0 0 0 0 0 0 0
end Go.Proofs.Ytdcggjkcbheolaa
end
section
set_option linter.unusedVariables false
set_option maxRecDepth 100000
open Go Go.Am Go.RowKit
namespace Go.Proofs.Ytdcggjkcbheolaa
open Go.Proofs.Try
/-- A record. -/
structure R8 where
  nx : Int
  id : Int
  pa : Int
  ro : Int
  sz : Int
  ki : Int
  fr : Int
  di : Int
deriving DecidableEq
def rc8 (r : R8) : List Value := rc r.nx r.id r.pa r.ro r.sz r.ki r.fr r.di
def rPar (l : List Int) : R8 := if rCode l = 0 then ⟨rNum l 0, rNum l 1, rNum l 2, rNum l 3, rNum l 4, rNum l 5, rNum l 6, rNum l 7⟩ else ⟨0, 0, 0, 0, 0, 0, 0, 0⟩
def recCs (l : List R8) : List Value := l.flatMap rc8
/-- May a record be the next one? -/
def mayR (l : List R8) (w : Nat) (r : R8) : Bool := if r.ki == 1 then ((l.length : Int) == 0) else (!(l.any fun x => x.id == r.id) && decide ((w : Int) < 60))
end Go.Proofs.Ytdcggjkcbheolaa
end
section
set_option linter.unusedVariables false
set_option maxRecDepth 100000
open Go Go.Am Go.RowKit
namespace Go.Proofs.Ytdcggjkcbheolaa
open Go.Proofs.Try
/-- A chain of records, followed: what was met, and the block that is none of them. -/
def folB (B : Nat) (bs : List Int) (a : Int) : Bool := (decide (a < 2) || decide (a ≥ (B : Int))) || bs.contains a
def fol (L : List Int) (B : Nat) : Nat → Int → List R8 → List Int → Nat → List R8 × List Int × Nat × Int
  | 0, a, l, bs, w => (l, bs, w, a)
  | f + 1, a, l, bs, w => if a = 0 then (l, bs, w, 0) else if folB B bs a then (l, bs, w, a) else
    if (rCode (blkI L a.toNat) != 0) || !mayR l w (rPar (blkI L a.toNat)) then (l, bs, w, a) else
      fol L B f (rPar (blkI L a.toNat)).nx (l ++ [rPar (blkI L a.toNat)]) (bs ++ [a]) (if (rPar (blkI L a.toNat)).ki == 0 then w + 1 else w)
def folOf (L : List Int) (a : Int) : List R8 × List Int × Nat × Int := fol L (L.length / 64) (L.length / 64) a [] [] 0
/-- What follow leaves in memory. -/
def FolR (lo : Nat) (h : Heap) (kb : Nat) (x : List R8 × List Int × Nat × Int) : Prop :=
  ∃ lv bv, lo ≤ kb ∧ Ow h kb [lv, bv, .int .i64 (x.2.2.1 : Int), .int .i64 x.2.2.2] ∧ Row lo h lv 8 x.1.length (recCs x.1) ∧ Row lo h bv 1 x.2.1.length (is x.2.1)
end Go.Proofs.Ytdcggjkcbheolaa
end
section
set_option linter.unusedVariables false
set_option linter.unusedSectionVars false
set_option maxRecDepth 100000
open Go Go.Am Go.RowKit
namespace Go.Proofs.Ytdcggjkcbheolaa
open Go.Proofs.Try
def bo (l : List Bool) : List Value := l.map Value.bool
/-- A tree that was walked: its block, its map, its nodes. -/
abbrev Tr3 : Type := Nat × List Int × List Int
def tps (l : List Tr3) : List Value := l.map fun t => .pointer (some ⟨t.1, 0, none⟩)
/-- It reads so, and is in range. -/
def TrOk (B : Nat) (h : Heap) (t : Tr3) : Prop :=
  ∃ iv mv nv, Ow h t.1 (wc iv B mv nv false) ∧ Sl h mv 1 t.2.1.length (is t.2.1) ∧ Sl h nv 1 t.2.2.length (is t.2.2) ∧ t.2.1.length = 512 ∧ t.2.2.length ≤ 100000 ∧ (∀ x ∈ t.2.1, 0 ≤ x ∧ x < (B : Int)) ∧ ∀ x ∈ t.2.2, 0 ≤ x ∧ x < (B : Int)
/-- The marks. -/
structure CW (h : Heap) (B pb nb rb sb : Nat) (N R S : List Bool) : Prop where
  op : Ow h pb [.slice (some ⟨nb, 0, none⟩) B (exc B), .slice (some ⟨rb, 0, none⟩) B (exc B), .slice (some ⟨sb, 0, none⟩) B (exc B)]
  on : Ow h nb (bo N)
  or : Ow h rb (bo R)
  os : Ow h sb (bo S)
  ln : N.length = B
  lr : R.length = B
  ls : S.length = B
structure CD (pb nb rb sb : Nat) : Prop where
  pn : pb ≠ nb
  pr : pb ≠ rb
  ps : pb ≠ sb
  nr : nb ≠ rb
  ns : nb ≠ sb
  rs : rb ≠ sb
section
variable {h : Heap} {B pb nb rb sb : Nat} {N R S : List Bool} (d : CD pb nb rb sb) (t : CW h B pb nb rb sb N R S)
include d t
end
/-- What a block is of two kinds. -/
def isN (TL : List Tr3) (j : Nat) : Bool := TL.any fun t => t.2.2.contains (j : Int)
def isS (TL : List Tr3) (j : Nat) : Bool := TL.any fun t => decide (j ≠ 0) && t.2.1.contains (j : Int)
def clP (bl : List Int) (TL : List Tr3) (j : Nat) : Bool := (isS TL j && (isN TL j || bl.contains (j : Int))) || (isN TL j && bl.contains (j : Int))
def imC (s5 : List Value) (sl : Value) (rv bv tv : Value) : List Value := s5 ++ [sl, rv, bv, tv]
end Go.Proofs.Ytdcggjkcbheolaa
end
section
set_option linter.unusedVariables false
set_option linter.unusedSectionVars false
set_option maxRecDepth 100000
open Go Go.Am Go.RowKit
namespace Go.Proofs.Ytdcggjkcbheolaa
open Go.Proofs.Try
/-- The cells of an open image. -/
def imc (s : S5) (slot : Int) (rv bv tv : Value) : List Value := sc5 s ++ [.int .i64 slot, rv, bv, tv]
end Go.Proofs.Ytdcggjkcbheolaa
end
section
set_option linter.unusedVariables false
set_option maxRecDepth 100000
open Go Go.Am Go.RowKit
namespace Go.Proofs.Ytdcggjkcbheolaa
open Go.Proofs.Try
/-- A node's pointers; of no node none. -/
def ptrsL (L : List Int) (B : Nat) (p : Int) : List Int := if p = 0 then nZero else (atV L B p).2
/-- The nodes under a pointer, from the top. -/
def nodL (L : List Int) (B : Nat) : Nat → Int → List Int
  | 0, _ => []
  | k + 1, p => if p = 0 then [] else p :: (List.range 8).flatMap fun i => nodL L B k ((ptrsL L B p).getD i 0)
/-- Under a pointer each node is one, of its level. -/
def okA (L : List Int) (B k : Nat) (p : Int) : Prop := ∀ s, s < 8 ^ k → pathOk L B k p s
/-- A walk that ends well has met just the nodes under its pointer. -/
def NodAt (L : List Int) (B lv : Nat) : Prop := ∀ (a : Int) (f : Nat) (w : TS), w.2.2 = false → (tgo L B lv a f w).2.2 = false → (tgo L B lv a f w).2.1 = w.2.1 ++ nodL L B (lv + 1) a
/-- A walk ends well. -/
def FineAt (L : List Int) (B lv : Nat) : Prop := ∀ (a : Int) (f : Nat) (w : TS), w.2.2 = false → a ≠ 0 → okA L B (lv + 1) a → (w.2.1 ++ nodL L B (lv + 1) a).Nodup → (∀ s, s < 8 ^ (lv + 1) → look L B (lv + 1) a s < B) → (tgo L B lv a f w).2.2 = false
/-- What a tree is. -/
structure TreeIs (L : List Int) (root : Int) (m : List Int) : Prop where
  len : m.length = 512
  ok : okA L (L.length / 64) 3 root
  nd : (nodL L (L.length / 64) 3 root).Nodup
  map : ∀ s, s < 512 → look L (L.length / 64) 3 root s = m.getD s 0
  lt : ∀ s, s < 512 → m.getD s 0 < (L.length / 64 : Nat)
  out : ∀ s, s < 512 → ¬ m.getD s 0 ∈ nodL L (L.length / 64) 3 root
end Go.Proofs.Ytdcggjkcbheolaa
end
section
set_option linter.unusedVariables false
set_option maxRecDepth 100000
open Go Go.Am Go.RowKit
namespace Go.Proofs.Ytdcggjkcbheolaa
open Go.Proofs.Try
/-- The places of a tree's nodes: so far down, so far along. -/
def posL : Nat → List (Nat × Nat)
  | 0 => []
  | k + 1 => (0, 0) :: (List.range 8).flatMap fun i => (posL k).map fun x => (x.1 + 1, i * 8 ^ x.1 + x.2)
end Go.Proofs.Ytdcggjkcbheolaa
end
section
set_option linter.unusedVariables false
set_option linter.unusedSectionVars false
set_option maxRecDepth 100000
open Go Go.Am Go.RowKit
namespace Go.Proofs.Ytdcggjkcbheolaa
open Go.Proofs.Try
/- An open image: what the page says of the parts. -/
/-- A record is right. -/
def r8Ok (r : R8) : Bool := recOk r.nx r.id r.pa r.ro r.sz r.ki r.fr r.di
end Go.Proofs.Ytdcggjkcbheolaa
end
section
set_option linter.unusedVariables false
set_option linter.unusedSectionVars false
set_option maxRecDepth 100000
open Go Go.Am Go.RowKit
namespace Go.Proofs.Ytdcggjkcbheolaa
open Go.Proofs.Try
def bey (m : List Int) (k : Int) : Bool := (m.drop k.toNat).any (· != 0)
def lkS (L : List Int) : S5 := (pickS L).1
def lkF (L : List Int) : List R8 × List Int × Nat × Int := folOf L (lkS L).2.2.2.2
def lkR (L : List Int) : List (Int × Int) := ((lkS L).2.2.1, (lkS L).2.2.2.1) :: (lkF L).1.map fun r => (r.ro, r.sz)
def lkX (L : List Int) (p : Int × Int) : Bool := !treeOk L p.1 || bey (treeM L p.1) p.2
def lkT (L : List Int) : List (List Int × List Int) := (lkR L).map fun p => (treeM L p.1, treeN L p.1)
def clV (B : Nat) (bl : List Int) (T : List (List Int × List Int)) : Int := match (List.range B).find? (clP bl (T.map fun t => (0, t))) with
  | some i => (i : Int)
  | none => 0
def lkC (L : List Int) : Int := clV (L.length / 64) (lkF L).2.1 (lkT L)
def lkM (L : List Int) : Int × Int := match (lkR L).find? (lkX L) with
  | some p => (p.1, 6)
  | none => (lkC L, if lkC L = 0 then 0 else 6)
def lk (L : List Int) : Int × Int := if devOk L.length then (if (pickS L).2.2 then (if (lkF L).2.2.2 = 0 then lkM L else ((lkF L).2.2.2, 7)) else (0, 8)) else (0, 2)
/-- An open image in memory. -/
def LkR (lo : Nat) (h : Heap) (xb : Nat) (L : List Int) : Prop :=
  ∃ rv bv tv TL, lo ≤ xb ∧ Ow h xb (imc (lkS L) (pickS L).2.1 rv bv tv) ∧ Row lo h rv 8 (lkF L).1.length (recCs (lkF L).1) ∧ Row lo h bv 1 (lkF L).2.1.length (is (lkF L).2.1) ∧ Sl h tv 1 TL.length (tps TL) ∧ TL.map (·.2) = lkT L ∧ ∀ t ∈ TL, TrOk (L.length / 64) h t
/-- A tree's blocks, apart from what Look writes. -/
def TrW (B : Nat) (h : Heap) (xb : Nat) (tv : Value) (t : Tr3) : Prop :=
  ∃ iv mb nv, Ow h t.1 (wc iv B (.slice (some ⟨mb, 0, none⟩) 512 (exc 512)) nv false) ∧ Ow h mb (is t.2.1) ∧ Row 0 h nv 1 t.2.2.length (is t.2.2) ∧ t.2.1.length = 512 ∧ t.2.2.length ≤ 73 ∧ (∀ x ∈ t.2.1, 0 ≤ x ∧ x < (B : Int)) ∧ (∀ x ∈ t.2.2, 2 ≤ x ∧ x < (B : Int)) ∧
    (t.1 ≠ xb ∧ ¬ At tv t.1) ∧ (mb ≠ xb ∧ ¬ At tv mb) ∧ ∀ b, At nv b → b ≠ xb ∧ ¬ At tv b
end Go.Proofs.Ytdcggjkcbheolaa
end
section
set_option linter.unusedVariables false
set_option linter.unusedSectionVars false
set_option maxRecDepth 100000
open Go Go.Am Go.RowKit
namespace Go.Proofs.Ytdcggjkcbheolaa
open Go.Proofs.Try
end Go.Proofs.Ytdcggjkcbheolaa
end
section
set_option linter.unusedVariables false
set_option linter.unusedSectionVars false
set_option maxRecDepth 100000
open Go Go.Am Go.RowKit
namespace Go.Proofs.Ytdcggjkcbheolaa
open Go.Proofs.Try
def recsE (L : List Int) (a : Int) : Int := if devOk L.length then (if (folOf L a).2.2.2 = 0 then 0 else 7) else 2
/-- A state's cells. -/
def stc (s : S5) (slot : Int) (rv : Value) : List Value := sc5 s ++ [.int .i64 slot, rv]
/-- Is this the whole record of an id? -/
def fdP (id : Int) (r : R8) : Bool := (r.id == id) && (r.ki == 0)
/-- A new image. -/
def newI (B : Nat) : List Int := superBlock 1 (B : Int) 0 0 0 ++ List.replicate (B * 64 - 64) 0
theorem ok_new {B : Nat} (h4 : 4 ≤ B) (hB : B ≤ 4096) : superOk 1 (B : Int) 0 0 0 = true := (superOk_iff _ _ _ _ _).2 ⟨by omega, by omega, by omega, .inl rfl, .inl rfl⟩
theorem openNew_ok {h : Heap} {B : Nat} (h4 : 4 ≤ B) (hB : B ≤ 4096) : RunF prog 43 [.int .i64 (B : Int)] h fun v h' => Fr no h h' ∧ ∃ b, h.next ≤ b ∧ v = .tuple #[.slice (some ⟨b, 0, none⟩) (B * 64) (exc (B * 64)), .int .i64 0] ∧ Ow h' b (us (newI B)) := by
  refine RunF.walk func43 rfl rfl ?_
  refine RunC.seq (RunC.region (RunO.all rfl ?_))
  refine RunC.seq (RunC.seq (RunC.region (RunO.part 3 rfl ?_)))
  rw [show decide ((B : Int) < 4) = false from decide_eq_false (by omega)]
  refine RunO.part 2 rfl ?_
  rw [show decide ((B : Int) > 4096) = false from decide_eq_false (by omega)]
  refine RunO.all rfl (RunC.cond rfl (fun g => by cases g) (fun _ => RunC.skip ?_))
  refine RunC.seq (RunC.region (RunO.part 2 rfl ?_))
  rw [fw64 (x := (B : Int) * 64) (by omega) (by omega), show (B : Int) * 64 = ((B * 64 : Nat) : Int) by omega]
  refine RunO.make (m := B * 64) rfl rfl rfl rfl rfl rfl (by show 1 * (B * 64) ≤ _; omega) (by omega) rfl ?_
  rw [reps_us]
  have oi := Ow.push h (us (List.replicate (B * 64) 0))
  have f1 : Fr no h (h.push ⟨us (List.replicate (B * 64) 0), true⟩) := Fr.push _ _ _
  generalize h.push ⟨us (List.replicate (B * 64) 0), true⟩ = h1 at *
  obtain ⟨qi, hqi⟩ : ∃ q, q = h.next := ⟨_, rfl⟩
  rw [← hqi] at oi ⊢
  refine RunO.all rfl ?_
  refine RunC.seq (RunC.region (RunO.part 2 rfl ?_))
  refine RunO.callD (superBytes_ok (g := 1) (bl := (B : Int)) (rt := 0) (sz := 0) (fi := 0)) rfl rfl rfl ?_
  rintro _ h2 ⟨f2, ⟨_, sb, hsb, rfl, os⟩ | ⟨g, _⟩⟩
  case inr => rw [ok_new h4 hB] at g; cases g
  replace oi := oi.fr f2 (fun g => g)
  refine RunO.all rfl ?_
  refine RunC.seq (RunC.region (RunO.part 2 rfl ?_))
  have hsl := superBlock_len 1 (B : Int) 0 0 0
  have sls := sl_own os hsl (Cp.exc (Nat.le_refl 64)) (by decide)
  rw [hsl] at sls
  refine RunO.copy (k := 64) rfl rfl rfl rfl oi sls (allCells_map (fun _ => rfl) _) (by omega) (by rw [us_len, List.length_replicate]; omega) rfl ?_
  intro h3 oi3 f3 hn3
  have e : (us (superBlock 1 (B : Int) 0 0 0)).take 64 ++ (us (List.replicate (B * 64) 0)).drop 64 = us (newI B) := by
    rw [List.take_of_length_le (by rw [us_len, hsl]; exact Nat.le_refl _)]
    unfold newI us
    rw [List.map_append, ← List.map_drop, List.drop_replicate]
  rw [e] at oi3
  refine RunO.all rfl ?_
  refine RunC.seq (RunC.region (RunO.all rfl (RunC.ret ⟨_, rfl, (f1.same f2).trans f3 (fun b g => .inr (by have g : b = qi := g; omega)), qi, by omega, rfl, oi3⟩)))
end Go.Proofs.Ytdcggjkcbheolaa
end
section
set_option linter.unusedVariables false
set_option linter.unusedSectionVars false
set_option maxRecDepth 100000
open Go Go.Am Go.RowKit
namespace Go.Proofs.Ytdcggjkcbheolaa
open Go.Proofs.Try

/-- More than is played, or not. -/
theorem heavy24_ok {h : Heap} {v : Value} {l : List (List Int)} (r : Rws h v l) : RunF prog 9 [v] h fun v h' => (∃ b : Bool, v = .bool b ∧ (b = true ∨ l.length ≤ 517 ∧ ∀ x ∈ l, x.length ≤ 200)) ∧ h = h' := by
  refine RunF.walk func9 rfl rfl ?_
  obtain ⟨cs, sl, kk⟩ := r
  have sl0 := sl
  have hm := sl.2.1
  obtain ⟨A, c, rfl, hc, _⟩ := sl.form
  refine RunC.seq (RunC.region (RunO.all rfl ?_))
  refine RunC.seq (RunC.seqc (fun E' h' => h = h' ∧ ∃ b : Bool, (b = true ∨ l.length ≤ 517) ∧ Le (upd (upd E0 0 (.slice A l.length c)) 16 (.bool b)) E') ?g1 ?g2)
  case g1 =>
    refine RunC.region (RunO.part 4 rfl ?_)
    by_cases h1 : (l.length : Int) > 100
    · rw [decide_eq_true h1]
      refine RunO.part 4 rfl ?_
      by_cases h2 : (l.length : Int) ≤ 512
      · rw [decide_eq_true h2]
        exact RunO.all rfl ⟨rfl, true, .inl rfl, Le.cons rfl (Le.cons rfl (Le.nil _))⟩
      · rw [decide_eq_false h2]
        refine RunO.part 4 rfl ?_
        by_cases h3 : (l.length : Int) > 517
        · rw [decide_eq_true h3]
          exact RunO.all rfl ⟨rfl, true, .inl rfl, Le.cons rfl (Le.cons rfl (Le.nil _))⟩
        · rw [decide_eq_false h3]
          exact RunO.all rfl ⟨rfl, false, .inr (by omega), Le.cons rfl (Le.cons rfl (Le.nil _))⟩
    · rw [decide_eq_false h1]
      refine RunO.part 4 rfl ?_
      refine RunO.part 4 rfl ?_
      by_cases h3 : (l.length : Int) > 517
      · omega
      · rw [decide_eq_false h3]
        exact RunO.all rfl ⟨rfl, false, .inr (by omega), Le.cons rfl (Le.cons rfl (Le.nil _))⟩
  rintro E' _ ⟨rfl, b, hb, hE⟩
  refine RunC.le hE ?_
  clear hE
  cases b with
  | true =>
    refine RunC.cond rfl (fun _ => ?_) (fun g => by cases g)
    exact RunC.seq (RunC.region (RunO.all rfl (RunC.ret ⟨_, rfl, ⟨true, rfl, .inl rfl⟩, rfl⟩)))
  | false =>
  have hl := hb.resolve_left Bool.false_ne_true
  refine RunC.cond rfl (fun g => by cases g) (fun _ => RunC.skip ?_)
  refine RunC.seq (RunC.seq (RunC.region (RunO.all rfl ?_)))
  refine RunC.block ?_
  refine RunC.loop (fun k E h' => ∃ i : Nat, i + k = l.length ∧ (∀ j (hj : j < l.length), j < i → l[j].length ≤ 200) ∧ h = h' ∧ Le ((upd (upd E0 0 (.slice A l.length c)) 3 (.int .i64 (i : Int)))) E) ?st (k := l.length) ?ini
  case ini => exact ⟨0, by omega, fun j hj g => absurd g (Nat.not_lt_zero _), rfl, Le.cons rfl (Le.cons rfl (Le.nil _))⟩
  rintro k E _ ⟨i, hi, ht, rfl, hE⟩
  refine RunC.le hE ?_
  clear hE
  refine RunC.seq (RunC.seq (RunC.region (RunO.all rfl ?_)))
  refine RunC.cond rfl (fun hlt => RunC.skip ?go) (fun hge => RunC.exit ?ex)
  case ex =>
    have hge := of_decide_eq_false hge
    refine RunC.seq (RunC.region (RunO.all rfl (RunC.ret ⟨_, rfl, ⟨false, rfl, .inr ⟨hl, fun x hx => ?_⟩⟩, rfl⟩)))
    obtain ⟨j, hj, rfl⟩ := List.mem_iff_getElem.1 hx
    exact ht j hj (by omega)
  have hlt := of_decide_eq_true hlt
  have h1 : i < l.length := by omega
  obtain ⟨w, e, sw⟩ := kk i l[i] (List.getElem?_eq_getElem h1)
  obtain ⟨wA, wc, rfl, _, _⟩ := sw.form
  refine RunC.seq (RunC.block ?_)
  refine RunC.seq (RunC.region (RunO.part 2 rfl ?_))
  refine RunO.at (s := 1) (k := i) rfl rfl sl0 rfl rfl h1 (row_part e) rfl rfl rfl (RunO.all rfl ?_)
  by_cases hx : (l[i].length : Int) > 200
  · refine RunC.cond (t := true) (congrArg (fun b => some (Value.bool b)) (decide_eq_true hx)) (fun _ => ?_) (fun g => by cases g)
    exact RunC.seq (RunC.region (RunO.all rfl (RunC.ret ⟨_, rfl, ⟨true, rfl, .inl rfl⟩, rfl⟩)))
  · refine RunC.cond (t := false) (congrArg (fun b => some (Value.bool b)) (decide_eq_false hx)) (fun g => by cases g) (fun _ => RunC.skip ?_)
    refine RunC.region (RunO.all rfl ?_)
    refine ⟨k - 1, by omega, i + 1, by omega, fun j hj g => ?_, rfl, Le.cons (inc64x (by omega)) (Le.cons rfl (Le.nil _))⟩
    by_cases hji : j = i
    · subst hji; omega
    · exact ht j hj (by omega)
set_option maxHeartbeats 8000000 in
theorem wakes24_ok {h : Heap} : RunF prog 11 [] h fun v h' => v = .bool true ∧ Fr no h h' := by
  refine RunF.walk func11 rfl rfl ?_
  refine RunC.seq (RunC.region (RunO.all rfl ?_))
  have e1 : oneW [] [] 5 0 0 2 0 0 0 0 0 = 0 := by decide
  have e1r : oneR [] [] 5 2 0 0 0 [] = [List.replicate 64 0, List.replicate 64 0] := rfl
  have e2 : oneW [List.replicate 64 0, List.replicate 64 0] [] 3 0 0 0 2 1 0 0 0 = 3 := by decide
  have e3 : allW [List.replicate 64 0, List.replicate 64 0] [⟨4, 0, 0, 0, 0, 1, 1, 0, []⟩] = 0 := by decide
  have e3r : (allG [List.replicate 64 0, List.replicate 64 0] [⟨4, 0, 0, 0, 0, 1, 1, 0, []⟩] [List.replicate 64 0, List.replicate 64 0]).1 = [List.replicate 64 0, List.replicate 64 0] := by decide
  refine RunC.seq (RunC.region (RunO.part 1 rfl ?_))
  refine RunO.callD (foldOne_ok (k := 5) (id := 0) (pa := 0) (sz := 2) (fr := 0) (ct := 0) (so := 0) (dg := 0) (da := []) (Rws.nil h) (Rws.nil h) (by decide) (by decide) (Sl.nil h 1) (by decide)) rfl rfl rfl ?_
  rintro _ h1 ⟨f1, w1, rfl, r1, _⟩
  have e1' : oneW [] [] 5 0 0 2 0 0 0 0 ([] : List Int).length = 0 := e1
  rw [e1'] at r1 ⊢
  have r1 := r1 rfl
  rw [e1r] at r1
  refine RunO.all rfl ?_
  generalize hR : [List.replicate 64 (0:Int), List.replicate 64 0] = R at *
  have hRl : R.length = 2 := by rw [← hR]; rfl
  refine RunC.seq (RunC.region (RunO.part 2 rfl ?_))
  refine RunO.callD (foldOne_ok (k := 3) (id := 0) (pa := 0) (sz := 0) (fr := 2) (ct := 1) (so := 0) (dg := 0) (da := []) r1 (Rws.nil h1) (by omega) (by decide) (Sl.nil h1 1) (by decide)) rfl rfl rfl ?_
  rintro _ h2 ⟨f2, w2, rfl, _, r2⟩
  have e2' : oneW R [] 3 0 0 0 2 1 0 0 ([] : List Int).length = 3 := e2
  rw [e2'] at r2 ⊢
  have r2 := r2 (by decide)
  subst r2
  refine RunO.all rfl ?_
  replace r1 := r1.fr0 f2
  refine RunC.seq (RunC.region (RunO.part 3 (h1 := h2.push ⟨cm9 4 0 0 0 0 1 1 0 (.slice none 0 0), true⟩) rfl ?_))
  have o3 := Ow.push h2 (cm9 4 0 0 0 0 1 1 0 (.slice none 0 0))
  have f3 : Fr no h2 (h2.push ⟨cm9 4 0 0 0 0 1 1 0 (.slice none 0 0), true⟩) := Fr.push _ _ _
  replace r1 := r1.fr0 f3
  generalize h2.push ⟨cm9 4 0 0 0 0 1 1 0 (.slice none 0 0), true⟩ = h3 at *
  generalize h2.next = q3 at *
  have cms : Cms h3 (.slice (some ⟨q3, 0, none⟩) 1 (exc 1)) [⟨4, 0, 0, 0, 0, 1, 1, 0, []⟩] := ⟨_, o3.all.sl (s := 9) rfl (by decide) (Cp.exc (Nat.le_refl _)), fun j x hx => by
    cases j with
    | zero => cases hx; exact ⟨_, rfl, Sl.nil h3 1⟩
    | succ j => cases hx⟩
  refine RunO.callD (foldAll_ok r1 cms (by omega) (by decide) (fun x hx => by rw [List.mem_singleton.1 hx]; decide)) rfl rfl rfl ?_
  rintro _ h4 ⟨f4, w4, rfl, r4, _⟩
  rw [e3] at r4 ⊢
  have r4 := r4 rfl
  rw [e3r] at r4
  replace r1 := r1.fr0 f4
  refine RunO.all rfl ?_
  refine RunC.seq (RunC.region (RunO.part 0 rfl ?_))
  refine RunO.callD (openNew_ok (B := 8) (by decide) (by decide)) rfl rfl rfl ?_
  rintro _ h5 ⟨f5, ib, _, rfl, oi⟩
  replace r1 := r1.fr0 f5
  replace r4 := r4.fr0 f5
  refine RunO.all rfl ?_
  refine RunC.seq (RunC.region (RunO.part 1 rfl ?_))
  refine RunO.callD (devCheck_ok (len := 512) (by decide)) rfl rfl rfl ?_
  rintro _ _ ⟨rfl, rfl⟩
  rw [show devOk 512 = true from rfl]
  refine RunO.all rfl ?_
  have r10 := r1
  obtain ⟨cs, s1, k1⟩ := r10
  rw [hRl] at s1
  have s10 := s1
  obtain ⟨wA, wc, rfl, _, _⟩ := s1.form
  obtain ⟨w5, ew, sw5⟩ := k1 1 (List.replicate 64 0) (by rw [← hR]; rfl)
  obtain ⟨vA, vc, rfl, _, _⟩ := sw5.form
  have FF := ((((f1.same f2).same f3).same f4).same f5)
  refine RunC.seq (RunC.region (RunO.part 8 rfl ?_))
  refine RunO.part 1 rfl ?_
  refine RunO.atG (s := 1) (k := 1) rfl (fun _ => rfl) rfl rfl s10 rfl rfl (by decide) (row_part ew) rfl rfl rfl ?_
  (repeat (first | refine RunO.step rfl ?_ | refine RunO.loadG rfl rfl (Ow.ld (by assumption) (by rfl)) rfl ?_ | refine RunO.nil ?_))
  refine RunO.callDG rfl (keepRows_ok r1 r4 (by omega) (fun x hx => by rw [← hR] at hx; simp at hx; rw [hx]; decide)) rfl rfl rfl ?_
  rintro _ _ ⟨rfl, rfl⟩
  rw [show (R == R) = true from beq_self_eq_true _]
  (repeat (first | refine RunO.step rfl ?_ | refine RunO.loadG rfl rfl (Ow.ld (by assumption) (by rfl)) rfl ?_ | refine RunO.nil ?_))
  exact RunC.ret ⟨_, rfl, rfl, FF⟩
end Go.Proofs.Ytdcggjkcbheolaa
end
section
set_option linter.unusedVariables false
set_option linter.unusedSectionVars false
set_option maxRecDepth 100000
open Go Go.Am Go.RowKit
namespace Go.Proofs.Ytdcggjkcbheolaa
open Go.Proofs.Try
/-- Whole numbers of an int. -/
def In64 (x : Int) : Prop := -9223372036854775808 ≤ x ∧ x ≤ 9223372036854775807
abbrev I8 : Sh := .int .i64
abbrev ShS5 : Sh := .pair I8 (.pair I8 (.pair I8 (.pair I8 (.pair I8 .unit))))
abbrev ShR8 : Sh := .pair I8 (.pair I8 (.pair I8 (.pair I8 (.pair I8 (.pair I8 (.pair I8 (.pair I8 .unit)))))))
abbrev ShState : Sh := .pair ShS5 (.pair I8 (.pair (.slice ShR8) .unit))
def r8Of (y : ShR8.T) : R8 := ⟨y.1, y.2.1, y.2.2.1, y.2.2.2.1, y.2.2.2.2.1, y.2.2.2.2.2.1, y.2.2.2.2.2.2.1, y.2.2.2.2.2.2.2.1⟩
def R8In (r : R8) : Prop := In64 r.nx ∧ In64 r.id ∧ In64 r.pa ∧ In64 r.ro ∧ In64 r.sz ∧ In64 r.ki ∧ In64 r.fr ∧ In64 r.di
def S5In (s : S5) : Prop := In64 s.1 ∧ In64 s.2.1 ∧ In64 s.2.2.1 ∧ In64 s.2.2.2.1 ∧ In64 s.2.2.2.2
end Go.Proofs.Ytdcggjkcbheolaa
end
section
set_option linter.unusedVariables false
set_option linter.unusedSectionVars false
set_option maxRecDepth 100000
open Go Go.Am Go.RowKit
namespace Go.Proofs.Ytdcggjkcbheolaa
open Go.Proofs.Try
end Go.Proofs.Ytdcggjkcbheolaa
end
section
set_option linter.unusedVariables false
set_option maxRecDepth 100000
open Go Go.Am Go.RowKit
namespace Go.Proofs.Ytdcggjkcbheolaa
open Go.Proofs.Try
end Go.Proofs.Ytdcggjkcbheolaa
end
section
set_option linter.unusedVariables false
set_option linter.unusedSectionVars false
set_option maxRecDepth 100000
open Go Go.Am Go.RowKit
namespace Go.Proofs.Ytdcggjkcbheolaa
open Go.Proofs.Try
/- A chain that was followed to its end. -/
def nxt (a : Int) (l : List R8) (i : Nat) : Int := if i = 0 then a else (l.getD (i - 1) ⟨0, 0, 0, 0, 0, 0, 0, 0⟩).nx
structure FolI (L : List Int) (B : Nat) (a : Int) (l : List R8) (bs : List Int) (cur : Int) : Prop where
  len : l.length = bs.length
  blk : ∀ i (hi : i < l.length), bs.getD i 0 = nxt a l i ∧ 2 ≤ bs.getD i 0 ∧ bs.getD i 0 < (B : Int) ∧ rCode (blkI L (bs.getD i 0).toNat) = 0 ∧ l[i] = rPar (blkI L (bs.getD i 0).toNat)
  apart : ∀ i (hi : i < l.length) j (hj : j < l.length), j < i → l[j].id ≠ l[i].id ∧ l[i].ki ≠ 1
  cur : cur = nxt a l l.length
end Go.Proofs.Ytdcggjkcbheolaa
end
section
set_option linter.unusedVariables false
set_option linter.unusedSectionVars false
set_option maxRecDepth 100000
open Go Go.Am Go.RowKit
namespace Go.Proofs.Ytdcggjkcbheolaa
open Go.Proofs.Try
end Go.Proofs.Ytdcggjkcbheolaa
end
section
set_option linter.unusedVariables false
set_option linter.unusedSectionVars false
set_option maxRecDepth 100000
open Go Go.Am Go.RowKit
namespace Go.Proofs.Ytdcggjkcbheolaa
open Go.Proofs.Try

/- Rows of bytes whose blocks all are such. -/
def RwN (N : Nat → Prop) (h : Heap) (v : Value) (rows : List (List Int)) : Prop :=
  ∃ cs, Sl h v 1 rows.length cs ∧ (∀ b o c, v = .slice (some ⟨b, o, none⟩) rows.length c → N b ∧ o = 0) ∧ ∀ (j : Nat) (x : List Int), rows[j]? = some x → ∃ w, cs[j]? = some w ∧ Sl h w 1 x.length (us x) ∧ OwR h w x ∧ ∀ b o c, w = .slice (some ⟨b, o, none⟩) x.length c → N b ∧ ¬ At v b
abbrev Sn := Int × Int × List (List Int) × Int × Int
def snC (x : Sn) (w : Value) : List Value := [.int .i64 x.1, .int .i64 x.2.1, w, .int .i64 x.2.2.2.1, .int .i64 x.2.2.2.2]
def Sns (h : Heap) (v : Value) (l : List Sn) : Prop :=
  ∃ cs, Sl h v 5 l.length cs ∧ ∀ (j : Nat) (x : Sn), l[j]? = some x → ∃ w, (cs.drop (j * 5)).take 5 = snC x w ∧ Rws h w x.2.2.1
def LS (N : Nat → Prop) (lo : Nat) (h : Heap) (v : Value) (l : List Sn) : Prop :=
  ∃ cs, Row lo h v 5 l.length cs ∧ ∀ (j : Nat) (x : Sn), l[j]? = some x → ∃ w, (cs.drop (j * 5)).take 5 = snC x w ∧ RwN N h w x.2.2.1
/-- What an image holds. -/
def snP (L : List Int) (r : R8) : Sn := (r.id, r.pa, secsL L (treeM L r.ro) r.sz.toNat, r.fr, r.di)
def vwH (L : List Int) : List (List Int) := secsL L (treeM L (lkS L).2.2.1) (lkS L).2.2.2.1.toNat
def vwS (L : List Int) (rs : List R8) : List Sn := (rs.filter fun r => !(r.ki == 1)).map (snP L)
def vwO (L : List Int) (rs : List R8) : List Sn := (rs.filter fun r => r.ki == 1).map (snP L)
end Go.Proofs.Ytdcggjkcbheolaa
end
section
set_option linter.unusedVariables false
set_option maxRecDepth 100000
open Go Go.Am
namespace Go.Proofs.Ytdcggjkcbheolaa
open Go.Proofs.Try
end Go.Proofs.Ytdcggjkcbheolaa
namespace Go.Proofs.Ytdcggjkcbheolaa.Crc
open Go.Proofs.Try
end Go.Proofs.Ytdcggjkcbheolaa.Crc
namespace Go.Proofs.Ytdcggjkcbheolaa
open Go.Proofs.Try Crc
/-- Bytes behind a row's bytes: zeros up to a block, the sum. -/
def sealB (b : List Int) : List Int := b ++ List.replicate (60 - b.length) 0 ++ leB 4 (Crc.sum 0 (b ++ List.replicate (60 - b.length) 0))
end Go.Proofs.Ytdcggjkcbheolaa
end
section
set_option linter.unusedVariables false
set_option maxRecDepth 100000
open Go Go.Am Go.RowKit
namespace Go.Proofs.Ytdcggjkcbheolaa
open Go.Proofs.Try
/-- Why bytes are no block of a name. -/
def openE (mb l : List Int) : Int := if l.length ≠ 64 then 2 else if l.take 4 ≠ mb then 4 else if goodB l = false then 5 else 0
end Go.Proofs.Ytdcggjkcbheolaa
end
section
set_option linter.unusedVariables false
set_option linter.unusedSectionVars false
set_option maxRecDepth 100000
open Go Go.Am Go.RowKit
namespace Go.Proofs.Ytdcggjkcbheolaa
open Go.Proofs.Try

/-- Rows, snapshots of bytes. -/
def RwB (l : List (List Int)) : Prop := l.length ≤ 9223372036854775807 ∧ ∀ x ∈ l, x.length ≤ 9223372036854775807 ∧ Byt x
def SB (l : List Sn) : Prop := l.length ≤ 9223372036854775807 ∧ ∀ x ∈ l, RwB x.2.2.1
end Go.Proofs.Ytdcggjkcbheolaa
end
section
set_option linter.unusedVariables false
set_option linter.unusedSectionVars false
set_option maxRecDepth 100000
open Go Go.Am Go.RowKit
namespace Go.Proofs.Ytdcggjkcbheolaa
open Go.Proofs.Try

def vsE (L : List Int) (root size : Int) : Int := if treeE L root = 0 then (if size < 0 ∨ size > 512 then 1 else 0) else treeE L root
end Go.Proofs.Ytdcggjkcbheolaa
end
section
set_option linter.unusedVariables false
set_option linter.unusedSectionVars false
set_option maxRecDepth 100000
open Go Go.Am Go.RowKit
namespace Go.Proofs.Ytdcggjkcbheolaa
open Go.Proofs.Try
abbrev ShRow : Sh := .slice (.int .u8)
abbrev ShRows : Sh := .slice ShRow
abbrev ShSn : Sh := .pair I8 (.pair I8 (.pair ShRows (.pair I8 (.pair I8 .unit))))
abbrev ShView : Sh := .pair ShRows (.pair (.slice ShSn) (.pair (.slice ShSn) .unit))
theorem rowsK {h : Heap} {q : List (List Int)} {cs : List Value} (k : ShRows.K h q cs) : ∃ v, cs = [v] ∧ Rws h v q ∧ RwB q := by
  obtain ⟨v, acs, h3, hs, H⟩ := k
  have hs : Sl h v 1 q.length acs := hs
  have H : ∀ (j : Nat) (y : List Int), q[j]? = some y → ∃ w, (acs.drop j).take 1 = [w] ∧ Sl h w 1 y.length (us y) ∧ Byt y := fun j y hy => by
    have := H j y ((nth_eq q j).trans hy)
    obtain ⟨w, e, sw, wf⟩ := slInts this
    have e : (acs.drop (j * 1)).take 1 = [w] := e
    rw [Nat.mul_one] at e
    exact ⟨w, e, sw, fun x hx => wf_u8 (wf x hx)⟩
  refine ⟨v, h3, ⟨acs, hs, fun j x hx => ?_⟩, hs.2.1, fun x hx => ?_⟩
  · obtain ⟨w, e, sw, _⟩ := H j x hx
    refine ⟨w, ?_, sw⟩
    have := congrArg (fun l => l[0]?) e
    simpa using this
  · obtain ⟨j, hj, e⟩ := List.mem_iff_getElem.1 hx
    obtain ⟨w, _, sw, hb⟩ := H j x (by rw [List.getElem?_eq_getElem hj, e])
    exact ⟨sw.2.1, hb⟩
def snOf (y : ShSn.T) : Sn := (y.1, y.2.1, y.2.2.1, y.2.2.2.1, y.2.2.2.2.1)
theorem argRows {l : List Sh} {h : Heap} {x : ArgsT (ShRows :: l)} {vs : List Value} (a : ArgsK (ShRows :: l) h x vs) :
    ∃ (rows : List (List Int)) (r : ArgsT l) (v : Value) (vr : List Value), vs = v :: vr ∧ Rws h v rows ∧ RwB rows ∧ ArgsK l h r vr := by
  obtain ⟨v, vr, rfl, h1, h2⟩ := a
  obtain ⟨v', e, r, b⟩ := rowsK (cs := [v]) h1
  injection e with e
  subst e
  exact ⟨x.1, x.2, v, vr, rfl, r, b, h2⟩
end Go.Proofs.Ytdcggjkcbheolaa
end
section
set_option linter.unusedVariables false
set_option linter.unusedSectionVars false
set_option maxRecDepth 100000
open Go Go.Am Go.RowKit
namespace Go.Proofs.Ytdcggjkcbheolaa
open Go.Proofs.Try
abbrev ShCmd : Sh := .pair I8 (.pair I8 (.pair I8 (.pair I8 (.pair I8 (.pair I8 (.pair I8 (.pair I8 (.pair (.slice (.int .u8)) .unit))))))))
def CmIn (c : Cm) : Prop := In64 c.k ∧ In64 c.id ∧ In64 c.pa ∧ In64 c.sz ∧ In64 c.fr ∧ In64 c.ct ∧ In64 c.so ∧ In64 c.dg
theorem cmK {h : Heap} {y : ShCmd.T} {cs : List Value} (k : ShCmd.K h y cs) : ∃ (c : Cm) (A : Option Addr) (cc : Nat), cs = cm9 c.k c.id c.pa c.sz c.fr c.ct c.so c.dg (.slice A c.da.length cc) ∧ Sl h (.slice A c.da.length cc) 1 c.da.length (us c.da) ∧ CmIn c := by
  obtain ⟨c1, d1, rfl, _, _, ⟨rfl, w1⟩, c2, d2, rfl, _, _, ⟨rfl, w2⟩, c3, d3, rfl, _, _, ⟨rfl, w3⟩, c4, d4, rfl, _, _, ⟨rfl, w4⟩, c5, d5, rfl, _, _, ⟨rfl, w5⟩, c6, d6, rfl, _, _, ⟨rfl, w6⟩, c7, d7, rfl, _, _, ⟨rfl, w7⟩, c8, d8, rfl, _, _, ⟨rfl, w8⟩, c9, d9, rfl, _, _, k9, e⟩ := k
  have e : d9 = [] := e
  subst e
  obtain ⟨w, rfl, sw, _⟩ := slInts k9
  obtain ⟨A, cc, rfl, _, _⟩ := sw.form
  exact ⟨⟨_, _, _, _, _, _, _, _, _⟩, A, cc, rfl, sw, wf_i64 w1, wf_i64 w2, wf_i64 w3, wf_i64 w4, wf_i64 w5, wf_i64 w6, wf_i64 w7, wf_i64 w8⟩
theorem argCmd {l : List Sh} {h : Heap} {x : ArgsT (ShCmd :: l)} {vs : List Value} (a : ArgsK (ShCmd :: l) h x vs) :
    ∃ (c : Cm) (A : Option Addr) (cc : Nat) (r : ArgsT l) (vr : List Value), vs = .agg ⟨cm9 c.k c.id c.pa c.sz c.fr c.ct c.so c.dg (.slice A c.da.length cc)⟩ :: vr ∧ Sl h (.slice A c.da.length cc) 1 c.da.length (us c.da) ∧ CmIn c ∧ ArgsK l h r vr := by
  obtain ⟨v, vr, rfl, h1, h2⟩ := a
  obtain ⟨cs, rfl, k⟩ : ∃ cs, v = .agg ⟨cs⟩ ∧ ShCmd.K h x.1 cs := h1
  obtain ⟨c, A, cc, rfl, sl, hi⟩ := cmK k
  exact ⟨c, A, cc, x.2, vr, rfl, sl, hi, h2⟩
end Go.Proofs.Ytdcggjkcbheolaa
end
section
set_option linter.unusedVariables false
set_option linter.unusedSectionVars false
set_option maxRecDepth 100000
open Go Go.Am Go.RowKit
namespace Go.Proofs.Ytdcggjkcbheolaa
open Go.Proofs.Try

theorem ovl_out (l : List (List Int)) (a : Nat) (g : Nat → List Int) (j : Nat) : ∀ n, (j < a ∨ a + n ≤ j) → (ovl l a g n)[j]? = l[j]?
  | 0, _ => rfl
  | n + 1, h => by
    rw [ovl, List.getElem?_set_ne (by omega)]
    exact ovl_out l a g j n (by omega)
/-- How many rows a command names. -/
def cmN (x : Cm) : Int := if x.k = 2 then ((x.da.length / 64 : Nat) : Int) else if x.k = 1 ∨ x.k = 6 then 0 else x.ct
theorem kinds {l par : List (List Int)} {x : Cm} (h : oneWc l par x = 0) : (x.k = 1 ∨ x.k = 2 ∨ x.k = 3 ∨ x.k = 4 ∨ x.k = 5 ∨ x.k = 6) ∧ (x.k = 1 ∨ x.k = 6 → x.fr = 0) := by
  unfold oneWc oneW at h
  split at h
  · cases h
  rename_i h1
  rw [Bool.not_eq_true, Bool.or_eq_false_iff, Bool.or_eq_false_iff, Bool.not_eq_false', Bool.not_eq_false', Bool.not_eq_false'] at h1
  obtain ⟨_, _, a3⟩ := h1
  clear h
  unfold chkB bareOk restK at a3
  rw [Bool.and_eq_true] at a3
  obtain ⟨a1, a2⟩ := a3
  refine ⟨?_, ?_⟩
  · by_cases c1 : x.k = 1
    · omega
    by_cases c2 : x.k = 2
    · omega
    by_cases c3 : x.k = 3
    · omega
    by_cases c4 : x.k = 4
    · omega
    by_cases c5 : x.k = 5
    · omega
    by_cases c6 : x.k = 6
    · omega
    rw [if_neg c1, if_neg c2, if_neg c3, if_neg c4, if_neg c5, if_neg c6] at a1
    cases a1
  · rintro (e | e)
    · rw [if_pos e] at a2
      unfold restB at a2
      simp only [Bool.and_eq_true, beq_iff_eq] at a2
      exact a2.2.2.2.1
    · rw [if_neg (by omega), if_neg (by omega), if_neg (by omega), if_neg (by omega), if_neg (by omega), if_pos e] at a2
      unfold restB at a2
      simp only [Bool.and_eq_true, beq_iff_eq] at a2
      exact a2.2.2.2.1
/-- What a command does not name stays. -/
theorem one_stay {l par : List (List Int)} {x : Cm} (h : oneWc l par x = 0) (h5 : x.k ≠ 5) : (oneRc l par x).length = l.length ∧ (∃ a b : Nat, x.fr = (a : Int) ∧ cmN x = (b : Int) ∧ a + b ≤ 512) ∧ ∀ j : Nat, ((j : Int) < x.fr ∨ (j : Int) ≥ x.fr + cmN x) → (oneRc l par x)[j]? = l[j]? := by
  obtain ⟨hk, h0⟩ := kinds h
  obtain ⟨w1, w2, w3, w4, w5, w6⟩ := one_facts h
  have hl := (rgt_of w1).1
  unfold oneRc oneR cmN
  rcases hk with e | e | e | e | e | e
  · rw [if_neg (by omega), if_neg (by omega), if_neg (by omega), if_neg (by omega), if_neg (by omega), if_pos (.inl e)]
    exact ⟨rfl, ⟨0, 0, h0 (.inl e), rfl, by omega⟩, fun j _ => rfl⟩
  · obtain ⟨_, f, e1, hf⟩ := w3 e
    rw [if_pos e, if_pos e, e1, Int.toNat_natCast]
    exact ⟨ovl_len _ _ _ _, ⟨f, _, rfl, rfl, by omega⟩, fun j hj => ovl_out _ _ _ _ _ (by omega)⟩
  · obtain ⟨f, c, e1, e2, hf⟩ := w4 e
    rw [if_neg (by omega), if_pos e, if_neg (by omega), if_neg (by omega), e1, e2, Int.toNat_natCast, Int.toNat_natCast]
    exact ⟨ovl_len _ _ _ _, ⟨f, c, rfl, rfl, by omega⟩, fun j hj => ovl_out _ _ _ _ _ (by omega)⟩
  · obtain ⟨f, c, s, e1, e2, e3, hf, hs⟩ := w5 e
    rw [if_neg (by omega), if_neg (by omega), if_pos e, if_neg (by omega), if_neg (by omega), e1, e2, Int.toNat_natCast, Int.toNat_natCast]
    exact ⟨ovl_len _ _ _ _, ⟨f, c, rfl, rfl, by omega⟩, fun j hj => ovl_out _ _ _ _ _ (by omega)⟩
  · exact absurd e h5
  · rw [if_neg (by omega), if_neg (by omega), if_neg (by omega), if_neg (by omega), if_neg (by omega), if_pos (.inr e)]
    exact ⟨rfl, ⟨0, 0, h0 (.inr e), rfl, by omega⟩, fun j _ => rfl⟩
theorem one_size {l par : List (List Int)} {x : Cm} (h : oneWc l par x = 0) (h5 : x.k = 5) : ∃ s : Nat, x.sz = (s : Int) ∧ s ≤ 512 ∧ (oneRc l par x).length = s ∧ (oneRc l par x).take (min s l.length) = l.take (min s l.length) := by
  obtain ⟨w1, w2, w3, w4, w5, w6⟩ := one_facts h
  obtain ⟨s, e, hs⟩ := w6 h5
  refine ⟨s, e, hs, ?_⟩
  unfold oneRc oneR
  rw [if_neg (by omega), if_neg (by omega), if_neg (by omega), if_pos h5, e, Int.toNat_natCast]
  unfold szR
  refine ⟨by rw [List.length_take, List.length_append, List.length_replicate]; omega, ?_⟩
  rw [List.take_take, List.take_append_of_le_length (by omega)]
  congr 1
  omega
theorem one_64 {l par : List (List Int)} {x : Cm} (h : oneWc l par x = 0) : ∀ z ∈ oneRc l par x, z.length = 64 := by
  obtain ⟨w1, w2, w3, w4, w5, w6⟩ := one_facts h
  have hl := (rgt_of w1).2
  have hov : ∀ (a : Nat) (g : Nat → List Int) (n : Nat), (∀ i, i < n → (g i).length = 64) → ∀ z ∈ ovl l a g n, z.length = 64 := by
    intro a g n
    induction n with
    | zero => intro _ z hz; exact hl z hz
    | succ n ih =>
      intro hg z hz
      rw [ovl] at hz
      rcases List.mem_or_eq_of_mem_set hz with e | e
      · exact ih (fun i hi => hg i (by omega)) z e
      · rw [e]; exact hg n (by omega)
  unfold oneRc oneR
  split
  · rename_i e
    obtain ⟨e0, f, e1, hf⟩ := w3 e
    exact hov _ _ _ (fun i hi => blkI_len (by omega))
  split
  · exact hov _ _ _ (fun i hi => List.length_replicate)
  split
  · rename_i e
    obtain ⟨f, c, s, e1, e2, e3, hf, hs⟩ := w5 e
    rw [e2, e3, Int.toNat_natCast, Int.toNat_natCast]
    refine hov _ _ _ (fun i hi => ?_)
    have h1 : s + i < par.length := by omega
    rw [List.getD_eq_getElem?_getD, List.getElem?_eq_getElem h1]
    exact (rgt_of w2).2 _ (List.getElem_mem h1)
  split
  · intro z hz
    unfold szR at hz
    rcases List.mem_append.1 (List.mem_of_mem_take hz) with e | e
    · exact hl z e
    · rw [List.eq_of_mem_replicate e]; rfl
  · exact hl
theorem rws_take {h : Heap} {v : Value} {l : List (List Int)} {k : Nat} (hk : k ≤ l.length) (r : ∃ cs : List Value, Sl h v 1 k (cs.take k) ∧ ∀ (j : Nat) (x : List Int), l[j]? = some x → ∃ w, cs[j]? = some w ∧ Sl h w 1 x.length (us x)) : Rws h v (l.take k) := by
  obtain ⟨cs, h1, h2⟩ := r
  have hl : (l.take k).length = k := by rw [List.length_take]; omega
  refine ⟨cs.take k, by rw [hl]; exact h1, fun j x hx => ?_⟩
  have hj := (List.getElem?_eq_some_iff.1 hx).1
  rw [hl] at hj
  rw [List.getElem?_take_of_lt hj] at hx ⊢
  exact h2 j x hx
set_option maxHeartbeats 64000000 in
theorem foldParts_true : ∀ h xs avs, ArgsK [ShRows, ShRows, ShCmd, ShCmd] h xs avs → RunF prog 3 avs h fun v _ => v = .bool true := by
  intro h xs avs ha
  obtain ⟨l, _, lv, _, rfl, rl, rlb, ha⟩ := argRows ha
  obtain ⟨par, _, pv, _, rfl, rp, rpb, ha⟩ := argRows ha
  obtain ⟨x, xA, xc, _, _, rfl, sx, xin, ha⟩ := argCmd ha
  obtain ⟨y, yA, yc, _, _, rfl, sy, yin, ha⟩ := argCmd ha
  obtain rfl := argNil ha
  have h0l := rl
  have h0p := rp
  obtain ⟨lcs, sl, kl⟩ := h0l
  obtain ⟨pcs, sp, _⟩ := h0p
  obtain ⟨lA, lc, rfl, _, _⟩ := sl.form
  obtain ⟨pA, pc, rfl, _, _⟩ := sp.form
  clear sl sp kl
  refine RunF.walk func3 rfl rfl ?_
  refine RunC.seq (RunC.region (RunO.part 1 (h1 := h.push ⟨(cm9 x.k x.id x.pa x.sz x.fr x.ct x.so x.dg (.slice xA x.da.length xc)), true⟩) rfl ?_))
  have ox := Ow.push h (cm9 x.k x.id x.pa x.sz x.fr x.ct x.so x.dg (.slice xA x.da.length xc))
  have f1 : Fr no h (h.push ⟨(cm9 x.k x.id x.pa x.sz x.fr x.ct x.so x.dg (.slice xA x.da.length xc)), true⟩) := Fr.push _ _ _
  obtain ⟨px, hpx⟩ : ∃ q, q = h.next := ⟨_, rfl⟩
  rw [← hpx] at ox ⊢
  generalize h.push ⟨(cm9 x.k x.id x.pa x.sz x.fr x.ct x.so x.dg (.slice xA x.da.length xc)), true⟩ = h1 at *
  refine RunO.part 1 (h1 := h1.push ⟨(cm9 y.k y.id y.pa y.sz y.fr y.ct y.so y.dg (.slice yA y.da.length yc)), true⟩) rfl ?_
  have oy := Ow.push h1 (cm9 y.k y.id y.pa y.sz y.fr y.ct y.so y.dg (.slice yA y.da.length yc))
  have f2 : Fr no h1 (h1.push ⟨(cm9 y.k y.id y.pa y.sz y.fr y.ct y.so y.dg (.slice yA y.da.length yc)), true⟩) := Fr.push _ _ _
  obtain ⟨py, hpy⟩ : ∃ q, q = h1.next := ⟨_, rfl⟩
  rw [← hpy] at oy ⊢
  replace ox := ox.fr f2 (fun g => g)
  generalize h1.push ⟨(cm9 y.k y.id y.pa y.sz y.fr y.ct y.so y.dg (.slice yA y.da.length yc)), true⟩ = h2 at *
  have f12 := f1.same f2
  replace rl := rl.fr0 f12
  replace rp := rp.fr0 f12
  replace sx := sx.fr0 f12
  replace sy := sy.fr0 f12
  clear f1 f2 f12 hpx hpy
  refine RunO.all rfl ?_
  refine RunC.seq (RunC.seqc (fun E' h' => h2 = h' ∧ ∃ b : Bool, (b = true ∨ (l.length ≤ 517 ∧ (∀ x ∈ l, x.length ≤ 200)) ∧ (par.length ≤ 517 ∧ (∀ x ∈ par, x.length ≤ 200)) ∧ x.da.length ≤ 1000 ∧ y.da.length ≤ 1000) ∧ Le (upd (upd (upd (upd (upd E0 0 (.slice lA l.length lc)) 1 (.slice pA par.length pc)) 6 (.pointer (some ⟨px, 0, none⟩))) 7 (.pointer (some ⟨py, 0, none⟩))) 34 (.bool b)) E') ?hv1 ?hv2)
  case hv1 =>
    refine RunC.region (RunO.part 1 rfl ?_)
    refine RunO.callD (heavy24_ok rl) rfl rfl rfl ?_
    rintro _ _ ⟨⟨b1, rfl, hb1⟩, rfl⟩
    cases b1 with
    | true =>
      (repeat (first | refine RunO.step rfl ?_ | refine RunO.loadG rfl rfl (Ow.ld (by assumption) (by rfl)) rfl ?_ | refine RunO.nil ?_))
      exact ⟨rfl, true, .inl rfl, Le.cons rfl (Le.cons rfl (Le.cons rfl (Le.cons rfl (Le.cons rfl (Le.nil _)))))⟩
    | false =>
    (repeat (first | refine RunO.step rfl ?_ | refine RunO.loadG rfl rfl (Ow.ld (by assumption) (by rfl)) rfl ?_ | refine RunO.nil ?_))
    refine RunO.callDG rfl (heavy24_ok rp) rfl rfl rfl ?_
    rintro _ _ ⟨⟨b2, rfl, hb2⟩, rfl⟩
    cases b2 with
    | true =>
      (repeat (first | refine RunO.step rfl ?_ | refine RunO.loadG rfl rfl (Ow.ld (by assumption) (by rfl)) rfl ?_ | refine RunO.nil ?_))
      exact ⟨rfl, true, .inl rfl, Le.cons rfl (Le.cons rfl (Le.cons rfl (Le.cons rfl (Le.cons rfl (Le.nil _)))))⟩
    | false =>
    (repeat (first | refine RunO.step rfl ?_ | refine RunO.loadG rfl rfl (Ow.ld (by assumption) (by rfl)) rfl ?_ | refine RunO.nil ?_))
    by_cases hx : (x.da.length : Int) > 1000
    · rw [decide_eq_true hx]
      (repeat (first | refine RunO.step rfl ?_ | refine RunO.loadG rfl rfl (Ow.ld (by assumption) (by rfl)) rfl ?_ | refine RunO.nil ?_))
      exact ⟨rfl, true, .inl rfl, Le.cons rfl (Le.cons rfl (Le.cons rfl (Le.cons rfl (Le.cons rfl (Le.nil _)))))⟩
    rw [decide_eq_false hx]
    (repeat (first | refine RunO.step rfl ?_ | refine RunO.loadG rfl rfl (Ow.ld (by assumption) (by rfl)) rfl ?_ | refine RunO.nil ?_))
    by_cases hy : (y.da.length : Int) > 1000
    · rw [decide_eq_true hy]
      exact ⟨rfl, true, .inl rfl, Le.cons rfl (Le.cons rfl (Le.cons rfl (Le.cons rfl (Le.cons rfl (Le.nil _)))))⟩
    rw [decide_eq_false hy]
    exact ⟨rfl, false, .inr ⟨hb1.resolve_left Bool.false_ne_true, hb2.resolve_left Bool.false_ne_true, by omega, by omega⟩, Le.cons rfl (Le.cons rfl (Le.cons rfl (Le.cons rfl (Le.cons rfl (Le.nil _)))))⟩
  rintro E' _ ⟨rfl, b, hb, hE⟩
  refine RunC.le hE ?_
  clear hE
  cases b with
  | true =>
    refine RunC.cond rfl (fun _ => ?_) (fun g => by cases g)
    exact RunC.seq (RunC.region (RunO.all rfl (RunC.ret ⟨_, rfl, rfl⟩)))
  | false =>
  obtain ⟨⟨hl, hl2⟩, ⟨hp, hp2⟩, hxd, hyd⟩ := hb.resolve_left Bool.false_ne_true
  clear hb
  refine RunC.cond rfl (fun g => by cases g) (fun _ => RunC.skip ?_)
  refine RunC.seq (RunC.region ?_)
  (repeat (first | refine RunO.step rfl ?_ | refine RunO.loadG rfl rfl (Ow.ld (by assumption) (by rfl)) rfl ?_ | refine RunO.nil ?_))
  refine RunO.callD (foldOne_ok rl rp (by omega) (by omega) sx (by omega)) rfl rfl rfl ?_
  rintro _ h3 ⟨f3, w, rfl, hw0, hw1⟩
  have hWe : oneW l par x.k x.id x.pa x.sz x.fr x.ct x.so x.dg x.da.length = oneWc l par x := rfl
  have hRe : oneR l par x.k x.sz x.fr x.ct x.so x.da = oneRc l par x := rfl
  rw [hWe] at hw0 hw1 ⊢
  rw [hRe] at hw0
  (repeat (first | refine RunO.step rfl ?_ | refine RunO.loadG rfl rfl (Ow.ld (by assumption) (by rfl)) rfl ?_ | refine RunO.nil ?_))
  by_cases he : oneWc l par x = 0
  case neg =>
    obtain rfl := hw1 he
    refine RunC.seq (RunC.seq (RunC.region (RunO.all rfl (RunC.cond (t := true) (congrArg (fun b => some (Value.bool b)) (bne_iff_ne.2 he)) (fun _ => ?_) (fun g => by cases g)))))
    refine RunC.seq (RunC.region ?_)
    (repeat (first | refine RunO.step rfl ?_ | refine RunO.loadG rfl rfl (Ow.ld (by assumption) (by rfl)) rfl ?_ | refine RunO.nil ?_))
    refine RunO.callDG rfl wakes24_ok rfl rfl rfl ?_
    rintro _ _ ⟨rfl, _⟩
    (repeat (first | refine RunO.step rfl ?_ | refine RunO.loadG rfl rfl (Ow.ld (by assumption) (by rfl)) rfl ?_ | refine RunO.nil ?_))
    exact RunC.ret ⟨_, rfl, rfl⟩
  have rx := hw0 he
  have hRl := oneR_len he
  clear hw0 hw1 hWe hRe
  rw [he]
  refine RunC.seq (RunC.seq (RunC.region (RunO.all rfl (RunC.cond rfl (fun g => by cases g) (fun _ => RunC.skip ?_)))))
  replace rl := rl.fr0 f3
  replace rp := rp.fr0 f3
  replace sx := sx.fr0 f3
  replace sy := sy.fr0 f3
  replace ox := ox.fr f3 (fun g => g)
  replace oy := oy.fr f3 (fun g => g)
  clear f3
  have hstay := one_stay he
  have hsize := one_size he
  have hkinds := (kinds he).1
  generalize hR : oneRc l par x = R at *
  have h0x := rx
  obtain ⟨xcs, sR, kR⟩ := h0x
  have sR0 := sR
  obtain ⟨RA, Rc, rfl, _, _⟩ := sR.form
  clear sR
  refine RunC.seq (RunC.region ?_)
  (repeat (first | refine RunO.step rfl ?_ | refine RunO.loadG rfl rfl (Ow.ld (by assumption) (by rfl)) rfl ?_ | refine RunO.nil ?_))
  refine RunC.seqc (fun E' h' => h3 = h' ∧ Le (upd (upd (upd (upd (upd (upd E0 0 (.slice lA l.length lc)) 1 (.slice pA par.length pc)) 6 (.pointer (some ⟨px, 0, none⟩))) 7 (.pointer (some ⟨py, 0, none⟩))) 9 (.slice RA R.length Rc)) 11 (.int .i64 (cmN x))) E') ?sw1 ?sw2
  case sw1 =>
    refine RunC.seq (RunC.region ?_)
    (repeat (first | refine RunO.step rfl ?_ | refine RunO.loadG rfl rfl (Ow.ld (by assumption) (by rfl)) rfl ?_ | refine RunO.nil ?_))
    refine RunC.block ?_
    unfold cmN
    refine RunC.seq (RunC.region (RunO.all rfl (RunC.cond rfl (fun c2 => ?_) (fun c2 => ?_))))
    · have c2 := beq_iff_eq.1 c2
      rw [if_pos c2]
      refine RunC.region ?_
      (repeat (first | refine RunO.step rfl ?_ | refine RunO.loadG rfl rfl (Ow.ld (by assumption) (by rfl)) rfl ?_ | refine RunO.nil ?_))
      refine ⟨rfl, Le.cons ?_ (Le.cons rfl (Le.cons rfl (Le.cons rfl (Le.cons rfl (Le.cons rfl (Le.nil _))))))⟩
      show some (Value.int .i64 (fwrap .i64 ((x.da.length : Int).tdiv 64))) = _
      have e1 : (x.da.length : Int).tdiv 64 = ((x.da.length / 64 : Nat) : Int) := by rw [Int.tdiv_eq_ediv_of_nonneg (by omega)]; omega
      rw [e1, fw64 (by omega) (by omega)]
    · have c2 := beq_eq_false_iff_ne.1 c2
      rw [if_neg c2]
      refine RunC.seq (RunC.seq (RunC.region (RunO.all rfl (RunC.cond rfl (fun c1 => RunC.skip ?_) (fun c1 => ?_)))))
      · have c1 := beq_iff_eq.1 c1
        rw [if_pos (.inl c1)]
        refine RunC.cond (t := true) (congrArg (fun b => some (Value.bool b)) (beq_iff_eq.2 c1)) (fun _ => ?_) (fun g => by cases g)
        exact RunC.region (RunO.all rfl ⟨rfl, Le.cons rfl (Le.cons rfl (Le.cons rfl (Le.cons rfl (Le.cons rfl (Le.cons rfl (Le.nil _))))))⟩)
      · have c1 := beq_eq_false_iff_ne.1 c1
        refine RunC.region (RunO.all rfl ?_)
        by_cases c6 : x.k = 6
        · rw [if_pos (.inr c6)]
          refine RunC.cond (t := true) (congrArg (fun b => some (Value.bool b)) (beq_iff_eq.2 c6)) (fun _ => ?_) (fun g => by cases g)
          exact RunC.region (RunO.all rfl ⟨rfl, Le.cons rfl (Le.cons rfl (Le.cons rfl (Le.cons rfl (Le.cons rfl (Le.cons rfl (Le.nil _))))))⟩)
        · rw [if_neg (by omega)]
          refine RunC.cond (t := false) (congrArg (fun b => some (Value.bool b)) (beq_eq_false_iff_ne.2 c6)) (fun g => by cases g) (fun _ => RunC.skip ?_)
          exact ⟨rfl, Le.cons rfl (Le.cons rfl (Le.cons rfl (Le.cons rfl (Le.cons rfl (Le.cons rfl (Le.nil _))))))⟩
  rintro E' _ ⟨rfl, hE⟩
  refine RunC.le hE ?_
  clear hE
  refine RunC.seqc (fun E' h' => h3 = h' ∧ Le (upd (upd (upd (upd (upd (upd E0 0 (.slice lA l.length lc)) 1 (.slice pA par.length pc)) 6 (.pointer (some ⟨px, 0, none⟩))) 7 (.pointer (some ⟨py, 0, none⟩))) 9 (.slice RA R.length Rc)) 11 (.int .i64 (cmN x))) E') ?st1 ?st2
  case st1 =>
    refine RunC.seq (RunC.region ?_)
    (repeat (first | refine RunO.step rfl ?_ | refine RunO.loadG rfl rfl (Ow.ld (by assumption) (by rfl)) rfl ?_ | refine RunO.nil ?_))
    refine RunC.cond rfl (fun c5 => ?ne5) (fun c5 => ?is5)
    case is5 =>
      have c5 : x.k = 5 := by simpa using c5
      obtain ⟨s, es, hs, hRs, hRt⟩ := hsize c5
      have h0l := rl
      obtain ⟨lcs, sl3, kl3⟩ := h0l
      refine RunC.seq (RunC.draw0 rfl ?_)
      (repeat (first | refine RunO.step rfl ?_ | refine RunO.loadG rfl rfl (Ow.ld (by assumption) (by rfl)) rfl ?_ | refine RunO.nil ?_))
      rw [es, show ((R.length : Int) != (s : Int)) = false from by rw [hRs]; exact bne_self_eq_false _]
      (repeat (first | refine RunO.step rfl ?_ | refine RunO.loadG rfl rfl (Ow.ld (by assumption) (by rfl)) rfl ?_ | refine RunO.nil ?_))
      have hmin : (cond (decide ((l.length : Int) < (s : Int))) (l.length : Int) (s : Int)) = ((min s l.length : Nat) : Int) := by
        by_cases g : (l.length : Int) < (s : Int)
        · rw [decide_eq_true g]; show (l.length : Int) = _; omega
        · rw [decide_eq_false g]; show (s : Int) = _; omega
      rw [es, hmin]
      refine RunO.sliceSlG (s := 1) (len := R.length) (k := 0) (m := min s l.length) rfl rfl rfl rfl rfl rfl sR0 (.none _) (.some _ _ _) (Nat.zero_le _) (by omega) rfl ?_
      intro t1 st1
      (repeat (first | refine RunO.step rfl ?_ | refine RunO.loadG rfl rfl (Ow.ld (by assumption) (by rfl)) rfl ?_ | refine RunO.nil ?_))
      rw [es, hmin]
      refine RunO.sliceSlG (s := 1) (len := l.length) (k := 0) (m := min s l.length) rfl rfl rfl rfl rfl rfl sl3 (.none _) (.some _ _ _) (Nat.zero_le _) (by omega) rfl ?_
      intro t2 st2
      rw [Nat.zero_mul, List.drop_zero, Nat.sub_zero, Nat.mul_one] at st1 st2
      have r1 : Rws h3 t1 (R.take (min s l.length)) := rws_take (by omega) ⟨xcs, st1, kR⟩
      have r2 : Rws h3 t2 (l.take (min s l.length)) := rws_take (by omega) ⟨lcs, st2, kl3⟩
      refine RunO.callDG rfl (keepRows_ok r1 r2 (by rw [List.length_take]; omega) (fun z hz => by have := hl2 z (by rw [hRt] at hz; exact List.mem_of_mem_take hz); omega)) rfl rfl rfl ?_
      rintro _ _ ⟨rfl, rfl⟩
      rw [hRt, show (l.take (min s l.length) == l.take (min s l.length)) = true from beq_self_eq_true _]
      (repeat (first | refine RunO.step rfl ?_ | refine RunO.loadG rfl rfl (Ow.ld (by assumption) (by rfl)) rfl ?_ | refine RunO.nil ?_))
      refine RunC.cond rfl (fun g => by cases g) (fun _ => RunC.skip ?_)
      exact ⟨rfl, Le.cons rfl (Le.cons rfl (Le.cons rfl (Le.cons rfl (Le.cons rfl (Le.cons rfl (Le.nil _))))))⟩
    have c5 : x.k ≠ 5 := by simpa using c5
    obtain ⟨hRl2, ⟨a, b, ea, eb, hab⟩, hout⟩ := hstay c5
    rw [ea, eb] at hout
    rw [eb]
    rw [ea] at ox
    have h0l := rl
    obtain ⟨lcs, sl3, kl3⟩ := h0l
    refine RunC.seq (RunC.seq (RunC.region (RunO.all rfl ?_)))
    rw [show ((R.length : Int) != (l.length : Int)) = false from by rw [hRl2]; exact bne_self_eq_false _]
    refine RunC.cond rfl (fun g => by cases g) (fun _ => RunC.skip ?_)
    refine RunC.seq (RunC.region (RunO.all rfl ?_))
    refine RunC.block ?_
    refine RunC.loop (fun d E h' => ∃ i : Nat, i + d = l.length ∧ h3 = h' ∧ Le (upd (upd (upd (upd (upd (upd (upd E0 0 (.slice lA l.length lc)) 1 (.slice pA par.length pc)) 6 (.pointer (some ⟨px, 0, none⟩))) 7 (.pointer (some ⟨py, 0, none⟩))) 9 (.slice RA R.length Rc)) 11 (.int .i64 (b : Int))) 12 (.int .i64 (i : Int))) E) ?lst (k := l.length) ?lini
    case lini => exact ⟨0, by omega, rfl, Le.cons rfl (Le.cons rfl (Le.cons rfl (Le.cons rfl (Le.cons rfl (Le.cons rfl (Le.cons rfl (Le.nil _)))))))⟩
    rintro d E _ ⟨i, hi, rfl, hE⟩
    refine RunC.le hE ?_
    clear hE
    refine RunC.seq (RunC.seq (RunC.region (RunO.all rfl ?_)))
    refine RunC.cond rfl (fun hlt => RunC.skip ?lgo) (fun hge => RunC.exit ?lex)
    case lex => exact ⟨rfl, Le.cons rfl (Le.cons rfl (Le.cons rfl (Le.cons rfl (Le.cons rfl (Le.cons rfl (Le.nil _))))))⟩
    have hlt := of_decide_eq_true hlt
    have h1 : i < l.length := by omega
    obtain ⟨u, er, sr⟩ := kR i R[i] (List.getElem?_eq_getElem (by omega))
    obtain ⟨v, el, sw⟩ := kl3 i l[i] (List.getElem?_eq_getElem h1)
    have heq : (i : Int) < (a : Int) ∨ (i : Int) ≥ (a : Int) + (b : Int) → (R[i] == l[i]) = true := fun g => by
      have := hout i g
      rw [List.getElem?_eq_getElem (by omega), List.getElem?_eq_getElem h1] at this
      exact beq_iff_eq.2 (Option.some.inj this)
    refine RunC.seq (RunC.block ?_)
    refine RunC.seq (RunC.draw0 rfl ?_)
    (repeat (first | refine RunO.step rfl ?_ | refine RunO.loadG rfl rfl (Ow.ld (by assumption) (by rfl)) rfl ?_ | refine RunO.nil ?_))
    by_cases g1 : (i : Int) < (a : Int)
    · rw [decide_eq_true g1]
      (repeat (first | refine RunO.step rfl ?_ | refine RunO.loadG rfl rfl (Ow.ld (by assumption) (by rfl)) rfl ?_ | refine RunO.nil ?_))
      refine RunO.atG (s := 1) (k := i) rfl (fun _ => rfl) rfl rfl sR0 rfl rfl (by omega) (row_part er) rfl rfl rfl ?_
      (repeat (first | refine RunO.step rfl ?_ | refine RunO.loadG rfl rfl (Ow.ld (by assumption) (by rfl)) rfl ?_ | refine RunO.nil ?_))
      refine RunO.atG (s := 1) (k := i) rfl (fun _ => rfl) rfl rfl sl3 rfl rfl (by omega) (row_part el) rfl rfl rfl ?_
      (repeat (first | refine RunO.step rfl ?_ | refine RunO.loadG rfl rfl (Ow.ld (by assumption) (by rfl)) rfl ?_ | refine RunO.nil ?_))
      refine RunO.callDG rfl (keepBytesSX_ok sr sw) rfl rfl rfl ?_
      rintro _ _ ⟨rfl, rfl⟩
      rw [heq (by omega)]
      (repeat (first | refine RunO.step rfl ?_ | refine RunO.loadG rfl rfl (Ow.ld (by assumption) (by rfl)) rfl ?_ | refine RunO.nil ?_))
      refine RunC.cond rfl (fun g => by cases g) (fun _ => RunC.skip ?_)
      exact RunC.region (RunO.all rfl ⟨d - 1, by omega, i + 1, by omega, rfl, Le.cons (inc64x (by omega)) (Le.cons rfl (Le.cons rfl (Le.cons rfl (Le.cons rfl (Le.cons rfl (Le.cons rfl (Le.nil _)))))))⟩)
    rw [decide_eq_false g1]
    (repeat (first | refine RunO.step rfl ?_ | refine RunO.loadG rfl rfl (Ow.ld (by assumption) (by rfl)) rfl ?_ | refine RunO.nil ?_))
    rw [fw64 (x := (a : Int) + (b : Int)) (by omega) (by omega)]
    by_cases g2 : (i : Int) ≥ (a : Int) + (b : Int)
    · rw [decide_eq_true g2]
      (repeat (first | refine RunO.step rfl ?_ | refine RunO.loadG rfl rfl (Ow.ld (by assumption) (by rfl)) rfl ?_ | refine RunO.nil ?_))
      refine RunO.atG (s := 1) (k := i) rfl (fun _ => rfl) rfl rfl sR0 rfl rfl (by omega) (row_part er) rfl rfl rfl ?_
      (repeat (first | refine RunO.step rfl ?_ | refine RunO.loadG rfl rfl (Ow.ld (by assumption) (by rfl)) rfl ?_ | refine RunO.nil ?_))
      refine RunO.atG (s := 1) (k := i) rfl (fun _ => rfl) rfl rfl sl3 rfl rfl (by omega) (row_part el) rfl rfl rfl ?_
      (repeat (first | refine RunO.step rfl ?_ | refine RunO.loadG rfl rfl (Ow.ld (by assumption) (by rfl)) rfl ?_ | refine RunO.nil ?_))
      refine RunO.callDG rfl (keepBytesSX_ok sr sw) rfl rfl rfl ?_
      rintro _ _ ⟨rfl, rfl⟩
      rw [heq (by omega)]
      (repeat (first | refine RunO.step rfl ?_ | refine RunO.loadG rfl rfl (Ow.ld (by assumption) (by rfl)) rfl ?_ | refine RunO.nil ?_))
      refine RunC.cond rfl (fun g => by cases g) (fun _ => RunC.skip ?_)
      exact RunC.region (RunO.all rfl ⟨d - 1, by omega, i + 1, by omega, rfl, Le.cons (inc64x (by omega)) (Le.cons rfl (Le.cons rfl (Le.cons rfl (Le.cons rfl (Le.cons rfl (Le.cons rfl (Le.nil _)))))))⟩)
    rw [decide_eq_false g2]
    (repeat (first | refine RunO.step rfl ?_ | refine RunO.loadG rfl rfl (Ow.ld (by assumption) (by rfl)) rfl ?_ | refine RunO.nil ?_))
    refine RunC.cond rfl (fun g => by cases g) (fun _ => RunC.skip ?_)
    exact RunC.region (RunO.all rfl ⟨d - 1, by omega, i + 1, by omega, rfl, Le.cons (inc64x (by omega)) (Le.cons rfl (Le.cons rfl (Le.cons rfl (Le.cons rfl (Le.cons rfl (Le.cons rfl (Le.nil _)))))))⟩)
  rintro E' _ ⟨rfl, hE⟩
  refine RunC.le hE ?_
  clear hE
  refine RunC.seq (RunC.region ?_)
  (repeat (first | refine RunO.step rfl ?_ | refine RunO.loadG rfl rfl (Ow.ld (by assumption) (by rfl)) rfl ?_ | refine RunO.nil ?_))
  refine RunO.callD (foldOne_ok rx rp (by omega) (by omega) sy (by omega)) rfl rfl rfl ?_
  rintro _ h4 ⟨f4, wy, rfl, hy0, hy1⟩
  have hWe : oneW R par y.k y.id y.pa y.sz y.fr y.ct y.so y.dg y.da.length = oneWc R par y := rfl
  have hRe : oneR R par y.k y.sz y.fr y.ct y.so y.da = oneRc R par y := rfl
  rw [hWe] at hy0 hy1 ⊢
  rw [hRe] at hy0
  (repeat (first | refine RunO.step rfl ?_ | refine RunO.loadG rfl rfl (Ow.ld (by assumption) (by rfl)) rfl ?_ | refine RunO.nil ?_))
  replace rl := rl.fr0 f4
  replace rp := rp.fr0 f4
  replace sx := sx.fr0 f4
  replace sy := sy.fr0 f4
  replace ox := ox.fr f4 (fun g => g)
  replace oy := oy.fr f4 (fun g => g)
  refine RunC.seq (RunC.region ?_)
  (repeat (first | refine RunO.step rfl ?_ | refine RunO.loadG rfl rfl (Ow.ld (by assumption) (by rfl)) rfl ?_ | refine RunO.nil ?_))
  show RunO prog _ _ _ _ (h4.push ⟨(cm9 x.k x.id x.pa x.sz x.fr x.ct x.so x.dg (.slice xA x.da.length xc)) ++ (cm9 y.k y.id y.pa y.sz y.fr y.ct y.so y.dg (.slice yA y.da.length yc)), true⟩) _
  have oc := Ow.push h4 ((cm9 x.k x.id x.pa x.sz x.fr x.ct x.so x.dg (.slice xA x.da.length xc)) ++ (cm9 y.k y.id y.pa y.sz y.fr y.ct y.so y.dg (.slice yA y.da.length yc)))
  have f5 : Fr no h4 (h4.push ⟨(cm9 x.k x.id x.pa x.sz x.fr x.ct x.so x.dg (.slice xA x.da.length xc)) ++ (cm9 y.k y.id y.pa y.sz y.fr y.ct y.so y.dg (.slice yA y.da.length yc)), true⟩) := Fr.push _ _ _
  replace rl := rl.fr0 f5
  replace rp := rp.fr0 f5
  replace sx := sx.fr0 f5
  replace sy := sy.fr0 f5
  replace hy0 := fun e => (hy0 e).fr0 f5
  generalize h4.push ⟨(cm9 x.k x.id x.pa x.sz x.fr x.ct x.so x.dg (.slice xA x.da.length xc)) ++ (cm9 y.k y.id y.pa y.sz y.fr y.ct y.so y.dg (.slice yA y.da.length yc)), true⟩ = h5 at *
  generalize h4.next = pq at *
  have cms : Cms h5 (.slice (some ⟨pq, 0, none⟩) 2 (exc 2)) [x, y] := ⟨_, oc.all.sl (s := 9) rfl (by decide) (Cp.exc (Nat.le_refl _)), fun j z hz => by
    match j, hz with
    | 0, hz => cases hz; exact ⟨_, rfl, sx⟩
    | 1, hz => cases hz; exact ⟨_, rfl, sy⟩
    | j + 2, hz => cases hz⟩
  refine RunO.callD (foldAll_ok rp cms (by omega) (by show 2 ≤ 100000; decide) (fun z hz => by
    rcases List.mem_cons.1 hz with g | g
    · rw [g]; omega
    · rw [List.mem_singleton.1 g]; omega)) rfl rfl rfl ?_
  rintro _ h6 ⟨f6, wz, rfl, hz0, hz1⟩
  replace rl := rl.fr0 f6
  replace rp := rp.fr0 f6
  replace hy0 := fun e => (hy0 e).fr0 f6
  have hall : l = par → allW par [x, y] = oneWc R par y ∧ (oneWc R par y = 0 → (allG par [x, y] par).1 = oneRc R par y) := fun e => by
    have hr : rgt par = true := (one_facts (show oneW l par x.k x.id x.pa x.sz x.fr x.ct x.so x.dg x.da.length = 0 from he)).2.1
    subst e
    unfold allW
    rw [if_pos hr, allG, if_pos he, hR, allG]
    by_cases g : oneWc R l y = 0
    · rw [if_pos g, allG]; exact ⟨g.symm, fun _ => rfl⟩
    · rw [if_neg g]; exact ⟨rfl, fun e => absurd e g⟩
  generalize (allG par [x, y] par).1 = Z at *
  generalize allW par [x, y] = wg at *
  have hYl : oneWc R par y = 0 → (oneRc R par y).length ≤ 512 := oneR_len
  have h64 : oneWc R par y = 0 → ∀ z ∈ oneRc R par y, z.length = 64 := one_64
  generalize hRy : oneRc R par y = RY at *
  generalize oneWc R par y = wf at *
  (repeat (first | refine RunO.step rfl ?_ | refine RunO.loadG rfl rfl (Ow.ld (by assumption) (by rfl)) rfl ?_ | refine RunO.nil ?_))
  refine RunC.seq (RunC.seq (RunC.region (RunO.part 2 rfl ?_)))
  refine RunO.callD (keepRows_ok rl rp (by omega) (fun z hz => by have := hl2 z hz; omega)) rfl rfl rfl ?_
  rintro _ _ ⟨rfl, rfl⟩
  by_cases hlp : l = par
  case neg =>
    rw [show (l == par) = false from beq_eq_false_iff_ne.2 hlp]
    refine RunO.all rfl (RunC.cond rfl (fun _ => ?_) (fun g => by cases g))
    refine RunC.seq (RunC.region ?_)
    (repeat (first | refine RunO.step rfl ?_ | refine RunO.loadG rfl rfl (Ow.ld (by assumption) (by rfl)) rfl ?_ | refine RunO.nil ?_))
    by_cases hf : wf = 0
    · rw [show (wf == 0) = true from beq_iff_eq.2 hf]
      (repeat (first | refine RunO.step rfl ?_ | refine RunO.loadG rfl rfl (Ow.ld (by assumption) (by rfl)) rfl ?_ | refine RunO.nil ?_))
      by_cases hg : wg = 0
      · rw [show (wg == 0) = true from beq_iff_eq.2 hg]
        (repeat (first | refine RunO.step rfl ?_ | refine RunO.loadG rfl rfl (Ow.ld (by assumption) (by rfl)) rfl ?_ | refine RunO.nil ?_))
        refine RunO.callDG rfl wakes24_ok rfl rfl rfl ?_
        rintro _ _ ⟨rfl, _⟩
        (repeat (first | refine RunO.step rfl ?_ | refine RunO.loadG rfl rfl (Ow.ld (by assumption) (by rfl)) rfl ?_ | refine RunO.nil ?_))
        exact RunC.ret ⟨_, rfl, rfl⟩
      · obtain rfl := hz1 hg
        rw [show (wg == 0) = false from beq_eq_false_iff_ne.2 hg]
        (repeat (first | refine RunO.step rfl ?_ | refine RunO.loadG rfl rfl (Ow.ld (by assumption) (by rfl)) rfl ?_ | refine RunO.nil ?_))
        refine RunO.callDG rfl wakes24_ok rfl rfl rfl ?_
        rintro _ _ ⟨rfl, _⟩
        (repeat (first | refine RunO.step rfl ?_ | refine RunO.loadG rfl rfl (Ow.ld (by assumption) (by rfl)) rfl ?_ | refine RunO.nil ?_))
        exact RunC.ret ⟨_, rfl, rfl⟩
    · obtain rfl := hy1 hf
      rw [show (wf == 0) = false from beq_eq_false_iff_ne.2 hf]
      (repeat (first | refine RunO.step rfl ?_ | refine RunO.loadG rfl rfl (Ow.ld (by assumption) (by rfl)) rfl ?_ | refine RunO.nil ?_))
      by_cases hg : wg = 0
      · rw [show (wg == 0) = true from beq_iff_eq.2 hg]
        (repeat (first | refine RunO.step rfl ?_ | refine RunO.loadG rfl rfl (Ow.ld (by assumption) (by rfl)) rfl ?_ | refine RunO.nil ?_))
        refine RunO.callDG rfl wakes24_ok rfl rfl rfl ?_
        rintro _ _ ⟨rfl, _⟩
        (repeat (first | refine RunO.step rfl ?_ | refine RunO.loadG rfl rfl (Ow.ld (by assumption) (by rfl)) rfl ?_ | refine RunO.nil ?_))
        exact RunC.ret ⟨_, rfl, rfl⟩
      · obtain rfl := hz1 hg
        rw [show (wg == 0) = false from beq_eq_false_iff_ne.2 hg]
        (repeat (first | refine RunO.step rfl ?_ | refine RunO.loadG rfl rfl (Ow.ld (by assumption) (by rfl)) rfl ?_ | refine RunO.nil ?_))
        refine RunO.callDG rfl wakes24_ok rfl rfl rfl ?_
        rintro _ _ ⟨rfl, _⟩
        (repeat (first | refine RunO.step rfl ?_ | refine RunO.loadG rfl rfl (Ow.ld (by assumption) (by rfl)) rfl ?_ | refine RunO.nil ?_))
        exact RunC.ret ⟨_, rfl, rfl⟩
  obtain ⟨e1, e2⟩ := hall hlp
  subst e1
  rw [show (l == par) = true from beq_iff_eq.2 hlp]
  refine RunO.all rfl (RunC.cond rfl (fun g => by cases g) (fun _ => RunC.skip ?_))
  refine RunC.seq (RunC.region ?_)
  (repeat (first | refine RunO.step rfl ?_ | refine RunO.loadG rfl rfl (Ow.ld (by assumption) (by rfl)) rfl ?_ | refine RunO.nil ?_))
  rw [show (wg == wg) = true from beq_self_eq_true _]
  (repeat (first | refine RunO.step rfl ?_ | refine RunO.loadG rfl rfl (Ow.ld (by assumption) (by rfl)) rfl ?_ | refine RunO.nil ?_))
  by_cases hf : wg = 0
  · have r1 := hy0 hf
    have r2 := hz0 hf
    rw [e2 hf] at r2
    refine RunO.callDG rfl (keepRows_ok r1 r2 (by have := hYl hf; omega) (fun z hz => by have := h64 hf z hz; omega)) rfl rfl rfl ?_
    rintro _ _ ⟨rfl, rfl⟩
    rw [show (RY == RY) = true from beq_self_eq_true _]
    (repeat (first | refine RunO.step rfl ?_ | refine RunO.loadG rfl rfl (Ow.ld (by assumption) (by rfl)) rfl ?_ | refine RunO.nil ?_))
    refine RunO.callDG rfl wakes24_ok rfl rfl rfl ?_
    rintro _ _ ⟨rfl, _⟩
    (repeat (first | refine RunO.step rfl ?_ | refine RunO.loadG rfl rfl (Ow.ld (by assumption) (by rfl)) rfl ?_ | refine RunO.nil ?_))
    exact RunC.ret ⟨_, rfl, rfl⟩
  · obtain rfl := hy1 hf
    obtain rfl := hz1 hf
    refine RunO.callDG rfl (keepRows_ok (Rws.nil h6) (Rws.nil h6) (by decide) (fun z hz => by cases hz)) rfl rfl rfl ?_
    rintro _ _ ⟨rfl, rfl⟩
    rw [show (([] : List (List Int)) == []) = true from rfl]
    (repeat (first | refine RunO.step rfl ?_ | refine RunO.loadG rfl rfl (Ow.ld (by assumption) (by rfl)) rfl ?_ | refine RunO.nil ?_))
    refine RunO.callDG rfl wakes24_ok rfl rfl rfl ?_
    rintro _ _ ⟨rfl, _⟩
    (repeat (first | refine RunO.step rfl ?_ | refine RunO.loadG rfl rfl (Ow.ld (by assumption) (by rfl)) rfl ?_ | refine RunO.nil ?_))
    exact RunC.ret ⟨_, rfl, rfl⟩
end Go.Proofs.Ytdcggjkcbheolaa
end
