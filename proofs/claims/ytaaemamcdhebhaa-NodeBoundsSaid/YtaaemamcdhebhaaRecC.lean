/- RecC: part of a calculus over an abstract machine that stands beside the model, and contracts of functions by it.
Conditions: what each theorem says of its arguments. -/
import Derived.Test.YtaaemamcdhebhaaSuperP
set_option linter.unusedVariables false
set_option maxRecDepth 100000
open Go Go.Am
namespace Go.Proofs.Ytaaemamcdhebhaa
open Go.Proofs.Try
theorem recIn_ok {h : Heap} {a lo hi : Int} : RunF prog 55 [.int .i64 a, .int .i64 lo, .int .i64 hi] h fun v h' => v = .bool (inB a lo hi) ∧ h = h' := by
  refine RunF.walk func55 rfl rfl ?_
  refine RunC.seq (RunC.region (RunO.all rfl ?_))
  refine RunC.seq (RunC.region (RunO.part 4 rfl ?_))
  unfold inB
  cases decide (a ≥ lo) with
  | true => exact RunO.all rfl (RunC.ret ⟨_, rfl, by simp, rfl⟩)
  | false => exact RunO.all rfl (RunC.ret ⟨_, rfl, by simp, rfl⟩)
theorem recLay_ok {h : Heap} : RunF prog 44 [] h fun v h' => Row h.next h' v 2 8 (fcs (layF 4 [4, 8, 8, 4, 4, 4, 4, 4])) ∧ Fr no h h' := by
  refine RunF.walk func44 rfl rfl ?_
  refine RunC.seq (RunC.region (RunO.all rfl ?_))
  refine RunC.seq (RunC.region (RunO.part 1 (h1 := h.push ⟨ns [4, 8, 8, 4, 4, 4, 4, 4], true⟩) rfl ?_))
  refine RunO.callD (superLayout_ok (ss := [4, 8, 8, 4, 4, 4, 4, 4]) (c := exc 8) (Ow.push h (ns [4, 8, 8, 4, 4, 4, 4, 4])).all (by decide) (by decide)) rfl rfl rfl ?_
  rintro v h' ⟨hr, hf⟩
  refine RunO.all rfl (RunC.ret ⟨_, rfl, ?_, ?_⟩)
  · refine ⟨hr.1, hr.2.imp (fun x => x) ?_⟩
    rintro ⟨b, h1, h2⟩
    exact ⟨b, Nat.le_trans (Nat.le_succ _) h1, h2⟩
  · exact (Fr.push no _ _).same hf
def ptrB (n : Int) : Bool := n == 0 || (decide (n ≥ 2) && decide (n < 4096))
theorem nodePointer_ok {h : Heap} {n : Int} : RunF prog 53 [.int .i64 n] h fun v h' => v = .bool (ptrB n) ∧ h = h' := by
  refine RunF.walk func53 rfl rfl ?_
  refine RunC.seq (RunC.region (RunO.all rfl ?_))
  refine RunC.seq (RunC.region (RunO.part 3 rfl ?_))
  unfold ptrB
  cases (n == 0) with
  | true => exact RunO.all rfl (RunC.ret ⟨_, rfl, rfl, rfl⟩)
  | false =>
    refine RunO.part 3 rfl ?_
    cases decide (n ≥ 2) with
    | true => exact RunO.all rfl (RunC.ret ⟨_, rfl, by simp, rfl⟩)
    | false => exact RunO.all rfl (RunC.ret ⟨_, rfl, by simp, rfl⟩)
def idB (n : Int) : Bool := !(decide (n < 1)) && !(decide (n > 4611686018427387903))
theorem idsCheck_ok {h : Heap} {n : Int} : RunF prog 75 [.int .i64 n] h fun v h' => v = .int .i64 (if idB n then 0 else 1) ∧ h = h' := by
  refine RunF.walk func75 rfl rfl ?_
  refine RunC.seq (RunC.region (RunO.all rfl ?_))
  refine RunC.seq (RunC.seq (RunC.region (RunO.part 3 rfl ?_)))
  unfold idB
  cases decide (n < 1) with
  | true =>
    refine RunO.all rfl (RunC.cond rfl (fun _ => ?_) (fun g => by cases g))
    exact RunC.seq (RunC.region (RunO.all rfl (RunC.ret ⟨_, rfl, rfl, rfl⟩)))
  | false =>
    refine RunO.part 2 rfl ?_
    cases decide (n > 4611686018427387903) with
    | true =>
      refine RunO.all rfl (RunC.cond rfl (fun _ => ?_) (fun g => by cases g))
      exact RunC.seq (RunC.region (RunO.all rfl (RunC.ret ⟨_, rfl, rfl, rfl⟩)))
    | false =>
      refine RunO.all rfl (RunC.cond rfl (fun g => by cases g) (fun _ => RunC.skip ?_))
      exact RunC.seq (RunC.region (RunO.all rfl (RunC.ret ⟨_, rfl, rfl, rfl⟩)))
theorem if_eq0 (b : Bool) : ((if b = true then (0 : Int) else 1) == 0) = b := by cases b <;> rfl
def parB (id pa : Int) : Bool := idB id && ((pa != id) && (pa == 0 || idB pa))
theorem recParents_ok {h : Heap} {id pa : Int} : RunF prog 54 [.int .i64 id, .int .i64 pa] h fun v h' => v = .bool (parB id pa) ∧ h = h' := by
  refine RunF.walk func54 rfl rfl ?_
  refine RunC.seq (RunC.region (RunO.all rfl ?_))
  refine RunC.seq (RunC.region (RunO.part 1 rfl ?_))
  refine RunO.callD idsCheck_ok rfl rfl rfl ?_
  rintro _ _ ⟨rfl, rfl⟩
  refine RunO.part 1 rfl ?_
  rw [if_eq0]
  refine RunO.part 1 rfl ?_
  unfold parB
  cases idB id with
  | false => exact RunO.all rfl (RunC.ret ⟨_, rfl, rfl, rfl⟩)
  | true =>
    refine RunO.part 4 rfl ?_
    refine RunO.part 1 rfl ?_
    cases (pa != id) with
    | false => exact RunO.all rfl (RunC.ret ⟨_, rfl, rfl, rfl⟩)
    | true =>
      refine RunO.part 3 rfl ?_
      cases (pa == 0) with
      | true => exact RunO.all rfl (RunC.ret ⟨_, rfl, rfl, rfl⟩)
      | false =>
        refine RunO.part 1 rfl ?_
        refine RunO.callDG rfl idsCheck_ok rfl rfl rfl ?_
        rintro _ _ ⟨rfl, rfl⟩
        refine RunO.part 1 rfl ?_
        rw [if_eq0]
        refine RunO.all rfl (RunC.ret ⟨_, rfl, ?_, rfl⟩)
        simp
/-- A record's cells. -/
def rc (n id pa ro sz ki fr di : Int) : List Value := [.int .i64 n, .int .i64 id, .int .i64 pa, .int .i64 ro, .int .i64 sz, .int .i64 ki, .int .i64 fr, .int .i64 di]
def recIs (n id pa ro sz : Int) : Bool := (((ptrB n && ptrB ro) && parB id pa) && inB sz 0 512)
def recOk (n id pa ro sz ki fr di : Int) : Bool :=
  if ki = 0 then ((recIs n id pa ro sz && fr == 0) && di == 0) else if ki = 1 then ((recIs n id pa ro sz && inB fr 1 65535) && inB di 0 4294967295) else false
theorem recCheck_ok {h : Heap} {n id pa ro sz ki fr di : Int} : RunF prog 20 [.agg ⟨rc n id pa ro sz ki fr di⟩] h fun v h' => v = .int .i64 (if recOk n id pa ro sz ki fr di then 0 else 1) ∧ Fr no h h' := by
  refine RunF.walk func20 rfl rfl ?_
  refine RunC.seq (RunC.region (RunO.all (h1 := h.push ⟨rc n id pa ro sz ki fr di, true⟩) rfl ?_))
  have ow : Ow (h.push ⟨rc n id pa ro sz ki fr di, true⟩) h.next (rc n id pa ro sz ki fr di) := Ow.push _ _
  have f1 : Fr no h (h.push ⟨rc n id pa ro sz ki fr di, true⟩) := Fr.push _ _ _
  generalize h.push ⟨rc n id pa ro sz ki fr di, true⟩ = h1 at *
  generalize h.next = p at *
  refine RunC.seqE (upd (upd E0 1 (.pointer (some ⟨p, 0, none⟩))) 3 (.bool (recIs n id pa ro sz))) ?_ ?_
  · unfold recIs
    refine RunC.region (RunO.part 1 rfl ?_)
    refine RunO.load (v := .int .i64 n) rfl (ow.all.cell1 (k := 0) rfl rfl) rfl ?_
    refine RunO.callD nodePointer_ok rfl rfl rfl ?_
    rintro _ _ ⟨rfl, rfl⟩
    refine RunO.part 1 rfl ?_
    cases ptrB n with
    | false => exact RunO.all rfl ⟨rfl, Le.cons rfl (Le.cons rfl (Le.nil _))⟩
    | true =>
    refine RunO.part 1 rfl ?_
    refine RunO.loadG (v := .int .i64 ro) rfl rfl (ow.all.cell1 (k := 3) rfl rfl) rfl ?_
    refine RunO.callDG rfl nodePointer_ok rfl rfl rfl ?_
    rintro _ _ ⟨rfl, rfl⟩
    refine RunO.part 2 rfl ?_
    cases ptrB ro with
    | false => exact RunO.all rfl ⟨rfl, Le.cons rfl (Le.cons rfl (Le.nil _))⟩
    | true =>
    refine RunO.part 1 rfl ?_
    refine RunO.loadG (v := .int .i64 id) rfl rfl (ow.all.cell1 (k := 1) rfl rfl) rfl ?_
    refine RunO.part 1 rfl ?_
    refine RunO.loadG (v := .int .i64 pa) rfl rfl (ow.all.cell1 (k := 2) rfl rfl) rfl ?_
    refine RunO.callDG rfl recParents_ok rfl rfl rfl ?_
    rintro _ _ ⟨rfl, rfl⟩
    refine RunO.part 2 rfl ?_
    cases parB id pa with
    | false => exact RunO.all rfl ⟨rfl, Le.cons rfl (Le.cons rfl (Le.nil _))⟩
    | true =>
    refine RunO.part 1 rfl ?_
    refine RunO.loadG (v := .int .i64 sz) rfl rfl (ow.all.cell1 (k := 4) rfl rfl) rfl ?_
    refine RunO.callDG rfl recIn_ok rfl rfl rfl ?_
    rintro _ _ ⟨rfl, rfl⟩
    exact RunO.all rfl ⟨rfl, Le.cons rfl (Le.cons rfl (Le.nil _))⟩
  refine RunC.seqE (upd E0 3 (.bool (recOk n id pa ro sz ki fr di))) ?_ ?_
  · unfold recOk
    generalize recIs n id pa ro sz = b0
    refine RunC.seq (RunC.region (RunO.part 1 rfl ?_))
    refine RunO.load (v := .int .i64 ki) rfl (ow.all.cell1 (k := 5) rfl rfl) rfl ?_
    refine RunO.nil ?_
    refine RunC.block ?_
    refine RunC.seq (RunC.region (RunO.all rfl (RunC.cond rfl (fun c0 => ?_) (fun c0 => ?_))))
    · have c0 : ki = 0 := by simpa using c0
      rw [if_pos c0]
      refine RunC.region (RunO.part 2 rfl ?_)
      cases b0 with
      | false => exact RunO.all rfl ⟨rfl, Le.cons rfl (Le.nil _)⟩
      | true =>
      refine RunO.part 1 rfl ?_
      refine RunO.loadG (v := .int .i64 fr) rfl rfl (ow.all.cell1 (k := 6) rfl rfl) rfl ?_
      refine RunO.part 3 rfl ?_
      cases (fr == 0) with
      | false => exact RunO.all rfl ⟨rfl, Le.cons rfl (Le.nil _)⟩
      | true =>
      refine RunO.part 1 rfl ?_
      refine RunO.loadG (v := .int .i64 di) rfl rfl (ow.all.cell1 (k := 7) rfl rfl) rfl ?_
      exact RunO.all rfl ⟨rfl, Le.cons rfl (Le.nil _)⟩
    have c0 : ¬ ki = 0 := by simpa using c0
    rw [if_neg c0]
    refine RunC.seq (RunC.region (RunO.all rfl (RunC.cond rfl (fun c1 => ?_) (fun c1 => ?_))))
    · have c1 : ki = 1 := by simpa using c1
      rw [if_pos c1]
      refine RunC.region (RunO.part 2 rfl ?_)
      cases b0 with
      | false => exact RunO.all rfl ⟨rfl, Le.cons rfl (Le.nil _)⟩
      | true =>
      refine RunO.part 1 rfl ?_
      refine RunO.loadG (v := .int .i64 fr) rfl rfl (ow.all.cell1 (k := 6) rfl rfl) rfl ?_
      refine RunO.callDG rfl recIn_ok rfl rfl rfl ?_
      rintro _ _ ⟨rfl, rfl⟩
      refine RunO.part 2 rfl ?_
      cases inB fr 1 65535 with
      | false => exact RunO.all rfl ⟨rfl, Le.cons rfl (Le.nil _)⟩
      | true =>
      refine RunO.part 1 rfl ?_
      refine RunO.loadG (v := .int .i64 di) rfl rfl (ow.all.cell1 (k := 7) rfl rfl) rfl ?_
      refine RunO.callDG rfl recIn_ok rfl rfl rfl ?_
      rintro _ _ ⟨rfl, rfl⟩
      exact RunO.all rfl ⟨rfl, Le.cons rfl (Le.nil _)⟩
    have c1 : ¬ ki = 1 := by simpa using c1
    rw [if_neg c1]
    exact RunC.region (RunO.all rfl ⟨rfl, Le.cons rfl (Le.nil _)⟩)
  cases recOk n id pa ro sz ki fr di <;> refine RunC.seq (RunC.seq (RunC.region (RunO.all rfl (RunC.cond rfl (fun g => ?_) (fun g => ?_))))) <;> first
    | (cases g; done)
    | exact RunC.seq (RunC.region (RunO.all rfl (RunC.ret ⟨_, rfl, rfl, f1⟩)))
    | exact RunC.skip (RunC.seq (RunC.region (RunO.all rfl (RunC.ret ⟨_, rfl, rfl, f1⟩))))
end Go.Proofs.Ytaaemamcdhebhaa
