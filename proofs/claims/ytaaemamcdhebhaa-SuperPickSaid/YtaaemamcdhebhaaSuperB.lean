/- SuperB: part of a calculus over an abstract machine that stands beside the model, and contracts of functions by it.
Conditions: what each theorem says of its arguments. -/
import Derived.Test.YtaaemamcdhebhaaRead
import Derived.Test.YtaaemamcdhebhaaAm16
set_option linter.unusedVariables false
set_option maxRecDepth 100000
open Go Go.Am
namespace Go.Proofs.Ytaaemamcdhebhaa
open Go.Proofs.Try
theorem rowOut {lo : Nat} {h : Heap} {v : Value} {s n : Nat} {cells : List Value} (r : Row lo h v s n cells) (hn : 1 ≤ n) : ∃ b, lo ≤ b ∧ v = .slice (some ⟨b, 0, none⟩) n (unkc s) ∧ Ow h b cells := by
  rcases r.2 with ⟨_, e⟩ | h
  · omega
  · exact h
theorem superLay_ok {h : Heap} : RunF prog 60 [] h fun v h' => Row h.next h' v 2 5 (fcs (layF 4 [8, 4, 4, 4, 4])) ∧ Fr no h h' := by
  refine RunF.walk func60 rfl rfl ?_
  refine RunC.seq (RunC.region (RunO.all rfl ?_))
  refine RunC.seq (RunC.region (RunO.part 1 (h1 := h.push ⟨ns [8, 4, 4, 4, 4], true⟩) rfl ?_))
  refine RunO.callD (superLayout_ok (ss := [8, 4, 4, 4, 4]) (c := exc 5) (Ow.push h (ns [8, 4, 4, 4, 4])).all (by decide) (by decide)) rfl rfl rfl ?_
  rintro v h' ⟨hr, hf⟩
  refine RunO.all rfl (RunC.ret ⟨_, rfl, ?_, ?_⟩)
  · refine ⟨hr.1, hr.2.imp (fun x => x) ?_⟩
    rintro ⟨b, h1, h2⟩
    exact ⟨b, Nat.le_trans (Nat.le_succ _) h1, h2⟩
  · exact (Fr.push no _ _).same hf
def inB (a lo hi : Int) : Bool := decide (a ≥ lo) && decide (a ≤ hi)
theorem superIn_ok {h : Heap} {a lo hi : Int} : RunF prog 63 [.int .i64 a, .int .i64 lo, .int .i64 hi] h fun v h' => v = .bool (inB a lo hi) ∧ h = h' := by
  refine RunF.walk func63 rfl rfl ?_
  refine RunC.seq (RunC.region (RunO.all rfl ?_))
  refine RunC.seq (RunC.region (RunO.part 4 rfl ?_))
  unfold inB
  cases decide (a ≥ lo) with
  | true => exact RunO.all rfl (RunC.ret ⟨_, rfl, by simp, rfl⟩)
  | false => exact RunO.all rfl (RunC.ret ⟨_, rfl, by simp, rfl⟩)
/-- A superblock's cells. -/
def sc (g bl rt sz fi : Int) : List Value := [.int .i64 g, .int .i64 bl, .int .i64 rt, .int .i64 sz, .int .i64 fi]
def superOk (g bl rt sz fi : Int) : Bool :=
  ((inB g 1 1099511627776 && inB bl 4 4096) && inB sz 0 512) && ((rt == 0 || inB rt 2 (fwrap .i64 (bl - 1))) && (fi == 0 || inB fi 2 (fwrap .i64 (bl - 1))))
theorem superCheck_ok {h : Heap} {g bl rt sz fi : Int} : RunF prog 37 [.agg ⟨sc g bl rt sz fi⟩] h fun v h' => v = .int .i64 (if superOk g bl rt sz fi then 0 else 1) ∧ Fr no h h' := by
  refine RunF.walk func37 rfl rfl ?_
  refine RunC.seq (RunC.region (RunO.all (h1 := h.push ⟨sc g bl rt sz fi, true⟩) rfl ?_))
  have ow : Ow (h.push ⟨sc g bl rt sz fi, true⟩) h.next (sc g bl rt sz fi) := Ow.push _ _
  have f1 : Fr no h (h.push ⟨sc g bl rt sz fi, true⟩) := Fr.push _ _ _
  generalize h.push ⟨sc g bl rt sz fi, true⟩ = h1 at *
  refine RunC.seqE (upd (upd E0 1 (.pointer (some ⟨h.next, 0, none⟩))) 3 (.bool ((inB g 1 1099511627776 && inB bl 4 4096) && inB sz 0 512))) ?_ ?_
  · refine RunC.region (RunO.part 1 rfl ?_)
    refine RunO.load (v := .int .i64 g) rfl (ow.all.cell1 (k := 0) rfl rfl) rfl ?_
    refine RunO.callD superIn_ok rfl rfl rfl ?_
    rintro _ _ ⟨rfl, rfl⟩
    refine RunO.part 1 rfl ?_
    cases inB g 1 1099511627776 with
    | false => exact RunO.all rfl ⟨rfl, Le.cons rfl (Le.cons rfl (Le.nil _))⟩
    | true =>
      refine RunO.part 1 rfl ?_
      refine RunO.loadG (v := .int .i64 bl) rfl rfl (ow.all.cell1 (k := 1) rfl rfl) rfl ?_
      refine RunO.callDG rfl superIn_ok rfl rfl rfl ?_
      rintro _ _ ⟨rfl, rfl⟩
      refine RunO.part 2 rfl ?_
      cases inB bl 4 4096 with
      | false => exact RunO.all rfl ⟨rfl, Le.cons rfl (Le.cons rfl (Le.nil _))⟩
      | true =>
        refine RunO.part 1 rfl ?_
        refine RunO.loadG (v := .int .i64 sz) rfl rfl (ow.all.cell1 (k := 3) rfl rfl) rfl ?_
        refine RunO.callDG rfl superIn_ok rfl rfl rfl ?_
        rintro _ _ ⟨rfl, rfl⟩
        exact RunO.all rfl ⟨rfl, Le.cons rfl (Le.cons rfl (Le.nil _))⟩
  refine RunC.seqE (upd (upd (upd E0 1 (.pointer (some ⟨h.next, 0, none⟩))) 3 (.bool ((inB g 1 1099511627776 && inB bl 4 4096) && inB sz 0 512))) 4 (.bool (rt == 0 || inB rt 2 (fwrap .i64 (bl - 1))))) ?_ ?_
  · refine RunC.region (RunO.part 1 rfl ?_)
    refine RunO.load (v := .int .i64 rt) rfl (ow.all.cell1 (k := 2) rfl rfl) rfl ?_
    refine RunO.part 2 rfl ?_
    cases (rt == 0) with
    | true => exact RunO.all rfl ⟨rfl, Le.cons rfl (Le.cons rfl (Le.cons rfl (Le.nil _)))⟩
    | false =>
      refine RunO.part 1 rfl ?_
      refine RunO.loadG (v := .int .i64 rt) rfl rfl (ow.all.cell1 (k := 2) rfl rfl) rfl ?_
      refine RunO.part 1 rfl ?_
      refine RunO.loadG (v := .int .i64 bl) rfl rfl (ow.all.cell1 (k := 1) rfl rfl) rfl ?_
      refine RunO.part 1 rfl ?_
      refine RunO.callDG rfl superIn_ok rfl rfl rfl ?_
      rintro _ _ ⟨rfl, rfl⟩
      exact RunO.all rfl ⟨rfl, Le.cons rfl (Le.cons rfl (Le.cons rfl (Le.nil _)))⟩
  refine RunC.seqE (upd (upd (upd E0 3 (.bool ((inB g 1 1099511627776 && inB bl 4 4096) && inB sz 0 512))) 4 (.bool (rt == 0 || inB rt 2 (fwrap .i64 (bl - 1))))) 5 (.bool (fi == 0 || inB fi 2 (fwrap .i64 (bl - 1))))) ?_ ?_
  · refine RunC.region (RunO.part 1 rfl ?_)
    refine RunO.load (v := .int .i64 fi) rfl (ow.all.cell1 (k := 4) rfl rfl) rfl ?_
    refine RunO.part 2 rfl ?_
    cases (fi == 0) with
    | true => exact RunO.all rfl ⟨rfl, Le.cons rfl (Le.cons rfl (Le.cons rfl (Le.nil _)))⟩
    | false =>
      refine RunO.part 1 rfl ?_
      refine RunO.loadG (v := .int .i64 fi) rfl rfl (ow.all.cell1 (k := 4) rfl rfl) rfl ?_
      refine RunO.part 1 rfl ?_
      refine RunO.loadG (v := .int .i64 bl) rfl rfl (ow.all.cell1 (k := 1) rfl rfl) rfl ?_
      refine RunO.part 1 rfl ?_
      refine RunO.callDG rfl superIn_ok rfl rfl rfl ?_
      rintro _ _ ⟨rfl, rfl⟩
      exact RunO.all rfl ⟨rfl, Le.cons rfl (Le.cons rfl (Le.cons rfl (Le.nil _)))⟩
  unfold superOk
  generalize ((inB g 1 1099511627776 && inB bl 4 4096) && inB sz 0 512) = b1
  generalize (rt == 0 || inB rt 2 (fwrap .i64 (bl - 1))) = b2
  generalize (fi == 0 || inB fi 2 (fwrap .i64 (bl - 1))) = b3
  cases b1 <;> cases b2 <;> cases b3 <;> refine RunC.seq (RunC.seq (RunC.region (RunO.all rfl (RunC.cond rfl (fun g => ?_) (fun g => ?_))))) <;> first
    | (cases g; done)
    | exact RunC.seq (RunC.region (RunO.all rfl (RunC.ret ⟨_, rfl, rfl, f1⟩)))
    | exact RunC.skip (RunC.seq (RunC.region (RunO.all rfl (RunC.ret ⟨_, rfl, rfl, f1⟩))))
/-- A superblock's block. -/
def superBlock (g bl rt sz fi : Int) : List Int := makeB [87, 67, 85, 84] (layF 4 [8, 4, 4, 4, 4]) [g, bl, rt, sz, fi]
theorem superBytes_ok {h : Heap} {g bl rt sz fi : Int} : RunF prog 32 [.agg ⟨sc g bl rt sz fi⟩] h fun v h' => Fr no h h' ∧ ((superOk g bl rt sz fi = true ∧ ∃ b, h.next ≤ b ∧ v = .tuple #[.slice (some ⟨b, 0, none⟩) 64 (exc 64), .int .i64 0] ∧ Ow h' b (us (superBlock g bl rt sz fi))) ∨ (superOk g bl rt sz fi = false ∧ v = .tuple #[.slice none 0 0, .int .i64 1])) := by
  refine RunF.walk func32 rfl rfl ?_
  refine RunC.seq (RunC.region (RunO.all (h1 := h.push ⟨sc g bl rt sz fi, true⟩) rfl ?_))
  have ow : Ow (h.push ⟨sc g bl rt sz fi, true⟩) h.next (sc g bl rt sz fi) := Ow.push _ _
  have f1 : Fr no h (h.push ⟨sc g bl rt sz fi, true⟩) := Fr.push _ _ _
  generalize h.push ⟨sc g bl rt sz fi, true⟩ = h1 at *
  refine RunC.seq (RunC.region ?_)
  refine RunO.load (v := .agg ⟨sc g bl rt sz fi⟩) rfl (ow.all.part (k := 0) rfl) rfl ?_
  refine RunO.callD superCheck_ok rfl rfl rfl ?_
  rintro v h2 ⟨rfl, hf2⟩
  have f2 := f1.same hf2
  have ow2 := ow.fr hf2 (fun g => g)
  refine RunO.all rfl ?_
  cases hok : superOk g bl rt sz fi with
  | false =>
    refine RunC.seq (RunC.seq (RunC.region (RunO.all rfl (RunC.cond rfl (fun _ => ?_) (fun g => by cases g)))))
    exact RunC.seq (RunC.region (RunO.all rfl (RunC.ret ⟨_, rfl, f2, .inr ⟨rfl, rfl⟩⟩)))
  | true =>
    refine RunC.seq (RunC.seq (RunC.region (RunO.all rfl (RunC.cond rfl (fun g => by cases g) (fun _ => RunC.skip ?_)))))
    refine RunC.seq (RunC.draw (l0 := min h2.low h2.next) (Nat.min_le_left _ _) rfl ?_)
    refine RunD.callD superLay_ok rfl rfl rfl ?_
    rintro v h3 ⟨hr, hf3⟩
    have hl3 : min h2.low h2.next ≤ h3.low := hf3.from (Nat.min_le_right _ _) (fun _ g => g.elim)
    refine ⟨hl3, ?_⟩
    have ow3 : Ow h3 h.next (sc g bl rt sz fi) := Ow.fr (h := h2.lo h2.next) ow2 hf3 (fun g => g)
    have hn3 : min h2.low h2.next ≤ h3.next := Nat.le_trans (Nat.min_le_right _ _) hf3.next
    obtain ⟨bf, hbf, rfl, owf⟩ := rowOut hr (by decide)
    have hq := hf3.quietB
    rw [hq]
    refine RunD.pure hn3 rfl rfl (fun _ => rfl) rfl ?_
    refine RunD.load (v := .int .i64 g) hn3 rfl (ow3.all.cell1 (k := 0) rfl rfl) rfl ?_
    refine RunD.pure hn3 rfl rfl (fun _ => rfl) rfl ?_
    refine RunD.load (v := .int .i64 bl) hn3 rfl (ow3.all.cell1 (k := 1) rfl rfl) rfl ?_
    refine RunD.pure hn3 rfl rfl (fun _ => rfl) rfl ?_
    refine RunD.load (v := .int .i64 rt) hn3 rfl (ow3.all.cell1 (k := 2) rfl rfl) rfl ?_
    refine RunD.pure hn3 rfl rfl (fun _ => rfl) rfl ?_
    refine RunD.load (v := .int .i64 sz) hn3 rfl (ow3.all.cell1 (k := 3) rfl rfl) rfl ?_
    refine RunD.pure hn3 rfl rfl (fun _ => rfl) rfl ?_
    refine RunD.load (v := .int .i64 fi) hn3 rfl (ow3.all.cell1 (k := 4) rfl rfl) rfl ?_
    refine RunD.one (h1 := (h3.lo h3.next).push ⟨is [g, bl, rt, sz, fi], true⟩) rfl rfl (fun _ => rfl) hn3 rfl ?_
    have ow4 := Ow.push (h3.lo h3.next) (is [g, bl, rt, sz, fi])
    have f4 : Fr no h3 ((h3.lo h3.next).push ⟨is [g, bl, rt, sz, fi], true⟩) := ⟨Nat.le_succ _, (Fr.push no (h3.lo h3.next) _).get, fun l a b c => b⟩
    have owf4 := owf.fr f4 (fun g => g)
    generalize (h3.lo h3.next).push ⟨is [g, bl, rt, sz, fi], true⟩ = h4 at *
    refine RunD.callD (superMake_ok (h := h4.lo h4.next) (mb := [87, 67, 85, 84]) (fl := layF 4 [8, 4, 4, 4, 4]) (nums := [g, bl, rt, sz, fi]) rfl rfl owf4.all ow4.all rfl (by decide) (by decide)) rfl rfl rfl ?_
    rintro v h5 ⟨b, hb, rfl, ow5, hf5⟩
    have hn4 : min h2.low h2.next ≤ h4.next := Nat.le_trans hn3 f4.next
    refine ⟨hf5.from hn4 (fun _ g => g.elim), ?_⟩
    rw [hf5.quietB]
    have hn5 : min h2.low h2.next ≤ h5.next := Nat.le_trans hn4 hf5.next
    refine RunD.pure hn5 rfl rfl (fun _ => rfl) rfl ?_
    refine RunD.pure hn5 rfl rfl (fun _ => rfl) rfl ?_
    refine RunD.nil ⟨rfl, fun lw hlw => ?_⟩
    refine RunC.ret ⟨_, rfl, ?_, .inl ⟨rfl, b, ?_, rfl, ow5⟩⟩
    · exact ((f2.fg0.same hf3.fg).same (f4.fg0.same hf5.fg)).close (fun l h1 h2 h3 => Nat.le_trans (Nat.le_min.2 ⟨f2.low l h1 h2 h3, Nat.le_trans h2 f2.next⟩) hlw)
    · exact Nat.le_trans (Nat.le_trans f2.next (Nat.le_trans hf3.next f4.next)) hb
end Go.Proofs.Ytaaemamcdhebhaa
