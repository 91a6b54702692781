import Derived.Test.YtaaemamcdhebhaaPREx0
import Derived.Test.YtaaemamcdhebhaaPRExF19
import Derived.Test.YtaaemamcdhebhaaPRExF72
import Derived.Test.YtaaemamcdhebhaaPRExF83
import Derived.Test.YtaaemamcdhebhaaRec
import Derived.Test.YtaaemamcdhebhaaBlk2
import Derived.Test.YtaaemamcdhebhaaDreRec
import Derived.Test.YtaaemamcdhebhaaDreRecRef
namespace Go.Proofs.Ytaaemamcdhebhaa.PRE
open Go.RowKit Go.Proofs.YtaaemamcdhebhaaW.PrintWords Go.Proofs.YtaaemamcdhebhaaW.PrintLast Go.Proofs.YtaaemamcdhebhaaW.PrintMore
set_option linter.unusedVariables false
set_option linter.unusedSimpArgs false
/-- Nine numbers told one by one. -/
theorem numsR_at (b : List Int) : Blk.numsB Rec.sizR (b.drop 4) = [Blk.leN ((b.drop 4).take 4), Blk.leN ((b.drop 8).take 8), Blk.leN ((b.drop 16).take 8), Blk.leN ((b.drop 24).take 4), Blk.leN ((b.drop 28).take 4), Blk.leN ((b.drop 32).take 4), Blk.leN ((b.drop 36).take 4), Blk.leN ((b.drop 40).take 4)] := by
  simp only [Rec.sizR, Blk.numsB, List.drop_drop]
theorem get4Ev (l : List Int) (p : Nat) (hb : ∀ x ∈ l, 0 ≤ x ∧ x < 256) (hl : l.length = 64) (hp : p + 4 ≤ 64) : Ev (fun k => woodcutref01_Get4.f k l (p : Int)) (Blk.leN ((l.drop p).take 4)) :=
  evAll (fun k => woodcutref01_Get4.mono _ _ k) (woodcutref01_Get4_ok l p hb (by omega) (by omega))
theorem get8Ev (l : List Int) (p : Nat) (hb : ∀ x ∈ l, 0 ≤ x ∧ x < 256) (hl : l.length = 64) (hp : p + 8 ≤ 64) : Ev (fun k => woodcutref01_Get8.f k l (p : Int)) (numE ((l.drop p).take 8)) :=
  evAll (fun k => woodcutref01_Get8.mono _ _ k) (woodcutref01_Get8_ok l p hb (by omega) (by omega))
theorem leN4_max (l : List Int) (p : Nat) (hb : ∀ x ∈ l, 0 ≤ x ∧ x < 256) (hl : l.length = 64) (hp : p + 4 ≤ 64) : Blk.leN ((l.drop p).take 4) ≤ Blk.maxId := by
  have h := leN_lt (l := (l.drop p).take 4) (fun x hx => hb x (List.mem_of_mem_drop (List.mem_of_mem_take hx))) (by rw [List.length_take, List.length_drop, hl]; omega)
  have h2 := h.2
  unfold Blk.maxId
  omega
theorem openLen {m b : List Int} (h : openE m b = 0) : b.length = 64 := by
  unfold openE at h
  by_cases c : b.length = 64
  · exact c
  · rw [if_pos c] at h; cases h
/-- What the page says that a block is, is what the code says. -/
theorem refParseRecord_ok (b : List Int) (hb : Blk.bytesOk b = true) : Ev (fun k => woodcutref01_ParseRecord.f k b) (Rec.tup8 (Rec.parseR b).2 (Rec.parseR b).1) := by
  have hb' := Blk.bytesOk_iff.1 hb
  unfold woodcutref01_ParseRecord.f
  rw [woodcutref01_open_ok b _ hb']
  simp only [Option.bind_some, show bytesOf (⟨#[83, 78, 65, 80]⟩ : ByteArray) = Rec.magR from rfl]
  unfold Rec.parseR
  rw [readB_open]
  by_cases h0 : openE Rec.magR b = 0
  case neg =>
    rw [if_neg h0, Rec.parseG_ne h0]
    simp only [if_neg h0]
    exact Ev.now _
  have hl := openLen h0
  rw [if_pos h0]
  simp only [if_pos h0]
  refine Ev.bind (get8Ev b 8 hb' hl (by omega)) ?_
  refine Ev.bind (get8Ev b 16 hb' hl (by omega)) ?_
  refine Ev.bind (get4Ev b 4 hb' hl (by omega)) ?_
  refine Ev.bind (get4Ev b 24 hb' hl (by omega)) ?_
  refine Ev.bind (get4Ev b 28 hb' hl (by omega)) ?_
  refine Ev.bind (get4Ev b 32 hb' hl (by omega)) ?_
  refine Ev.bind (get4Ev b 36 hb' hl (by omega)) ?_
  refine Ev.bind (get4Ev b 40 hb' hl (by omega)) ?_
  have m1 := leN4_max b 4 hb' hl (by omega)
  have m2 := leN4_max b 24 hb' hl (by omega)
  have m3 := leN4_max b 28 hb' hl (by omega)
  have m4 := leN4_max b 32 hb' hl (by omega)
  have m5 := leN4_max b 36 hb' hl (by omega)
  have m6 := leN4_max b 40 hb' hl (by omega)
  rw [numsR_at]
  generalize Blk.leN ((b.drop 4).take 4) = n0 at *
  generalize Blk.leN ((b.drop 24).take 4) = n3 at *
  generalize Blk.leN ((b.drop 28).take 4) = n4 at *
  generalize Blk.leN ((b.drop 32).take 4) = n5 at *
  generalize Blk.leN ((b.drop 36).take 4) = n6 at *
  generalize Blk.leN ((b.drop 40).take 4) = n7 at *
  unfold numE
  generalize Blk.leN ((b.drop 8).take 8) = n1 at *
  generalize Blk.leN ((b.drop 16).take 8) = n2 at *
  simp only [numAll_cons, decide_eq_true m1, decide_eq_true m2, decide_eq_true m3, decide_eq_true m4, decide_eq_true m5, decide_eq_true m6, Bool.true_and, show numAll [] = true from rfl, Bool.and_true]
  have bad : Rec.tup8 (Rec.parseG Rec.okR Rec.zR (1, [])).2 (Rec.parseG Rec.okR Rec.zR (1, [])).1 = (0, 0, 0, 0, 0, 0, 0, 0, 1) := rfl
  by_cases c1 : n1 ≤ Blk.maxId
  case neg =>
    rw [if_neg c1, decide_eq_false c1]
    simp only [Bool.false_and, Bool.false_eq_true, if_false, bad]
    exact Ev.now _
  rw [if_pos c1, decide_eq_true c1]
  by_cases c2 : n2 ≤ Blk.maxId
  case neg =>
    rw [if_neg c2, decide_eq_false c2]
    simp only [Bool.false_and, Bool.and_false, Bool.false_eq_true, if_false, bad, if_true]
    exact Ev.now _
  rw [if_pos c2, decide_eq_true c2]
  simp only [if_true, Bool.true_and]
  refine Ev.bind (refRecord_ok n0 n1 n2 n3 n4 n5 n6 n7) ?_
  have hz := evAll (fun k => woodcutref01_Zeros.mono b 44 60 k) (woodcutref01_Zeros_ok b 44 60 (by omega))
  have hss : 4 + Rec.sizR.sum = 44 := rfl
  rw [hss]
  rcases Bool.eq_false_or_eq_true (Rec.okR [n0, n1, n2, n3, n4, n5, n6, n7]) with c3 | c3
  · rw [c3]
    simp only [if_true]
    refine Ev.bind hz ?_
    rcases Bool.eq_false_or_eq_true (Blk.zerosB b 44 60) with c4 | c4
    · rw [c4]
      simp only [if_true, Rec.parseG_ok c3]
      exact Ev.now _
    · rw [c4]
      simp only [Bool.false_eq_true, if_false, bad]
      exact Ev.now _
  · rw [c3]
    simp only [Bool.false_eq_true, if_false]
    rcases Bool.eq_false_or_eq_true (Blk.zerosB b 44 60) with c4 | c4
    · rw [c4]
      simp only [if_true, Rec.parseG_bad c3]
      exact Ev.now _
    · rw [c4]
      simp only [Bool.false_eq_true, if_false, bad]
      exact Ev.now _

end Go.Proofs.Ytaaemamcdhebhaa.PRE
