/- BuildHas: a calculus over an abstract machine that stands beside the model, and contracts of functions by it (part 5).
Conditions: what each theorem says of its arguments. -/
import Derived.Test.YtdcggjkcbheolaaGBuildHas4
section
set_option linter.unusedVariables false
set_option maxRecDepth 100000
open Go Go.Am Go.RowKit
namespace Go.Proofs.Ytdcggjkcbheolaa
open Go.Proofs.Try
theorem strOf_ok {h : Heap} {v : Value} {l : List Int} (sl : Sl h v 1 l.length (us l)) : abytes prog h 23 9 v = some (.string (mkStr l)) := by
  obtain ⟨h1, h2, ⟨rfl, h0⟩ | ⟨b, o, c, rfl, hc, rd⟩⟩ := sl
  · obtain rfl : l = [] := List.eq_nil_of_length_eq_zero h0
    rfl
  · have hrd : aread h ⟨b, o, none⟩ l.length = some (us l) := by
      have := rd.read0 (m := l.length) (by rw [us_len]; exact Nat.le_refl _)
      rw [this, List.take_of_length_le (by rw [us_len]; exact Nat.le_refl _)]
    show (match aread h ⟨b, o, none⟩ l.length with | some l => (match bytesOf l with | some ns => some (Value.string (mkStr ns)) | none => none) | none => none) = _
    rw [hrd]
    simp only [bytesOf_us]
/-- Why bytes are no block of a name. -/
def openE (mb l : List Int) : Int := if l.length ≠ 64 then 2 else if l.take 4 ≠ mb then 4 else if goodB l = false then 5 else 0
theorem refOpen_ok {h : Heap} {v : Value} {mg : ByteArray} {l mb : List Int} (hmg : strCells mg = us mb) (sl : Sl h v 1 l.length (us l)) (hb : Byt l) :
    RunF prog 76 [v, .string mg] h fun r h' => r = .int .i64 (openE mb l) ∧ h = h' := by
  refine RunF.walk func76 rfl rfl ?_
  have sl0 := sl
  obtain ⟨A, c, rfl, hc, _⟩ := sl.form
  refine RunC.seq (RunC.region (RunO.all rfl ?_))
  refine RunC.seq (RunC.block ?_)
  refine RunC.seq (RunC.region (RunO.all rfl ?_))
  by_cases hl : l.length = 64
  case neg =>
    rw [show ((l.length : Int) != 64) = true by simpa using (by omega : ¬ ((l.length : Int) = 64)), show openE mb l = 2 from if_pos hl]
    refine RunC.cond rfl (fun _ => ?_) (fun g => by cases g)
    exact RunC.seq (RunC.region (RunO.all rfl (RunC.ret ⟨_, rfl, rfl, rfl⟩)))
  rw [show ((l.length : Int) != 64) = false by simpa using (by omega : ((l.length : Int) = 64))]
  refine RunC.cond rfl (fun g => by cases g) (fun _ => ?_)
  refine RunC.seq (RunC.region (RunO.part 1 rfl ?_))
  obtain ⟨v', h1, h2⟩ := sl_front (m := 4) sl (by omega) (by omega) .i64
  refine RunO.one (v := v') (h1 := h) rfl (by show pureR h _ = _; exact congrArg (pureR h) h1) rfl ?_
  have hcv : aconvert prog 23 9 v' = none := by
    obtain ⟨A', c', rfl, _, _⟩ := h2.form
    rfl
  refine RunO.one rfl (v := .string (mkStr (l.take 4))) (h1 := h) ?_ rfl ?_
  · show (match aconvert prog 23 9 v' with | some v => some (v, h) | none => pureR h (abytes prog h 23 9 v')) = _
    rw [hcv, strOf_ok h2]; rfl
  refine RunO.part 1 rfl ?_
  refine RunO.bin (v := .bool (!(decide (l.take 4 = mb)))) rfl rfl ?_ rfl ?_
  · show some (Value.bool (!((mkStr (l.take 4)).data.toList == mg.data.toList))) = _
    rw [str_eq hmg (fun x hx => hb x (List.mem_of_mem_take hx))]
  refine RunO.all rfl ?_
  by_cases hm : l.take 4 = mb
  case neg =>
    rw [decide_eq_false hm, show openE mb l = 4 by unfold openE; rw [if_neg (by omega), if_pos hm]]
    refine RunC.cond rfl (fun _ => ?_) (fun g => by cases g)
    exact RunC.seq (RunC.region (RunO.all rfl (RunC.ret ⟨_, rfl, rfl, rfl⟩)))
  rw [decide_eq_true hm]
  refine RunC.cond rfl (fun g => by cases g) (fun _ => ?_)
  refine RunC.seq (RunC.region (RunO.part 1 rfl ?_))
  refine RunO.callD (refGood_ok sl0 hb (by omega) (by omega)) rfl rfl rfl ?_
  rintro _ _ ⟨rfl, rfl⟩
  refine RunO.all rfl ?_
  cases hg : goodB l with
  | false =>
    rw [show openE mb l = 5 by unfold openE; rw [if_neg (by omega), if_neg (by simpa using hm), if_pos hg]]
    refine RunC.cond rfl (fun _ => ?_) (fun g => by cases g)
    exact RunC.seq (RunC.region (RunO.all rfl (RunC.ret ⟨_, rfl, rfl, rfl⟩)))
  | true =>
    rw [show openE mb l = 0 by unfold openE; rw [if_neg (by omega), if_neg (by simpa using hm), if_neg (by simp [hg])]]
    refine RunC.cond rfl (fun g => by cases g) (fun _ => RunC.skip ?_)
    exact RunC.seq (RunC.region (RunO.all rfl (RunC.ret ⟨_, rfl, rfl, rfl⟩)))
theorem readB_open (mb : List Int) (fl : List (Nat × Nat)) (l : List Int) : readB mb fl l = if openE mb l ≠ 0 then openE mb l else if fl.all (okF l) = false then 1 else if zerosN l (endF fl) 60 = false then 1 else 0 := by
  unfold readB openE
  by_cases h1 : l.length ≠ 64
  · rw [if_pos h1, if_pos h1]; rfl
  · rw [if_neg h1, if_neg h1]
    by_cases h2 : l.take 4 ≠ mb
    · rw [if_pos h2, if_pos h2]; rfl
    · rw [if_neg h2, if_neg h2]
      by_cases h3 : goodB l = false
      · rw [if_pos h3, if_pos h3]; rfl
      · rw [if_neg h3, if_neg h3]; rfl
theorem ok4 {l : List Int} (hb : Byt l) (k : Nat) : (leGet l k 4).2 = 0 := by
  unfold leGet
  have h1 := (leN_bound (hb.part k 4)).2
  have h2 : (256 : Int) ^ ((l.drop k).take 4).length ≤ 256 ^ 4 := by
    have : ((l.drop k).take 4).length ≤ 4 := by rw [List.length_take]; omega
    exact_mod_cast Nat.pow_le_pow_right (by decide : 0 < 256) this
  have h3 : (256 : Int) ^ 4 = 4294967296 := by decide
  rw [if_neg (by omega)]
end Go.Proofs.Ytdcggjkcbheolaa
end
section
set_option linter.unusedVariables false
set_option maxRecDepth 100000
open Go Go.Am Go.RowKit
namespace Go.Proofs.Ytdcggjkcbheolaa
open Go.Proofs.Try
theorem link_ptr (p : Int) : (p == 0 || inB p 2 (fwrap .i64 (4096 - 1))) = ptrB p := by
  have e : fwrap .i64 (4096 - 1) = 4095 := rfl
  rw [e]
  unfold ptrB inB
  have : decide (p ≤ 4095) = decide (p < 4096) := by
    by_cases c : p < 4096
    · rw [decide_eq_true c, decide_eq_true (by omega)]
    · rw [decide_eq_false c, decide_eq_false (by omega)]
  rw [this]
set_option maxHeartbeats 1000000 in
theorem refNode_ok {h : Heap} {lv : Int} {ps : List Int} (hp : ps.length = 8) : RunF prog 78 [.agg ⟨nc lv ps⟩] h fun v h' => v = .bool (nodOk lv ps) ∧ Fr no h h' := by
  refine RunF.walk func78 rfl rfl ?_
  refine RunC.seq (RunC.region (RunO.all (h1 := h.push ⟨nc lv ps, true⟩) rfl ?_))
  have ow : Ow (h.push ⟨nc lv ps, true⟩) h.next (nc lv ps) := Ow.push _ _
  have f1 : Fr no h (h.push ⟨nc lv ps, true⟩) := Fr.push _ _ _
  generalize h.push ⟨nc lv ps, true⟩ = h1 at *
  generalize h.next = p at *
  have hok : nodOk lv ps = (inB lv 0 2 && (ps.all ptrB && anyP ps)) := by
    unfold nodOk inB
    have e1 : (!decide (lv < 0)) = decide (lv ≥ 0) := by
      by_cases c : lv < 0
      · rw [decide_eq_true c, decide_eq_false (by omega)]; rfl
      · rw [decide_eq_false c, decide_eq_true (by omega)]; rfl
    have e2 : (!decide (lv > 2)) = decide (lv ≤ 2) := by
      by_cases c : lv > 2
      · rw [decide_eq_true c, decide_eq_false (by omega)]; rfl
      · rw [decide_eq_false c, decide_eq_true (by omega)]; rfl
    rw [e1, e2]
    cases decide (lv ≥ 0) <;> cases decide (lv ≤ 2) <;> cases ps.all ptrB <;> cases anyP ps <;> rfl
  rw [hok]
  refine RunC.seq (RunC.seq (RunC.region ?_))
  (repeat (first | refine RunO.step rfl ?_ | refine RunO.loadG rfl rfl (Ow.ld (by assumption) (by rfl)) rfl ?_ | refine RunO.nil ?_))
  refine RunO.callD refIn_ok rfl rfl rfl ?_
  rintro _ _ ⟨rfl, rfl⟩
  refine RunO.all rfl ?_
  cases inB lv 0 2 with
  | false =>
    refine RunC.cond rfl (fun _ => ?_) (fun g => by cases g)
    exact RunC.seq (RunC.region (RunO.all rfl (RunC.ret ⟨_, rfl, rfl, f1⟩)))
  | true =>
  refine RunC.cond rfl (fun g => by cases g) (fun _ => RunC.skip ?_)
  refine RunC.seq (RunC.region (RunO.all rfl ?_))
  refine RunC.seq (RunC.seq (RunC.region (RunO.all rfl ?_)))
  refine RunC.block ?_
  let I : Nat → Env → Heap → Prop := fun d E h' => ∃ i : Nat, i + d = 8 ∧ (ps.take i).all ptrB = true ∧ h1 = h' ∧ Le (upd (upd (upd E0 1 (.pointer (some ⟨p, 0, none⟩))) 3 (.bool (anyP (ps.take i)))) 4 (.int .i64 (i : Int))) E
  refine RunC.loop I ?_ (k := 8) ?_
  · rintro d E h' ⟨i, hi, hall, rfl, hE⟩
    refine RunC.le hE ?_
    clear hE
    refine RunC.seq (RunC.seq (RunC.region (RunO.all rfl ?_)))
    refine RunC.cond rfl (fun hlt => ?_) (fun hge => ?_)
    · have hlt := of_decide_eq_true hlt
      have hi8 : i < 8 := by omega
      have hi2 : i < ps.length := by omega
      have hat : anyP (ps.take (i + 1)) = (anyP (ps.take i) || ps[i] != 0) := by
        unfold anyP; rw [List.take_succ_eq_append_getElem hi2, List.any_append]; simp
      have hal : (ps.take (i + 1)).all ptrB = ptrB ps[i] := by
        rw [List.take_succ_eq_append_getElem hi2, List.all_append, hall]; simp
      have hmem := List.getElem_mem hi2
      have hld : apart prog 3 (nc lv ps) (1 + i * 1) = some (.int .i64 ps[i]) := by
        show nth (nc lv ps) (1 + i * 1) = _
        rw [Nat.mul_one, Nat.add_comm]; exact is_nth hi2
      generalize ps[i] = x at *
      refine RunC.skip ?_
      refine RunC.seq (RunC.block ?_)
      refine RunC.seq (RunC.seq (RunC.region (RunO.part 2 rfl ?_)))
      refine RunO.indexA (s := 1) rfl rfl rfl rfl rfl hi8 rfl ?_
      refine RunO.load (v := .int .i64 x) rfl (ow.ld hld) rfl ?_
      refine RunO.callD refLink_ok rfl rfl rfl ?_
      rintro _ _ ⟨rfl, rfl⟩
      rw [link_ptr]
      refine RunO.all rfl ?_
      cases hx : ptrB x with
      | false =>
        have : ps.all ptrB = false := List.all_eq_false.2 ⟨x, hmem, by rw [hx]; exact Bool.false_ne_true⟩
        rw [this]
        refine RunC.cond rfl (fun _ => ?_) (fun g => by cases g)
        exact RunC.seq (RunC.region (RunO.all rfl (RunC.ret ⟨_, rfl, rfl, f1⟩)))
      | true =>
        refine RunC.cond rfl (fun g => by cases g) (fun _ => RunC.skip ?_)
        rw [hx] at hal
        refine RunC.region (RunO.part 2 rfl ?_)
        have fin : ∀ E, Le (upd (upd (upd E0 1 (.pointer (some ⟨p, 0, none⟩))) 3 (.bool (anyP (ps.take (i + 1))))) 4 (.int .i64 ((i + 1 : Nat) : Int))) E → ∃ d', d' < d ∧ I d' E h1 := fun E hE => ⟨d - 1, by omega, i + 1, by omega, hal, rfl, hE⟩
        rw [hat] at fin
        generalize anyP (ps.take i) = an at fin ⊢
        cases an with
        | true =>
          refine RunO.all rfl ?_
          exact RunC.region (RunO.all rfl (fin _ (Le.cons (inc64 (by omega)) (Le.cons rfl (Le.cons rfl (Le.nil _))))))
        | false =>
          refine RunO.part 2 rfl ?_
          refine RunO.oneG (v := .pointer (some ⟨p, 0 + 1 + i * 1, none⟩)) (h1 := h1) rfl ?_ rfl ?_
          · show pureR h1 (cond (Nat.ble (Nat.succ i) 8) (some (Value.pointer (some ⟨p, 0 + 1 + Nat.mul i 1, none⟩))) none) = _
            rw [Nat.ble_eq_true_of_le (by omega)]; rfl
          refine RunO.loadG (v := .int .i64 x) rfl rfl (by rw [Nat.zero_add]; exact ow.ld hld) rfl ?_
          refine RunO.all rfl ?_
          exact RunC.region (RunO.all rfl (fin _ (Le.cons (inc64 (by omega)) (Le.cons rfl (Le.cons rfl (Le.nil _))))))
    · have hge := of_decide_eq_false hge
      obtain rfl : i = 8 := by omega
      rw [← hp, List.take_length] at hall
      rw [hall]
      refine RunC.exit ?_
      refine RunC.seq (RunC.region (RunO.all rfl (RunC.ret ⟨_, rfl, ?_, f1⟩)))
      rw [← hp, List.take_length]; rfl
  · exact ⟨0, by omega, rfl, rfl, Le.cons rfl (Le.cons rfl (Le.cons rfl (Le.nil _)))⟩
theorem nLay_end : endF nLay = 40 := rfl
/-- Why bytes are no node, as the page says it. -/
theorem nCode_open {l : List Int} (hb : Byt l) : nCode l = if openE nMag l ≠ 0 then openE nMag l else if (nodOk (nLv l) (nPs l) && zerosN l 40 60) = true then 0 else 1 := by
  unfold nCode
  rw [readB_open, nLay_end]
  by_cases he : openE nMag l ≠ 0
  · rw [if_pos he, if_pos he, if_neg he]
  · rw [if_neg he, if_neg he]
    have hall : nLay.all (okF l) = true := by
      show (((leGet l 4 4).2 == 0) && (((leGet l 8 4).2 == 0) && (((leGet l 12 4).2 == 0) && (((leGet l 16 4).2 == 0) && (((leGet l 20 4).2 == 0) && (((leGet l 24 4).2 == 0) && (((leGet l 28 4).2 == 0) && (((leGet l 32 4).2 == 0) && (((leGet l 36 4).2 == 0) && true))))))))) = true
      rw [ok4 hb, ok4 hb, ok4 hb, ok4 hb, ok4 hb, ok4 hb, ok4 hb, ok4 hb, ok4 hb]; rfl
    rw [hall]
    cases zerosN l 40 60 <;> cases nodOk (nLv l) (nPs l) <;> rfl
end Go.Proofs.Ytdcggjkcbheolaa
end
section
set_option linter.unusedVariables false
set_option maxRecDepth 100000
open Go Go.Am Go.RowKit
namespace Go.Proofs.Ytdcggjkcbheolaa
open Go.Proofs.Try
theorem refBlocks_ok {h : Heap} {v : Value} {L : List Int} (sl : Sl h v 1 L.length (us L)) (hm : L.length ≤ 4611686018427387904) : RunF prog 21 [v] h fun r h' => r = .tuple #[.int .i64 ((L.length / 64 : Nat) : Int), .bool (devOk L.length)] ∧ h = h' := by
  refine RunF.walk func21 rfl rfl ?_
  obtain ⟨A, c, rfl, hc, _⟩ := sl.form
  have e1 : (L.length : Int).tdiv 64 = ((L.length / 64 : Nat) : Int) := by rw [Int.tdiv_eq_ediv_of_nonneg (by omega)]; omega
  have e2 : (L.length : Int).tmod 64 = ((L.length % 64 : Nat) : Int) := by rw [Int.tmod_eq_emod_of_nonneg (by omega)]; omega
  refine RunC.seq (RunC.region (RunO.all rfl ?_))
  refine RunC.seq (RunC.region (RunO.part 2 rfl ?_))
  refine RunO.part 1 rfl ?_
  rw [e1, fw64 (by omega) (by omega)]
  refine RunO.all rfl ?_
  refine RunC.seq (RunC.region (RunO.part 4 rfl ?_))
  rw [e2]
  refine RunO.part 2 rfl ?_
  have hd : devOk L.length = ((((L.length % 64 : Nat) : Int) == 0) && inB ((L.length / 64 : Nat) : Int) 4 4096) := by
    unfold devOk inB
    rw [Bool.eq_iff_iff]
    simp only [Bool.and_eq_true, beq_iff_eq, decide_eq_true_eq]
    omega
  rw [hd]
  cases (((L.length % 64 : Nat) : Int) == 0) with
  | false => exact RunO.all rfl (RunC.ret ⟨_, rfl, rfl, rfl⟩)
  | true =>
    refine RunO.part 1 rfl ?_
    refine RunO.callDG rfl refIn_ok rfl rfl rfl ?_
    rintro _ _ ⟨rfl, rfl⟩
    exact RunO.all rfl (RunC.ret ⟨_, rfl, rfl, rfl⟩)
theorem refBlock_ok {h : Heap} {v : Value} {L : List Int} {i : Nat} (sl : Sl h v 1 L.length (us L)) (hi : (i + 1) * 64 ≤ L.length) (hm : L.length ≤ 4611686018427387904) :
    RunF prog 53 [v, .int .i64 (i : Int)] h fun r h' => Sl h r 1 64 (us (blkI L i)) ∧ h = h' := by
  refine RunF.walk func53 rfl rfl ?_
  refine RunC.seq (RunC.region (RunO.all rfl ?_))
  refine RunC.seq (RunC.region (RunO.part 6 rfl ?_))
  rw [fw64 (x := (i : Int) * 64) (by omega) (by omega), fw64 (x := (i : Int) * 64 + 64) (by omega) (by omega), show (i : Int) * 64 = ((i * 64 : Nat) : Int) by omega, show ((i * 64 : Nat) : Int) + 64 = ((i * 64 + 64 : Nat) : Int) by omega]
  obtain ⟨v', h1, h2⟩ := sl_part sl (k := i * 64) (m := i * 64 + 64) (by omega) (by omega) .i64 .i64
  rw [show i * 64 + 64 - i * 64 = 64 by omega] at h2
  have hl : ((L.drop (i * 64)).take 64).length = 64 := blkI_len hi
  rw [hl] at h2
  refine RunO.one (v := v') (h1 := h) rfl (by show pureR h _ = _; exact congrArg (pureR h) h1) rfl ?_
  exact RunO.all rfl (RunC.ret ⟨_, rfl, h2, rfl⟩)
/-- A device alone: is it more than is played? -/
theorem heavy_ok {h : Heap} {v : Value} {L : List Int} (sl : Sl h v 1 L.length (us L)) : RunF prog 15 [v, .slice none 0 0] h fun r h' => r = .bool (decide ((L.length : Int) > 19200)) ∧ h = h' := by
  refine RunF.walk func15 rfl rfl ?_
  obtain ⟨A, c, rfl, hc, _⟩ := sl.form
  refine RunC.seq (RunC.region (RunO.all rfl ?_))
  refine RunC.seq (RunC.seq (RunC.region (RunO.part 4 rfl ?_)))
  cases decide ((L.length : Int) > 19200) with
  | true =>
    refine RunO.all rfl (RunC.cond rfl (fun _ => ?_) (fun g => by cases g))
    exact RunC.seq (RunC.region (RunO.all rfl (RunC.ret ⟨_, rfl, rfl, rfl⟩)))
  | false =>
    refine RunO.all rfl (RunC.cond rfl (fun g => by cases g) (fun _ => RunC.skip ?_))
    refine RunC.seq (RunC.seq (RunC.region (RunO.all rfl ?_)))
    refine RunC.block ?_
    let I : Nat → Env → Heap → Prop := fun d E h' => h = h' ∧ Le (upd (upd E0 1 (.slice none 0 0)) 5 (.int .i64 0)) E
    refine RunC.loop I ?_ (k := 0) ?_
    · rintro d E h' ⟨rfl, hE⟩
      refine RunC.le hE ?_
      clear hE
      refine RunC.seq (RunC.seq (RunC.region (RunO.all rfl ?_)))
      refine RunC.cond rfl (fun g => by cases g) (fun _ => RunC.exit ?_)
      exact RunC.seq (RunC.region (RunO.all rfl (RunC.ret ⟨_, rfl, rfl, rfl⟩)))
    · exact ⟨rfl, Le.cons rfl (Le.cons rfl (Le.nil _))⟩
end Go.Proofs.Ytdcggjkcbheolaa
end
section
set_option linter.unusedVariables false
set_option maxRecDepth 100000
open Go Go.Am Go.RowKit
namespace Go.Proofs.Ytdcggjkcbheolaa
open Go.Proofs.Try
end Go.Proofs.Ytdcggjkcbheolaa
end
section
set_option linter.unusedVariables false
set_option maxRecDepth 100000
open Go Go.Am Go.RowKit
namespace Go.Proofs.Ytdcggjkcbheolaa
open Go.Proofs.Try
theorem nPs_get (l : List Int) {i : Nat} (hi : i < 8) : (nPs l).getD i 0 = (leGet l (8 + 4 * i) 4).1 := by
  obtain rfl | rfl | rfl | rfl | rfl | rfl | rfl | rfl : i = 0 ∨ i = 1 ∨ i = 2 ∨ i = 3 ∨ i = 4 ∨ i = 5 ∨ i = 6 ∨ i = 7 := by omega
  all_goals rfl
def firstP (ps : List Int) (i : Nat) : List Int := ps.take i ++ List.replicate (8 - i) 0
theorem firstP_len {ps : List Int} (hp : ps.length = 8) {i : Nat} (hi : i ≤ 8) : (firstP ps i).length = 8 := by
  unfold firstP; rw [List.length_append, List.length_take, List.length_replicate]; omega
theorem firstP_set {ps : List Int} (hp : ps.length = 8) {i : Nat} (hi : i < 8) : (firstP ps i).set i (ps.getD i 0) = firstP ps (i + 1) := by
  apply List.ext_getElem?
  intro j
  have hl : i < (firstP ps i).length := by rw [firstP_len hp (by omega)]; exact hi
  rw [List.getElem?_set]
  unfold firstP at hl ⊢
  by_cases e : i = j
  · subst e
    rw [if_pos rfl, if_pos hl, List.getElem?_append_left (by rw [List.length_take]; omega), List.getElem?_take, if_pos (by omega), List.getD_eq_getElem?_getD, List.getElem?_eq_getElem (by omega)]; rfl
  · rw [if_neg e]
    by_cases c : j < i
    · rw [List.getElem?_append_left (by rw [List.length_take]; omega), List.getElem?_append_left (by rw [List.length_take]; omega), List.getElem?_take, List.getElem?_take, if_pos c, if_pos (by omega)]
    · rw [List.getElem?_append_right (by rw [List.length_take]; omega), List.getElem?_append_right (by rw [List.length_take]; omega), List.getElem?_replicate, List.getElem?_replicate, List.length_take, List.length_take]
      by_cases c2 : j < 8
      · rw [if_pos (by omega), if_pos (by omega)]
      · rw [if_neg (by omega), if_neg (by omega)]
theorem nc_cell (lv : Int) (ps : List Int) : (cellsOf (.agg ⟨nc lv ps⟩)).length = ps.length + 1 ∧ allCells (cellsOf (.agg ⟨nc lv ps⟩)) = true := by
  constructor
  · show (nc lv ps).length = _; simp [nc, is_len]
  · show allCells (.int .i64 lv :: is ps) = true; exact allCells_map (f := Value.int .i64) (fun _ => rfl) ps
/-- A whole node stored. -/
theorem nc_store {P : Program} {t : TypeId} {h : Heap} {b : Nat} {lw lv : Int} {qs ps : List Int} (ow : Ow h b (nc lw qs)) (hq : qs.length = 8) (hp : ps.length = 8) (hs : Go.Am.sizeOf P t = some 9) : astore P h t ⟨b, 0, none⟩ (.agg ⟨nc lv ps⟩) = some (h.put b (some ⟨nc lv ps, true⟩)) := by
  have hl : (nc lw qs).length = 9 := by simp [nc, is_len, hq]
  have hl2 : (nc lv ps).length = 9 := by simp [nc, is_len, hp]
  have := store_ow (P := P) (t := t) (v := .agg ⟨nc lv ps⟩) (off := 0) ow hs (by rw [(nc_cell lv ps).1, hp]) (nc_cell lv ps).2 (by omega)
  rw [this]
  congr 4
  show [] ++ nc lv ps ++ (nc lw qs).drop (0 + 9) = _
  rw [List.drop_of_length_le (by omega)]; simp
set_option maxHeartbeats 4000000 in
theorem refParseNode_ok {h : Heap} {v : Value} {l : List Int} (sl : Sl h v 1 l.length (us l)) (hb : Byt l) :
    RunF prog 52 [v] h fun r h' => r = .tuple #[.agg ⟨nc (nodV l).1 (nodV l).2⟩, .int .i64 (nCode l)] ∧ Fr no h h' := by
  refine RunF.walk func52 rfl rfl ?_
  refine RunC.seq (RunC.region (RunO.part 1 (h1 := h.push ⟨nc 0 nZero, true⟩) rfl (RunO.all rfl ?_)))
  have ow : Ow (h.push ⟨nc 0 nZero, true⟩) h.next (nc 0 nZero) := Ow.push _ _
  have f1 : Fr (fun b => h.next ≤ b) h (h.push ⟨nc 0 nZero, true⟩) := Fr.push _ _ _
  have s1 := sl.fr0 (Fr.push no h ⟨nc 0 nZero, true⟩)
  generalize h.push ⟨nc 0 nZero, true⟩ = h1 at *
  have hp : h.next < h1.next := ow.1
  refine RunC.seq (RunC.seq (RunC.region (RunO.part 1 rfl ?_)))
  refine RunO.callD (refOpen_ok (mb := nMag) rfl s1 hb) rfl rfl rfl ?_
  rintro _ _ ⟨rfl, rfl⟩
  refine RunO.all rfl ?_
  refine RunC.seq (RunC.region (RunO.all rfl ?_))
  have hro := nCode_open hb
  have hvd : nodV l = if nCode l = 0 then (nLv l, nPs l) else (0, nZero) := rfl
  rw [hvd]
  by_cases he : openE nMag l ≠ 0
  · rw [if_pos he] at hro
    rw [hro, if_neg he, show (openE nMag l != 0) = true from bne_iff_ne.2 he]
    refine RunC.cond rfl (fun _ => ?_) (fun g => by cases g)
    refine RunC.seq (RunC.region (RunO.part 2 rfl ?_))
    refine RunO.store rfl rfl (nc_store (lv := 0) (ps := nZero) ow rfl rfl rfl) (RunO.all rfl ?_)
    exact RunC.ret ⟨_, eresults_cell rfl (nc_load rfl (Ow.put (nc 0 nZero) ow.1)) rfl, rfl, frNo (f1.same (Fr.put _ (.inl (Nat.le_refl _))))⟩
  have he0 : openE nMag l = 0 := Decidable.not_not.1 he
  have hl : l.length = 64 := by
    unfold openE at he0
    by_cases g : l.length ≠ 64
    · rw [if_pos g] at he0; cases he0
    · exact Decidable.not_not.1 g
  rw [if_neg he] at hro
  rw [he0, hro]
  refine RunC.cond rfl (fun g => by cases g) (fun _ => RunC.skip ?_)
  refine RunC.seq (RunC.region (RunO.part 1 rfl ?_))
  refine RunO.callD (refGet4_ok (k := 4) s1 hb (by omega) (by omega)) rfl rfl rfl ?_
  rintro _ _ ⟨rfl, rfl⟩
  refine RunO.part 2 (h1 := h1.push ⟨nc 0 nZero, true⟩) rfl ?_
  refine RunO.store rfl rfl (nc_store (lv := nLv l) (ps := nZero) (Ow.push h1 (nc 0 nZero)) rfl rfl rfl) (RunO.nil ?_)
  have on : Ow ((h1.push ⟨nc 0 nZero, true⟩).put h1.next (some ⟨nc (nLv l) nZero, true⟩)) h1.next (nc (nLv l) nZero) := Ow.put _ (Nat.lt_succ_self _)
  have f4 : Fr no h1 ((h1.push ⟨nc 0 nZero, true⟩).put h1.next (some ⟨nc (nLv l) nZero, true⟩)) := (Fr.push _ _ _).trans (Fr.put (m := (· = h1.next)) _ (.inl rfl)) (fun j hj => .inr (by omega))
  have hqn : h.next < h1.next := hp
  generalize (h1.push ⟨nc 0 nZero, true⟩).put h1.next (some ⟨nc (nLv l) nZero, true⟩) = h4 at *
  generalize h1.next = q at *
  have ow4 := ow.fr f4 (fun g => g)
  have s4 := s1.fr0 f4
  have f14 := f1.quiet f4
  have hps : (nPs l).length = 8 := rfl
  have hget := fun i hi => nPs_get l (i := i) hi
  generalize nLv l = lv at *
  generalize nPs l = ps at *
  refine RunC.seq (RunC.seq (RunC.region (RunO.all rfl ?_)))
  refine RunC.block ?_
  let I : Nat → Env → Heap → Prop := fun d E h' => ∃ i : Nat, i + d = 8 ∧ Ow h' q (nc lv (firstP ps i)) ∧ Fr (· = q) h4 h' ∧ Le (upd (upd (upd (upd E0 0 v) 2 (.pointer (some ⟨h.next, 0, none⟩))) 5 (.pointer (some ⟨q, 0, none⟩))) 6 (.int .i64 (i : Int))) E
  refine RunC.loop I ?_ (k := 8) ?_
  · rintro d E h5 ⟨i, hi, on5, f5, hE⟩
    refine RunC.le hE ?_
    clear hE
    have s5 : Sl h5 v 1 l.length (us l) := by
      refine ⟨s4.1, s4.2.1, s4.2.2.imp (fun y => y) ?_⟩
      rintro ⟨b, o, c, h1', h2', h3'⟩
      have hbl : b < h.next := by
        rcases sl.2.2 with ⟨e, _⟩ | ⟨b', o', c', e, _, rd⟩
        · rw [h1'] at e; cases e
        · rw [h1'] at e; cases e; exact rd.2.1
      exact ⟨b, o, c, h1', h2', h3'.fr f5 (show ¬ b = q by omega)⟩
    refine RunC.seq (RunC.seq (RunC.region (RunO.all rfl ?_)))
    refine RunC.cond rfl (fun hlt => ?_) (fun hge => ?_)
    · have hlt := of_decide_eq_true hlt
      have hi8 : i < 8 := by omega
      refine RunC.skip ?_
      refine RunC.seq (RunC.block ?_)
      refine RunC.region (RunO.part 4 rfl ?_)
      rw [fw64 (x := 4 * (i : Int)) (by omega) (by omega)]
      refine RunO.part 1 rfl ?_
      rw [fw64 (x := 8 + 4 * (i : Int)) (by omega) (by omega), show 8 + 4 * (i : Int) = ((8 + 4 * i : Nat) : Int) by omega]
      refine RunO.callD (refGet4_ok (k := 8 + 4 * i) s5 hb (by omega) (by omega)) rfl rfl rfl ?_
      rintro _ _ ⟨rfl, rfl⟩
      rw [← hget i hi8]
      refine RunO.part 1 rfl ?_
      refine RunO.indexA (s := 1) rfl rfl rfl rfl rfl hi8 rfl ?_
      have hfl := firstP_len hps (show i ≤ 8 by omega)
      have on6 := Ow.put (h := h5) (b := q) (nc lv (firstP ps (i + 1))) on5.1
      refine RunO.store (h1 := h5.put q (some ⟨nc lv (firstP ps (i + 1)), true⟩)) rfl rfl ?_ (RunO.nil ?_)
      · rw [Nat.mul_one]
        show astore _ _ _ ⟨q, 1 + i, none⟩ _ = _
        rw [Nat.add_comm 1]
        refine (store1_ow on5 rfl rfl rfl (by show _ < (is _).length + 1; rw [is_len, hfl]; omega)).trans ?_
        rw [← firstP_set hps hi8]
        unfold nc
        rw [List.set_cons_succ]
        unfold is
        rw [List.map_set]
      refine RunC.region (RunO.all rfl ?_)
      exact ⟨d - 1, by omega, i + 1, by omega, on6, f5.same (Fr.put _ (.inl rfl)), Le.cons (inc64 (by omega)) (Le.cons rfl (Le.cons rfl (Le.cons rfl (Le.nil _))))⟩
    · have hge := of_decide_eq_false hge
      obtain rfl : i = 8 := by omega
      have hfin : firstP ps 8 = ps := by unfold firstP; rw [← hps, List.take_length, Nat.sub_self]; simp
      rw [hfin] at on5
      have ow5 := ow4.fr f5 (show ¬ h.next = q by omega)
      have f15 : Fr (fun b => h.next ≤ b) h h5 := f14.trans f5 (fun b e => .inl (by omega))
      refine RunC.exit ?_
      refine RunC.seq ?_
      refine RunC.seqc (fun E' h' => Fr no h5 h' ∧ Le (upd (upd (upd (upd E0 0 v) 2 (.pointer (some ⟨h.next, 0, none⟩))) 5 (.pointer (some ⟨q, 0, none⟩))) 35 (.bool (!(nodOk lv ps && zerosN l 40 60)))) E') ?_ ?_
      · refine RunC.region ?_
        refine RunO.load (v := .agg ⟨nc lv ps⟩) rfl (nc_load hps on5) rfl ?_
        refine RunO.callD (refNode_ok hps) rfl rfl rfl ?_
        rintro _ h6 ⟨rfl, f6⟩
        refine RunO.part 2 rfl ?_
        cases nodOk lv ps with
        | false => exact RunO.all rfl ⟨f6, Le.cons rfl (Le.cons rfl (Le.cons rfl (Le.cons rfl (Le.nil _))))⟩
        | true =>
          refine RunO.part 1 rfl ?_
          refine RunO.callDG rfl (refZeros_ok (k := 40) (m := 60) (s5.fr0 f6) (by decide) (by omega) (by omega)) rfl rfl rfl ?_
          rintro _ _ ⟨rfl, rfl⟩
          exact RunO.all rfl ⟨f6, Le.cons rfl (Le.cons rfl (Le.cons rfl (Le.cons rfl (Le.nil _))))⟩
      rintro E' h6 ⟨f6, hE⟩
      refine RunC.le hE ?_
      clear hE
      have ow6 := ow5.fr f6 (fun g => g)
      have on6 := on5.fr f6 (fun g => g)
      have f16 := f15.quiet f6
      cases (nodOk lv ps && zerosN l 40 60) with
      | false =>
        refine RunC.cond rfl (fun _ => ?_) (fun g => by cases g)
        refine RunC.seq (RunC.region (RunO.part 1 rfl ?_))
        refine RunO.store rfl rfl (nc_store (lv := 0) (ps := nZero) ow6 rfl rfl rfl) (RunO.all rfl ?_)
        exact RunC.ret ⟨_, eresults_cell rfl (nc_load rfl (Ow.put (nc 0 nZero) ow6.1)) rfl, rfl, frNo (f16.same (Fr.put _ (.inl (Nat.le_refl _))))⟩
      | true =>
        refine RunC.cond rfl (fun g => by cases g) (fun _ => RunC.skip ?_)
        refine RunC.seq (RunC.region ?_)
        refine RunO.load (v := .agg ⟨nc lv ps⟩) rfl (nc_load hps on6) rfl ?_
        refine RunO.store rfl rfl (nc_store ow6 rfl hps rfl) (RunO.all rfl ?_)
        exact RunC.ret ⟨_, eresults_cell rfl (nc_load hps (Ow.put (nc lv ps) ow6.1)) rfl, rfl, frNo (f16.same (Fr.put _ (.inl (Nat.le_refl _))))⟩
  · exact ⟨0, by omega, on, Fr.refl _ _, Le.cons rfl (Le.cons rfl (Le.cons rfl (Le.cons rfl (Le.nil _))))⟩
end Go.Proofs.Ytdcggjkcbheolaa
end
section
set_option linter.unusedVariables false
set_option maxRecDepth 100000
open Go Go.Am Go.RowKit
namespace Go.Proofs.Ytdcggjkcbheolaa
open Go.Proofs.Try
/-- What a pointer of a level leads to, for a place under it; level 0: a sector's block. -/
def look (L : List Int) (B : Nat) : Nat → Int → Nat → Int
  | 0, p, _ => p
  | k + 1, p, s => if p = 0 then 0 else look L B k ((atV L B p).2.getD (s / 8 ^ k) 0) (s % 8 ^ k)
/-- Along the way to a place each node is one, of its level. -/
def pathOk (L : List Int) (B : Nat) : Nat → Int → Nat → Prop
  | 0, _, _ => True
  | k + 1, p, s => p ≠ 0 → atIs L B p (k : Int) = true ∧ pathOk L B k ((atV L B p).2.getD (s / 8 ^ k) 0) (s % 8 ^ k)
theorem look_zero (L : List Int) (B k s : Nat) : look L B k 0 s = 0 := by cases k <;> rfl
theorem tbody_bad {L : List Int} {B lv : Nat} {r : Int → Nat → TS → TS} {a : Int} {f : Nat} {w : TS} (hr : ∀ a f w, w.2.2 = true → (r a f w).2.2 = true) (hw : w.2.2 = true) : (tbody L B lv r a f w).2.2 = true := by
  unfold tbody
  split
  · rfl
  · generalize hz : (w.1, w.2.1 ++ [a], w.2.2) = z
    have hzb : z.2.2 = true := by rw [← hz]; exact hw
    clear hz
    generalize List.range 8 = l
    induction l generalizing z with
    | nil => exact hzb
    | cons i l ih =>
      rw [List.foldl_cons]
      refine ih _ ?_
      unfold tstep
      rw [if_pos hzb]; exact hzb
theorem tstep_mono {r : Int → Nat → TS → TS} {B : Nat} {leaf : Bool} {w : TS} {p : Int} {t : Nat} (hr : ∀ a f w, w.2.2 = true → (r a f w).2.2 = true) (hw : w.2.2 = true) : (tstep r B leaf w p t).2.2 = true := by
  unfold tstep
  rw [if_pos hw]; exact hw
/-- The fold of a node's pointers, as it goes. -/
def tst (L : List Int) (B lv : Nat) (ps : List Int) (f : Nat) (w : TS) (i : Nat) : TS := tstep (trec L B lv) B (lv == 0) w (ps.getD i 0) (f + i * 8 ^ lv)
theorem fold_bad {L : List Int} {B lv : Nat} {ps : List Int} {f : Nat} : ∀ (l : List Nat) (w : TS), w.2.2 = true → (l.foldl (tst L B lv ps f) w).2.2 = true
  | [], w, h => h
  | i :: l, w, h => by
    rw [List.foldl_cons]
    refine fold_bad l _ ?_
    unfold tst tstep
    rw [if_pos h]; exact h
theorem fold_pre {L : List Int} {B lv : Nat} {ps : List Int} {f N : Nat} {w : TS} (h : ((List.range N).foldl (tst L B lv ps f) w).2.2 = false) {i : Nat} (hi : i ≤ N) : ((List.range i).foldl (tst L B lv ps f) w).2.2 = false := by
  cases e : ((List.range i).foldl (tst L B lv ps f) w).2.2 with
  | false => rfl
  | true =>
    have hs : List.range N = List.range i ++ (List.range (N - i)).map (i + ·) := by
      rw [← List.range_add]; congr 1; omega
    rw [hs, List.foldl_append, fold_bad _ _ e] at h
    cases h
/-- What a walk that ends well has done. -/
structure TSpec (L : List Int) (B lv : Nat) (a : Int) (f : Nat) (w r : TS) : Prop where
  is_ : atIs L B a (lv : Int) = true
  new : w.2.1.contains a = false
  ns : ∃ t, r.2.1 = w.2.1 ++ a :: t
  nd : w.2.1.Nodup → r.2.1.Nodup
  m : ∀ s, s < 512 → r.1.getD s 0 = if f ≤ s ∧ s < f + 8 ^ (lv + 1) then look L B (lv + 1) a (s - f) else w.1.getD s 0
  path : ∀ s, s < 8 ^ (lv + 1) → pathOk L B (lv + 1) a s
  all : ∀ x ∈ r.2.1, x ∈ w.2.1 ∨ ∃ k, k ≤ lv ∧ atIs L B x (k : Int) = true
  bnd : ∀ x ∈ r.1, x ∈ w.1 ∨ x = 0 ∨ x < B
theorem atIs_ne {L : List Int} {B : Nat} {a lv : Int} (h : atIs L B a lv = true) : 2 ≤ a ∧ a < B := by
  unfold atIs at h
  rw [Bool.and_eq_true] at h
  exact atIn_iff.1 h.1
theorem nodup_snoc {α : Type} {l : List α} {x : α} (h : l.Nodup) (hx : ¬ x ∈ l) : (l ++ [x]).Nodup := by
  rw [List.nodup_append]
  refine ⟨h, List.nodup_cons.2 ⟨by simp, List.nodup_nil⟩, fun a ha b hb => ?_⟩
  rw [List.mem_singleton] at hb
  subst hb
  exact fun e => hx (e ▸ ha)
def SpecAt (L : List Int) (B lv : Nat) : Prop := ∀ (a : Int) (f : Nat) (w : TS), f + 8 ^ (lv + 1) ≤ 512 → w.1.length = 512 → w.2.2 = false → (∀ s, f ≤ s → s < f + 8 ^ (lv + 1) → w.1.getD s 0 = 0) → (tgo L B lv a f w).2.2 = false → TSpec L B lv a f w (tgo L B lv a f w)
structure FSpec (L : List Int) (B lv : Nat) (ps : List Int) (f : Nat) (m ns : List Int) (i : Nat) (r : TS) : Prop where
  len : r.1.length = 512
  tail : ∃ t, r.2.1 = ns ++ t
  nd : ns.Nodup → r.2.1.Nodup
  map : ∀ s, s < 512 → r.1.getD s 0 = if f ≤ s ∧ s < f + i * 8 ^ lv then look L B lv (ps.getD ((s - f) / 8 ^ lv) 0) ((s - f) % 8 ^ lv) else m.getD s 0
  path : ∀ j, j < i → ∀ s, s < 8 ^ lv → pathOk L B lv (ps.getD j 0) s
  all : ∀ x ∈ r.2.1, x ∈ ns ∨ ∃ k, k ≤ lv ∧ atIs L B x (k : Int) = true
  bnd : ∀ x ∈ r.1, x ∈ m ∨ x = 0 ∨ x < B
theorem getD_set (l : List Int) (k s : Nat) (p : Int) (hk : k < l.length) : (l.set k p).getD s 0 = if s = k then p else l.getD s 0 := by
  rw [List.getD_eq_getElem?_getD, List.getElem?_set]
  by_cases e : k = s
  · subst e; rw [if_pos rfl, if_pos hk, if_pos rfl]; rfl
  · rw [if_neg e, if_neg (fun g => e g.symm), List.getD_eq_getElem?_getD]
theorem divmod_at {s f i d : Nat} (hd : 0 < d) (h1 : f + i * d ≤ s) (h2 : s < f + i * d + d) : (s - f) / d = i ∧ (s - f) % d = s - (f + i * d) := by
  have e : s - f = (s - (f + i * d)) + i * d := by omega
  have hlt : s - (f + i * d) < d := by omega
  constructor
  · rw [e, Nat.add_mul_div_right _ _ hd, Nat.div_eq_of_lt hlt, Nat.zero_add]
  · rw [e, Nat.add_mul_mod_self_right, Nat.mod_eq_of_lt hlt]
theorem fold_spec {L : List Int} {B lv : Nat} {ps : List Int} {f : Nat} {m ns : List Int} (hrec : ∀ k, lv = k + 1 → SpecAt L B k) (hf : f + 8 ^ (lv + 1) ≤ 512) (hl : m.length = 512) (hz : ∀ s, f ≤ s → s < f + 8 ^ (lv + 1) → m.getD s 0 = 0)
    {N : Nat} (hN : N ≤ 8) (hb : ((List.range N).foldl (tst L B lv ps f) (m, ns, false)).2.2 = false) : ∀ i, i ≤ N → FSpec L B lv ps f m ns i ((List.range i).foldl (tst L B lv ps f) (m, ns, false)) := by
  have hp8 : 8 ^ (lv + 1) = 8 * 8 ^ lv := by rw [Nat.pow_succ, Nat.mul_comm]
  have hpos : 0 < 8 ^ lv := Nat.pow_pos (by decide)
  intro i
  induction i with
  | zero =>
    intro _
    exact ⟨hl, ⟨[], by simp⟩, fun h => h, fun s _ => by rw [if_neg (by omega)]; rfl, fun j hj => absurd hj (Nat.not_lt_zero _), fun x hx => .inl hx, fun x hx => .inl hx⟩
  | succ i ih =>
    intro hi
    have S := ih (by omega)
    have hnb := fold_pre hb (i := i) (by omega)
    have hnb1 := fold_pre hb (i := i + 1) hi
    have hstep : (List.range (i + 1)).foldl (tst L B lv ps f) (m, ns, false) = tst L B lv ps f ((List.range i).foldl (tst L B lv ps f) (m, ns, false)) i := by rw [List.range_succ, List.foldl_append]; rfl
    rw [hstep] at hnb1 ⊢
    generalize (List.range i).foldl (tst L B lv ps f) (m, ns, false) = W at *
    obtain ⟨wm, wn, wb⟩ := W
    simp only at hnb
    subst hnb
    have hile : i * 8 ^ lv + 8 ^ lv ≤ 8 * 8 ^ lv := by rw [← Nat.succ_mul]; exact Nat.mul_le_mul_right _ (Nat.le_trans hi hN)
    have hsucc : (i + 1) * 8 ^ lv = i * 8 ^ lv + 8 ^ lv := Nat.succ_mul ..
    obtain ⟨Sl, ⟨t, St⟩, Snd, Sm, Sp, Sa, Sb⟩ := S
    simp only at Sl St Snd Sm Sa Sb
    have here : ∀ s, f + i * 8 ^ lv ≤ s → s < f + i * 8 ^ lv + 8 ^ lv → wm.getD s 0 = 0 := fun s h1 h2 => by
      rw [Sm s (by omega), if_neg (by omega)]
      exact hz s (by omega) (by omega)
    unfold tst tstep at hnb1 ⊢
    rw [if_neg Bool.false_ne_true] at hnb1 ⊢
    generalize hp : ps.getD i 0 = p at *
    by_cases hB : decide (p ≥ (B : Int)) = true
    · rw [if_pos hB] at hnb1; cases hnb1
    rw [if_neg hB] at hnb1 ⊢
    have hpB : p < B := by have := of_decide_eq_false (Bool.eq_false_iff.2 hB); omega
    by_cases hp0 : p = 0
    · subst hp0
      rw [if_neg (by simp), if_neg (by simp)] at hnb1 ⊢
      refine ⟨Sl, ⟨t, St⟩, Snd, fun s hs => ?_, fun j hj s hs => ?_, Sa, Sb⟩
      · simp only
        by_cases c : f + i * 8 ^ lv ≤ s ∧ s < f + i * 8 ^ lv + 8 ^ lv
        · obtain ⟨d1, d2⟩ := divmod_at hpos c.1 c.2
          rw [here s c.1 c.2, if_pos (by omega), d1, hp, look_zero]
        · rw [Sm s hs]
          by_cases c2 : f ≤ s ∧ s < f + i * 8 ^ lv
          · rw [if_pos c2, if_pos (by omega)]
          · rw [if_neg c2, if_neg (by omega)]
      · by_cases e : j = i
        · subst e
          rw [hp]
          cases lv with
          | zero => trivial
          | succ k => intro h; exact absurd rfl h
        · exact Sp j (by omega) s hs
    have hpn : (p != 0) = true := bne_iff_ne.2 hp0
    cases lv with
    | zero =>
      rw [hpn, if_pos (by rfl)]
      simp only [Nat.pow_zero, Nat.mul_one] at *
      refine ⟨by simp only [List.length_set]; exact Sl, ⟨t, St⟩, Snd, fun s hs => ?_, fun j hj s hs => trivial, Sa, fun x hx => ?_⟩
      · simp only
        rw [getD_set _ _ _ _ (by omega)]
        by_cases e : s = f + i
        · subst e
          rw [if_pos rfl, if_pos (by omega), Nat.div_one, show f + i - f = i by omega, hp]; rfl
        · rw [if_neg e, Sm s hs]
          by_cases c2 : f ≤ s ∧ s < f + i
          · rw [if_pos c2, if_pos (by omega)]
          · rw [if_neg c2, if_neg (by omega)]
      · rcases List.mem_or_eq_of_mem_set hx with g | g
        · exact Sb x g
        · exact .inr (.inr (by omega))
    | succ k =>
      rw [hpn, if_neg (by simp), if_pos rfl] at hnb1 ⊢
      have T := hrec k rfl p (f + i * 8 ^ (k + 1)) (wm, wn, false) (by omega) Sl rfl here hnb1
      have hlen : (trec L B (k + 1) p (f + i * 8 ^ (k + 1)) (wm, wn, false)).1.length = 512 := by rw [trec_len]; exact Sl
      change TSpec L B k p (f + i * 8 ^ (k + 1)) (wm, wn, false) (trec L B (k + 1) p (f + i * 8 ^ (k + 1)) (wm, wn, false)) at T
      generalize trec L B (k + 1) p (f + i * 8 ^ (k + 1)) (wm, wn, false) = R at *
      obtain ⟨T1, T2, ⟨t2, T3⟩, T4, T5, T6, T7, T8⟩ := T
      simp only at T2 T3 T4 T5 T7 T8
      refine ⟨hlen, ⟨t ++ p :: t2, by rw [T3, St, List.append_assoc]⟩, fun h => T4 (Snd h), fun s hs => ?_, fun j hj s hs => ?_, fun x hx => ?_, fun x hx => ?_⟩
      · rw [T5 s hs]
        by_cases c : f + i * 8 ^ (k + 1) ≤ s ∧ s < f + i * 8 ^ (k + 1) + 8 ^ (k + 1)
        · obtain ⟨d1, d2⟩ := divmod_at hpos c.1 c.2
          rw [if_pos c, if_pos (by omega), d1, d2, hp]
        · rw [if_neg c, Sm s hs]
          by_cases c2 : f ≤ s ∧ s < f + i * 8 ^ (k + 1)
          · rw [if_pos c2, if_pos (by omega)]
          · rw [if_neg c2, if_neg (by omega)]
      · by_cases e : j = i
        · subst e; rw [hp]; exact T6 s hs
        · exact Sp j (by omega) s hs
      · rcases T7 x hx with g | ⟨q, g1, g2⟩
        · exact Sa x g
        · exact .inr ⟨q, by omega, g2⟩
      · rcases T8 x hx with g | g
        · exact Sb x g
        · exact .inr g
theorem spec_body {L : List Int} {B lv : Nat} (hrec : ∀ k, lv = k + 1 → SpecAt L B k) : SpecAt L B lv := by
  intro a f w hf hl hw hz hb
  obtain ⟨m, ns, bd⟩ := w
  simp only at hl hw hz
  subst hw
  have hpos : 0 < 8 ^ lv := Nat.pow_pos (by decide)
  have hp8 : 8 ^ (lv + 1) = 8 * 8 ^ lv := by rw [Nat.pow_succ, Nat.mul_comm]
  rw [tgo_eq] at hb ⊢
  unfold tbody at hb ⊢
  by_cases hc : (!atIs L B a (lv : Int) || ns.contains a) = true
  · rw [if_pos hc] at hb; cases hb
  rw [if_neg hc] at hb ⊢
  rw [Bool.or_eq_true, not_or, Bool.not_eq_true, Bool.not_eq_true, Bool.not_eq_false'] at hc
  obtain ⟨h1, h2⟩ := hc
  have ha := atIs_ne h1
  have S := fold_spec (ps := (atV L B a).2) (ns := ns ++ [a]) hrec hf hl hz (Nat.le_refl 8) hb 8 (Nat.le_refl 8)
  change TSpec L B lv a f (m, ns, false) ((List.range 8).foldl (tst L B lv (atV L B a).2 f) (m, ns ++ [a], false))
  generalize (List.range 8).foldl (tst L B lv (atV L B a).2 f) (m, ns ++ [a], false) = R at *
  obtain ⟨_, ⟨t, St⟩, Snd, Sm, Sp, Sa, Sb⟩ := S
  refine ⟨h1, h2, ⟨t, by rw [St, List.append_assoc]; rfl⟩, fun h => Snd (nodup_snoc h (by simpa using h2)), fun s hs => ?_, fun s hs => ?_, fun x hx => ?_, fun x hx => Sb x hx⟩
  · rw [Sm s hs, ← hp8]
    by_cases c : f ≤ s ∧ s < f + 8 ^ (lv + 1)
    · rw [if_pos c, if_pos c]
      show _ = if a = 0 then 0 else _
      rw [if_neg (by omega)]
    · rw [if_neg c, if_neg c]
  · intro _
    exact ⟨h1, Sp (s / 8 ^ lv) (by rw [Nat.div_lt_iff_lt_mul hpos]; omega) (s % 8 ^ lv) (Nat.mod_lt _ hpos)⟩
  · rcases Sa x hx with g | g
    · rcases List.mem_append.1 g with g | g
      · exact .inl g
      · rw [List.mem_singleton] at g; subst g; exact .inr ⟨lv, Nat.le_refl _, h1⟩
    · exact .inr g
theorem tgo_spec (L : List Int) (B : Nat) : ∀ lv, SpecAt L B lv := by
  intro lv
  induction lv with
  | zero => exact spec_body (fun k e => by cases e)
  | succ k ih => exact spec_body (fun j e => by cases e; exact ih)
end Go.Proofs.Ytdcggjkcbheolaa
end
section
set_option linter.unusedVariables false
set_option maxRecDepth 100000
open Go Go.Am Go.RowKit
namespace Go.Proofs.Ytdcggjkcbheolaa
open Go.Proofs.Try
/-- What a tree that is one says of its map. -/
theorem tree_spec {L : List Int} {root : Int} (hr : root ≠ 0) (h : treeOk L root = true) : TSpec L (L.length / 64) 2 root 0 (List.replicate 512 0, [], false) (treeM L root, treeN L root, false) := by
  unfold treeOk at h
  rw [show (root == 0) = false from beq_eq_false_iff_ne.2 hr, Bool.false_or, Bool.and_eq_true, Bool.not_eq_true', Bool.not_eq_true'] at h
  have hm : treeM L root = (treeW L root).1 := by unfold treeM; rw [show (root == 0) = false from beq_eq_false_iff_ne.2 hr]; rfl
  have hn : treeN L root = (treeW L root).2.1 := by unfold treeN; rw [show (root == 0) = false from beq_eq_false_iff_ne.2 hr]; rfl
  have := tgo_spec L (L.length / 64) 2 root 0 (List.replicate 512 0, [], false) (by decide) List.length_replicate rfl (fun s _ _ => by
    rw [List.getD_eq_getElem?_getD, List.getElem?_replicate]; split <;> rfl) h.1
  change TSpec L (L.length / 64) 2 root 0 (List.replicate 512 0, [], false) (treeW L root) at this
  rw [hm, hn]
  generalize treeW L root = w at *
  obtain ⟨a, b, c⟩ := w
  have hc : c = false := h.1
  subst hc
  exact this
theorem tree_at {L : List Int} {root : Int} (hr : root ≠ 0) (h : treeOk L root = true) {s : Nat} (hs : s < 512) : (treeM L root).getD s 0 = look L (L.length / 64) 3 root s := by
  have := (tree_spec hr h).m s hs
  rw [if_pos ⟨Nat.zero_le _, by simpa using hs⟩, Nat.sub_zero] at this
  exact this
theorem sl64 {h : Heap} {v : Value} {l : List Int} (hl : l.length = 64) (sl : Sl h v 1 64 (us l)) : Sl h v 1 l.length (us l) := by rw [hl]; exact sl
theorem nodParseS_ok {h : Heap} {v : Value} {l : List Int} (sl : Sl h v 1 l.length (us l)) (hb : Byt l) : RunF prog 146 [v] h fun r h' => r = .tuple #[.agg ⟨nc (nodV l).1 (nodV l).2⟩, .int .i64 (nCode l)] ∧ Fr no h h' := by
  obtain ⟨A, c, rfl, hc, hA⟩ := sl.form
  rw [← nodV_cells]
  exact nodParse_ok (fun hl => by obtain ⟨b, o, rfl, rd⟩ := hA (by omega); exact ⟨_, rfl, rd⟩) hb hc
theorem is_pos {l : List Int} (hl : l ≠ []) : 0 < l.length := List.length_pos_iff.2 hl
end Go.Proofs.Ytdcggjkcbheolaa
end
section
set_option linter.unusedVariables false
set_option maxRecDepth 100000
open Go Go.Am Go.RowKit
namespace Go.Proofs.Ytdcggjkcbheolaa
open Go.Proofs.Try
theorem keepBytesS_ok {h : Heap} {v w : Value} {l m : List Int} (sl : Sl h v 1 l.length (us l)) (sm : Sl h w 1 m.length (us m)) (hm : l.length ≤ 4611686018427387904) :
    RunF prog 12 [v, w] h fun v h' => v = .bool (l == m) ∧ h = h' := by
  obtain ⟨A, c, rfl, _, hA⟩ := sl.form
  obtain ⟨B, d, rfl, _, hB⟩ := sm.form
  exact keepBytes_ok (fun hl => by obtain ⟨b, o, rfl, rd⟩ := hA hl; exact ⟨_, rfl, rd⟩) (fun hl => by obtain ⟨b, o, rfl, rd⟩ := hB hl; exact ⟨_, rfl, rd⟩) hm
def mapG (L : List Int) (root : Int) : List Int := if treeE L root = 0 then treeM L root else []
def nodG (L : List Int) (root : Int) : List Int := if treeE L root = 0 then treeN L root else []
theorem mapG_len (L : List Int) (root : Int) : (mapG L root).length ≤ 512 := by
  unfold mapG; split
  · rw [treeM_len]; exact Nat.le_refl _
  · exact Nat.zero_le _
theorem nodG_len (L : List Int) (root : Int) : (nodG L root).length ≤ 100000 := by
  unfold nodG; split
  · have := treeN_len L root; omega
  · exact Nat.zero_le _
theorem treeMapS_ok {h : Heap} {iv : Value} {L : List Int} {root : Int} (sl : Sl h iv 1 L.length (us L)) (hb : Byt L) (hm : L.length ≤ 4611686018427387904) :
    RunF prog 31 [iv, .int .i64 root] h fun v h' => Fr no h h' ∧ ∃ gv, v = .tuple #[gv, .int .i64 (treeE L root)] ∧ Osl h.next h' gv 1 (mapG L root).length (is (mapG L root)) := by
  refine (treeMap_ok sl hb hm).mono ?_
  have hml3 := treeM_len L root
  rintro _ h3 ⟨f3, ⟨e0, mb, hmb, rfl, om⟩ | ⟨e0, rfl⟩⟩
  · refine ⟨f3, _, by rw [e0], ?_⟩
    unfold mapG
    rw [if_pos e0, hml3]
    have := sl_owI om hml3 (Cp.exc (Nat.le_refl 512)) (by decide)
    rw [hml3] at this
    exact ⟨this.1, this.2.1, .inr ⟨mb, _, hmb, rfl, Cp.exc (Nat.le_refl 512), om⟩⟩
  · refine ⟨f3, _, rfl, ?_⟩
    unfold mapG
    rw [if_neg e0]
    exact ⟨by simp [is], Nat.zero_le _, .inl ⟨rfl, rfl⟩⟩
theorem treeNodesS_ok {h : Heap} {iv : Value} {L : List Int} {root : Int} (sl : Sl h iv 1 L.length (us L)) (hb : Byt L) (hm : L.length ≤ 4611686018427387904) :
    RunF prog 32 [iv, .int .i64 root] h fun v h' => Fr no h h' ∧ ∃ gv, v = .tuple #[gv, .int .i64 (treeE L root)] ∧ Osl h.next h' gv 1 (nodG L root).length (is (nodG L root)) := by
  refine (treeNodes_ok sl hb hm).mono ?_
  have hnl := treeN_len L root
  rintro _ h3 ⟨f3, ⟨e0, nv, rfl, row⟩ | ⟨e0, rfl⟩⟩
  · refine ⟨f3, _, by rw [e0], ?_⟩
    unfold nodG
    rw [if_pos e0]
    exact row.os (by omega)
  · refine ⟨f3, _, rfl, ?_⟩
    unfold nodG
    rw [if_neg e0]
    exact ⟨by simp [is], Nat.zero_le _, .inl ⟨rfl, rfl⟩⟩
theorem Sl.lenI {P : Program} {h : Heap} {v : Value} {s n : Nat} {cells : List Value} (sl : Sl h v s n cells) : ∃ A c, v = .slice A n c := by
  obtain ⟨A, c, rfl, _⟩ := sl.form
  exact ⟨A, c, rfl⟩
end Go.Proofs.Ytdcggjkcbheolaa
end
section
set_option linter.unusedVariables false
set_option maxRecDepth 100000
open Go Go.Am Go.RowKit
namespace Go.Proofs.Ytdcggjkcbheolaa
open Go.Proofs.Try
/-- The image lies apart. -/
def Away (lo gb : Nat) (iv : Value) (n : Nat) : Prop := ∀ b o c, iv = .slice (some ⟨b, o, none⟩) n c → b ≠ gb ∧ b < lo
theorem sl_away {lo gb : Nat} {h h' : Heap} {iv : Value} {n s : Nat} {cs : List Value} {M : Nat → Prop} (sl : Sl h iv s n cs) (ha : Away lo gb iv n) (hM : ∀ b, M b → b = gb ∨ lo ≤ b) (f : Fr M h h') : Sl h' iv s n cs := by
  refine ⟨sl.1, sl.2.1, sl.2.2.imp (fun y => y) ?_⟩
  rintro ⟨b, o, c, h1, h2, h3⟩
  have := ha b o c h1
  exact ⟨b, o, c, h1, h2, h3.fr f (fun g => by rcases hM b g with e | e <;> omega)⟩
theorem arr_store {t : TypeId} {h : Heap} {b : Nat} {qs ps : List Int} (ow : Ow h b (is qs)) (hq : qs.length = 8) (hp : ps.length = 8) (hs : Go.Am.sizeOf prog t = some 8) : astore prog h t ⟨b, 0, none⟩ (.agg ⟨is ps⟩) = some (h.put b (some ⟨is ps, true⟩)) := by
  have := store_ow (P := prog) (t := t) (v := .agg ⟨is ps⟩) (off := 0) ow hs (by show (is ps).length = 8; rw [is_len, hp]) (allCells_map (f := Value.int .i64) (fun _ => rfl) ps) (by rw [is_len, hq]; exact Nat.le_refl _)
  rw [this]
  congr 4
  show [] ++ is ps ++ (is qs).drop (0 + 8) = _
  rw [List.drop_of_length_le (by rw [is_len, hq]; omega)]; simp
theorem arr_load {h : Heap} {b : Nat} {ps : List Int} (hp : ps.length = 8) (ow : Ow h b (is ps)) : aload prog h 105 ⟨b, 0, none⟩ = some (.agg ⟨is ps⟩) := by
  refine Ow.ld ow ?_
  show (match takeN 8 (dropN 0 (is ps)) with | some l => some (Value.agg ⟨l⟩) | none => none) = _
  rw [takeN_eq, dropN_eq, List.drop_zero, if_pos (by rw [is_len, hp]; exact Nat.le_refl 8), List.take_of_length_le (by rw [is_len, hp]; exact Nat.le_refl _)]
end Go.Proofs.Ytdcggjkcbheolaa
end
section
set_option linter.unusedVariables false
set_option maxRecDepth 100000
open Go Go.Am Go.RowKit
namespace Go.Proofs.Ytdcggjkcbheolaa
open Go.Proofs.Try
/-- So many places has a level. -/
def lvN (l : Nat) : Nat := 8 ^ (2 - l)
/-- The cells of a maker. -/
def kc (iv : Value) (B : Nat) (ov mv : Value) (ws js : Nat → Value) (fv : Value) : List Value := [iv, .int .i64 (B : Int), ov, mv, ws 0, ws 1, ws 2, js 0, js 1, js 2, fv]
def slz (b n : Nat) : Value := .slice (some ⟨b, 0, none⟩) n (exc n)
theorem kc_w {iv ov mv fv : Value} {B : Nat} {ws js : Nat → Value} {l : Nat} (hl : l < 3) : nth (kc iv B ov mv ws js fv) (4 + l * 1) = some (ws l) := by
  obtain rfl | rfl | rfl : l = 0 ∨ l = 1 ∨ l = 2 := by omega
  all_goals rfl
theorem kc_j {iv ov mv fv : Value} {B : Nat} {ws js : Nat → Value} {l : Nat} (hl : l < 3) : nth (kc iv B ov mv ws js fv) (7 + l * 1) = some (js l) := by
  obtain rfl | rfl | rfl : l = 0 ∨ l = 1 ∨ l = 2 := by omega
  all_goals rfl
/-- Rows of one's own, level by level. -/
def WS (h : Heap) (wb : Nat → Nat) (W : Nat → List Int) : Prop := ∀ l, l < 3 → Ow h (wb l) (is (W l)) ∧ (W l).length = lvN l
def WM (wb : Nat → Nat) : Nat → Prop := fun b => ∃ l, l < 3 ∧ b = wb l
theorem WS.fr {h h' : Heap} {wb : Nat → Nat} {W : Nat → List Int} {M : Nat → Prop} (w : WS h wb W) (f : Fr M h h') (hM : ∀ l, l < 3 → ¬ M (wb l)) : WS h' wb W := fun l hl => ⟨(w l hl).1.fr f (hM l hl), (w l hl).2⟩
theorem slW {h : Heap} {wb : Nat → Nat} {W : Nat → List Int} (w : WS h wb W) {l : Nat} (hl : l < 3) : Sl h (slz (wb l) (lvN l)) 1 (lvN l) (is (W l)) := by
  have hb : lvN l ≤ 64 := by
    obtain rfl | rfl | rfl : l = 0 ∨ l = 1 ∨ l = 2 := by omega
    all_goals decide
  exact (w l hl).1.all.sl (by rw [is_len, (w l hl).2, Nat.mul_one]) (by omega) (Cp.exc (Nat.le_refl _))
theorem lvN_le {l : Nat} (hl : l < 3) : lvN l ≤ 64 := by
  obtain rfl | rfl | rfl : l = 0 ∨ l = 1 ∨ l = 2 := by omega
  all_goals decide
/-- One place of a level is set. -/
def setW (W : Nat → List Int) (l p : Nat) (x : Int) : Nat → List Int := fun k => if k = l then (W k).set p x else W k
theorem setW_at (W : Nat → List Int) (l p : Nat) (x : Int) {k j : Nat} (hp : k = l → p < (W l).length) : (setW W l p x k).getD j 0 = if k = l ∧ j = p then x else (W k).getD j 0 := by
  unfold setW
  by_cases e : k = l
  · subst e
    rw [if_pos rfl, getD_set _ _ _ _ (hp rfl)]
    by_cases c : j = p
    · rw [if_pos c, if_pos ⟨rfl, c⟩]
    · rw [if_neg c, if_neg (fun g => c g.2)]
  · rw [if_neg e, if_neg (fun g => e g.1)]
theorem WS.set {h : Heap} {wb : Nat → Nat} {W : Nat → List Int} (w : WS h wb W) (hi : ∀ l k, l < 3 → k < 3 → wb l = wb k → l = k) {l p : Nat} (hl : l < 3) (hp : p < lvN l) (x : Int) :
    astore prog h 3 ⟨wb l, 0 + p * 1, none⟩ (.int .i64 x) = some (h.put (wb l) (some ⟨is ((W l).set p x), true⟩)) ∧ WS (h.put (wb l) (some ⟨is ((W l).set p x), true⟩)) wb (setW W l p x) ∧ Fr (· = wb l) h (h.put (wb l) (some ⟨is ((W l).set p x), true⟩)) := by
  have f : Fr (· = wb l) h (h.put (wb l) (some ⟨is ((W l).set p x), true⟩)) := Fr.put _ (.inl rfl)
  refine ⟨?_, fun k hk => ?_, f⟩
  · refine (store1_ow (w l hl).1 rfl rfl rfl (by rw [is_len, (w l hl).2]; omega)).trans ?_
    rw [Nat.zero_add, Nat.mul_one]; unfold is; rw [List.map_set]
  · unfold setW
    by_cases e : k = l
    · subst e
      rw [if_pos rfl]
      exact ⟨Ow.put _ (w k hk).1.1, by rw [List.length_set]; exact (w k hk).2⟩
    · rw [if_neg e]
      exact ⟨(w k hk).1.fr f (fun g => e (hi k l hk hl g)), (w k hk).2⟩
def LearnOk (L : List Int) (B kb : Nat) (iv ov mv fv : Value) (wb : Nat → Nat) (js : Nat → Value) (lv : Nat) : Prop := ∀ {h : Heap} {W : Nat → List Int} {at_ : Int} {p : Nat},
    Sl h iv 1 L.length (us L) → Ow h kb (kc iv B ov mv (fun l => slz (wb l) (lvN l)) js fv) → WS h wb W → p < lvN lv → (∀ l, l ≤ lv → ∀ j, j / 8 ^ (lv - l) = p → (W l).getD j 0 = 0) →
    RunF prog 110 [.pointer (some ⟨kb, 0, none⟩), .int .i64 at_, .int .i64 (lv : Int), .int .i64 (p : Int)] h fun v h' => v = .tuple #[] ∧ Fr (WM wb) h h' ∧ ∃ W', WS h' wb W' ∧ ∀ l j, (W' l).getD j 0 = if l ≤ lv ∧ j / 8 ^ (lv - l) = p then look L B (lv - l) at_ (j % 8 ^ (lv - l)) else (W l).getD j 0
theorem divmod8 (j d : Nat) : j / 8 ^ (d + 1) = j / 8 ^ d / 8 ∧ (j % 8 ^ (d + 1)) / 8 ^ d = (j / 8 ^ d) % 8 ∧ (j % 8 ^ (d + 1)) % 8 ^ d = j % 8 ^ d := by
  refine ⟨by rw [Nat.pow_succ, Nat.div_div_eq_div_mul], ?_, ?_⟩
  · rw [Nat.pow_succ, Nat.mod_mul_right_div_self]
  · rw [Nat.pow_succ, Nat.mod_mul_right_mod]
set_option maxHeartbeats 16000000 in
theorem learn_body {L : List Int} {B kb : Nat} {iv ov mv fv : Value} {wb : Nat → Nat} {js : Nat → Value} (hb : Byt L) (hB : B * 64 ≤ L.length) (hm : L.length ≤ 4611686018427387904) (hi : ∀ l k, l < 3 → k < 3 → wb l = wb k → l = k) (hk : ∀ l, l < 3 → wb l ≠ kb)
    (hiv : ∀ b o c, iv = .slice (some ⟨b, o, none⟩) L.length c → ∀ l, l < 3 → b ≠ wb l) {lv : Nat} (hlv : lv < 3) (hrec : ∀ k, lv = k + 1 → LearnOk L B kb iv ov mv fv wb js k) : LearnOk L B kb iv ov mv fv wb js lv := by
  intro h W at_ p sl ow ws hp hz
  refine RunF.walk func110 rfl rfl ?_
  refine RunC.seq (RunC.seq (RunC.region (RunO.all rfl ?_)))
  by_cases ha : at_ = 0
  · rw [show (at_ == 0) = true from beq_iff_eq.2 ha]
    refine RunC.cond rfl (fun _ => RunC.ret ⟨_, rfl, rfl, Fr.refl _ _, W, ws, fun l j => ?_⟩) (fun g => by cases g)
    split
    · rename_i c; rw [hz l c.1 j c.2, ha, look_zero]
    · rfl
  rw [show (at_ == 0) = false from beq_eq_false_iff_ne.2 ha]
  refine RunC.cond rfl (fun g => by cases g) (fun _ => RunC.skip ?_)
  obtain ⟨e1, ws1, f1⟩ := ws.set hi hlv hp at_
  refine RunC.seq (RunC.region (RunO.part 4 rfl ?_))
  refine RunO.indexA (s := 1) (k := lv) rfl rfl rfl rfl rfl hlv rfl ?_
  refine RunO.load (v := slz (wb lv) (lvN lv)) rfl (ow.ld (kc_w hlv)) rfl ?_
  refine RunO.part 2 rfl ?_
  refine RunO.index (s := 1) (k := p) rfl rfl rfl rfl hp rfl ?_
  refine RunO.store rfl rfl e1 (RunO.nil ?_)
  replace ow := ow.fr f1 (fun e => hk lv hlv e.symm)
  replace sl : Sl (h.put (wb lv) (some ⟨is ((W lv).set p at_), true⟩)) iv 1 L.length (us L) := by
    refine ⟨sl.1, sl.2.1, sl.2.2.imp (fun y => y) ?_⟩
    rintro ⟨b, o, c, h1, h2, h3⟩
    exact ⟨b, o, c, h1, h2, h3.fr f1 (hiv b o c h1 lv hlv)⟩
  replace f1 : Fr (WM wb) h (h.put (wb lv) (some ⟨is ((W lv).set p at_), true⟩)) := f1.weak (fun b e => .inl ⟨lv, hlv, e⟩)
  have hW1 : ∀ l j, (setW W lv p at_ l).getD j 0 = if l = lv ∧ j = p then at_ else (W l).getD j 0 := fun l j => setW_at W lv p at_ (fun _ => by rw [(ws lv hlv).2]; exact hp)
  clear ws e1
  generalize h.put (wb lv) (some ⟨is ((W lv).set p at_), true⟩) = h1 at *
  generalize setW W lv p at_ = W1 at *
  refine RunC.seq (RunC.seq (RunC.region (RunO.all rfl ?_)))
  cases lv with
  | zero =>
    refine RunC.cond rfl (fun _ => RunC.ret ⟨_, rfl, rfl, f1, W1, ws1, fun l j => ?_⟩) (fun g => by cases g)
    rw [hW1]
    by_cases c : l = 0 ∧ j = p
    · obtain ⟨rfl, rfl⟩ := c
      rw [if_pos ⟨rfl, rfl⟩, if_pos ⟨Nat.le_refl _, by simp⟩]; rfl
    · rw [if_neg c, if_neg ?_]
      rintro ⟨c1, c2⟩
      obtain rfl : l = 0 := by omega
      exact c ⟨rfl, by simpa using c2⟩
  | succ k =>
    rw [show (((k + 1 : Nat) : Int) == 0) = false from beq_eq_false_iff_ne.2 (by omega)]
    refine RunC.cond rfl (fun g => by cases g) (fun _ => RunC.skip ?_)
    refine RunC.seq (RunC.draw0 rfl ?_)
    refine RunO.part 3 rfl ?_
    refine RunO.load (v := iv) rfl (ow.ld rfl) rfl ?_
    refine RunO.part 3 rfl ?_
    refine RunO.load (v := .int .i64 (B : Int)) rfl (ow.ld rfl) rfl ?_
    refine RunO.part 2 rfl ?_
    refine RunO.callD (treeAt_ok sl hb hB hm) rfl rfl rfl ?_
    rintro _ h2 ⟨rfl, f2⟩
    have hpl := atV_len L B at_
    have hlook : ∀ d s, look L B (d + 1) at_ s = look L B d ((atV L B at_).2.getD (s / 8 ^ d) 0) (s % 8 ^ d) := fun d s => by show (if at_ = 0 then 0 else _) = _; rw [if_neg ha]
    generalize atV L B at_ = nd at *
    obtain ⟨nl, ps⟩ := nd
    simp only at hpl hlook
    replace ow := ow.fr f2 (fun g => g)
    replace sl := sl.fr0 f2
    replace ws1 := ws1.fr f2 (fun _ _ g => g)
    replace f1 := f1.quiet f2
    refine RunO.part 4 (h1 := h2.push ⟨nc 0 nZero, true⟩) rfl ?_
    refine RunO.store rfl rfl (nc_store (lv := nl) (ps := ps) (Ow.push h2 (nc 0 nZero)) rfl hpl rfl) (RunO.all rfl ?_)
    have on : Ow ((h2.push ⟨nc 0 nZero, true⟩).put h2.next (some ⟨nc nl ps, true⟩)) h2.next (nc nl ps) := Ow.put _ (Nat.lt_succ_self _)
    have f4 : Fr no h2 ((h2.push ⟨nc 0 nZero, true⟩).put h2.next (some ⟨nc nl ps, true⟩)) := (Fr.push _ _ _).trans (Fr.put (m := (· = h2.next)) _ (.inl rfl)) (fun j hj => .inr (by omega))
    generalize (h2.push ⟨nc 0 nZero, true⟩).put h2.next (some ⟨nc nl ps, true⟩) = h4 at *
    generalize h2.next = qn at *
    replace ow := ow.fr f4 (fun g => g)
    replace sl := sl.fr0 f4
    replace ws1 := ws1.fr f4 (fun _ _ g => g)
    replace f1 := f1.quiet f4
    clear f2 f4
    refine RunC.seq (RunC.region (RunO.part 1 rfl ?_))
    refine RunO.load (v := .agg ⟨is ps⟩) rfl (nc_ptrs hpl on) rfl (RunO.all rfl ?_)
    refine RunC.block ?_
    have hp64 := Nat.lt_of_lt_of_le hp (lvN_le hlv)
    have hlN : lvN k = lvN (k + 1) * 8 := by
      obtain rfl | rfl : k = 0 ∨ k = 1 := by omega
      all_goals rfl
    let I : Nat → Env → Heap → Prop := fun d E h' => ∃ (i : Nat) (Wi : Nat → List Int), i + d = 8 ∧ Sl h' iv 1 L.length (us L) ∧ Ow h' kb (kc iv B ov mv (fun l => slz (wb l) (lvN l)) js fv) ∧ WS h' wb Wi ∧ Fr (WM wb) h h' ∧
      (∀ l j, (Wi l).getD j 0 = if l ≤ k ∧ p * 8 ≤ j / 8 ^ (k - l) ∧ j / 8 ^ (k - l) < p * 8 + i then look L B (k - l) (ps.getD (j / 8 ^ (k - l) - p * 8) 0) (j % 8 ^ (k - l)) else (W1 l).getD j 0) ∧
      Le (upd (upd (upd (upd (upd E0 0 (.pointer (some ⟨kb, 0, none⟩))) 2 (.int .i64 ((k + 1 : Nat) : Int))) 3 (.int .i64 (p : Int))) 40 (.agg ⟨is ps⟩)) 41 (.int .i64 (i : Int))) E
    refine RunC.loop I ?_ (k := 8) ?_
    · rintro d E h5 ⟨i, Wi, hid, sl5, ow5, ws5, F5, hWi, hE⟩
      refine RunC.le hE ?_
      clear hE
      refine RunC.seq (RunC.region (RunO.all rfl ?_))
      refine RunC.seq (RunC.cond rfl (fun hlt => RunC.skip ?_) (fun hge => ?_))
      · have hlt := of_decide_eq_true hlt
        have hi8 : i < 8 := by omega
        have hps : i < ps.length := by omega
        have hpi : ps.getD i 0 = ps[i] := by rw [List.getD_eq_getElem?_getD, List.getElem?_eq_getElem hps]; rfl
        have hz5 : ∀ l, l ≤ k → ∀ j, j / 8 ^ (k - l) = p * 8 + i → (Wi l).getD j 0 = 0 := by
          intro l hl j hj
          rw [hWi, if_neg (by omega), hW1, if_neg (by omega)]
          refine hz l (by omega) j ?_
          rw [show k + 1 - l = (k - l) + 1 by omega, (divmod8 j (k - l)).1, hj]; omega
        refine RunC.seq (RunC.block ?_)
        refine RunC.seq (RunC.region (RunO.part 1 rfl ?_))
        refine RunO.indexV (s := 1) (k := i) rfl rfl rfl rfl hi8 (is_part hps) rfl (RunO.all rfl ?_)
        refine RunC.region (RunO.part 4 rfl ?_)
        rw [fw64 (x := ((k + 1 : Nat) : Int) - 1) (by omega) (by omega), show ((k + 1 : Nat) : Int) - 1 = (k : Int) by omega]
        refine RunO.part 2 rfl ?_
        rw [fw64 (x := (p : Int) * 8) (by omega) (by omega)]
        refine RunO.part 2 rfl ?_
        rw [fw64 (x := (p : Int) * 8 + (i : Int)) (by omega) (by omega), show (p : Int) * 8 + (i : Int) = ((p * 8 + i : Nat) : Int) by omega]
        refine RunO.callD (hrec k rfl (at_ := ps[i]) (p := p * 8 + i) sl5 ow5 ws5 (by omega) hz5) rfl rfl rfl ?_
        rintro _ h6 ⟨rfl, f6, W6, ws6, hW6⟩
        refine RunO.nil ?_
        refine RunC.region (RunO.all rfl ?_)
        refine ⟨d - 1, by omega, i + 1, W6, by omega, ?_, ow5.fr f6 ?_, ws6, F5.same f6, fun l j => ?_, Le.cons (inc64 (by omega)) (Le.cons rfl (Le.cons rfl (Le.cons rfl (Le.cons rfl (Le.nil _)))))⟩
        · refine ⟨sl5.1, sl5.2.1, sl5.2.2.imp (fun y => y) ?_⟩
          rintro ⟨b, o, c, h1, h2, h3⟩
          exact ⟨b, o, c, h1, h2, h3.fr f6 (by rintro ⟨l, hl, e⟩; exact hiv b o c h1 l hl e)⟩
        · rintro ⟨l, hl, e⟩; exact hk l hl e.symm
        · rw [hW6, hWi]
          by_cases c : l ≤ k ∧ j / 8 ^ (k - l) = p * 8 + i
          · rw [if_pos c, if_pos (by omega), c.2, show p * 8 + i - p * 8 = i by omega, hpi]
          · rw [if_neg c]
            by_cases c2 : l ≤ k ∧ p * 8 ≤ j / 8 ^ (k - l) ∧ j / 8 ^ (k - l) < p * 8 + i
            · rw [if_pos c2, if_pos (by omega)]
            · rw [if_neg c2, if_neg (by omega)]
      · have hge := of_decide_eq_false hge
        obtain rfl : i = 8 := by omega
        refine RunC.exit ⟨_, rfl, rfl, F5, Wi, ws5, fun l j => ?_⟩
        rw [hWi]
        by_cases c : l ≤ k
        · obtain ⟨d1, d2, d3⟩ := divmod8 j (k - l)
          rw [show k + 1 - l = (k - l) + 1 by omega, d1]
          by_cases c2 : j / 8 ^ (k - l) / 8 = p
          · rw [if_pos (by omega), if_pos (by omega), hlook, d2, d3]
            congr 2
            omega
          · rw [if_neg (by omega), if_neg (by omega), hW1, if_neg (by omega)]
        · rw [if_neg (by omega), hW1]
          by_cases c2 : l = k + 1
          · subst c2
            rw [Nat.sub_self, Nat.pow_zero, Nat.div_one]
            by_cases c3 : j = p
            · rw [if_pos ⟨rfl, c3⟩, if_pos ⟨Nat.le_refl _, c3⟩]; rfl
            · rw [if_neg (fun g => c3 g.2), if_neg (fun g => c3 g.2)]
          · rw [if_neg (fun g => c2 g.1), if_neg (by omega)]
    · refine ⟨0, W1, by omega, sl, ow, ws1, f1, fun l j => ?_, Le.cons rfl (Le.cons rfl (Le.cons rfl (Le.cons rfl (Le.cons rfl (Le.nil _)))))⟩
      rw [if_neg (by omega)]
theorem learn_ok {L : List Int} {B kb : Nat} {iv ov mv fv : Value} {wb : Nat → Nat} {js : Nat → Value} (hb : Byt L) (hB : B * 64 ≤ L.length) (hm : L.length ≤ 4611686018427387904) (hi : ∀ l k, l < 3 → k < 3 → wb l = wb k → l = k) (hk : ∀ l, l < 3 → wb l ≠ kb)
    (hiv : ∀ b o c, iv = .slice (some ⟨b, o, none⟩) L.length c → ∀ l, l < 3 → b ≠ wb l) : ∀ lv, lv < 3 → LearnOk L B kb iv ov mv fv wb js lv := by
  intro lv
  induction lv with
  | zero => intro h; exact learn_body hb hB hm hi hk hiv h (fun j e => by cases e)
  | succ k ih => intro h; exact learn_body hb hB hm hi hk hiv h (fun j e => by cases e; exact ih (by omega))
end Go.Proofs.Ytdcggjkcbheolaa
end
section
set_option linter.unusedVariables false
set_option maxRecDepth 100000
open Go Go.Am Go.RowKit
namespace Go.Proofs.Ytdcggjkcbheolaa
open Go.Proofs.Try
theorem beq_takeI {l m : List Int} {i : Nat} (hi : i < l.length) (hm : i < m.length) (h : l.take i = m.take i) (he : l[i] = m[i]) : l.take (i + 1) = m.take (i + 1) := by
  rw [List.take_succ_eq_append_getElem hi, List.take_succ_eq_append_getElem hm, h, he]
set_option maxHeartbeats 4000000 in
theorem equalI_ok {h : Heap} {v w : Value} {l m : List Int} (sl : Sl h v 1 l.length (is l)) (sm : Sl h w 1 m.length (is m)) (hm : l.length ≤ 4611686018427387904) :
    RunF prog 136 [v, w] h fun v h' => v = .bool (l == m) ∧ h = h' := by
  refine RunF.walk func136 rfl rfl ?_
  have sl0 := sl
  have sm0 := sm
  obtain ⟨A, c, rfl, hc, _⟩ := sl.form
  obtain ⟨B, d, rfl, hd, _⟩ := sm.form
  refine RunC.seq (RunC.region (RunO.all rfl ?_))
  refine RunC.seq (RunC.seq (RunC.region (RunO.all rfl ?_)))
  by_cases hl : l.length = m.length
  case neg =>
    have e : (l == m) = false := beq_eq_false_iff_ne.2 (fun g => hl (by rw [g]))
    rw [show ((l.length : Int) != (m.length : Int)) = true by simp; omega, e]
    refine RunC.cond rfl (fun _ => ?_) (fun g => by cases g)
    exact RunC.seq (RunC.region (RunO.all rfl (RunC.ret ⟨_, rfl, rfl, rfl⟩)))
  rw [show ((l.length : Int) != (m.length : Int)) = false by simp; omega]
  refine RunC.cond rfl (fun g => by cases g) (fun _ => RunC.skip ?_)
  refine RunC.seq (RunC.seq (RunC.region (RunO.all rfl ?_)))
  refine RunC.block ?_
  let I : Nat → Env → Heap → Prop := fun k E h' => ∃ i : Nat, i + k = l.length ∧ l.take i = m.take i ∧ h = h' ∧ Le (upd (upd (upd (upd E0 0 (.slice A l.length c)) 1 (.slice B m.length d)) 12 (.int .i64 (l.length : Int))) 13 (.int .i64 i)) E
  refine RunC.loop I ?_ (k := l.length) ?_
  · rintro k E h' ⟨i, hi, ht, rfl, hE⟩
    refine RunC.le hE ?_
    clear hE
    refine RunC.seq (RunC.region (RunO.all rfl ?_))
    refine RunC.seq (RunC.cond rfl (fun hlt => RunC.skip ?_) (fun hge => ?_))
    · have hlt := of_decide_eq_true hlt
      have h1 : i < l.length := by omega
      have h2 : i < m.length := by omega
      refine RunC.seq (RunC.block ?_)
      refine RunC.seq (RunC.region (RunO.all rfl ?_))
      refine RunC.seq (RunC.draw0 rfl (RunO.part 2 rfl ?_))
      refine RunO.at (s := 1) rfl rfl sl rfl rfl h1 (is_part h1) rfl rfl rfl ?_
      refine RunO.part 2 rfl ?_
      refine RunO.at (s := 1) rfl rfl sm rfl rfl h2 (is_part h2) rfl rfl rfl ?_
      refine RunO.all rfl ?_
      refine RunC.cond rfl (fun hne => ?_) (fun heq => ?_)
      · have hne : l[i] ≠ m[i] := by simpa using hne
        have e : (l == m) = false := beq_eq_false_iff_ne.2 (fun g => hne (by subst g; rfl))
        rw [e]
        exact RunC.seq (RunC.region (RunO.all rfl (RunC.ret ⟨_, rfl, rfl, rfl⟩)))
      · have heq : l[i] = m[i] := by simpa using heq
        refine RunC.skip (RunC.region (RunO.all rfl ?_))
        exact ⟨k - 1, by omega, i + 1, by omega, beq_takeI h1 h2 ht heq, rfl, Le.cons (inc64 (by omega)) (Le.cons rfl (Le.cons rfl (Le.cons rfl (Le.nil _))))⟩
    · have hge := of_decide_eq_false hge
      refine RunC.exit ?_
      have hi2 : i = l.length := by omega
      have e : l = m := by
        rw [hi2, List.take_length] at ht
        rw [ht, hl, List.take_length]
      rw [show (l == m) = true by rw [e]; exact beq_self_eq_true _]
      exact RunC.seq (RunC.region (RunO.all rfl (RunC.ret ⟨_, rfl, rfl, rfl⟩)))
  · exact ⟨0, by omega, rfl, rfl, Le.cons rfl (Le.cons rfl (Le.cons rfl (Le.cons rfl (Le.nil _))))⟩
theorem keptC_ok {h : Heap} {b : Int} : RunF prog 135 [.int .i64 b] h fun v h' => v = .bool (b != 0) ∧ Fr no h h' := by
  refine RunF.walk func135 rfl rfl ?_
  refine RunC.seq (RunC.region (RunO.all rfl ?_))
  exact RunC.seq (RunC.region (RunO.all rfl (RunC.ret ⟨_, rfl, rfl, Fr.refl _ _⟩)))
/-- What stands under a node of a level. -/
def part (m : List Int) (l p : Nat) : List Int := (m.drop (p * 8 ^ (l + 1))).take (8 ^ (l + 1))
def zrB (m : List Int) (l p : Nat) : Bool := !(part m l p).any (· != 0)
def smB (m o : List Int) (l p : Nat) : Bool := part m l p == part o l p
theorem lv_span {l p : Nat} (hl : l < 3) (hp : p < lvN l) : p * 8 ^ (l + 1) + 8 ^ (l + 1) ≤ 512 ∧ 8 ^ (l + 1) ≤ 512 := by
  unfold lvN at hp
  obtain rfl | rfl | rfl : l = 0 ∨ l = 1 ∨ l = 2 := by omega
  all_goals simp at hp ⊢
  all_goals omega
theorem part_len {m : List Int} (hm : m.length = 512) {l p : Nat} (hl : l < 3) (hp : p < lvN l) : (part m l p).length = 8 ^ (l + 1) := by
  have := lv_span hl hp
  unfold part
  rw [List.length_take, List.length_drop, hm]; omega
/-- An old tree's walk, from which only is read. -/
def KO (h : Heap) (ov : Value) (o ns : List Int) : Prop := ∃ ob mb iv B nv, ov = .pointer (some ⟨ob, 0, none⟩) ∧ Ow h ob (wc iv B (.slice (some ⟨mb, 0, none⟩) 512 (exc 512)) nv false) ∧ Ow h mb (is o) ∧ o.length = 512 ∧ Sl h nv 1 ns.length (is ns)
theorem sl_span {h : Heap} {v : Value} {m : List Int} {l p : Nat} (hl : l < 3) (hp : p < lvN l) (hm : m.length = 512)
    (sl : Sl h v 1 (p * 8 ^ (l + 1) + 8 ^ (l + 1) - p * 8 ^ (l + 1)) (((is m).drop (p * 8 ^ (l + 1) * 1)).take ((p * 8 ^ (l + 1) + 8 ^ (l + 1) - p * 8 ^ (l + 1)) * 1))) : Sl h v 1 (part m l p).length (is (part m l p)) := by
  rw [part_len hm hl hp]
  rw [Nat.mul_one, Nat.mul_one, Nat.add_sub_cancel_left] at sl
  unfold part is at *
  rw [List.map_take, List.map_drop]
  exact sl
set_option maxHeartbeats 8000000 in
theorem kept_ok {h : Heap} {kb B : Nat} {iv ov mv fv : Value} {wb : Nat → Nat} {js : Nat → Value} {W : Nat → List Int} {m o ns : List Int} {l p : Nat} (ow : Ow h kb (kc iv B ov mv (fun l => slz (wb l) (lvN l)) js fv)) (ws : WS h wb W) (sm : Sl h mv 1 512 (is m)) (hml : m.length = 512) (ko : KO h ov o ns) (hl : l < 3) (hp : p < lvN l) :
    RunF prog 111 [.pointer (some ⟨kb, 0, none⟩), .int .i64 (l : Int), .int .i64 (p : Int)] h fun v h' => v = .tuple #[.int .i64 (if zrB m l p then 0 else (W l).getD p 0), .bool (zrB m l p || smB m o l p)] ∧ Fr no h h' := by
  refine RunF.walk func111 rfl rfl ?_
  obtain ⟨s1, s2⟩ := lv_span hl hp
  have hpl := part_len hml hl hp
  have hp64 := Nat.lt_of_lt_of_le hp (lvN_le hl)
  refine RunC.seq (RunC.region (RunO.all rfl ?_))
  refine RunC.seq (RunC.region (RunO.part 3 rfl ?_))
  rw [fw64 (x := (l : Int) + 1) (by omega) (by omega), show (l : Int) + 1 = ((l + 1 : Nat) : Int) by omega]
  refine RunO.callD (nodUnder_ok (k := l + 1) (by omega)) rfl rfl rfl ?_
  rintro _ _ ⟨rfl, rfl⟩
  refine RunO.part 1 rfl ?_
  have hmul : (p : Int) * ((8 ^ (l + 1) : Nat) : Int) = ((p * 8 ^ (l + 1) : Nat) : Int) := by rw [Int.natCast_mul]
  rw [hmul, fw64 (x := ((p * 8 ^ (l + 1) : Nat) : Int)) (by omega) (by omega)]
  refine RunO.all rfl ?_
  refine RunC.seq (RunC.region (RunO.part 3 rfl ?_))
  rw [fw64 (x := (l : Int) + 1) (by omega) (by omega), show (l : Int) + 1 = ((l + 1 : Nat) : Int) by omega]
  refine RunO.callD (nodUnder_ok (k := l + 1) (by omega)) rfl rfl rfl ?_
  rintro _ _ ⟨rfl, rfl⟩
  refine RunO.part 1 rfl ?_
  rw [fw64 (x := ((p * 8 ^ (l + 1) : Nat) : Int) + ((8 ^ (l + 1) : Nat) : Int)) (by omega) (by omega), show ((p * 8 ^ (l + 1) : Nat) : Int) + ((8 ^ (l + 1) : Nat) : Int) = ((p * 8 ^ (l + 1) + 8 ^ (l + 1) : Nat) : Int) by omega]
  refine RunO.all rfl ?_
  refine RunC.seq (RunC.region (RunO.part 3 rfl ?_))
  refine RunO.load (v := mv) rfl (ow.ld rfl) rfl ?_
  refine RunO.part 2 rfl ?_
  refine RunO.sliceSl (s := 1) (len := 512) rfl rfl rfl rfl rfl sm (.some _ _ _) (.some _ _ _) (Nat.le_add_right _ _) s1 rfl ?_
  intro pv sp
  replace sp := sl_span hl hp hml sp
  refine RunO.all rfl ?_
  refine RunC.seq (RunC.seq (RunC.region (RunO.part 1 rfl ?_)))
  refine RunO.callD (containsI_ok sp (u := fun j => .int .i64 ((part m l p).getD j 0)) (fun j hj => ?_) (g := 135) (cap := []) (p := fun j => (part m l p).getD j 0 != 0) (fun j hj h5 f5 => keptC_ok) (by omega)) rfl rfl rfl ?_
  · rw [is_part hj, List.getD_eq_getElem?_getD, List.getElem?_eq_getElem hj]; rfl
  rintro _ h2 ⟨rfl, f2⟩
  rw [anyI_list (q := fun x => x != 0) (fun j x hx => by rw [List.getD_eq_getElem?_getD, hx]; rfl)]
  have hzd : zrB m l p = !(part m l p).any (· != 0) := rfl
  rw [hzd]
  replace ow := ow.fr f2 (fun g => g)
  replace ws := ws.fr f2 (fun _ _ g => g)
  obtain ⟨ob, mb, iv2, B2, nv, rfl, oo, om, hol, sn⟩ := ko
  replace oo := oo.fr f2 (fun g => g)
  replace om := om.fr f2 (fun g => g)
  replace sp := sp.fr0 f2
  refine RunO.all rfl ?_
  cases hany : (part m l p).any (· != 0) with
  | false =>
    refine RunC.cond rfl (fun _ => ?_) (fun g => by cases g)
    exact RunC.seq (RunC.region (RunO.all rfl (RunC.ret ⟨_, rfl, rfl, f2⟩)))
  | true =>
    refine RunC.cond rfl (fun g => by cases g) (fun _ => RunC.skip ?_)
    have hwl : p < (W l).length := by rw [(ws l hl).2]; exact hp
    have slo : Sl h2 (.slice (some ⟨mb, 0, none⟩) 512 (exc 512)) 1 512 (is o) := om.all.sl (by rw [is_len, hol]) (by decide) (Cp.exc (Nat.le_refl _))
    refine RunC.seq (RunC.drawQ rfl ?_)
    refine RunQ.part 4 rfl ?_
    refine RunQ.indexA (s := 1) (k := l) rfl rfl rfl rfl rfl hl rfl ?_
    refine RunQ.load (v := slz (wb l) (lvN l)) rfl rfl (ow.ld (kc_w hl)) rfl ?_
    refine RunQ.part 1 rfl ?_
    refine RunQ.at (s := 1) (k := p) (u := .int .i64 ((W l).getD p 0)) rfl (fun _ => rfl) rfl rfl (slW ws hl) rfl rfl hp (by rw [is_part hwl, List.getD_eq_getElem?_getD, List.getElem?_eq_getElem hwl]; rfl) rfl rfl rfl ?_
    refine RunQ.part 4 rfl ?_
    refine RunQ.load (v := .pointer (some ⟨ob, 0, none⟩)) rfl rfl (ow.ld rfl) rfl ?_
    refine RunQ.part 2 rfl ?_
    refine RunQ.load (v := .slice (some ⟨mb, 0, none⟩) 512 (exc 512)) rfl rfl (oo.ld rfl) rfl ?_
    refine RunQ.part 2 rfl ?_
    refine RunQ.sliceSl (s := 1) (len := 512) rfl rfl rfl rfl rfl rfl slo (.some _ _ _) (.some _ _ _) (Nat.le_add_right _ _) s1 rfl ?_
    intro qv sq
    replace sq := sl_span hl hp hol sq
    refine RunQ.call rfl (equalI_ok (h := h2.lo h2.next) sp sq (by omega)) (fun v h1 q => by obtain ⟨_, rfl⟩ := q; exact Fr.refl _ _) rfl rfl rfl ?_
    rintro _ _ ⟨rfl, rfl⟩
    refine RunQ.lo ?_
    refine RunQ.all rfl ?_
    intro lw F
    exact RunC.ret ⟨_, rfl, rfl, f2.same F⟩
end Go.Proofs.Ytdcggjkcbheolaa
end
section
set_option linter.unusedVariables false
set_option maxRecDepth 100000
open Go Go.Am Go.RowKit
namespace Go.Proofs.Ytdcggjkcbheolaa
open Go.Proofs.Try
theorem many_ok {h : Heap} {l : Nat} (hl : l < 3) : RunF prog 109 [.int .i64 (l : Int)] h fun v h' => v = .int .i64 (lvN l : Nat) ∧ h = h' := by
  refine RunF.walk func109 rfl rfl ?_
  refine RunC.seq (RunC.region (RunO.all rfl ?_))
  refine RunC.seq (RunC.region (RunO.part 2 rfl ?_))
  rw [fw64 (x := (l : Int) + 1) (by omega) (by omega), show (l : Int) + 1 = ((l + 1 : Nat) : Int) by omega]
  refine RunO.callD (nodUnder_ok (k := l + 1) (by omega)) rfl rfl rfl ?_
  rintro _ _ ⟨rfl, rfl⟩
  obtain rfl | rfl | rfl : l = 0 ∨ l = 1 ∨ l = 2 := by omega
  all_goals exact RunO.all rfl (RunC.ret ⟨_, rfl, rfl, rfl⟩)
theorem kc_setw {iv ov mv fv : Value} {B : Nat} {ws js : Nat → Value} {l : Nat} (hl : l < 3) (v : Value) : (kc iv B ov mv ws js fv).set (4 + l * 1) v = kc iv B ov mv (fun k => if k = l then v else ws k) js fv := by
  obtain rfl | rfl | rfl : l = 0 ∨ l = 1 ∨ l = 2 := by omega
  all_goals rfl
theorem kc_setj {iv ov mv fv : Value} {B : Nat} {ws js : Nat → Value} {l : Nat} (hl : l < 3) (v : Value) : (kc iv B ov mv ws js fv).set (7 + l * 1) v = kc iv B ov mv ws (fun k => if k = l then v else js k) fv := by
  obtain rfl | rfl | rfl : l = 0 ∨ l = 1 ∨ l = 2 := by omega
  all_goals rfl
theorem kc_congr {iv ov mv fv : Value} {B : Nat} {ws js ws' js' : Nat → Value} (h1 : ∀ l, l < 3 → ws l = ws' l) (h2 : ∀ l, l < 3 → js l = js' l) : kc iv B ov mv ws js fv = kc iv B ov mv ws' js' fv := by
  unfold kc
  rw [h1 0 (by decide), h1 1 (by decide), h1 2 (by decide), h2 0 (by decide), h2 1 (by decide), h2 2 (by decide)]
/-- Is a node of the new tree a new one? -/
def newB (m o : List Int) (l p : Nat) : Bool := !(zrB m l p || smB m o l p)
def isI (W : Nat → List Int) (m : List Int) (l p : Nat) : Int := if zrB m l p then 0 else (W l).getD p 0
def news (m o : List Int) (l n : Nat) : List Nat := (List.range n).filter (newB m o l)
/-- The new nodes of the levels below one, and of its first places. -/
def freP (m o : List Int) (l n : Nat) : List (Nat × Nat) := ((List.range l).flatMap fun k => (news m o k (lvN k)).map fun p => (k, p)) ++ (news m o l n).map fun p => (l, p)
def fl (F : List (Nat × Nat)) : List Int := F.flatMap fun x => [(x.1 : Int), (x.2 : Int)]
def isT (W : Nat → List Int) (m : List Int) (l n k : Nat) : List Int := (List.range (lvN k)).map fun p => if k < l ∨ (k = l ∧ p < n) then isI W m k p else 0
theorem freP_succ (m o : List Int) (l n : Nat) : freP m o l (n + 1) = freP m o l n ++ (if newB m o l n then [(l, n)] else []) := by
  unfold freP news
  rw [List.range_succ, List.filter_append, List.map_append, List.append_assoc]
  congr 2
  cases h : newB m o l n <;> simp [h]
theorem freP_next (m o : List Int) (l : Nat) : freP m o l (lvN l) = freP m o (l + 1) 0 := by
  unfold freP
  rw [List.range_succ, List.flatMap_append]
  simp [news]
theorem freP_zero (m o : List Int) : freP m o 0 0 = [] := rfl
theorem fl_app (a b : List (Nat × Nat)) : fl (a ++ b) = fl a ++ fl b := List.flatMap_append
theorem fl_len (F : List (Nat × Nat)) : (fl F).length = 2 * F.length := by
  induction F with
  | nil => rfl
  | cons x F ih => show (_ :: _ :: fl F).length = _; rw [List.length_cons, List.length_cons, ih, List.length_cons]; omega
theorem freP_le (m o : List Int) (l n : Nat) (hl : l ≤ 3) (hn : n ≤ 64) : (freP m o l n).length ≤ 256 := by
  have hc : ∀ k n, (news m o k n).length ≤ n := fun k n => by unfold news; have := List.length_filter_le (newB m o k) (List.range n); rwa [List.length_range] at this
  have e0 : ∀ k, k ≤ 3 → ((List.range k).flatMap fun k => (news m o k (lvN k)).map fun p => (k, p)).length ≤ k * 64 := by
    intro k
    induction k with
    | zero => intro _; exact Nat.le_refl _
    | succ k ih =>
      intro hk
      rw [List.range_succ, List.flatMap_append, List.length_append]
      have h1 := ih (by omega)
      have h2 := hc k (lvN k)
      have h3 := lvN_le (show k < 3 by omega)
      simp only [List.flatMap_cons, List.flatMap_nil, List.append_nil, List.length_map]
      omega
  unfold freP
  rw [List.length_append, List.length_map]
  have := e0 l hl
  have := hc l n
  omega
theorem isT_len (W : Nat → List Int) (m : List Int) (l n k : Nat) : (isT W m l n k).length = lvN k := by unfold isT; rw [List.length_map, List.length_range]
theorem isT_get (W : Nat → List Int) (m : List Int) (l n k : Nat) {p : Nat} (hp : p < lvN k) : (isT W m l n k)[p]? = some (if k < l ∨ (k = l ∧ p < n) then isI W m k p else 0) := by
  unfold isT; rw [List.getElem?_map, List.getElem?_range hp]; rfl
theorem isT_succ (W : Nat → List Int) (m : List Int) {l n : Nat} (hn : n < lvN l) : setW (isT W m l n) l n (isI W m l n) = isT W m l (n + 1) := by
  funext k
  unfold setW
  apply List.ext_getElem?
  intro p
  by_cases hp : p < lvN k
  · rw [isT_get _ _ _ _ _ hp]
    by_cases e : k = l
    · subst e
      rw [if_pos rfl, List.getElem?_set, isT_len]
      by_cases c : n = p
      · subst c; rw [if_pos rfl, if_pos hn, if_pos (by omega)]
      · rw [if_neg c, isT_get _ _ _ _ _ hp]
        by_cases c2 : p < n
        · rw [if_pos (by omega), if_pos (by omega)]
        · rw [if_neg (by omega), if_neg (by omega)]
    · rw [if_neg e, isT_get _ _ _ _ _ hp]
      by_cases c2 : k < l
      · rw [if_pos (by omega), if_pos (by omega)]
      · rw [if_neg (by omega), if_neg (by omega)]
  · have h1 : (if k = l then (isT W m l n k).set n (isI W m l n) else isT W m l n k).length = lvN k := by
      split
      · rw [List.length_set, isT_len]
      · rw [isT_len]
    rw [List.getElem?_eq_none (by omega), List.getElem?_eq_none (by rw [isT_len]; omega)]
theorem isT_next (W : Nat → List Int) (m : List Int) (l : Nat) : isT W m l (lvN l) = isT W m (l + 1) 0 := by
  funext k
  unfold isT
  apply List.map_congr_left
  intro p hp
  rw [List.mem_range] at hp
  by_cases c : k < l ∨ k = l ∧ p < lvN l
  · rw [if_pos c, if_pos (by omega)]
  · rw [if_neg c, if_neg ?_]
    intro g
    rcases g with g | g
    · by_cases e : k = l
      · subst e; exact c (.inr ⟨rfl, hp⟩)
      · omega
    · omega
/-- A maker that has planned. -/
structure KW (lo : Nat) (h : Heap) (kb : Nat) (iv : Value) (B : Nat) (ov mv : Value) (wb jb : Nat → Nat) (fv : Value) (W J : Nat → List Int) (F : List (Nat × Nat)) : Prop where
  ow : Ow h kb (kc iv B ov mv (fun l => slz (wb l) (lvN l)) (fun l => slz (jb l) (lvN l)) fv)
  ws : WS h wb W
  js : WS h jb J
  row : Row lo h fv 1 (fl F).length (is (fl F))
  ln : lo ≤ h.next
/-- Its blocks lie apart. -/
structure KS (lo0 lo kb : Nat) (wb jb : Nat → Nat) : Prop where
  wi : ∀ l k, l < 3 → k < 3 → wb l = wb k → l = k
  ji : ∀ l k, l < 3 → k < 3 → jb l = jb k → l = k
  wj : ∀ l k, l < 3 → k < 3 → wb l ≠ jb k
  w0 : ∀ l, l < 3 → lo0 ≤ wb l ∧ wb l < lo ∧ wb l ≠ kb
  j0 : ∀ l, l < 3 → lo0 ≤ jb l ∧ jb l < lo ∧ jb l ≠ kb
  k0 : kb < lo
end Go.Proofs.Ytdcggjkcbheolaa
end
section
set_option linter.unusedVariables false
set_option maxRecDepth 100000
open Go Go.Am Go.RowKit
namespace Go.Proofs.Ytdcggjkcbheolaa
open Go.Proofs.Try
theorem zero_get (n j : Nat) : (List.replicate n (0 : Int)).getD j 0 = 0 := by
  rw [List.getD_eq_getElem?_getD, List.getElem?_replicate]; split <;> rfl
/-- An old tree's walk below a bound, apart from a block. -/
def KOk (h : Heap) (hi kb : Nat) (ov : Value) (o ns : List Int) : Prop := ∃ ob mb iv B nv, ov = .pointer (some ⟨ob, 0, none⟩) ∧ Ow h ob (wc iv B (.slice (some ⟨mb, 0, none⟩) 512 (exc 512)) nv false) ∧ Ow h mb (is o) ∧ o.length = 512 ∧ Sl h nv 1 ns.length (is ns) ∧ ob ≠ kb ∧ ob < hi ∧ mb ≠ kb ∧ mb < hi ∧ Away hi kb nv ns.length
theorem KOk.ko {h : Heap} {hi kb : Nat} {ov : Value} {o ns : List Int} (k : KOk h hi kb ov o ns) : KO h ov o ns := by
  obtain ⟨ob, mb, iv, B, nv, h1, h2, h3, h4, h5, _⟩ := k
  exact ⟨ob, mb, iv, B, nv, h1, h2, h3, h4, h5⟩
theorem KOk.fr {h h' : Heap} {hi kb : Nat} {ov : Value} {o ns : List Int} {M : Nat → Prop} (k : KOk h hi kb ov o ns) (f : Fr M h h') (hM : ∀ b, M b → b = kb ∨ hi ≤ b) : KOk h' hi kb ov o ns := by
  obtain ⟨ob, mb, iv, B, nv, h1, h2, h3, h4, h5, h6, h7, h8, h9, h10⟩ := k
  exact ⟨ob, mb, iv, B, nv, h1, h2.fr f (fun g => by rcases hM _ g with e | e <;> omega), h3.fr f (fun g => by rcases hM _ g with e | e <;> omega), h4, sl_away h5 h10 hM f, h6, h7, h8, h9, h10⟩
def wasT (L : List Int) (B : Nat) (root : Int) (l : Nat) : List Int := (List.range (lvN l)).map fun j => look L B (2 - l) root j
theorem wasT_len (L : List Int) (B : Nat) (root : Int) (l : Nat) : (wasT L B root l).length = lvN l := by unfold wasT; rw [List.length_map, List.length_range]
def kN : Value := .slice none 0 0
/-- So many levels have their rows. -/
structure K1 (h0 h : Heap) (kb : Nat) (iv : Value) (B : Nat) (ov mv : Value) (i : Nat) (wb jb : Nat → Nat) : Prop where
  ow : Ow h kb (kc iv B ov mv (fun l => if l < i then slz (wb l) (lvN l) else kN) (fun l => if l < i then slz (jb l) (lvN l) else kN) kN)
  w : ∀ l, l < i → Ow h (wb l) (is (List.replicate (lvN l) 0)) ∧ h0.next ≤ wb l
  j : ∀ l, l < i → Ow h (jb l) (is (List.replicate (lvN l) 0)) ∧ h0.next ≤ jb l
  wi : ∀ l k, l < i → k < i → wb l = wb k → l = k
  ji : ∀ l k, l < i → k < i → jb l = jb k → l = k
  wj : ∀ l k, l < i → k < i → wb l ≠ jb k
set_option maxHeartbeats 16000000 in
theorem plan_ok {h : Heap} {kb B : Nat} {iv ov mv : Value} {L m o ns : List Int} {root : Int} (hb : Byt L) (hB : B * 64 ≤ L.length) (hm : L.length ≤ 4611686018427387904) (hml : m.length = 512) (sl : Sl h iv 1 L.length (us L)) (smv : Sl h mv 1 512 (is m)) (ko : KOk h h.next kb ov o ns)
    (ha : Away h.next kb iv L.length) (hma : Away h.next kb mv 512) (ow : Ow h kb (kc iv B ov mv (fun _ => kN) (fun _ => kN) kN)) :
    RunF prog 72 [.pointer (some ⟨kb, 0, none⟩), .int .i64 root] h fun v h' => v = .tuple #[] ∧ Fr (· = kb) h h' ∧ ∃ lo wb jb fv, KS h.next lo kb wb jb ∧ KW lo h' kb iv B ov mv wb jb fv (wasT L B root) (isT (wasT L B root) m 3 0) (freP m o 3 0) := by
  have hkb := ow.1
  refine RunF.walk func72 rfl rfl ?_
  -- the rows
  refine RunC.seqc (fun E' h' => Fr (· = kb) h h' ∧ Le (upd (upd E0 0 (.pointer (some ⟨kb, 0, none⟩))) 1 (.int .i64 root)) E' ∧ ∃ wb jb, K1 h h' kb iv B ov mv 3 wb jb) ?_ ?_
  · refine RunC.seq (RunC.region (RunO.all rfl ?_))
    refine RunC.block ?_
    let I : Nat → Env → Heap → Prop := fun d E h' => ∃ (i : Nat) (wb jb : Nat → Nat), i + d = 3 ∧ K1 h h' kb iv B ov mv i wb jb ∧ Fr (· = kb) h h' ∧ Le (upd (upd (upd E0 0 (.pointer (some ⟨kb, 0, none⟩))) 1 (.int .i64 root)) 9 (.int .i64 (i : Int))) E
    refine RunC.loop I ?_ (k := 3) ?_
    · rintro d E h1 ⟨i, wb, jb, hid, t, F1, hE⟩
      refine RunC.le hE ?_
      clear hE
      refine RunC.seq (RunC.region (RunO.all rfl ?_))
      refine RunC.seq (RunC.cond rfl (fun hlt => RunC.skip ?_) (fun hge => ?_))
      · have hlt := of_decide_eq_true hlt
        have hi3 : i < 3 := by omega
        have hN := lvN_le hi3
        have hh1 := F1.next
        refine RunC.seq (RunC.block ?_)
        refine RunC.seq (RunC.region (RunO.all rfl ?_))
        -- was
        refine RunC.seq (RunC.draw0 rfl ?_)
        refine RunO.part 3 rfl ?_
        refine RunO.callD (many_ok hi3) rfl rfl rfl ?_
        rintro _ _ ⟨rfl, rfl⟩
        refine RunO.make (m := lvN i) rfl rfl rfl rfl rfl rfl (show 8 * lvN i ≤ _ by omega) (by omega) rfl ?_
        rw [reps_is]
        have o1 := Ow.push h1 (is (List.replicate (lvN i) 0))
        have f1 : Fr no h1 (h1.push ⟨is (List.replicate (lvN i) 0), true⟩) := Fr.push _ _ _
        obtain ⟨b1, hb1⟩ : ∃ b1, b1 = h1.next := ⟨_, rfl⟩
        rw [← hb1] at o1 ⊢
        have ow1 := t.ow.fr f1 (fun g => g)
        have w1 : ∀ l, l < i → Ow (h1.push ⟨is (List.replicate (lvN i) 0), true⟩) (wb l) (is (List.replicate (lvN l) 0)) ∧ wb l < b1 := fun l hl => ⟨(t.w l hl).1.fr f1 (fun g => g), by rw [hb1]; exact (t.w l hl).1.1⟩
        have j1 : ∀ l, l < i → Ow (h1.push ⟨is (List.replicate (lvN i) 0), true⟩) (jb l) (is (List.replicate (lvN l) 0)) ∧ jb l < b1 := fun l hl => ⟨(t.j l hl).1.fr f1 (fun g => g), by rw [hb1]; exact (t.j l hl).1.1⟩
        generalize h1.push ⟨is (List.replicate (lvN i) 0), true⟩ = h2 at *
        obtain ⟨K2, hK2⟩ : ∃ K2, K2 = kc iv B ov mv (fun k => if k = i then slz b1 (lvN i) else if k < i then slz (wb k) (lvN k) else kN) (fun l => if l < i then slz (jb l) (lvN l) else kN) kN := ⟨_, rfl⟩
        refine RunO.part 2 rfl ?_
        refine RunO.indexA (s := 1) (k := i) rfl rfl rfl rfl rfl hi3 rfl ?_
        refine RunO.store (h1 := h2.put kb (some ⟨K2, true⟩)) rfl rfl ?_ (RunO.nil ?_)
        · refine (store1_ow ow1 rfl rfl rfl (by show 0 + 4 + i * 1 < 11; omega)).trans ?_
          show some (h2.put kb (some ⟨List.set _ (0 + 4 + i * 1) _, true⟩)) = _
          rw [show 0 + 4 + i * 1 = 4 + i * 1 by omega, kc_setw hi3, hK2]; rfl
        have f2 : Fr (· = kb) h2 (h2.put kb (some ⟨K2, true⟩)) := Fr.put _ (.inl rfl)
        have ow2 := Ow.put (h := h2) (b := kb) K2 ow1.1
        have o2 := o1.fr f2 (show ¬ b1 = kb by omega)
        have w2 : ∀ l, l < i → Ow (h2.put kb (some ⟨K2, true⟩)) (wb l) (is (List.replicate (lvN l) 0)) := fun l hl => (w1 l hl).1.fr f2 (by have := (t.w l hl).2; show ¬ wb l = kb; omega)
        have j2 : ∀ l, l < i → Ow (h2.put kb (some ⟨K2, true⟩)) (jb l) (is (List.replicate (lvN l) 0)) := fun l hl => (j1 l hl).1.fr f2 (by have := (t.j l hl).2; show ¬ jb l = kb; omega)
        have F2 : Fr (· = kb) h (h2.put kb (some ⟨K2, true⟩)) := (F1.quiet f1).same f2
        have hn2 : b1 < h2.next := o1.1
        have hn3 : (h2.put kb (some ⟨K2, true⟩)).next = h2.next := rfl
        generalize h2.put kb (some ⟨K2, true⟩) = h3 at *
        -- is
        refine RunC.draw0 rfl ?_
        refine RunO.part 3 rfl ?_
        refine RunO.callD (many_ok hi3) rfl rfl rfl ?_
        rintro _ _ ⟨rfl, rfl⟩
        refine RunO.make (m := lvN i) rfl rfl rfl rfl rfl rfl (show 8 * lvN i ≤ _ by omega) (by omega) rfl ?_
        rw [reps_is]
        have o3 := Ow.push h3 (is (List.replicate (lvN i) 0))
        have f3 : Fr no h3 (h3.push ⟨is (List.replicate (lvN i) 0), true⟩) := Fr.push _ _ _
        obtain ⟨b2, hb2⟩ : ∃ b2, b2 = h3.next := ⟨_, rfl⟩
        rw [← hb2] at o3 ⊢
        have ow3 := ow2.fr f3 (fun g => g)
        replace o2 := o2.fr f3 (fun g => g)
        have w3 := fun l (hl : l < i) => (w2 l hl).fr f3 (fun g => g)
        have j3 := fun l (hl : l < i) => (j2 l hl).fr f3 (fun g => g)
        have F3 := F2.quiet f3
        generalize h3.push ⟨is (List.replicate (lvN i) 0), true⟩ = h4 at *
        have hcg : K2.set (7 + i * 1) (slz b2 (lvN i)) =
            kc iv B ov mv (fun l => if l < i + 1 then slz (if l = i then b1 else wb l) (lvN l) else kN) (fun l => if l < i + 1 then slz (if l = i then b2 else jb l) (lvN l) else kN) kN := by
          rw [hK2, kc_setj hi3]
          refine kc_congr (fun l hl => ?_) (fun l hl => ?_)
          · by_cases e : l = i
            · subst e; simp
            · simp only [if_neg e]
              by_cases c : l < i
              · rw [if_pos c, if_pos (by omega)]
              · rw [if_neg c, if_neg (by omega)]
          · by_cases e : l = i
            · subst e; simp
            · simp only [if_neg e]
              by_cases c : l < i
              · rw [if_pos c, if_pos (by omega)]
              · rw [if_neg c, if_neg (by omega)]
        obtain ⟨K4, hK4⟩ : ∃ K4, K4 = kc iv B ov mv (fun l => if l < i + 1 then slz (if l = i then b1 else wb l) (lvN l) else kN) (fun l => if l < i + 1 then slz (if l = i then b2 else jb l) (lvN l) else kN) kN := ⟨_, rfl⟩
        refine RunO.part 2 rfl ?_
        refine RunO.indexA (s := 1) (k := i) rfl rfl rfl rfl rfl hi3 rfl ?_
        refine RunO.store (h1 := h4.put kb (some ⟨K4, true⟩)) rfl rfl ?_ (RunO.nil ?_)
        · refine (store1_ow ow3 rfl rfl rfl (by rw [hK2]; show 0 + 7 + i * 1 < 11; omega)).trans ?_
          show some (h4.put kb (some ⟨List.set _ (0 + 7 + i * 1) _, true⟩)) = _
          rw [show 0 + 7 + i * 1 = 7 + i * 1 by omega, hK4, ← hcg]; rfl
        have f4 : Fr (· = kb) h4 (h4.put kb (some ⟨K4, true⟩)) := Fr.put _ (.inl rfl)
        refine RunC.region (RunO.all rfl ?_)
        refine ⟨d - 1, by omega, i + 1, fun l => if l = i then b1 else wb l, fun l => if l = i then b2 else jb l, by omega, ⟨by rw [← hK4]; exact Ow.put _ ow3.1, fun l hl => ?_, fun l hl => ?_, fun l k hl hk e => ?_, fun l k hl hk e => ?_, fun l k hl hk e => ?_⟩, F3.same f4, Le.cons (inc64 (by omega)) (Le.cons rfl (Le.cons rfl (Le.nil _)))⟩
        · by_cases e : l = i
          · subst e
            simp only [if_pos]
            exact ⟨o2.fr f4 (show ¬ b1 = kb by omega), by omega⟩
          · simp only [if_neg e]
            have := (t.w l (by omega)).2
            exact ⟨(w3 l (by omega)).fr f4 (show ¬ wb l = kb by omega), this⟩
        · by_cases e : l = i
          · subst e
            simp only [if_pos]
            exact ⟨o3.fr f4 (show ¬ b2 = kb by omega), by omega⟩
          · simp only [if_neg e]
            have := (t.j l (by omega)).2
            exact ⟨(j3 l (by omega)).fr f4 (show ¬ jb l = kb by omega), this⟩
        · by_cases e1 : l = i
          · by_cases e2 : k = i
            · omega
            · simp only [if_pos e1, if_neg e2] at e
              have := (w1 k (by omega)).2
              omega
          · by_cases e2 : k = i
            · simp only [if_neg e1, if_pos e2] at e
              have := (w1 l (by omega)).2
              omega
            · simp only [if_neg e1, if_neg e2] at e
              exact t.wi l k (by omega) (by omega) e
        · by_cases e1 : l = i
          · by_cases e2 : k = i
            · omega
            · simp only [if_pos e1, if_neg e2] at e
              have := (j1 k (by omega)).2
              omega
          · by_cases e2 : k = i
            · simp only [if_neg e1, if_pos e2] at e
              have := (j1 l (by omega)).2
              omega
            · simp only [if_neg e1, if_neg e2] at e
              exact t.ji l k (by omega) (by omega) e
        · by_cases e1 : l = i
          · by_cases e2 : k = i
            · simp only [if_pos e1, if_pos e2] at e
              omega
            · simp only [if_pos e1, if_neg e2] at e
              have := (j1 k (by omega)).2
              omega
          · by_cases e2 : k = i
            · simp only [if_neg e1, if_pos e2] at e
              have := (w1 l (by omega)).2
              omega
            · simp only [if_neg e1, if_neg e2] at e
              exact t.wj l k (by omega) (by omega) e
      · have hge := of_decide_eq_false hge
        obtain rfl : i = 3 := by omega
        exact RunC.exit ⟨F1, Le.cons rfl (Le.cons rfl (Le.nil _)), wb, jb, t⟩
    · exact ⟨0, fun _ => 0, fun _ => 0, by omega, ⟨ow, fun l h => absurd h (Nat.not_lt_zero l), fun l h => absurd h (Nat.not_lt_zero l), fun l k h => absurd h (Nat.not_lt_zero l), fun l k h => absurd h (Nat.not_lt_zero l), fun l k h => absurd h (Nat.not_lt_zero l)⟩, Fr.refl _ _, Le.cons rfl (Le.cons rfl (Le.cons rfl (Le.nil _)))⟩
  rintro E' h1 ⟨F1, hE, wb, jb, t⟩
  refine RunC.le hE ?_
  clear hE
  have hcg : kc iv B ov mv (fun l => if l < 3 then slz (wb l) (lvN l) else kN) (fun l => if l < 3 then slz (jb l) (lvN l) else kN) kN = kc iv B ov mv (fun l => slz (wb l) (lvN l)) (fun l => slz (jb l) (lvN l)) kN := kc_congr (fun l hl => by rw [if_pos hl]) (fun l hl => by rw [if_pos hl])
  have ow1 := t.ow
  rw [hcg] at ow1
  clear hcg
  have ks : KS h.next h1.next kb wb jb := ⟨t.wi, t.ji, t.wj, fun l hl => ⟨(t.w l hl).2, (t.w l hl).1.1, by have := (t.w l hl).2; omega⟩, fun l hl => ⟨(t.j l hl).2, (t.j l hl).1.1, by have := (t.j l hl).2; omega⟩, by have := F1.next; omega⟩
  have sl1 := sl_away sl ha (fun b e => .inl e) F1
  have smv1 := sl_away smv hma (fun b e => .inl e) F1
  have ko1 := ko.fr F1 (fun b e => .inl e)
  have ws1 : WS h1 wb (fun l => List.replicate (lvN l) 0) := fun l hl => ⟨(t.w l hl).1, List.length_replicate⟩
  have js1 : WS h1 jb (fun l => List.replicate (lvN l) 0) := fun l hl => ⟨(t.j l hl).1, List.length_replicate⟩
  clear t
  -- what was
  refine RunC.seq (RunC.region (RunO.part 2 rfl ?_))
  refine RunO.callD (learn_ok hb hB hm ks.wi (fun l hl => (ks.w0 l hl).2.2) (fun b o c e l hl => by have := (ha b o c e).2; have := (ks.w0 l hl).1; omega) 2 (by decide) (at_ := root) (p := 0) sl1 ow1 ws1 (by decide) (fun l _ j _ => zero_get _ _)) rfl rfl rfl ?_
  rintro _ h2 ⟨rfl, f2, W, ws2, hW⟩
  refine RunO.nil ?_
  have hM2 : ∀ b, WM wb b → b = kb ∨ h.next ≤ b := fun b ⟨l, hl, e⟩ => .inr (by have := (ks.w0 l hl).1; omega)
  have sl2 := sl_away sl1 ha hM2 f2
  have smv2 := sl_away smv1 hma hM2 f2
  have ko2 := ko1.fr f2 hM2
  have ow2 := ow1.fr f2 (fun ⟨l, hl, e⟩ => (ks.w0 l hl).2.2 e.symm)
  have js2 := js1.fr f2 (fun l hl ⟨k, hk, e⟩ => ks.wj k l hk hl e.symm)
  have F2 : Fr (· = kb) h h2 := F1.trans f2 hM2
  have hWe : WS h2 wb (wasT L B root) := fun l hl => by
    have he : W l = wasT L B root l := by
      apply List.ext_getElem?
      intro j
      have hlen := (ws2 l hl).2
      by_cases hj : j < lvN l
      · have := hW l j
        rw [if_pos ⟨by omega, Nat.div_eq_of_lt hj⟩, show j % 8 ^ (2 - l) = j from Nat.mod_eq_of_lt hj] at this
        rw [List.getD_eq_getElem?_getD, List.getElem?_eq_getElem (by omega)] at this
        rw [List.getElem?_eq_getElem (by omega)]
        unfold wasT
        rw [List.getElem?_map, List.getElem?_range hj]
        exact congrArg some this
      · rw [List.getElem?_eq_none (by omega), List.getElem?_eq_none (by rw [wasT_len]; omega)]
    rw [← he]; exact ws2 l hl
  have hT0 : (fun l => List.replicate (lvN l) (0 : Int)) = isT (wasT L B root) m 0 0 := by
    funext l
    unfold isT
    rw [show (fun p => if l < 0 ∨ l = 0 ∧ p < 0 then isI (wasT L B root) m l p else 0) = fun _ => (0 : Int) by funext p; rw [if_neg (by omega)]]
    apply List.ext_getElem?
    intro j
    rw [List.getElem?_replicate, List.getElem?_map]
    by_cases hj : j < lvN l
    · rw [if_pos hj, List.getElem?_range hj]; rfl
    · rw [if_neg hj, List.getElem?_eq_none (by rw [List.length_range]; omega)]; rfl
  rw [hT0] at js2
  generalize wasT L B root = WT at *
  have kw2 : KW h1.next h2 kb iv B ov mv wb jb kN WT (isT WT m 0 0) (freP m o 0 0) := ⟨ow2, hWe, js2, Row.nil _ _ _, f2.next⟩
  have hlo : h.next ≤ h1.next := F1.next
  obtain ⟨lo, hloe⟩ : ∃ lo, lo = h1.next := ⟨_, rfl⟩
  rw [← hloe] at ks kw2 hlo
  clear f2 ws1 js1 ws2 hW hT0 ow1 ow2 sl1 smv1 ko1 js2 hWe W F1 hloe
  -- level by level
  refine RunC.seq (RunC.region (RunO.all rfl ?_))
  refine RunC.block ?_
  let I : Nat → Env → Heap → Prop := fun d E h' => ∃ (l : Nat) (fv : Value), l + d = 3 ∧ KW lo h' kb iv B ov mv wb jb fv WT (isT WT m l 0) (freP m o l 0) ∧ Sl h' mv 1 512 (is m) ∧ KOk h' h.next kb ov o ns ∧ Fr (· = kb) h h' ∧ Le (upd (upd E0 0 (.pointer (some ⟨kb, 0, none⟩))) 32 (.int .i64 (l : Int))) E
  refine RunC.loop I ?_ (k := 3) ?_
  · rintro d E h3 ⟨l, fv, hld, kw, sm3, ko3, F3, hE⟩
    refine RunC.le hE ?_
    clear hE
    refine RunC.seq (RunC.region (RunO.all rfl ?_))
    refine RunC.seq (RunC.cond rfl (fun hlt => RunC.skip ?_) (fun hge => ?_))
    · have hlt := of_decide_eq_true hlt
      have hl3 : l < 3 := by omega
      have hN := lvN_le hl3
      refine RunC.seq (RunC.block ?_)
      refine RunC.seq (RunC.region (RunO.all rfl ?_))
      refine RunC.seq (RunC.region (RunO.part 4 rfl ?_))
      refine RunO.indexA (s := 1) (k := l) rfl rfl rfl rfl rfl hl3 rfl ?_
      refine RunO.load (v := slz (jb l) (lvN l)) rfl (kw.ow.ld (kc_j hl3)) rfl (RunO.all rfl ?_)
      refine RunC.block ?_
      let J : Nat → Env → Heap → Prop := fun e E h' => ∃ (p : Nat) (fv : Value), p + e = lvN l ∧ KW lo h' kb iv B ov mv wb jb fv WT (isT WT m l p) (freP m o l p) ∧ Sl h' mv 1 512 (is m) ∧ KOk h' h.next kb ov o ns ∧ Fr (· = kb) h h' ∧ Le (upd (upd (upd (upd (upd E0 0 (.pointer (some ⟨kb, 0, none⟩))) 5 (.int .i64 (l : Int))) 32 (.int .i64 (l : Int))) 41 (.int .i64 (lvN l : Nat))) 42 (.int .i64 (p : Int))) E
      refine RunC.loop J ?_ (k := lvN l) ?_
      · rintro e E h4 ⟨p, fv4, hpe, kw4, sm4, ko4, F4, hE⟩
        refine RunC.le hE ?_
        clear hE kw
        refine RunC.seq (RunC.region (RunO.all rfl ?_))
        refine RunC.seq (RunC.cond rfl (fun hlt => RunC.skip ?_) (fun hge => ?_))
        · have hlt := of_decide_eq_true hlt
          have hp : p < lvN l := by omega
          have hfl := freP_le m o l p (by omega) (by omega)
          have hT := isT_succ WT m hp
          have hF := freP_succ m o l p
          have hjl := (ks.j0 l hl3)
          refine RunC.seq (RunC.block ?_)
          refine RunC.seq (RunC.region (RunO.all rfl ?_))
          refine RunC.seq (RunC.region (RunO.part 3 rfl ?_))
          refine RunO.callD (kept_ok kw4.ow kw4.ws sm4 hml ko4.ko hl3 hp) rfl rfl rfl ?_
          rintro _ h5 ⟨rfl, f5⟩
          refine RunO.all rfl ?_
          rw [show (if zrB m l p then 0 else (WT l).getD p 0) = isI WT m l p from rfl]
          have ow5 := kw4.ow.fr f5 (fun g => g)
          have ws5 := kw4.ws.fr f5 (fun _ _ g => g)
          have js5 := kw4.js.fr f5 (fun _ _ g => g)
          have row5 := kw4.row.fr f5 (fun _ _ _ g => g)
          have sm5 := sm4.fr0 f5
          have ko5 := ko4.fr f5 (fun _ g => g.elim)
          have F5 := F4.quiet f5
          have ln5 := Nat.le_trans kw4.ln f5.next
          clear kw4 f5 F4 sm4 ko4
          obtain ⟨e1, js6, f6⟩ := js5.set ks.ji hl3 hp (isI WT m l p)
          rw [hT] at js6
          refine RunC.seq (RunC.region (RunO.part 4 rfl ?_))
          refine RunO.indexA (s := 1) (k := l) rfl rfl rfl rfl rfl hl3 rfl ?_
          refine RunO.load (v := slz (jb l) (lvN l)) rfl (ow5.ld (kc_j hl3)) rfl ?_
          refine RunO.part 2 rfl ?_
          refine RunO.index (s := 1) (k := p) rfl rfl rfl rfl hp rfl ?_
          refine RunO.store rfl rfl e1 (RunO.nil ?_)
          have hM6 : ∀ b, b = jb l → b = kb ∨ h.next ≤ b := fun b e => .inr (by omega)
          have ow6 := ow5.fr f6 (fun e => hjl.2.2 e.symm)
          have ws6 := ws5.fr f6 (fun k hk e => ks.wj k l hk hl3 e)
          have row6 := row5.fr f6 (fun b h1 _ e => by omega)
          have sm6 := sl_away sm5 hma hM6 f6
          have ko6 := ko5.fr f6 hM6
          have F6 : Fr (· = kb) h _ := F5.trans f6 hM6
          have ln6 := Nat.le_trans ln5 f6.next
          clear e1 ow5 ws5 js5 row5 sm5 ko5 F5 f6 hT ln5
          generalize h5.put (jb l) (some ⟨is ((isT WT m l p l).set p (isI WT m l p)), true⟩) = h6 at *
          refine RunC.seq (RunC.region (RunO.all rfl ?_))
          have hnb : newB m o l p = !(zrB m l p || smB m o l p) := rfl
          rw [← hnb]
          cases hn : newB m o l p with
          | false =>
            rw [hn] at hF
            rw [if_neg Bool.false_ne_true, List.append_nil] at hF
            refine RunC.cond rfl (fun g => by cases g) (fun _ => RunC.skip ?_)
            refine RunC.region (RunO.all rfl ?_)
            refine ⟨e - 1, by omega, p + 1, fv4, by omega, ⟨ow6, ws6, js6, ?_, ln6⟩, sm6, ko6, F6, Le.cons (inc64 (by omega)) (Le.cons rfl (Le.cons rfl (Le.cons rfl (Le.cons rfl (Le.nil _)))))⟩
            rw [hF]; exact row6
          | true =>
            rw [hn, if_pos rfl] at hF
            refine RunC.cond rfl (fun _ => ?_) (fun g => by cases g)
            refine RunC.region (RunO.part 4 rfl ?_)
            refine RunO.load (v := fv4) rfl (ow6.ld rfl) rfl ?_
            refine RunO.part 3 (h1 := h6.push ⟨is [(l : Int), (p : Int)], true⟩) rfl ?_
            have fp : Fr no h6 (h6.push ⟨is [(l : Int), (p : Int)], true⟩) := Fr.push _ _ _
            have ob := Ow.push h6 (is [(l : Int), (p : Int)])
            replace ow6 := ow6.fr fp (fun g => g)
            replace ws6 := ws6.fr fp (fun _ _ g => g)
            replace js6 := js6.fr fp (fun _ _ g => g)
            replace row6 := row6.fr fp (fun _ _ _ g => g)
            replace sm6 := sm6.fr0 fp
            replace ko6 := ko6.fr fp (fun _ g => g.elim)
            replace F6 := F6.quiet fp
            replace ln6 := Nat.le_trans ln6 fp.next
            clear fp
            generalize h6.push ⟨is [(l : Int), (p : Int)], true⟩ = h7 at *
            have hfl2 := fl_len (freP m o l p)
            refine RunO.append2 (s := 1) (m := 2) rfl rfl rfl rfl rfl rfl rfl rfl (Nat.le_refl 1) row6 ob.all rfl (by decide) rfl (by show 2 * (_ + 2) * 8 ≤ _; omega) (by omega) ?_
            intro fv8 h8 row8 f8
            have hat : ∀ b, At fv4 b → lo ≤ b := fun b ha => (row6.at ha).1
            have hk0 := ks.k0
            have hM8 : ∀ b, At fv4 b → b = kb ∨ h.next ≤ b := fun b g => .inr (Nat.le_trans hlo (hat b g))
            have ow8 := ow6.fr f8 (fun g => by have := hat _ g; omega)
            have ws8 := ws6.fr f8 (fun k hk g => by have := hat _ g; have := (ks.w0 k hk).2.1; omega)
            have js8 := js6.fr f8 (fun k hk g => by have := hat _ g; have := (ks.j0 k hk).2.1; omega)
            have sm8 := sl_away sm6 hma hM8 f8
            have ko8 := ko6.fr f8 hM8
            have F8 : Fr (· = kb) h h8 := F6.trans f8 hM8
            have ln8 := Nat.le_trans ln6 f8.next
            refine RunO.part 2 rfl ?_
            refine RunO.store rfl rfl (store1_ow ow8 rfl row8.cell.1 row8.cell.2 (Nat.le_of_ble_eq_true rfl)) (RunO.all rfl ?_)
            change RunC _ _ _ _ (h8.put kb (some ⟨kc iv B ov mv (fun l => slz (wb l) (lvN l)) (fun l => slz (jb l) (lvN l)) fv8, true⟩)) _ _ _
            have fw : Fr (· = kb) h8 (h8.put kb (some ⟨kc iv B ov mv (fun l => slz (wb l) (lvN l)) (fun l => slz (jb l) (lvN l)) fv8, true⟩)) := Fr.put _ (.inl rfl)
            refine RunC.region (RunO.all rfl ?_)
            refine ⟨e - 1, by omega, p + 1, fv8, by omega, ⟨Ow.put _ ow8.1, ws8.fr fw (fun k hk e => (ks.w0 k hk).2.2 e), js8.fr fw (fun k hk e => (ks.j0 k hk).2.2 e), ?_, Nat.le_trans ln8 fw.next⟩, sl_away sm8 hma (fun b e => .inl e) fw, ko8.fr fw (fun b e => .inl e), F8.same fw, Le.cons (inc64 (by omega)) (Le.cons rfl (Le.cons rfl (Le.cons rfl (Le.cons rfl (Le.nil _)))))⟩
            have hfF : fl (freP m o l p ++ [(l, p)]) = fl (freP m o l p) ++ [(l : Int), (p : Int)] := by rw [fl_app]; rfl
            rw [hF, hfF, is_app, List.length_append]
            exact (Row.lo row8 ln6).fr fw (fun b h1 _ e => by omega)
        · have hge := of_decide_eq_false hge
          obtain rfl : p = lvN l := by omega
          refine RunC.exit ?_
          refine RunC.region (RunO.all rfl ?_)
          rw [isT_next, freP_next] at kw4
          exact ⟨d - 1, by omega, l + 1, fv4, by omega, kw4, sm4, ko4, F4, Le.cons (inc64 (by omega)) (Le.cons rfl (Le.nil _))⟩
      · exact ⟨0, fv, by omega, kw, sm3, ko3, F3, Le.cons rfl (Le.cons rfl (Le.cons rfl (Le.cons rfl (Le.cons rfl (Le.nil _)))))⟩
    · have hge := of_decide_eq_false hge
      obtain rfl : l = 3 := by omega
      exact RunC.exit ⟨_, rfl, rfl, F3, lo, wb, jb, fv, ks, kw⟩
  · exact ⟨0, kN, by omega, kw2, smv2, ko2, F2, Le.cons rfl (Le.cons rfl (Le.nil _))⟩
end Go.Proofs.Ytdcggjkcbheolaa
end
section
set_option linter.unusedVariables false
set_option maxRecDepth 100000
open Go Go.Am Go.RowKit
namespace Go.Proofs.Ytdcggjkcbheolaa
open Go.Proofs.Try
/-- Why there is no new tree. -/
def beginE (L : List Int) (root : Int) (m : List Int) : Int := if treeE L root = 0 then mapE m (L.length / 64 : Nat) else treeE L root
theorem beginE_ok {L : List Int} {root : Int} {m : List Int} (h : beginE L root m = 0) : treeE L root = 0 ∧ mapE m (L.length / 64 : Nat) = 0 ∧ m.length = 512 := by
  unfold beginE at h
  split at h
  · rename_i h1
    refine ⟨h1, h, ?_⟩
    unfold mapE at h
    split at h
    · assumption
    · cases h
  · rename_i h1; exact absurd h h1
set_option maxHeartbeats 8000000 in
theorem begin_ok {h : Heap} {iv mv : Value} {L m : List Int} {root : Int} (sl : Sl h iv 1 L.length (us L)) (hb : Byt L) (hm : L.length ≤ 4611686018427387904) (smv : Sl h mv 1 m.length (is m)) :
    RunF prog 45 [iv, .int .i64 root, mv] h fun v h' => Fr no h h' ∧ ((beginE L root m = 0 ∧ ∃ kb lo wb jb fv ov, v = .tuple #[.pointer (some ⟨kb, 0, none⟩), .int .i64 0] ∧ h.next ≤ kb ∧ KS h.next lo kb wb jb ∧
      KW lo h' kb iv (L.length / 64) ov mv wb jb fv (wasT L (L.length / 64) root) (isT (wasT L (L.length / 64) root) m 3 0) (freP m (treeM L root) 3 0) ∧ KOk h' lo kb ov (treeM L root) (treeN L root)) ∨ (beginE L root m ≠ 0 ∧ v = .tuple #[.pointer none, .int .i64 (beginE L root m)])) := by
  refine RunF.walk func45 rfl rfl ?_
  refine RunC.seq (RunC.region (RunO.all rfl ?_))
  refine RunC.seq (RunC.region (RunO.part 2 rfl ?_))
  refine RunO.callD (treeMapS_ok (root := root) sl hb hm) rfl rfl rfl ?_
  rintro _ h1 ⟨f1, gv, rfl, _⟩
  have sl1 := sl.fr0 f1
  have smv1 := smv.fr0 f1
  refine RunO.all rfl ?_
  refine RunC.seq (RunC.seq (RunC.region (RunO.all rfl ?_)))
  by_cases he : treeE L root = 0
  case neg =>
    have hE : beginE L root m = treeE L root := by unfold beginE; rw [if_neg he]
    rw [hE, show (treeE L root != 0) = true from bne_iff_ne.2 he]
    refine RunC.cond rfl (fun _ => ?_) (fun g => by cases g)
    exact RunC.seq (RunC.region (RunO.all rfl (RunC.ret ⟨_, rfl, f1, .inr ⟨he, rfl⟩⟩)))
  have hE : beginE L root m = mapE m (L.length / 64 : Nat) := by unfold beginE; rw [if_pos he]
  rw [hE, show (treeE L root != 0) = false by rw [he]; rfl]
  obtain ⟨hok, hdev⟩ := treeE_ok he
  have hdl : L.length % 64 = 0 ∧ 4 ≤ L.length / 64 ∧ L.length / 64 ≤ 4096 := by
    have hdev := hdev
    unfold devOk at hdev
    simpa using hdev
  refine RunC.cond rfl (fun g => by cases g) (fun _ => RunC.skip ?_)
  have hAlt : ∀ b o c, iv = .slice (some ⟨b, o, none⟩) L.length c → b < h.next := fun b o c e => by
    obtain ⟨A, c', rfl, hc, hA⟩ := sl.form
    obtain ⟨b', o', rfl, rd⟩ := hA (by omega)
    cases e; exact rd.2.1
  have hMlt : ∀ b o c, mv = .slice (some ⟨b, o, none⟩) m.length c → b < h.next := fun b o c e => by
    rcases smv.2.2 with ⟨g1, _⟩ | ⟨b', o', c', g1, _, rd⟩
    · rw [e] at g1; cases g1
    · rw [e] at g1; cases g1; exact rd.2.1
  obtain ⟨A, c, hive, _, _⟩ := sl.form
  obtain ⟨mA, mc, hmve, _, _⟩ := smv.form
  subst hive
  subst hmve
  have hn1 := f1.next
  -- the maker
  refine RunC.seq (RunC.region (RunO.all (h1 := h1.push ⟨kc (.slice A L.length c) 0 (.pointer none) (.slice mA m.length mc) (fun _ => kN) (fun _ => kN) kN, true⟩) rfl ?_))
  have ow := Ow.push h1 (kc (.slice A L.length c) 0 (.pointer none) (.slice mA m.length mc) (fun _ => kN) (fun _ => kN) kN)
  have f2 : Fr no h1 (h1.push ⟨kc (.slice A L.length c) 0 (.pointer none) (.slice mA m.length mc) (fun _ => kN) (fun _ => kN) kN, true⟩) := Fr.push _ _ _
  generalize h1.push ⟨kc (.slice A L.length c) 0 (.pointer none) (.slice mA m.length mc) (fun _ => kN) (fun _ => kN) kN, true⟩ = h2 at *
  obtain ⟨kb, hkb⟩ : ∃ kb, kb = h1.next := ⟨_, rfl⟩
  rw [← hkb] at ow ⊢
  have F2 := f1.same f2
  have sl2 := sl1.fr0 f2
  have smv2 := smv1.fr0 f2
  refine RunC.seq (RunC.region (RunO.part 2 rfl ?_))
  refine RunO.callD (devCheck_ok hm) rfl rfl rfl ?_
  rintro _ _ ⟨rfl, rfl⟩
  rw [hdev, if_pos rfl, if_pos rfl]
  obtain ⟨B, hBe⟩ : ∃ B, B = L.length / 64 := ⟨_, rfl⟩
  rw [← hBe] at hdl ⊢
  refine RunO.part 5 rfl ?_
  refine RunO.store rfl rfl (store1_ow ow rfl rfl rfl (Nat.le_of_ble_eq_true rfl)) (RunO.nil ?_)
  obtain ⟨iv, hiv⟩ : ∃ iv, iv = Value.slice A L.length c := ⟨_, rfl⟩
  obtain ⟨mv, hmv⟩ : ∃ mv, mv = Value.slice mA m.length mc := ⟨_, rfl⟩
  rw [← hiv] at sl sl2 hAlt ow ⊢
  rw [← hmv] at smv smv2 hMlt ow ⊢
  change RunC _ _ _ _ (h2.put kb (some ⟨kc iv B (.pointer none) mv (fun _ => kN) (fun _ => kN) kN, true⟩)) _ _ _
  have ow3 : Ow (h2.put kb (some ⟨kc iv B (.pointer none) mv (fun _ => kN) (fun _ => kN) kN, true⟩)) kb (kc iv B (.pointer none) mv (fun _ => kN) (fun _ => kN) kN) := Ow.put _ ow.1
  have f3 : Fr (· = kb) h2 (h2.put kb (some ⟨kc iv B (.pointer none) mv (fun _ => kN) (fun _ => kN) kN, true⟩)) := Fr.put _ (.inl rfl)
  have sl3 := sl_away (lo := kb) (gb := kb) sl2 (fun b o c e => by have := hAlt b o c e; omega) (fun b e => .inl e) f3
  have smv3 := sl_away (lo := kb) (gb := kb) smv2 (fun b o c e => by have := hMlt b o c e; omega) (fun b e => .inl e) f3
  have F3 : Fr no h (h2.put kb (some ⟨kc iv B (.pointer none) mv (fun _ => kN) (fun _ => kN) kN, true⟩)) := F2.trans f3 (fun b e => .inr (by omega))
  generalize h2.put kb (some ⟨kc iv B (.pointer none) mv (fun _ => kN) (fun _ => kN) kN, true⟩) = h3 at *
  -- the map
  refine RunC.seq (RunC.region (RunO.part 4 rfl ?_))
  refine RunO.load (v := .int .i64 (B : Int)) rfl (ow3.ld rfl) rfl ?_
  refine RunO.callD (treeCheck_ok (B := (B : Int)) smv3) rfl rfl rfl ?_
  rintro _ h4 ⟨rfl, f4⟩
  have ow4 := ow3.fr f4 (fun g => g)
  have sl4 := sl3.fr0 f4
  have smv4 := smv3.fr0 f4
  have F4 := F3.same f4
  refine RunO.all rfl ?_
  refine RunC.seq (RunC.seq (RunC.region (RunO.all rfl ?_)))
  by_cases hme : mapE m (B : Int) = 0
  case neg =>
    rw [show (mapE m (B : Int) != 0) = true from bne_iff_ne.2 hme]
    refine RunC.cond rfl (fun _ => ?_) (fun g => by cases g)
    exact RunC.seq (RunC.region (RunO.all rfl (RunC.ret ⟨_, rfl, F4, .inr ⟨hme, rfl⟩⟩)))
  have hml : m.length = 512 := by
    unfold mapE at hme
    split at hme
    · assumption
    · cases hme
  rw [show (mapE m (B : Int) != 0) = false by rw [hme]; rfl]
  refine RunC.cond rfl (fun g => by cases g) (fun _ => RunC.skip ?_)
  -- the old tree
  refine RunC.seq (RunC.region (RunO.part 3 rfl ?_))
  refine RunO.callD (treeGo_ok (root := root) sl4 hb hdev) rfl rfl rfl ?_
  rintro _ h5 ⟨f5, ⟨_, ob, rfl, mb, nv, g1, g2, oo, om, row, hol, hnl⟩ | ⟨hno, _⟩⟩
  case inr => rw [hok] at hno; cases hno
  rw [← hBe] at oo
  have ow5 := ow4.fr f5 (fun g => g)
  have sl5 := sl4.fr0 f5
  have smv5 := smv4.fr0 f5
  have F5 := F4.same f5
  have hk5 : kb < h4.next := ow4.1
  refine RunO.part 5 rfl ?_
  refine RunO.store rfl rfl (store1_ow ow5 rfl rfl rfl (Nat.le_of_ble_eq_true rfl)) (RunO.nil ?_)
  change RunC _ _ _ _ (h5.put kb (some ⟨kc iv B (.pointer (some ⟨ob, 0, none⟩)) mv (fun _ => kN) (fun _ => kN) kN, true⟩)) _ _ _
  have ow6 : Ow (h5.put kb (some ⟨kc iv B (.pointer (some ⟨ob, 0, none⟩)) mv (fun _ => kN) (fun _ => kN) kN, true⟩)) kb (kc iv B (.pointer (some ⟨ob, 0, none⟩)) mv (fun _ => kN) (fun _ => kN) kN) := Ow.put _ ow5.1
  have f6 : Fr (· = kb) h5 (h5.put kb (some ⟨kc iv B (.pointer (some ⟨ob, 0, none⟩)) mv (fun _ => kN) (fun _ => kN) kN, true⟩)) := Fr.put _ (.inl rfl)
  have hn6 : (h5.put kb (some ⟨kc iv B (.pointer (some ⟨ob, 0, none⟩)) mv (fun _ => kN) (fun _ => kN) kN, true⟩)).next = h5.next := rfl
  have sl6 := sl_away (lo := kb) (gb := kb) sl5 (fun b o c e => by have := hAlt b o c e; omega) (fun b e => .inl e) f6
  have smv6 := sl_away (lo := kb) (gb := kb) smv5 (fun b o c e => by have := hMlt b o c e; omega) (fun b e => .inl e) f6
  have oo6 := oo.fr f6 (show ¬ ob = kb by omega)
  have om6 := om.fr f6 (show ¬ mb = kb by omega)
  have row6 := row.fr f6 (fun b h1 _ e => by omega)
  have F6 : Fr no h (h5.put kb (some ⟨kc iv B (.pointer (some ⟨ob, 0, none⟩)) mv (fun _ => kN) (fun _ => kN) kN, true⟩)) := F5.trans f6 (fun b e => .inr (by omega))
  generalize h5.put kb (some ⟨kc iv B (.pointer (some ⟨ob, 0, none⟩)) mv (fun _ => kN) (fun _ => kN) kN, true⟩) = h6 at *
  have hn5 := F6.next
  have ko6 : KOk h6 h6.next kb (.pointer (some ⟨ob, 0, none⟩)) (treeM L root) (treeN L root) := ⟨ob, mb, iv, B, nv, rfl, oo6, om6, hol, row6.sl (by omega), by omega, oo6.1, by omega, om6.1, fun b o c e => by
    rcases row6.2 with ⟨g, _⟩ | ⟨b', hb', g, og⟩
    · rw [g] at e; cases e
    · rw [g] at e; cases e; exact ⟨by omega, og.1⟩⟩
  rw [hml] at smv6 hMlt
  have hh6 : h.next ≤ h6.next := F6.next
  -- the plan
  refine RunC.seq (RunC.region (RunO.part 2 rfl ?_))
  refine RunO.callD (plan_ok (root := root) hb (by omega) hm hml sl6 smv6 ko6 (fun b o c e => by have := hAlt b o c e; omega) (fun b o c e => by have := hMlt b o c e; omega) ow6) rfl rfl rfl ?_
  rintro _ h7 ⟨rfl, f7, lo, wb, jb, fv, ks, kw⟩
  refine RunO.nil ?_
  refine RunC.seq (RunC.region (RunO.all rfl ?_))
  have hlo : h6.next ≤ lo := by have := (ks.w0 0 (by decide)).1; have := (ks.w0 0 (by decide)).2.1; omega
  refine RunC.ret ⟨_, rfl, F6.trans f7 (fun b e => .inr (by omega)), .inl ⟨hme, kb, lo, wb, jb, fv, _, rfl, by omega, ⟨ks.wi, ks.ji, ks.wj, fun l hl => ⟨by have := (ks.w0 l hl).1; omega, (ks.w0 l hl).2⟩, fun l hl => ⟨by have := (ks.j0 l hl).1; omega, (ks.j0 l hl).2⟩, ks.k0⟩, kw, ?_⟩⟩
  have ko7 := ko6.fr f7 (fun b e => .inl e)
  obtain ⟨ob, mb, iv2, B2, nv, k1, k2, k3, k4, k5, k6, k7, k8, k9, k10⟩ := ko7
  exact ⟨ob, mb, iv2, B2, nv, k1, k2, k3, k4, k5, k6, by omega, k8, by omega, fun b o c e => by have := k10 b o c e; omega⟩
end Go.Proofs.Ytdcggjkcbheolaa
end
section
set_option linter.unusedVariables false
set_option maxRecDepth 100000
open Go Go.Am Go.RowKit
namespace Go.Proofs.Ytdcggjkcbheolaa
open Go.Proofs.Try
theorem needs_ok {lo : Nat} {h : Heap} {kb B : Nat} {iv ov mv fv : Value} {wb jb : Nat → Nat} {W J : Nat → List Int} {F : List (Nat × Nat)} (kw : KW lo h kb iv B ov mv wb jb fv W J F) (hF : F.length ≤ 256) :
    RunF prog 46 [.pointer (some ⟨kb, 0, none⟩)] h fun v h' => v = .int .i64 (F.length : Nat) ∧ h = h' := by
  refine RunF.walk func46 rfl rfl ?_
  have hl := fl_len F
  obtain ⟨A, c, hfv, _, _⟩ := (kw.row.sl (by omega)).form
  refine RunC.seq (RunC.region (RunO.all rfl ?_))
  refine RunC.seq (RunC.region (RunO.part 3 rfl ?_))
  refine RunO.load (v := fv) rfl (kw.ow.ld rfl) rfl ?_
  subst hfv
  refine RunO.part 1 rfl ?_
  rw [show goInt ((fl F).length : Nat) = .int .i64 ((2 * F.length : Nat) : Int) by rw [hl]; rfl]
  refine RunO.part 1 rfl ?_
  rw [show fwrap .i64 (((2 * F.length : Nat) : Int).tdiv 2) = ((F.length : Nat) : Int) by
    rw [show ((2 * F.length : Nat) : Int).tdiv 2 = ((F.length : Nat) : Int) by rw [Int.tdiv_eq_ediv_of_nonneg (by omega)]; omega]
    exact fw64 (by omega) (by omega)]
  refine RunO.all rfl ?_
  exact RunC.ret ⟨_, rfl, rfl, rfl⟩
/-- May a block be taken for a new node? -/
def mayA (B : Nat) (fr : List Int) (i : Nat) : Bool := (decide (fr.getD i 0 < 2) || decide (fr.getD i 0 ≥ (B : Int))) || (decide ((i : Int) > 0) && decide (fr.getD (i - 1) 0 ≥ fr.getD i 0))
def mayC (m o ns : List Int) (b : Int) : Bool := (m.contains b || o.contains b) || ns.contains b
def mayB (B : Nat) (m o ns fr : List Int) : Bool := (List.range fr.length).all fun i => !mayA B fr i && !mayC m o ns (fr.getD i 0)
set_option maxHeartbeats 8000000 in
theorem may_ok {lo : Nat} {h : Heap} {kb B : Nat} {iv ov mv fv av : Value} {wb jb : Nat → Nat} {W J : Nat → List Int} {F : List (Nat × Nat)} {m o ns fr : List Int} (kw : KW lo h kb iv B ov mv wb jb fv W J F) (ko : KO h ov o ns) (smv : Sl h mv 1 512 (is m)) (hml : m.length = 512) (hns : ns.length ≤ 100000)
    (sa : Sl h av 1 fr.length (is fr)) (hf : fr.length ≤ 100000) :
    RunF prog 47 [.pointer (some ⟨kb, 0, none⟩), av] h fun v h' => v = .bool (mayB B m o ns fr) ∧ h = h' := by
  refine RunF.walk func47 rfl rfl ?_
  have sa0 := sa
  have ow := kw.ow
  obtain ⟨A, c, rfl, _, _⟩ := sa.form
  obtain ⟨ob, mb, iv2, B2, nv, rfl, oo, om, hol, sn⟩ := ko
  have slo : Sl h (.slice (some ⟨mb, 0, none⟩) 512 (exc 512)) 1 o.length (is o) := by rw [hol]; exact om.all.sl (by rw [is_len, hol]) (by decide) (Cp.exc (Nat.le_refl _))
  have slm : Sl h mv 1 m.length (is m) := by rw [hml]; exact smv
  refine RunC.seq (RunC.region (RunO.all rfl ?_))
  refine RunC.seq (RunC.seq (RunC.region (RunO.all rfl ?_)))
  refine RunC.block ?_
  let I : Nat → Env → Heap → Prop := fun d E h' => ∃ i : Nat, i + d = fr.length ∧ h = h' ∧ ((List.range i).all fun i => !mayA B fr i && !mayC m o ns (fr.getD i 0)) = true ∧
    Le (upd (upd (upd (upd (upd E0 0 (.pointer (some ⟨kb, 0, none⟩))) 1 (.slice A fr.length c)) 7 (.slice A fr.length c)) 8 (.int .i64 (fr.length : Int))) 9 (.int .i64 (i : Int))) E
  refine RunC.loop I ?_ (k := fr.length) ?_
  · rintro d E _ ⟨i, hi, rfl, hno, hE⟩
    refine RunC.le hE ?_
    clear hE
    refine RunC.seq (RunC.region (RunO.all rfl ?_))
    refine RunC.seq (RunC.cond rfl (fun hlt => RunC.skip ?_) (fun hge => ?_))
    · have hlt := of_decide_eq_true hlt
      have hif : i < fr.length := by omega
      have hat : apart prog 3 (is fr) (i * 1) = some (.int .i64 (fr.getD i 0)) := by rw [is_part hif, List.getD_eq_getElem?_getD, List.getElem?_eq_getElem hif]; rfl
      have hnx : ((List.range (i + 1)).all fun i => !mayA B fr i && !mayC m o ns (fr.getD i 0)) = (!mayA B fr i && !mayC m o ns (fr.getD i 0)) := by
        rw [List.range_succ, List.all_append, hno]; simp
      have hA : mayA B fr i = ((decide (fr.getD i 0 < 2) || decide (fr.getD i 0 ≥ (B : Int))) || (decide ((i : Int) > 0) && decide (fr.getD (i - 1) 0 ≥ fr.getD i 0))) := rfl
      have hprev : ∀ j, i = j + 1 → j < fr.length ∧ apart prog 3 (is fr) (j * 1) = some (.int .i64 (fr.getD (i - 1) 0)) := fun j e => by
        have hj : j < fr.length := by omega
        refine ⟨hj, ?_⟩
        rw [is_part hj, show i - 1 = j by omega, List.getD_eq_getElem?_getD, List.getElem?_eq_getElem hj]; rfl
      have bad : (!mayA B fr i && !mayC m o ns (fr.getD i 0)) = false → mayB B m o ns fr = false := fun e => by
        unfold mayB
        exact List.all_eq_false.2 ⟨i, List.mem_range.2 hif, by rw [e]; exact Bool.false_ne_true⟩
      refine RunC.seq (RunC.block ?_)
      refine RunC.seq (RunC.region (RunO.part 1 rfl ?_))
      refine RunO.at (s := 1) (k := i) rfl rfl sa0 rfl rfl hif hat rfl rfl rfl (RunO.all rfl ?_)
      generalize fr.getD i 0 = b at *
      generalize fr.getD (i - 1) 0 = pv at *
      refine RunC.seq (RunC.seqE (upd (upd (upd (upd (upd (upd (upd (upd E0 0 (.pointer (some ⟨kb, 0, none⟩))) 1 (.slice A fr.length c)) 7 (.slice A fr.length c)) 8 (.int .i64 (fr.length : Int))) 9 (.int .i64 (i : Int))) 5 (.int .i64 (i : Int))) 6 (.int .i64 b)) 36 (.bool (mayA B fr i))) ?_ ?_)
      · rw [hA]
        refine RunC.region (RunO.part 3 rfl ?_)
        cases decide (b < 2) with
        | true => exact RunO.all rfl ⟨rfl, Le.cons rfl (Le.cons rfl (Le.cons rfl (Le.cons rfl (Le.cons rfl (Le.cons rfl (Le.cons rfl (Le.cons rfl (Le.nil _))))))))⟩
        | false =>
          refine RunO.part 4 rfl ?_
          refine RunO.loadG (v := .int .i64 (B : Int)) rfl rfl (ow.ld rfl) rfl ?_
          refine RunO.part 3 rfl ?_
          cases decide (b ≥ (B : Int)) with
          | true => exact RunO.all rfl ⟨rfl, Le.cons rfl (Le.cons rfl (Le.cons rfl (Le.cons rfl (Le.cons rfl (Le.cons rfl (Le.cons rfl (Le.cons rfl (Le.nil _))))))))⟩
          | false =>
            refine RunO.part 3 rfl ?_
            cases i with
            | zero => exact RunO.all rfl ⟨rfl, Le.cons rfl (Le.cons rfl (Le.cons rfl (Le.cons rfl (Le.cons rfl (Le.cons rfl (Le.cons rfl (Le.cons rfl (Le.nil _))))))))⟩
            | succ j =>
              obtain ⟨hj, hpv⟩ := hprev j rfl
              rw [show decide (((j + 1 : Nat) : Int) > 0) = true from decide_eq_true (by omega)]
              refine RunO.part 3 rfl ?_
              rw [fw64 (x := ((j + 1 : Nat) : Int) - 1) (by omega) (by omega), show ((j + 1 : Nat) : Int) - 1 = (j : Int) by omega]
              refine RunO.atG (s := 1) (k := j) rfl (fun _ => rfl) rfl rfl sa0 rfl rfl hj hpv rfl rfl rfl ?_
              exact RunO.all rfl ⟨rfl, Le.cons rfl (Le.cons rfl (Le.cons rfl (Le.cons rfl (Le.cons rfl (Le.cons rfl (Le.cons rfl (Le.cons rfl (Le.nil _))))))))⟩
      cases hma : mayA B fr i with
      | true =>
        refine RunC.cond rfl (fun _ => ?_) (fun g => by cases g)
        rw [bad (by rw [hma]; rfl)]
        exact RunC.seq (RunC.region (RunO.all rfl (RunC.ret ⟨_, rfl, rfl, rfl⟩)))
      | false =>
      refine RunC.cond rfl (fun g => by cases g) (fun _ => RunC.skip ?_)
      have hC : mayC m o ns b = ((m.contains b || o.contains b) || ns.contains b) := rfl
      refine RunC.seqE (upd (upd (upd (upd (upd (upd E0 0 (.pointer (some ⟨kb, 0, none⟩))) 1 (.slice A fr.length c)) 7 (.slice A fr.length c)) 8 (.int .i64 (fr.length : Int))) 9 (.int .i64 (i : Int))) 64 (.bool (mayC m o ns b))) ?_ ?_
      · rw [hC]
        refine RunC.region (RunO.part 3 rfl ?_)
        refine RunO.load (v := mv) rfl (ow.ld rfl) rfl ?_
        refine RunO.part 1 rfl ?_
        refine RunO.callD (containsInt_ok slm (by omega)) rfl rfl rfl ?_
        rintro _ _ ⟨rfl, rfl⟩
        refine RunO.part 1 rfl ?_
        cases m.contains b with
        | true => exact RunO.all rfl ⟨rfl, Le.cons rfl (Le.cons rfl (Le.cons rfl (Le.cons rfl (Le.cons rfl (Le.cons rfl (Le.nil _))))))⟩
        | false =>
          refine RunO.part 3 rfl ?_
          refine RunO.loadG (v := .pointer (some ⟨ob, 0, none⟩)) rfl rfl (ow.ld rfl) rfl ?_
          refine RunO.part 2 rfl ?_
          refine RunO.loadG (v := .slice (some ⟨mb, 0, none⟩) 512 (exc 512)) rfl rfl (oo.ld rfl) rfl ?_
          refine RunO.part 1 rfl ?_
          rw [hol] at slo
          have slo2 : Sl h (.slice (some ⟨mb, 0, none⟩) 512 (exc 512)) 1 o.length (is o) := by rw [hol]; exact slo
          refine RunO.callDG rfl (containsInt_ok slo2 (by omega)) rfl rfl rfl ?_
          rintro _ _ ⟨rfl, rfl⟩
          refine RunO.part 2 rfl ?_
          cases o.contains b with
          | true => exact RunO.all rfl ⟨rfl, Le.cons rfl (Le.cons rfl (Le.cons rfl (Le.cons rfl (Le.cons rfl (Le.cons rfl (Le.nil _))))))⟩
          | false =>
            refine RunO.part 3 rfl ?_
            refine RunO.loadG (v := .pointer (some ⟨ob, 0, none⟩)) rfl rfl (ow.ld rfl) rfl ?_
            refine RunO.part 2 rfl ?_
            refine RunO.loadG (v := nv) rfl rfl (oo.ld rfl) rfl ?_
            refine RunO.part 1 rfl ?_
            refine RunO.callDG rfl (containsInt_ok sn (by omega)) rfl rfl rfl ?_
            rintro _ _ ⟨rfl, rfl⟩
            exact RunO.all rfl ⟨rfl, Le.cons rfl (Le.cons rfl (Le.cons rfl (Le.cons rfl (Le.cons rfl (Le.cons rfl (Le.nil _))))))⟩
      cases hmc : mayC m o ns b with
      | true =>
        refine RunC.cond rfl (fun _ => ?_) (fun g => by cases g)
        rw [bad (by rw [hmc, Bool.not_true, Bool.and_false])]
        exact RunC.seq (RunC.region (RunO.all rfl (RunC.ret ⟨_, rfl, rfl, rfl⟩)))
      | false =>
        refine RunC.cond rfl (fun g => by cases g) (fun _ => RunC.skip ?_)
        refine RunC.region (RunO.all rfl ?_)
        exact ⟨d - 1, by omega, i + 1, by omega, rfl, by rw [hnx, hma, hmc]; rfl, Le.cons (inc64 (by omega)) (Le.cons rfl (Le.cons rfl (Le.cons rfl (Le.cons rfl (Le.nil _)))))⟩
    · have hge := of_decide_eq_false hge
      obtain rfl : i = fr.length := by omega
      refine RunC.exit ?_
      rw [show mayB B m o ns fr = true from hno]
      exact RunC.seq (RunC.region (RunO.all rfl (RunC.ret ⟨_, rfl, rfl, rfl⟩)))
  · exact ⟨0, by omega, rfl, rfl, Le.cons rfl (Le.cons rfl (Le.cons rfl (Le.cons rfl (Le.cons rfl (Le.nil _)))))⟩
end Go.Proofs.Ytdcggjkcbheolaa
end
section
set_option linter.unusedVariables false
set_option maxRecDepth 100000
open Go Go.Am Go.RowKit
namespace Go.Proofs.Ytdcggjkcbheolaa
open Go.Proofs.Try
/-- What a new node leads to. -/
def ptrOf (m : List Int) (J : Nat → List Int) (l p : Nat) : List Int := if l = 0 then part m 0 p else ((J (l - 1)).drop (p * 8)).take 8
def nodD (l : Nat) (ps : List Int) : List Int := if nodOk (l : Int) ps then nodBlock (l : Int) ps else []
/-- So many new nodes are put on blocks. -/
def wrS (m : List Int) (J0 : Nat → List Int) (F : List (Nat × Nat)) (at_ : List Int) : Nat → (Nat → List Int) × List IoT
  | 0 => (J0, [])
  | i + 1 => (setW (wrS m J0 F at_ i).1 (F.getD i (0, 0)).1 (F.getD i (0, 0)).2 (at_.getD i 0),
      (wrS m J0 F at_ i).2 ++ [((1 : Int), at_.getD i 0, nodD (F.getD i (0, 0)).1 (ptrOf m (setW (wrS m J0 F at_ i).1 (F.getD i (0, 0)).1 (F.getD i (0, 0)).2 (at_.getD i 0)) (F.getD i (0, 0)).1 (F.getD i (0, 0)).2), ())])
theorem lvN_up {l : Nat} (h0 : 0 < l) (hl : l < 3) : lvN (l - 1) = lvN l * 8 := by
  obtain rfl | rfl : l = 1 ∨ l = 2 := by omega
  all_goals rfl
theorem ptrOf_len {m : List Int} {J : Nat → List Int} {l p : Nat} (hm : m.length = 512) (hJ : ∀ l, l < 3 → (J l).length = lvN l) (hl : l < 3) (hp : p < lvN l) : (ptrOf m J l p).length = 8 := by
  unfold ptrOf
  split
  · rename_i h0; subst h0; exact part_len hm hl hp
  · rename_i h0
    rw [List.length_take, List.length_drop, hJ _ (by omega), lvN_up (by omega) hl]; omega
set_option maxHeartbeats 4000000 in
theorem pointers_ok {h : Heap} {kb B : Nat} {iv ov mv fv : Value} {ws : Nat → Value} {jb : Nat → Nat} {J : Nat → List Int} {m : List Int} {l p : Nat} (ow : Ow h kb (kc iv B ov mv ws (fun l => slz (jb l) (lvN l)) fv)) (js : WS h jb J) (smv : Sl h mv 1 512 (is m)) (hml : m.length = 512) (hl : l < 3) (hp : p < lvN l) :
    RunF prog 74 [.pointer (some ⟨kb, 0, none⟩), .int .i64 (l : Int), .int .i64 (p : Int)] h fun v h' => Sl h v 1 8 (is (ptrOf m J l p)) ∧ h = h' := by
  refine RunF.walk func74 rfl rfl ?_
  have hp64 := Nat.lt_of_lt_of_le hp (lvN_le hl)
  refine RunC.seq (RunC.region (RunO.all rfl ?_))
  refine RunC.seq (RunC.seq (RunC.region (RunO.all rfl ?_)))
  by_cases h0 : l = 0
  · have hpt : ptrOf m J l p = part m 0 p := by unfold ptrOf; rw [if_pos h0]
    rw [hpt, show ((l : Int) == 0) = true from beq_iff_eq.2 (by omega)]
    subst h0
    have s1 := (lv_span hl hp).1
    refine RunC.cond rfl (fun _ => ?_) (fun g => by cases g)
    refine RunC.seq (RunC.region (RunO.part 3 rfl ?_))
    refine RunO.load (v := mv) rfl (ow.ld rfl) rfl ?_
    refine RunO.part 2 rfl ?_
    rw [fw64 (x := (p : Int) * 8) (by omega) (by omega), show (p : Int) * 8 = ((p * 8 : Nat) : Int) by omega]
    refine RunO.part 2 rfl ?_
    rw [fw64 (x := (p : Int) + 1) (by omega) (by omega)]
    refine RunO.part 1 rfl ?_
    rw [fw64 (x := ((p : Int) + 1) * 8) (by omega) (by omega), show ((p : Int) + 1) * 8 = ((p * 8 + 8 : Nat) : Int) by omega]
    refine RunO.sliceSl (s := 1) (len := 512) rfl rfl rfl rfl rfl smv (.some _ _ _) (.some _ _ _) (Nat.le_add_right _ _) s1 rfl ?_
    intro pv sp
    refine RunO.all rfl ?_
    refine RunC.ret ⟨_, rfl, ?_, rfl⟩
    have := sl_span (l := 0) hl hp hml sp
    rw [part_len hml hl hp] at this
    exact this
  · have hpt : ptrOf m J l p = ((J (l - 1)).drop (p * 8)).take 8 := by unfold ptrOf; rw [if_neg h0]
    obtain ⟨k, rfl⟩ : ∃ k, l = k + 1 := ⟨l - 1, by omega⟩
    have hup := lvN_up (l := k + 1) (by omega) hl
    rw [Nat.add_sub_cancel] at hpt hup
    have hj := slW js (show k < 3 by omega)
    rw [hpt, show (((k + 1 : Nat) : Int) == 0) = false from beq_eq_false_iff_ne.2 (by omega)]
    refine RunC.cond rfl (fun g => by cases g) (fun _ => RunC.skip ?_)
    refine RunC.seq (RunC.region (RunO.part 3 rfl ?_))
    rw [fw64 (x := ((k + 1 : Nat) : Int) - 1) (by omega) (by omega), show ((k + 1 : Nat) : Int) - 1 = (k : Int) by omega]
    refine RunO.part 2 rfl ?_
    refine RunO.indexA (s := 1) (k := k) rfl rfl rfl rfl rfl (show k < 3 by omega) rfl ?_
    refine RunO.load (v := slz (jb k) (lvN k)) rfl (ow.ld (kc_j (by omega))) rfl ?_
    refine RunO.part 2 rfl ?_
    rw [fw64 (x := (p : Int) * 8) (by omega) (by omega), show (p : Int) * 8 = ((p * 8 : Nat) : Int) by omega]
    refine RunO.part 2 rfl ?_
    rw [fw64 (x := (p : Int) + 1) (by omega) (by omega)]
    refine RunO.part 1 rfl ?_
    rw [fw64 (x := ((p : Int) + 1) * 8) (by omega) (by omega), show ((p : Int) + 1) * 8 = ((p * 8 + 8 : Nat) : Int) by omega]
    refine RunO.sliceSl (s := 1) (len := lvN k) rfl rfl rfl rfl rfl hj (.some _ _ _) (.some _ _ _) (Nat.le_add_right _ _) (by omega) rfl ?_
    intro pv sp
    refine RunO.all rfl ?_
    refine RunC.ret ⟨_, rfl, ?_, rfl⟩
    rw [Nat.mul_one, Nat.mul_one, Nat.add_sub_cancel_left] at sp
    unfold is at *
    rw [List.map_take, List.map_drop]
    exact sp
/-- A step of a growing row: its data lie apart from the row. -/
def IoR (h : Heap) (lo : Nat) (ov : Value) (x : IoT) (cs : List Value) : Prop := ∃ dv, cs = [.int .i64 x.1, .int .i64 x.2.1, dv] ∧ Sl h dv 1 x.2.2.1.length (us x.2.2.1) ∧ Byt x.2.2.1 ∧ ∀ b o n c, dv = .slice (some ⟨b, o, none⟩) n c → lo ≤ b ∧ ¬ At ov b
def IosR (lo : Nat) (h : Heap) (ov : Value) (l : List IoT) : Prop := ∃ acs, Row lo h ov 3 l.length acs ∧ ∀ (j : Nat) (x : IoT), l[j]? = some x → IoR h lo ov x ((acs.drop (j * 3)).take 3)
theorem IosR.ios {lo : Nat} {h : Heap} {ov : Value} {l : List IoT} (r : IosR lo h ov l) (hl : l.length ≤ 9223372036854775807) : Ios h ov l := by
  obtain ⟨acs, row, k⟩ := r
  refine ⟨acs, row.sl hl, fun j x hx => ?_⟩
  obtain ⟨dv, h1, h2, h3, _⟩ := k j x hx
  exact ⟨dv, h1, h2, h3⟩
theorem IosR.nil (lo : Nat) (h : Heap) : IosR lo h (.slice none 0 0) [] := ⟨[], Row.nil _ _ _, fun j x hx => by cases hx⟩
theorem IoR.fr {h h' : Heap} {lo : Nat} {ov ov' : Value} {x : IoT} {cs : List Value} {M : Nat → Prop} (r : IoR h lo ov x cs) (f : Fr M h h') (hM : ∀ b, M b → b < lo ∨ At ov b) (ho : ∀ b, b < h.next → At ov' b → At ov b) : IoR h' lo ov' x cs := by
  obtain ⟨dv, h1, h2, h3, h4⟩ := r
  refine ⟨dv, h1, ?_, h3, fun b o n c e => ⟨(h4 b o n c e).1, fun g => ?_⟩⟩
  · refine ⟨h2.1, h2.2.1, h2.2.2.imp (fun y => y) ?_⟩
    rintro ⟨b, o, c, e1, e2, e3⟩
    have := h4 b o _ c e1
    exact ⟨b, o, c, e1, e2, e3.fr f (fun g => by rcases hM b g with e | e; exact absurd e (by omega); exact this.2 e)⟩
  · have h5 := h4 b o n c e
    rcases h2.2.2 with ⟨e1, _⟩ | ⟨b', o', c', e1, _, rd⟩
    · rw [e] at e1; cases e1
    · rw [e] at e1; cases e1
      exact h5.2 (ho b rd.2.1 g)
theorem IosR.fr {h h' : Heap} {lo : Nat} {ov : Value} {l : List IoT} {M : Nat → Prop} (r : IosR lo h ov l) (f : Fr M h h') (hM : ∀ b, M b → b < lo) : IosR lo h' ov l := by
  obtain ⟨acs, row, k⟩ := r
  exact ⟨acs, row.fr f (fun b h1 _ g => by have := hM b g; omega), fun j x hx => (k j x hx).fr f (fun b g => .inl (hM b g)) (fun b _ g => g)⟩
theorem IosR.quiet {h h' : Heap} {lo : Nat} {ov : Value} {l : List IoT} (r : IosR lo h ov l) (f : Fr no h h') : IosR lo h' ov l := r.fr f (fun _ g => g.elim)
end Go.Proofs.Ytdcggjkcbheolaa
end
section
set_option linter.unusedVariables false
set_option maxRecDepth 100000
open Go Go.Am Go.RowKit
namespace Go.Proofs.Ytdcggjkcbheolaa
open Go.Proofs.Try
theorem IosR.snoc {h h' : Heap} {lo : Nat} {ov ov' dv : Value} {l : List IoT} {acs : List Value} {x : IoT} (row : Row lo h ov 3 l.length acs) (k : ∀ (j : Nat) (x : IoT), l[j]? = some x → IoR h lo ov x ((acs.drop (j * 3)).take 3)) (hd : Sl h dv 1 x.2.2.1.length (us x.2.2.1)) (hb : Byt x.2.2.1)
    (ha : ∀ b o n c, dv = .slice (some ⟨b, o, none⟩) n c → lo ≤ b ∧ ¬ At ov b) (row' : Row h.next h' ov' 3 (l.length + 1) (acs ++ [.int .i64 x.1, .int .i64 x.2.1, dv])) (f : Fr (At ov) h h') (hlo : lo ≤ h.next) : IosR lo h' ov' (l ++ [x]) := by
  have hn : ∀ b, At ov' b → h.next ≤ b := fun b g => (row'.at g).1
  refine ⟨acs ++ [.int .i64 x.1, .int .i64 x.2.1, dv], by rw [List.length_append]; exact Row.lo row' hlo, fun j y hy => ?_⟩
  have hal : acs.length = l.length * 3 := row.1
  by_cases c : j < l.length
  · rw [List.getElem?_append_left c] at hy
    have h1 : j * 3 + 3 ≤ acs.length := by omega
    rw [List.drop_append_of_le_length (by omega), List.take_append_of_le_length (by rw [List.length_drop]; omega)]
    exact (k j y hy).fr f (fun b g => .inr g) (fun b hb2 g => absurd (hn b g) (by omega))
  · rw [List.getElem?_append_right (by omega)] at hy
    have hj : j = l.length := by
      by_cases e : j - l.length = 0
      · omega
      · rw [List.getElem?_eq_none (by simp; omega)] at hy; cases hy
    subst hj
    rw [Nat.sub_self] at hy
    cases hy
    rw [← hal, List.drop_left]
    refine ⟨dv, rfl, ?_, hb, fun b o n c e => ⟨(ha b o n c e).1, fun g => ?_⟩⟩
    · refine ⟨hd.1, hd.2.1, hd.2.2.imp (fun y => y) ?_⟩
      rintro ⟨b, o, c, e1, e2, e3⟩
      exact ⟨b, o, c, e1, e2, e3.fr f (ha b o _ c e1).2⟩
    · rcases hd.2.2 with ⟨e1, _⟩ | ⟨b', o', c', e1, _, rd⟩
      · rw [e] at e1; cases e1
      · rw [e] at e1; cases e1
        have h1 : b < h.next := rd.2.1
        have := hn b g
        omega
theorem fl_get : ∀ (F : List (Nat × Nat)) (i : Nat) (h : i < F.length), (fl F)[2 * i]? = some (F[i].1 : Int) ∧ (fl F)[2 * i + 1]? = some (F[i].2 : Int)
  | x :: F, 0, _ => ⟨rfl, rfl⟩
  | x :: F, i + 1, h => by
    have := fl_get F i (by simpa using h)
    have e : fl (x :: F) = (x.1 : Int) :: (x.2 : Int) :: fl F := rfl
    rw [e, show 2 * (i + 1) = 2 * i + 1 + 1 by omega, show 2 * i + 1 + 1 + 1 = 2 * i + 1 + 1 + 1 from rfl]
    simp only [List.getElem?_cons_succ]
    exact this
theorem wrS_len (m : List Int) (J0 : Nat → List Int) (F : List (Nat × Nat)) (at_ : List Int) : ∀ i, (wrS m J0 F at_ i).2.length = i
  | 0 => rfl
  | i + 1 => by show (_ ++ [_]).length = _; rw [List.length_append, wrS_len m J0 F at_ i]; rfl
theorem nodD_byt {l : Nat} {ps : List Int} (hp : ps.length = 8) : Byt (nodD l ps) := by
  unfold nodD
  split
  · exact nodBlock_byt hp
  · intro x hx; cases hx
set_option maxHeartbeats 16000000 in
theorem writes_ok {lo0 lo : Nat} {h : Heap} {kb B : Nat} {iv ov mv fv av : Value} {wb jb : Nat → Nat} {W J : Nat → List Int} {F : List (Nat × Nat)} {m at_ : List Int} (ks : KS lo0 lo kb wb jb) (kw : KW lo h kb iv B ov mv wb jb fv W J F) (smv : Sl h mv 1 512 (is m)) (hml : m.length = 512)
    (hma : ∀ b o c, mv = .slice (some ⟨b, o, none⟩) 512 c → ∀ l, l < 3 → b ≠ jb l) (sa : Sl h av 1 at_.length (is at_)) (haa : ∀ b o c, av = .slice (some ⟨b, o, none⟩) at_.length c → ∀ l, l < 3 → b ≠ jb l)
    (hlen : at_.length ≤ F.length) (hF : F.length ≤ 256) (hFok : ∀ i (hi : i < F.length), F[i].1 < 3 ∧ F[i].2 < lvN F[i].1) :
    RunF prog 48 [.pointer (some ⟨kb, 0, none⟩), av] h fun v h' => Fr (WM jb) h h' ∧ IosR h.next h' v (wrS m J F at_ at_.length).2 ∧ KW lo h' kb iv B ov mv wb jb fv W (wrS m J F at_ at_.length).1 F := by
  refine RunF.walk func48 rfl rfl ?_
  have sa0 := sa
  obtain ⟨A, c, hav, _, _⟩ := sa.form
  subst hav
  have hln := kw.ln
  have hmlt := smv.lt
  have halt := sa0.lt
  have hfv : ∀ b, At fv b → b < h.next := fun b g => (kw.row.at g).2
  have hWM : ∀ b, WM jb b → b < h.next := fun b ⟨l, hl, e⟩ => by have := (ks.j0 l hl).2.1; omega
  have hfll := fl_len F
  refine RunC.seq (RunC.region (RunO.all rfl ?_))
  refine RunC.seq (RunC.region (RunO.all rfl ?_))
  refine RunC.seq (RunC.seq (RunC.region (RunO.all rfl ?_)))
  refine RunC.block ?_
  let I : Nat → Env → Heap → Prop := fun d E h' => ∃ (i : Nat) (ov2 : Value), i + d = at_.length ∧ Fr (WM jb) h h' ∧ IosR h.next h' ov2 (wrS m J F at_ i).2 ∧ KW lo h' kb iv B ov mv wb jb fv W (wrS m J F at_ i).1 F ∧ Sl h' mv 1 512 (is m) ∧ Sl h' (.slice A at_.length c) 1 at_.length (is at_) ∧
    Le (upd (upd (upd (upd (upd E0 0 (.pointer (some ⟨kb, 0, none⟩))) 5 ov2) 13 (.slice A at_.length c)) 14 (.int .i64 (at_.length : Int))) 15 (.int .i64 (i : Int))) E
  refine RunC.loop I ?_ (k := at_.length) ?_
  · rintro d E h1 ⟨i, ov2, hi, F1, r1, kw1, sm1, sa1, hE⟩
    refine RunC.le hE ?_
    clear hE
    refine RunC.seq (RunC.region (RunO.all rfl ?_))
    refine RunC.seq (RunC.cond rfl (fun hlt => RunC.skip ?_) (fun hge => ?_))
    · have hlt := of_decide_eq_true hlt
      have hia : i < at_.length := by omega
      have hiF : i < F.length := by omega
      obtain ⟨hl, hp⟩ := hFok i hiF
      obtain ⟨g1, g2⟩ := fl_get F i hiF
      have hFi : F.getD i (0, 0) = F[i] := by rw [List.getD_eq_getElem?_getD, List.getElem?_eq_getElem hiF]; rfl
      have hst : wrS m J F at_ (i + 1) = (setW (wrS m J F at_ i).1 (F.getD i (0, 0)).1 (F.getD i (0, 0)).2 (at_.getD i 0),
        (wrS m J F at_ i).2 ++ [((1 : Int), at_.getD i 0, nodD (F.getD i (0, 0)).1 (ptrOf m (setW (wrS m J F at_ i).1 (F.getD i (0, 0)).1 (F.getD i (0, 0)).2 (at_.getD i 0)) (F.getD i (0, 0)).1 (F.getD i (0, 0)).2), ())]) := rfl
      rw [hFi] at hst
      have hat : apart prog 3 (is at_) (i * 1) = some (.int .i64 (at_.getD i 0)) := by rw [is_part hia, List.getD_eq_getElem?_getD, List.getElem?_eq_getElem hia]; rfl
      have hol := wrS_len m J F at_ i
      have hd0 : apart prog 3 (is (fl F)) (2 * i * 1) = some (.int .i64 (F[i].1 : Int)) := by
        have h2 : 2 * i < (fl F).length := by omega
        rw [is_part h2]
        rw [List.getElem?_eq_getElem h2, Option.some.injEq] at g1
        rw [g1]
      have hd1 : apart prog 3 (is (fl F)) ((2 * i + 1) * 1) = some (.int .i64 (F[i].2 : Int)) := by
        have h2 : 2 * i + 1 < (fl F).length := by omega
        rw [is_part h2]
        rw [List.getElem?_eq_getElem h2, Option.some.injEq] at g2
        rw [g2]
      have slf := kw1.row.sl (by omega)
      refine RunC.seq (RunC.block ?_)
      refine RunC.seq (RunC.region (RunO.part 1 rfl ?_))
      refine RunO.at (s := 1) (k := i) rfl rfl sa1 rfl rfl hia hat rfl rfl rfl (RunO.all rfl ?_)
      refine RunC.seq (RunC.draw0 rfl ?_)
      refine RunO.part 3 rfl ?_
      refine RunO.load (v := fv) rfl (kw1.ow.ld rfl) rfl ?_
      refine RunO.part 2 rfl ?_
      rw [fw64 (x := 2 * (i : Int)) (by omega) (by omega), show 2 * (i : Int) = ((2 * i : Nat) : Int) by omega]
      refine RunO.at (s := 1) (k := 2 * i) rfl rfl slf rfl rfl (by omega) hd0 rfl rfl rfl ?_
      refine RunO.part 3 rfl ?_
      refine RunO.load (v := fv) rfl (kw1.ow.ld rfl) rfl ?_
      refine RunO.part 2 rfl ?_
      rw [fw64 (x := 2 * (i : Int)) (by omega) (by omega), show 2 * (i : Int) = ((2 * i : Nat) : Int) by omega]
      refine RunO.part 1 rfl ?_
      rw [fw64 (x := ((2 * i : Nat) : Int) + 1) (by omega) (by omega), show ((2 * i : Nat) : Int) + 1 = ((2 * i + 1 : Nat) : Int) by omega]
      refine RunO.at (s := 1) (k := 2 * i + 1) rfl rfl slf rfl rfl (by omega) hd1 rfl rfl rfl (RunO.all rfl ?_)
      clear hd0 hd1 g1 g2 slf hat hFi
      generalize F[i].1 = l at *
      generalize F[i].2 = p at *
      generalize at_.getD i 0 = b at *
      generalize hw2 : wrS m J F at_ (i + 1) = w2 at *
      obtain ⟨J2, out2⟩ := w2
      obtain ⟨hst1, hst2⟩ := Prod.mk.inj hst
      generalize wrS m J F at_ i = w1 at *
      obtain ⟨J1, out1⟩ := w1
      simp only at hst1 hst2 hol r1 kw1
      -- its block is known
      obtain ⟨e1, js2, f2⟩ := kw1.js.set ks.ji hl hp b
      refine RunC.seq (RunC.region (RunO.part 4 rfl ?_))
      refine RunO.indexA (s := 1) (k := l) rfl rfl rfl rfl rfl hl rfl ?_
      refine RunO.load (v := slz (jb l) (lvN l)) rfl (kw1.ow.ld (kc_j hl)) rfl ?_
      refine RunO.part 2 rfl ?_
      refine RunO.index (s := 1) (k := p) rfl rfl rfl rfl hp rfl ?_
      refine RunO.store rfl rfl e1 (RunO.nil ?_)
      have hjl := ks.j0 l hl
      have hl1 := kw1.ln
      have hh1 := F1.next
      have ow2 := kw1.ow.fr f2 (fun e => hjl.2.2 e.symm)
      have ws2 := kw1.ws.fr f2 (fun k hk e => ks.wj k l hk hl e)
      have row2 := kw1.row.fr f2 (fun b h1 _ e => by omega)
      have sm2 : Sl (h1.put (jb l) (some ⟨is ((J1 l).set p b), true⟩)) mv 1 512 (is m) := by
        refine ⟨sm1.1, sm1.2.1, sm1.2.2.imp (fun y => y) ?_⟩
        rintro ⟨b, o, c, e1, e2, e3⟩
        exact ⟨b, o, c, e1, e2, e3.fr f2 (hma b o c e1 l hl)⟩
      have sa2 : Sl (h1.put (jb l) (some ⟨is ((J1 l).set p b), true⟩)) (.slice A at_.length c) 1 at_.length (is at_) := by
        refine ⟨sa1.1, sa1.2.1, sa1.2.2.imp (fun y => y) ?_⟩
        rintro ⟨b, o, c, e1, e2, e3⟩
        exact ⟨b, o, c, e1, e2, e3.fr f2 (haa b o c e1 l hl)⟩
      have r2 := r1.fr f2 (fun b e => by have e : b = jb l := e; omega)
      have F2 : Fr (WM jb) h (h1.put (jb l) (some ⟨is ((J1 l).set p b), true⟩)) := F1.trans f2 (fun b e => .inl ⟨l, hl, e⟩)
      have ln2 := Nat.le_trans kw1.ln f2.next
      clear kw1 f2 e1 sm1 sa1 r1 F1
      rw [← hst1] at js2 hst2
      generalize h1.put (jb l) (some ⟨is ((J1 l).set p b), true⟩) = h2 at *
      have hpl := ptrOf_len hml (fun k hk => (js2 k hk).2) hl hp
      -- the node
      refine RunC.seq (RunC.region (RunO.part 3 (h1 := h2.push ⟨nc 0 nZero, true⟩) rfl ?_))
      refine RunO.store rfl rfl (nc_store (lv := (l : Int)) (ps := nZero) (Ow.push h2 (nc 0 nZero)) rfl rfl rfl) (RunO.nil ?_)
      have on : Ow ((h2.push ⟨nc 0 nZero, true⟩).put h2.next (some ⟨nc (l : Int) nZero, true⟩)) h2.next (nc (l : Int) nZero) := Ow.put _ (Nat.lt_succ_self _)
      have f3 : Fr no h2 ((h2.push ⟨nc 0 nZero, true⟩).put h2.next (some ⟨nc (l : Int) nZero, true⟩)) := (Fr.push _ _ _).trans (Fr.put (m := (· = h2.next)) _ (.inl rfl)) (fun j hj => .inr (by omega))
      generalize (h2.push ⟨nc 0 nZero, true⟩).put h2.next (some ⟨nc (l : Int) nZero, true⟩) = h3 at *
      have hln3 : h2.next ≤ h3.next := f3.next
      have f34 : ∀ h4, Fr (· = h2.next) h3 h4 → Fr no h2 h4 := fun h4 f => f3.trans f (fun b e => .inr (by have e : b = h2.next := e; omega))
      have hq2 : lo ≤ h2.next ∧ h.next ≤ h2.next := ⟨ln2, F2.next⟩
      have hAtq : ∀ b, At ov2 b → b < h2.next := fun b g => by
        obtain ⟨acs, row, _⟩ := r2
        exact (row.at g).2
      generalize h2.next = q at *
      replace ow2 := ow2.fr f3 (fun g => g)
      replace ws2 := ws2.fr f3 (fun _ _ g => g)
      replace js2 := js2.fr f3 (fun _ _ g => g)
      replace row2 := row2.fr f3 (fun _ _ _ g => g)
      replace sm2 := sm2.fr0 f3
      replace sa2 := sa2.fr0 f3
      replace F2 := F2.quiet f3
      replace ln2 := Nat.le_trans ln2 hln3
      clear f3
      refine RunC.seq (RunC.draw0 rfl ?_)
      refine RunO.part 5 rfl ?_
      refine RunO.callD (pointers_ok ow2 js2 sm2 hml hl hp) rfl rfl rfl ?_
      rintro pv _ ⟨slp, rfl⟩
      refine RunO.copyAt (k := 8) rfl rfl rfl rfl on slp (allCells_map (f := Value.int .i64) (fun _ => rfl) _) rfl (Nat.le_of_ble_eq_true rfl) rfl ?_
      intro h4 on4 f4 hn4
      have hcells : (nc (l : Int) nZero).take 1 ++ (is (ptrOf m J2 l p)).take 8 ++ (nc (l : Int) nZero).drop (1 + 8) = nc (l : Int) (ptrOf m J2 l p) := by
        have e1 : (is (ptrOf m J2 l p)).take 8 = is (ptrOf m J2 l p) := List.take_of_length_le (by rw [is_len, hpl]; exact Nat.le_refl _)
        rw [e1]
        show [Value.int .i64 (l : Int)] ++ is (ptrOf m J2 l p) ++ [] = _
        rw [List.append_nil]; rfl
      replace on4 : Ow h4 q ((nc (l : Int) nZero).take 1 ++ (is (ptrOf m J2 l p)).take 8 ++ (nc (l : Int) nZero).drop (1 + 8)) := on4
      rw [hcells] at on4
      refine RunO.nil ?_
      have hkq := ks.k0
      have ow4 := ow2.fr f4 (fun e => by have e : kb = q := e; omega)
      have ws4 := ws2.fr f4 (fun k hk e => by have e : wb k = q := e; have := (ks.w0 k hk).2.1; omega)
      have js4 := js2.fr f4 (fun k hk e => by have e : jb k = q := e; have := (ks.j0 k hk).2.1; omega)
      have row4 := row2.frm f4 (fun b g e => by have e : b = q := e; have := hfv b g; omega)
      have sm4 := sm2.frm (fun b o c g e => by have e : b = q := e; have := hmlt b o c g; omega) f4
      have sa4 := sa2.frm (fun b o c g e => by have e : b = q := e; have := halt b o c g; omega) f4
      have F4 : Fr (WM jb) h h4 := F2.trans f4 (fun b e => .inr (by have e : b = q := e; omega))
      have r4 : IosR h.next h4 ov2 out1 := r2.quiet (f34 h4 f4)
      have ln4 : lo ≤ h4.next := by have := f4.next; omega
      clear ow2 ws2 js2 row2 sm2 sa2 F2 r2 f4 on f34
      refine RunC.seq (RunC.region ?_)
      refine RunO.load (v := .agg ⟨nc (l : Int) (ptrOf m J2 l p)⟩) rfl (nc_load hpl on4) rfl ?_
      refine RunO.callD (nodBytes_ok hpl) rfl rfl rfl ?_
      rintro v5 h5 ⟨f5, hv5⟩
      have hdat : ∃ dv e, v5 = .tuple #[dv, .int .i64 e] ∧ Sl h5 dv 1 (nodD l (ptrOf m J2 l p)).length (us (nodD l (ptrOf m J2 l p))) ∧ (∀ b o n c, dv = .slice (some ⟨b, o, none⟩) n c → h4.next ≤ b) ∧ cellsOf dv = [dv] ∧ isCell dv = true := by
        unfold nodD
        rcases hv5 with ⟨g1, b5, g2, rfl, o5⟩ | ⟨g1, rfl⟩
        · rw [if_pos g1]
          refine ⟨_, 0, rfl, ?_, fun b o n c e => by cases e; exact g2, rfl, rfl⟩
          have := sl_own o5 (nodBlock_len hpl) (Cp.exc (Nat.le_refl 64)) (by decide)
          exact this
        · rw [if_neg (by rw [g1]; exact Bool.false_ne_true)]
          exact ⟨_, 1, rfl, Sl.nil _ _, (fun b o n c e => by cases e), rfl, rfl⟩
      obtain ⟨dv, er, rfl, sd, hdv, hdc1, hdc2⟩ := hdat
      have hbd : Byt (nodD l (ptrOf m J2 l p)) := nodD_byt hpl
      have ow5 := ow4.fr f5 (fun g => g)
      have ws5 := ws4.fr f5 (fun _ _ g => g)
      have js5 := js4.fr f5 (fun _ _ g => g)
      have row5 := row4.fr f5 (fun _ _ _ g => g)
      have sm5 := sm4.fr0 f5
      have sa5 := sa4.fr0 f5
      have r5 := r4.quiet f5
      have F5 := F4.quiet f5
      have ln5 := Nat.le_trans ln4 f5.next
      have hAt5 : ∀ b, At ov2 b → b < h4.next := fun b g => by
        obtain ⟨acs, row, _⟩ := r4
        exact (row.at g).2
      have hh4 := F4.next
      clear ow4 ws4 js4 row4 sm4 sa4 r4 F4 f5 hv5
      refine RunO.all rfl ?_
      obtain ⟨dA, dc, hdve, _, _⟩ := sd.form
      -- one step more
      obtain ⟨acs, row6, k6⟩ := r5
      refine RunC.region ?_
      subst hdve
      refine RunO.part 5 (h1 := h5.push ⟨[.int .i64 1, .int .i64 b, .slice dA (nodD l (ptrOf m J2 l p)).length dc], true⟩) rfl ?_
      have fp : Fr no h5 (h5.push ⟨[.int .i64 1, .int .i64 b, .slice dA (nodD l (ptrOf m J2 l p)).length dc], true⟩) := Fr.push _ _ _
      have ob := Ow.push h5 [.int .i64 1, .int .i64 b, .slice dA (nodD l (ptrOf m J2 l p)).length dc]
      have row7 := row6.fr fp (fun _ _ _ g => g)
      have k7 : ∀ (j : Nat) (x : IoT), out1[j]? = some x → IoR (h5.push ⟨[.int .i64 1, .int .i64 b, .slice dA (nodD l (ptrOf m J2 l p)).length dc], true⟩) h.next ov2 x ((acs.drop (j * 3)).take 3) := fun j x hx => (k6 j x hx).fr fp (fun _ g => g.elim) (fun b _ g => g)
      have sd7 := sd.fr0 fp
      have ow7 := ow5.fr fp (fun g => g)
      have ws7 := ws5.fr fp (fun _ _ g => g)
      have js7 := js5.fr fp (fun _ _ g => g)
      have rowf7 := row5.fr fp (fun _ _ _ g => g)
      have sm7 := sm5.fr0 fp
      have sa7 := sa5.fr0 fp
      have F7 := F5.quiet fp
      have ln7 := Nat.le_trans ln5 fp.next
      clear ow5 ws5 js5 row5 sm5 sa5 F5 fp row6 k6 sd
      generalize h5.push ⟨[.int .i64 1, .int .i64 b, .slice dA (nodD l (ptrOf m J2 l p)).length dc], true⟩ = h7 at *
      refine RunO.append2 (s := 3) (m := 1) rfl rfl rfl rfl rfl rfl rfl rfl (by decide) row7 ob.all rfl (Nat.le_refl 1) rfl (by show 2 * (out1.length + 1) * 40 ≤ _; omega) (by omega) ?_
      intro ov8 h8 row8 f8
      have hAt8 : ∀ b, At ov2 b → h.next ≤ b := fun b g => (row7.at g).1
      have r8 := IosR.snoc (x := ((1 : Int), b, nodD l (ptrOf m J2 l p), ())) row7 k7 sd7 hbd (fun b o n c e => ⟨by have := hdv b o n c e; omega, fun g => by have := hdv b o n c e; have := hAt5 b g; omega⟩) row8 f8 F7.next
      rw [← hst2] at r8
      refine RunO.all rfl ?_
      refine RunC.region (RunO.all rfl ?_)
      refine ⟨d - 1, by omega, i + 1, ov8, by omega, F7.trans f8 (fun b g => .inr (hAt8 b g)), ?_, ?_, sm7.frm (fun b o c e g => by have := hmlt b o c e; have := hAt8 b g; omega) f8, sa7.frm (fun b o c e g => by have := halt b o c e; have := hAt8 b g; omega) f8, Le.cons (inc64 (by omega)) (Le.cons rfl (Le.cons rfl (Le.cons rfl (Le.cons rfl (Le.nil _)))))⟩
      · rw [hw2]; exact r8
      · rw [hw2]
        exact ⟨ow7.fr f8 (fun g => by have := hAt8 _ g; omega), ws7.fr f8 (fun k hk g => by have := hAt8 _ g; have := (ks.w0 k hk).2.1; omega), js7.fr f8 (fun k hk g => by have := hAt8 _ g; have := (ks.j0 k hk).2.1; omega), rowf7.frm f8 (fun b g e => by have := hAt8 _ e; have := hfv b g; omega), Nat.le_trans ln7 f8.next⟩
    · have hge := of_decide_eq_false hge
      obtain rfl : i = at_.length := by omega
      refine RunC.exit ?_
      exact RunC.seq (RunC.region (RunO.all rfl (RunC.ret ⟨_, rfl, F1, r1, kw1⟩)))
  · exact ⟨0, _, by omega, Fr.refl _ _, IosR.nil _ _, kw, smv, sa0, Le.cons rfl (Le.cons rfl (Le.cons rfl (Le.cons rfl (Le.cons rfl (Le.nil _)))))⟩
end Go.Proofs.Ytdcggjkcbheolaa
end
section
set_option linter.unusedVariables false
set_option maxRecDepth 100000
open Go Go.Am Go.RowKit
namespace Go.Proofs.Ytdcggjkcbheolaa
open Go.Proofs.Try
theorem clone64_ok {h : Heap} {v : Value} {l : List Int} (sl : Sl h v 1 l.length (is l)) (hb : 2 * l.length * 8 ≤ 281474976710656) :
    RunF prog 49 [v] h fun r h' => Osl h.next h' r 1 l.length (is l) ∧ Fr no h h' ∧ (l.length = 0 → h.next ≤ h'.next) := by
  refine RunF.walk func49 rfl rfl ?_
  refine RunC.seq (RunC.region (RunO.all rfl ?_))
  obtain ⟨hl, hm, ⟨rfl, h0⟩ | ⟨b, o, c, rfl, hc, rd⟩⟩ := sl
  · refine RunC.seq (RunC.seq (RunC.region (RunO.all rfl ?_)))
    refine RunC.cond rfl (fun _ => ?_) (fun g => by cases g)
    exact RunC.seq (RunC.region (RunO.all rfl (RunC.ret ⟨_, rfl, ⟨hl, hm, .inl ⟨rfl, h0⟩⟩, Fr.refl _ _, fun _ => Nat.le_refl _⟩)))
  · refine RunC.seq (RunC.seq (RunC.region (RunO.all rfl ?_)))
    refine RunC.cond rfl (fun g => by cases g) (fun _ => RunC.skip ?_)
    refine RunC.seq (RunC.region (RunO.part 2 (h1 := h.push ⟨[], true⟩) rfl ?_))
    have f1 : Fr no h (h.push ⟨[], true⟩) := Fr.push _ _ _
    have ow : Ow (h.push ⟨[], true⟩) h.next [] := Ow.push _ _
    by_cases hz : l.length = 0
    · have hn : l = [] := List.eq_nil_of_length_eq_zero hz
      subst hn
      have key : aappend prog (h.push ⟨[], true⟩) 36 36 (.slice (some ⟨h.next, 0, none⟩) 0 (exc 0)) (.slice (some ⟨b, o, none⟩) 0 c) = some (.slice (some ⟨h.next, 0, none⟩) 0 (exc 0), h.push ⟨[], true⟩) := by
        have hs : asrc (h.push ⟨[], true⟩) 1 (.slice (some ⟨b, o, none⟩) 0 c) = some (0, []) := ((rd.fr f1 (fun g => g)).sl (s := 1) (n := 0) rfl (Nat.zero_le _) hc).src0
        show (match asrc (h.push ⟨[], true⟩) 1 (.slice (some ⟨b, o, none⟩) 0 c) with
          | some (0, _) => some (Value.slice (some ⟨h.next, 0, none⟩) 0 (exc 0), h.push ⟨[], true⟩)
          | some (m + 1, news) => _
          | none => none) = _
        rw [hs]
      refine RunO.one rfl (v := .slice (some ⟨h.next, 0, none⟩) 0 (exc 0)) (h1 := h.push ⟨[], true⟩) key rfl ?_
      exact RunO.all rfl (RunC.ret ⟨_, rfl, ⟨rfl, hm, .inr ⟨h.next, exc 0, Nat.le_refl _, rfl, Cp.exc (Nat.le_refl _), ow⟩⟩, f1, fun _ => Nat.le_succ _⟩)
    · have key := append_full (P := prog) (t := 36) (e := 3) (s := 1) (k := 0) (m := l.length) (c := exc 0) (c' := c) (olds := []) (news := is l) (b := ⟨h.next, 0, none⟩) (a := ⟨b, o, none⟩) rfl rfl rfl rfl rfl (Nat.le_refl 1) ow.all rfl rfl (by show 0 < 0 + l.length; omega) (rd.fr f1 (fun g => g)) (by rw [is_len, Nat.mul_one]) (by omega)
        (by show 2 * (0 + l.length) * 8 ≤ _; omega) (by omega)
      rw [Nat.zero_add, List.nil_append] at key
      refine RunO.one rfl key rfl ?_
      refine RunO.all rfl (RunC.ret ⟨_, rfl, ⟨hl, hm, .inr ⟨_, _, Nat.le_succ _, rfl, Cp.unkc _ _, Ow.push _ _⟩⟩, f1.same (Fr.push _ _ _), fun _ => Nat.le_succ_of_le (Nat.le_succ _)⟩)
theorem IosR.lo {lo lo' : Nat} {h : Heap} {ov : Value} {l : List IoT} (r : IosR lo h ov l) (hl : lo' ≤ lo) : IosR lo' h ov l := by
  obtain ⟨acs, row, k⟩ := r
  refine ⟨acs, Row.lo row hl, fun j x hx => ?_⟩
  obtain ⟨dv, h1, h2, h3, h4⟩ := k j x hx
  exact ⟨dv, h1, h2, h3, fun b o n c e => ⟨Nat.le_trans hl (h4 b o n c e).1, (h4 b o n c e).2⟩⟩
theorem freP_ok (m o : List Int) : ∀ i (hi : i < (freP m o 3 0).length), (freP m o 3 0)[i].1 < 3 ∧ (freP m o 3 0)[i].2 < lvN (freP m o 3 0)[i].1 := by
  intro i hi
  have hm := List.getElem_mem hi
  generalize (freP m o 3 0)[i] = x at hm
  unfold freP at hm
  rw [List.mem_append] at hm
  rcases hm with hm | hm
  · rw [List.mem_flatMap] at hm
    obtain ⟨k, hk, hx⟩ := hm
    rw [List.mem_map] at hx
    obtain ⟨p, hp, rfl⟩ := hx
    unfold news at hp
    rw [List.mem_filter, List.mem_range] at hp
    exact ⟨List.mem_range.1 hk, hp.1⟩
  · rw [List.mem_map] at hm
    obtain ⟨p, hp, rfl⟩ := hm
    unfold news at hp
    rw [List.mem_filter, List.mem_range] at hp
    exact absurd hp.1 (Nat.not_lt_zero _)
/-- The new nodes of a new tree. -/
def freN (L : List Int) (root : Int) (m : List Int) : List (Nat × Nat) := freP m (treeM L root) 3 0
theorem freN_len (L : List Int) (root : Int) (m : List Int) : (freN L root m).length ≤ 256 := freP_le _ _ 3 0 (by decide) (by decide)
/-- Why a new tree is not built. -/
def bldE (L : List Int) (root : Int) (m fr : List Int) : Int := if beginE L root m = 0 then (if mayB (L.length / 64) m (treeM L root) (treeN L root) fr then (if decide ((fr.length : Int) < ((freN L root m).length : Nat)) then 9 else 0) else 1) else beginE L root m
def bldW (L : List Int) (root : Int) (m fr : List Int) : (Nat → List Int) × List IoT := wrS m (isT (wasT L (L.length / 64) root) m 3 0) (freN L root m) (fr.take (freN L root m).length) (freN L root m).length
def bldR (L : List Int) (root : Int) (m fr : List Int) : Int := ((bldW L root m fr).1 2).getD 0 0
set_option maxHeartbeats 16000000 in
theorem buildTree_ok {h : Heap} {iv mv av : Value} {L m fr : List Int} {root : Int} (sl : Sl h iv 1 L.length (us L)) (hb : Byt L) (hm : L.length ≤ 4611686018427387904) (smv : Sl h mv 1 m.length (is m)) (sa : Sl h av 1 fr.length (is fr)) (hf : fr.length ≤ 100000) :
    RunF prog 19 [iv, .int .i64 root, mv, av] h fun v h' => Fr no h h' ∧ ((bldE L root m fr = 0 ∧ ∃ ov rv, v = .tuple #[.int .i64 (bldR L root m fr), ov, rv, .int .i64 0] ∧ IosR h.next h' ov (bldW L root m fr).2 ∧ Osl h.next h' rv 1 (fr.drop (freN L root m).length).length (is (fr.drop (freN L root m).length))) ∨
      (bldE L root m fr ≠ 0 ∧ v = .tuple #[.int .i64 0, .slice none 0 0, .slice none 0 0, .int .i64 (bldE L root m fr)])) := by
  refine RunF.walk func19 rfl rfl ?_
  have sa0 := sa
  obtain ⟨A, c, hav, _, _⟩ := sa.form
  subst hav
  have hmlt := smv.lt
  have halt := sa0.lt
  refine RunC.seq (RunC.region (RunO.all rfl ?_))
  refine RunC.seq (RunC.region (RunO.part 3 rfl ?_))
  refine RunO.callD (begin_ok (root := root) sl hb hm smv) rfl rfl rfl ?_
  rintro _ h1 ⟨f1, hv1⟩
  by_cases hbe : beginE L root m = 0
  case neg =>
    have hE : bldE L root m fr = beginE L root m := by unfold bldE; rw [if_neg hbe]
    rw [hE]
    rcases hv1 with ⟨g, _⟩ | ⟨_, rfl⟩
    · exact absurd g hbe
    refine RunO.all rfl ?_
    refine RunC.seq (RunC.block ?_)
    refine RunC.seq (RunC.region (RunO.all rfl ?_))
    rw [show (beginE L root m != 0) = true from bne_iff_ne.2 hbe]
    refine RunC.cond rfl (fun _ => ?_) (fun g => by cases g)
    exact RunC.seq (RunC.region (RunO.all rfl (RunC.ret ⟨_, rfl, f1, .inr ⟨hbe, rfl⟩⟩)))
  rcases hv1 with ⟨_, kb, lo, wb, jb, fv, ov, rfl, hkb, ks, kw, kok⟩ | ⟨g, _⟩
  case inr => exact absurd hbe g
  obtain ⟨hte, hme, hml⟩ := beginE_ok hbe
  have hnl := treeN_len L root
  have hE : bldE L root m fr = if mayB (L.length / 64) m (treeM L root) (treeN L root) fr then (if decide ((fr.length : Int) < ((freN L root m).length : Nat)) then 9 else 0) else 1 := by unfold bldE; rw [if_pos hbe]
  rw [hE]
  have hW : bldW L root m fr = wrS m (isT (wasT L (L.length / 64) root) m 3 0) (freN L root m) (fr.take (freN L root m).length) (freN L root m).length := rfl
  have hR : bldR L root m fr = ((bldW L root m fr).1 2).getD 0 0 := rfl
  have hF256 := freN_len L root m
  have hFok := freP_ok m (treeM L root)
  have smv1 := smv.fr0 f1
  rw [hml] at smv1 hmlt
  have sa1 := sa0.fr0 f1
  change KW lo h1 kb iv (L.length / 64) ov mv wb jb fv (wasT L (L.length / 64) root) (isT (wasT L (L.length / 64) root) m 3 0) (freN L root m) at kw
  change ∀ i (hi : i < (freN L root m).length), (freN L root m)[i].1 < 3 ∧ (freN L root m)[i].2 < lvN (freN L root m)[i].1 at hFok
  generalize freN L root m = F at *
  refine RunO.all rfl ?_
  refine RunC.seq (RunC.block ?_)
  refine RunC.seq (RunC.region (RunO.all rfl ?_))
  refine RunC.cond rfl (fun g => by cases g) (fun _ => ?_)
  refine RunC.seq (RunC.region (RunO.part 2 rfl ?_))
  refine RunO.callD (may_ok kw kok.ko smv1 hml (by omega) sa1 hf) rfl rfl rfl ?_
  rintro _ _ ⟨rfl, rfl⟩
  refine RunO.all rfl ?_
  cases hmay : mayB (L.length / 64) m (treeM L root) (treeN L root) fr with
  | false =>
    rw [if_neg Bool.false_ne_true]
    refine RunC.cond rfl (fun _ => ?_) (fun g => by cases g)
    exact RunC.seq (RunC.region (RunO.all rfl (RunC.ret ⟨_, rfl, f1, .inr ⟨by decide, rfl⟩⟩)))
  | true =>
  rw [if_pos rfl]
  refine RunC.cond rfl (fun g => by cases g) (fun _ => ?_)
  refine RunC.seq (RunC.region (RunO.part 3 rfl ?_))
  refine RunO.callD (needs_ok kw hF256) rfl rfl rfl ?_
  rintro _ _ ⟨rfl, rfl⟩
  refine RunO.all rfl ?_
  cases hlt : decide ((fr.length : Int) < (F.length : Nat)) with
  | true =>
    rw [if_pos rfl]
    refine RunC.cond rfl (fun _ => ?_) (fun g => by cases g)
    exact RunC.seq (RunC.region (RunO.all rfl (RunC.ret ⟨_, rfl, f1, .inr ⟨by decide, rfl⟩⟩)))
  | false =>
  rw [if_neg Bool.false_ne_true]
  have hFl : F.length ≤ fr.length := by have := of_decide_eq_false hlt; omega
  refine RunC.cond rfl (fun g => by cases g) (fun _ => RunC.skip ?_)
  have hnx := f1.next
  -- the writes
  refine RunC.seq (RunC.region (RunO.part 3 rfl ?_))
  refine RunO.callD (needs_ok kw hF256) rfl rfl rfl ?_
  rintro _ _ ⟨rfl, rfl⟩
  refine RunO.sliceAll (s := 1) (len := fr.length) rfl rfl rfl rfl rfl sa1 (.none _) (.some _ _ _) (Nat.zero_le _) hFl rfl ?_
  intro tv st
  have st : ∀ h', Sl h' (.slice A fr.length c) 1 fr.length (is fr) → Sl h' tv 1 (fr.take F.length).length (is (fr.take F.length)) := fun h' g => by
    have st := st h' g
    rw [Nat.sub_zero, Nat.mul_one, Nat.zero_mul, List.drop_zero] at st
    rw [List.length_take, Nat.min_eq_left hFl]
    unfold is at *
    rw [List.map_take]; exact st
  have htl : (fr.take F.length).length = F.length := by rw [List.length_take, Nat.min_eq_left hFl]
  have htlt := (st h sa0).lt
  refine RunO.callD (writes_ok ks kw smv1 hml (fun b o c e l hl => by have := hmlt b o c e; have := (ks.j0 l hl).1; omega) (st h1 sa1) (fun b o c e l hl => by have := htlt b o c e; have := (ks.j0 l hl).1; omega) (by omega) hF256 hFok) rfl rfl rfl ?_
  rintro ov2 h2 ⟨f2, rios, kw2⟩
  rw [htl] at rios kw2
  rw [← hW] at rios kw2
  have F2 : Fr no h h2 := f1.trans f2 (fun b ⟨l, hl, e⟩ => .inr (by have := (ks.j0 l hl).1; omega))
  have sa2 := sa1.frm (fun b o c e ⟨l, hl, g⟩ => by have := halt b o c e; have := (ks.j0 l hl).1; omega) f2
  have hj2 : 0 < ((bldW L root m fr).1 2).length := by rw [(kw2.js 2 (by decide)).2]; decide
  have hjat : apart prog 3 (is ((bldW L root m fr).1 2)) (0 * 1) = some (.int .i64 (bldR L root m fr)) := by
    rw [hR, is_part hj2, List.getD_eq_getElem?_getD, List.getElem?_eq_getElem hj2]; rfl
  generalize bldW L root m fr = WW at *
  generalize bldR L root m fr = RR at *
  refine RunO.all rfl ?_
  refine RunC.seq (RunC.drawQ rfl ?_)
  refine RunQ.part 3 rfl ?_
  refine RunQ.indexA (s := 1) (k := 2) rfl rfl rfl rfl rfl (by decide) rfl ?_
  refine RunQ.load (v := slz (jb 2) (lvN 2)) rfl rfl (kw2.ow.ld (kc_j (by decide))) rfl ?_
  refine RunQ.at (s := 1) (k := 0) rfl (fun _ => rfl) rfl rfl (slW kw2.js (by decide)) rfl rfl (by decide) hjat rfl rfl rfl ?_
  refine RunQ.part 3 rfl ?_
  have kw3 : KW lo (h2.lo h2.next) kb iv (L.length / 64) ov mv wb jb fv (wasT L (L.length / 64) root) WW.1 F := ⟨kw2.ow, kw2.ws, kw2.js, kw2.row, kw2.ln⟩
  refine RunQ.call rfl (needs_ok kw3 hF256) (fun v h1 q => by obtain ⟨_, rfl⟩ := q; exact Fr.refl _ _) rfl rfl rfl ?_
  rintro _ _ ⟨rfl, rfl⟩
  refine RunQ.lo ?_
  refine RunQ.sliceSl (s := 1) (len := fr.length) rfl rfl rfl rfl rfl rfl sa2 (.some _ _ _) (.none _) hFl (Nat.le_refl _) rfl ?_
  intro rv sr
  have sr : Sl h2 rv 1 (fr.drop F.length).length (is (fr.drop F.length)) := by
    rw [Nat.mul_one, Nat.mul_one] at sr
    rw [List.length_drop]
    unfold is at *
    rw [List.map_drop]
    rw [List.take_of_length_le (by rw [List.length_drop, List.length_map]; exact Nat.le_refl _)] at sr
    exact sr
  refine RunQ.call rfl (clone64_ok (h := h2.lo h2.next) sr (by rw [List.length_drop]; omega)) (fun v h1 q => q.2.1) rfl rfl rfl ?_
  rintro qv h3 ⟨so, f3, _⟩
  refine RunQ.all rfl ?_
  intro lw F3
  have so2 : Osl h.next (h3.lo lw) qv 1 (fr.drop F.length).length (is (fr.drop F.length)) := Osl.lo so F2.next
  refine RunC.ret ⟨_, rfl, F2.same F3, .inl ⟨rfl, ov2, qv, rfl, ?_, so2⟩⟩
  exact (rios.quiet F3).lo f1.next
end Go.Proofs.Ytdcggjkcbheolaa
end
section
set_option linter.unusedVariables false
set_option maxRecDepth 100000
open Go Go.Am Go.RowKit
namespace Go.Proofs.Ytdcggjkcbheolaa
open Go.Proofs.Try
/-- A node's pointers; of no node none. -/
def ptrsL (L : List Int) (B : Nat) (p : Int) : List Int := if p = 0 then nZero else (atV L B p).2
theorem ptrsL_len (L : List Int) (B : Nat) (p : Int) : (ptrsL L B p).length = 8 := by
  unfold ptrsL; split
  · rfl
  · exact atV_len L B p
theorem nz_get (i : Nat) : nZero.getD i 0 = 0 := by
  show (List.replicate 8 (0 : Int)).getD i 0 = 0
  rw [List.getD_eq_getElem?_getD, List.getElem?_replicate]; split <;> rfl
theorem look_suc (L : List Int) (B k : Nat) (p : Int) (s : Nat) : look L B (k + 1) p s = look L B k ((ptrsL L B p).getD (s / 8 ^ k) 0) (s % 8 ^ k) := by
  show (if p = 0 then 0 else _) = _
  unfold ptrsL
  by_cases e : p = 0
  · rw [if_pos e, if_pos e, nz_get, look_zero]
  · rw [if_neg e, if_neg e]
/-- One level more, at the end of the way. -/
theorem look_last (L : List Int) (B : Nat) : ∀ (k : Nat) (p : Int) (s : Nat), s < 8 ^ (k + 1) → look L B (k + 1) p s = (ptrsL L B (look L B k p (s / 8))).getD (s % 8) 0
  | 0, p, s, h => by
    rw [look_suc]
    show (ptrsL L B p).getD (s / 8 ^ 0) 0 = (ptrsL L B p).getD (s % 8) 0
    rw [Nat.pow_zero, Nat.div_one, Nat.mod_eq_of_lt (by simpa using h)]
  | k + 1, p, s, h => by
    have hpos : 0 < 8 ^ k := Nat.pow_pos (by decide)
    have hp : 8 ^ (k + 1) = 8 ^ k * 8 := Nat.pow_succ ..
    rw [look_suc, look_last L B k _ _ (Nat.mod_lt _ (by omega)), look_suc L B k p (s / 8)]
    have e1 : s / 8 ^ (k + 1) = s / 8 / 8 ^ k := by rw [hp, Nat.mul_comm, Nat.div_div_eq_div_mul]
    have e2 : s % 8 ^ (k + 1) / 8 = s / 8 % 8 ^ k := by rw [hp, Nat.mul_comm, Nat.mod_mul_right_div_self]
    have e3 : s % 8 ^ (k + 1) % 8 = s % 8 := by rw [hp, Nat.mul_comm, Nat.mod_mul_right_mod]
    rw [e1, e2, e3]
/-- The nodes under a pointer, from the top. -/
def nodL (L : List Int) (B : Nat) : Nat → Int → List Int
  | 0, _ => []
  | k + 1, p => if p = 0 then [] else p :: (List.range 8).flatMap fun i => nodL L B k ((ptrsL L B p).getD i 0)
theorem nodL_zero (L : List Int) (B k : Nat) : nodL L B k 0 = [] := by cases k <;> rfl
/-- Under a pointer each node is one, of its level. -/
def okA (L : List Int) (B k : Nat) (p : Int) : Prop := ∀ s, s < 8 ^ k → pathOk L B k p s
theorem okA_at {L : List Int} {B k : Nat} {p : Int} (h : okA L B (k + 1) p) (hp : p ≠ 0) : atIs L B p (k : Int) = true := (h 0 (Nat.pow_pos (by decide)) hp).1
theorem okA_zero (L : List Int) (B k : Nat) : okA L B k 0 := by
  intro s hs
  cases k with
  | zero => trivial
  | succ k => exact fun e => absurd rfl e
theorem okA_child {L : List Int} {B k : Nat} {p : Int} (h : okA L B (k + 1) p) {i : Nat} (hi : i < 8) : okA L B k ((ptrsL L B p).getD i 0) := by
  by_cases hp : p = 0
  · have : (ptrsL L B p).getD i 0 = 0 := by unfold ptrsL; rw [if_pos hp, nz_get]
    rw [this]; exact okA_zero L B k
  · intro s hs
    have hpos : 0 < 8 ^ k := Nat.pow_pos (by decide)
    have hlt : i * 8 ^ k + s < 8 ^ (k + 1) := by
      have : i * 8 ^ k + 8 ^ k ≤ 8 ^ k * 8 := by rw [← Nat.succ_mul, Nat.mul_comm]; exact Nat.mul_le_mul_left _ hi
      rw [Nat.pow_succ]; omega
    have := (h _ hlt hp).2
    have e1 : (i * 8 ^ k + s) / 8 ^ k = i := by rw [Nat.add_comm, Nat.add_mul_div_right _ _ hpos, Nat.div_eq_of_lt hs, Nat.zero_add]
    have e2 : (i * 8 ^ k + s) % 8 ^ k = s := by rw [Nat.add_comm, Nat.add_mul_mod_self_right, Nat.mod_eq_of_lt hs]
    rw [e1, e2] at this
    unfold ptrsL
    rw [if_neg hp]
    exact this
theorem okA_mk {L : List Int} {B k : Nat} {p : Int} (h1 : p ≠ 0 → atIs L B p (k : Int) = true) (h2 : ∀ i, i < 8 → okA L B k ((ptrsL L B p).getD i 0)) : okA L B (k + 1) p := by
  intro s hs hp
  have hpos : 0 < 8 ^ k := Nat.pow_pos (by decide)
  refine ⟨h1 hp, ?_⟩
  have := h2 (s / 8 ^ k) (by rw [Nat.div_lt_iff_lt_mul hpos]; rw [Nat.pow_succ, Nat.mul_comm] at hs; exact hs) (s % 8 ^ k) (Nat.mod_lt _ hpos)
  unfold ptrsL at this
  rw [if_neg hp] at this
  exact this
theorem nodup_pre {α : Type} {a b c : List α} (h : (a ++ b ++ c).Nodup) : (a ++ b).Nodup := (List.nodup_append.1 h).1
theorem flat_pre {f : Nat → List Int} {i : Nat} (hi : i < 8) : ∃ t, (List.range 8).flatMap f = (List.range i).flatMap f ++ f i ++ t := by
  refine ⟨((List.range (8 - (i + 1))).map (i + 1 + ·)).flatMap f, ?_⟩
  have : List.range 8 = List.range (i + 1) ++ (List.range (8 - (i + 1))).map (i + 1 + ·) := by rw [← List.range_add]; congr 1; omega
  rw [this, List.flatMap_append, List.range_succ, List.flatMap_append]
  simp
/-- A walk that ends well has met just the nodes under its pointer. -/
def NodAt (L : List Int) (B lv : Nat) : Prop := ∀ (a : Int) (f : Nat) (w : TS), w.2.2 = false → (tgo L B lv a f w).2.2 = false → (tgo L B lv a f w).2.1 = w.2.1 ++ nodL L B (lv + 1) a
theorem nod_body {L : List Int} {B lv : Nat} (hrec : ∀ k, lv = k + 1 → NodAt L B k) : NodAt L B lv := by
  intro a f w hw h
  obtain ⟨m, ns, bd⟩ := w
  simp only at hw
  subst hw
  rw [tgo_eq] at h ⊢
  unfold tbody at h ⊢
  by_cases hc : (!atIs L B a (lv : Int) || ns.contains a) = true
  · rw [if_pos hc] at h; cases h
  rw [if_neg hc] at h ⊢
  rw [Bool.or_eq_true, not_or, Bool.not_eq_true, Bool.not_eq_true, Bool.not_eq_false'] at hc
  have ha := atIs_ne hc.1
  have ha0 : a ≠ 0 := by omega
  have hp : ptrsL L B a = (atV L B a).2 := by unfold ptrsL; rw [if_neg ha0]
  have hn : nodL L B (lv + 1) a = a :: (List.range 8).flatMap fun i => nodL L B lv ((ptrsL L B a).getD i 0) := by show (if a = 0 then _ else _) = _; rw [if_neg ha0]
  rw [hn]
  change ((List.range 8).foldl (tst L B lv (atV L B a).2 f) (m, ns ++ [a], false)).2.2 = false at h
  show ((List.range 8).foldl (tst L B lv (atV L B a).2 f) (m, ns ++ [a], false)).2.1 = _
  have key : ∀ i, i ≤ 8 → ((List.range i).foldl (tst L B lv (atV L B a).2 f) (m, ns ++ [a], false)).2.1 = ns ++ a :: (List.range i).flatMap fun i => nodL L B lv ((ptrsL L B a).getD i 0) := by
    intro i
    induction i with
    | zero => intro _; rfl
    | succ i ih =>
      intro hi
      have hnb := fold_pre h (i := i) (by omega)
      have hnb1 := fold_pre h (i := i + 1) hi
      have ih := ih (by omega)
      have hstep : (List.range (i + 1)).foldl (tst L B lv (atV L B a).2 f) (m, ns ++ [a], false) = tst L B lv (atV L B a).2 f ((List.range i).foldl (tst L B lv (atV L B a).2 f) (m, ns ++ [a], false)) i := by rw [List.range_succ, List.foldl_append]; rfl
      rw [hstep] at hnb1 ⊢
      have hfl : (List.range (i + 1)).flatMap (fun i => nodL L B lv ((ptrsL L B a).getD i 0)) = (List.range i).flatMap (fun i => nodL L B lv ((ptrsL L B a).getD i 0)) ++ nodL L B lv ((ptrsL L B a).getD i 0) := by rw [List.range_succ, List.flatMap_append]; simp
      rw [hfl]
      generalize (List.range i).foldl (tst L B lv (atV L B a).2 f) (m, ns ++ [a], false) = W at *
      rw [hp] at ih ⊢
      unfold tst tstep at hnb1 ⊢
      rw [hnb, if_neg Bool.false_ne_true] at hnb1 ⊢
      generalize hpi : (atV L B a).2.getD i 0 = p at *
      have fin : ∀ X : List Int, X = W.2.1 ++ nodL L B lv p → X = ns ++ a :: ((List.range i).flatMap (fun i => nodL L B lv ((atV L B a).2.getD i 0)) ++ nodL L B lv p) := fun X e => by rw [e, ih, List.append_assoc, List.cons_append]
      by_cases hB : decide (p ≥ (B : Int)) = true
      · rw [if_pos hB] at hnb1; cases hnb1
      rw [if_neg hB] at hnb1 ⊢
      cases lv with
      | zero =>
        refine fin _ ?_
        show _ = W.2.1 ++ []
        rw [List.append_nil]
        split
        · rfl
        · split <;> rfl
      | succ k =>
        rw [if_neg (by simp)] at hnb1 ⊢
        by_cases hp0 : p = 0
        · rw [if_neg (by simp [hp0])]
          refine fin _ ?_
          rw [hp0, nodL_zero, List.append_nil]
        · rw [if_pos (bne_iff_ne.2 hp0)] at hnb1 ⊢
          exact fin _ (hrec k rfl p (f + i * 8 ^ (k + 1)) W hnb hnb1)
  exact key 8 (Nat.le_refl 8)
theorem tgo_nod (L : List Int) (B : Nat) : ∀ lv, NodAt L B lv := by
  intro lv
  induction lv with
  | zero => exact nod_body (fun k e => by cases e)
  | succ k ih => exact nod_body (fun j e => by cases e; exact ih)
/-- A walk ends well. -/
def FineAt (L : List Int) (B lv : Nat) : Prop := ∀ (a : Int) (f : Nat) (w : TS), w.2.2 = false → a ≠ 0 → okA L B (lv + 1) a → (w.2.1 ++ nodL L B (lv + 1) a).Nodup → (∀ s, s < 8 ^ (lv + 1) → look L B (lv + 1) a s < B) → (tgo L B lv a f w).2.2 = false
theorem fine_body {L : List Int} {B lv : Nat} (hrec : ∀ k, lv = k + 1 → FineAt L B k) : FineAt L B lv := by
  intro a f w hw ha0 hok hnd hlt
  obtain ⟨m, ns, bd⟩ := w
  simp only at hw hnd
  subst hw
  have hn : nodL L B (lv + 1) a = a :: (List.range 8).flatMap fun i => nodL L B lv ((ptrsL L B a).getD i 0) := by show (if a = 0 then _ else _) = _; rw [if_neg ha0]
  have hp : ptrsL L B a = (atV L B a).2 := by unfold ptrsL; rw [if_neg ha0]
  rw [hn] at hnd
  have hat := okA_at hok ha0
  have hB0 : 0 < B := by have := atIs_ne hat; omega
  have hnc : ns.contains a = false := by
    rw [← Bool.not_eq_true]
    intro c
    have hm : a ∈ ns := by simpa using c
    exact (List.nodup_append.1 hnd).2.2 a hm a (List.mem_cons_self ..) rfl
  rw [tgo_eq]
  unfold tbody
  simp only
  rw [hat, hnc, if_neg (by simp)]
  change ((List.range 8).foldl (tst L B lv (atV L B a).2 f) (m, ns ++ [a], false)).2.2 = false
  have key : ∀ i, i ≤ 8 → ((List.range i).foldl (tst L B lv (atV L B a).2 f) (m, ns ++ [a], false)).2.2 = false ∧ ((List.range i).foldl (tst L B lv (atV L B a).2 f) (m, ns ++ [a], false)).2.1 = ns ++ a :: (List.range i).flatMap fun i => nodL L B lv ((ptrsL L B a).getD i 0) := by
    intro i
    induction i with
    | zero => intro _; exact ⟨rfl, rfl⟩
    | succ i ih =>
      intro hi
      obtain ⟨ih1, ih2⟩ := ih (by omega)
      have hstep : (List.range (i + 1)).foldl (tst L B lv (atV L B a).2 f) (m, ns ++ [a], false) = tst L B lv (atV L B a).2 f ((List.range i).foldl (tst L B lv (atV L B a).2 f) (m, ns ++ [a], false)) i := by rw [List.range_succ, List.foldl_append]; rfl
      rw [hstep]
      have hfl : (List.range (i + 1)).flatMap (fun i => nodL L B lv ((ptrsL L B a).getD i 0)) = (List.range i).flatMap (fun i => nodL L B lv ((ptrsL L B a).getD i 0)) ++ nodL L B lv ((ptrsL L B a).getD i 0) := by rw [List.range_succ, List.flatMap_append]; simp
      rw [hfl]
      obtain ⟨t, ht⟩ := flat_pre (f := fun i => nodL L B lv ((ptrsL L B a).getD i 0)) (show i < 8 by omega)
      rw [ht] at hnd
      have hsp := okA_child hok (i := i) (by omega)
      have hls : ∀ s, s < 8 ^ lv → look L B lv ((ptrsL L B a).getD i 0) s < B := fun s hs => by
        have hpos : 0 < 8 ^ lv := Nat.pow_pos (by decide)
        have hl2 : i * 8 ^ lv + s < 8 ^ (lv + 1) := by
          have : i * 8 ^ lv + 8 ^ lv ≤ 8 ^ lv * 8 := by rw [← Nat.succ_mul, Nat.mul_comm]; exact Nat.mul_le_mul_left _ hi
          rw [Nat.pow_succ]; omega
        have := hlt _ hl2
        rw [look_suc] at this
        have e1 : (i * 8 ^ lv + s) / 8 ^ lv = i := by rw [Nat.add_comm, Nat.add_mul_div_right _ _ hpos, Nat.div_eq_of_lt hs, Nat.zero_add]
        have e2 : (i * 8 ^ lv + s) % 8 ^ lv = s := by rw [Nat.add_comm, Nat.add_mul_mod_self_right, Nat.mod_eq_of_lt hs]
        rwa [e1, e2] at this
      generalize (List.range i).foldl (tst L B lv (atV L B a).2 f) (m, ns ++ [a], false) = W at *
      have hnW : (W.2.1 ++ nodL L B lv ((ptrsL L B a).getD i 0)).Nodup := by
        rw [ih2]
        have e : ns ++ a :: ((List.range i).flatMap (fun i => nodL L B lv ((ptrsL L B a).getD i 0)) ++ nodL L B lv ((ptrsL L B a).getD i 0) ++ t) = (ns ++ a :: (List.range i).flatMap fun i => nodL L B lv ((ptrsL L B a).getD i 0)) ++ nodL L B lv ((ptrsL L B a).getD i 0) ++ t := by simp
        rw [e] at hnd
        exact nodup_pre hnd
      rw [hp] at hsp hls hnW ih2 ⊢
      unfold tst tstep
      rw [ih1, if_neg Bool.false_ne_true]
      generalize hpi : (atV L B a).2.getD i 0 = p at *
      have fin : ∀ X : List Int, X = W.2.1 ++ nodL L B lv p → X = ns ++ a :: ((List.range i).flatMap (fun i => nodL L B lv ((atV L B a).2.getD i 0)) ++ nodL L B lv p) := fun X e => by rw [e, ih2, List.append_assoc, List.cons_append]
      have hpB : p < B := by
        by_cases hp0 : p = 0
        · omega
        · cases lv with
          | zero => exact hls 0 (by decide)
          | succ k => exact (atIs_ne (okA_at hsp hp0)).2
      rw [if_neg (by rw [decide_eq_true_eq]; omega)]
      cases lv with
      | zero =>
        refine ⟨?_, fin _ ?_⟩
        · split
          · rfl
          · split
            · exact ih1
            · exact ih1
        · show _ = W.2.1 ++ []
          rw [List.append_nil]
          split
          · rfl
          · split <;> rfl
      | succ k =>
        rw [if_neg (by simp)]
        by_cases hp0 : p = 0
        · rw [if_neg (by simp [hp0])]
          refine ⟨ih1, fin _ ?_⟩
          rw [hp0, nodL_zero, List.append_nil]
        · rw [if_pos (bne_iff_ne.2 hp0)]
          have h1 := hrec k rfl p (f + i * 8 ^ (k + 1)) W ih1 hp0 hsp hnW hls
          exact ⟨h1, fin _ (tgo_nod L B k p (f + i * 8 ^ (k + 1)) W ih1 h1)⟩
  exact (key 8 (Nat.le_refl 8)).1
theorem tgo_fine (L : List Int) (B : Nat) : ∀ lv, FineAt L B lv := by
  intro lv
  induction lv with
  | zero => exact fine_body (fun k e => by cases e)
  | succ k ih => exact fine_body (fun j e => by cases e; exact ih)
/-- What a tree is. -/
structure TreeIs (L : List Int) (root : Int) (m : List Int) : Prop where
  len : m.length = 512
  ok : okA L (L.length / 64) 3 root
  nd : (nodL L (L.length / 64) 3 root).Nodup
  map : ∀ s, s < 512 → look L (L.length / 64) 3 root s = m.getD s 0
  lt : ∀ s, s < 512 → m.getD s 0 < (L.length / 64 : Nat)
  out : ∀ s, s < 512 → ¬ m.getD s 0 ∈ nodL L (L.length / 64) 3 root
theorem TreeIs.of {L : List Int} {root : Int} (hB : 0 < L.length / 64) (h : treeOk L root = true) : TreeIs L root (treeM L root) ∧ treeN L root = nodL L (L.length / 64) 3 root := by
  by_cases hr : root = 0
  · subst hr
    have hz : ∀ s, (treeM L 0).getD s 0 = 0 := fun s => by
      show (List.replicate 512 (0 : Int)).getD s 0 = 0
      rw [List.getD_eq_getElem?_getD, List.getElem?_replicate]; split <;> rfl
    exact ⟨⟨treeM_len L 0, okA_zero _ _ _, by rw [nodL_zero]; exact List.nodup_nil, fun s _ => by rw [hz, look_zero], fun s _ => by rw [hz]; omega, fun s _ => by rw [nodL_zero]; simp⟩, by rw [nodL_zero]; rfl⟩
  · have S := tree_spec hr h
    have hn : treeN L root = (treeW L root).2.1 := by unfold treeN; rw [show (root == 0) = false from beq_eq_false_iff_ne.2 hr]; rfl
    have hm : treeM L root = (treeW L root).1 := by unfold treeM; rw [show (root == 0) = false from beq_eq_false_iff_ne.2 hr]; rfl
    have h2 := h
    unfold treeOk at h2
    rw [show (root == 0) = false from beq_eq_false_iff_ne.2 hr, Bool.false_or, Bool.and_eq_true, Bool.not_eq_true', Bool.not_eq_true'] at h2
    have hnod : treeN L root = nodL L (L.length / 64) 3 root := by
      have := tgo_nod L (L.length / 64) 2 root 0 (List.replicate 512 0, [], false) rfl h2.1
      rw [hn]
      exact this.trans (List.nil_append _)
    have hml := treeM_len L root
    have hmem : ∀ s, s < 512 → (treeM L root).getD s 0 ∈ treeM L root := fun s hs => by
      rw [List.getD_eq_getElem?_getD, List.getElem?_eq_getElem (by omega)]
      exact List.getElem_mem _
    refine ⟨⟨hml, fun s hs => S.path s hs, ?_, fun s hs => (tree_at hr h hs).symm, fun s hs => ?_, fun s hs c => ?_⟩, hnod⟩
    · rw [← hnod]; exact S.nd List.nodup_nil
    · rcases S.bnd _ (hmem s hs) with g | g | g
      · have := (List.mem_replicate.1 g).2; omega
      · omega
      · exact g
    · rw [← hnod] at c
      have := List.any_eq_false.1 h2.2 _ (by rw [← hm]; exact hmem s hs)
      rw [← hn] at this
      exact this (by simpa using c)
theorem TreeIs.tree {L : List Int} {root : Int} {m : List Int} (t : TreeIs L root m) : treeOk L root = true ∧ treeM L root = m ∧ treeN L root = nodL L (L.length / 64) 3 root := by
  by_cases hr : root = 0
  · subst hr
    refine ⟨rfl, ?_, by rw [nodL_zero]; rfl⟩
    show List.replicate 512 (0 : Int) = m
    apply List.ext_getElem?
    intro s
    by_cases hs : s < 512
    · have := t.map s hs
      rw [look_zero, List.getD_eq_getElem?_getD, List.getElem?_eq_getElem (by rw [t.len]; exact hs)] at this
      rw [List.getElem?_replicate, if_pos hs, List.getElem?_eq_getElem (by rw [t.len]; exact hs)]
      exact congrArg some this
    · rw [List.getElem?_eq_none (by simp; omega), List.getElem?_eq_none (by rw [t.len]; omega)]
  · have hf := tgo_fine L (L.length / 64) 2 root 0 (List.replicate 512 0, [], false) rfl hr t.ok (by rw [List.nil_append]; exact t.nd) (fun s hs => by rw [t.map s hs]; exact t.lt s hs)
    have hnod := tgo_nod L (L.length / 64) 2 root 0 (List.replicate 512 0, [], false) rfl hf
    have S := tgo_spec L (L.length / 64) 2 root 0 (List.replicate 512 0, [], false) (by decide) List.length_replicate rfl (fun s _ _ => by
      rw [List.getD_eq_getElem?_getD, List.getElem?_replicate]; split <;> rfl) hf
    have hlen : (treeW L root).1.length = 512 := treeW_len L root
    have hmap : (treeW L root).1 = m := by
      apply List.ext_getElem?
      intro s
      by_cases hs : s < 512
      · have := S.m s hs
        rw [if_pos ⟨Nat.zero_le _, by simpa using hs⟩, Nat.sub_zero, t.map s hs] at this
        change (treeW L root).1.getD s 0 = m.getD s 0 at this
        rw [List.getD_eq_getElem?_getD, List.getD_eq_getElem?_getD, List.getElem?_eq_getElem (by omega), List.getElem?_eq_getElem (by rw [t.len]; exact hs)] at this
        rw [List.getElem?_eq_getElem (by omega), List.getElem?_eq_getElem (by rw [t.len]; exact hs)]
        exact congrArg some this
      · rw [List.getElem?_eq_none (by omega), List.getElem?_eq_none (by rw [t.len]; omega)]
    have hnodW : (treeW L root).2.1 = nodL L (L.length / 64) 3 root := hnod.trans (List.nil_append _)
    have hfW : (treeW L root).2.2 = false := hf
    have e0 : (root == 0) = false := beq_eq_false_iff_ne.2 hr
    refine ⟨?_, ?_, ?_⟩
    · unfold treeOk
      rw [e0, hfW, hmap, hnodW, Bool.false_or, Bool.not_false, Bool.true_and, Bool.not_eq_true', List.any_eq_false]
      intro x hx c
      obtain ⟨s, hs, rfl⟩ := List.mem_iff_getElem.1 hx
      have := t.out s (by rw [← t.len]; exact hs)
      rw [List.getD_eq_getElem?_getD, List.getElem?_eq_getElem hs] at this
      exact this (by simpa using c)
    · unfold treeM; rw [e0]; exact hmap
    · unfold treeN; rw [e0]; exact hnodW
end Go.Proofs.Ytdcggjkcbheolaa
end
section
set_option linter.unusedVariables false
set_option maxRecDepth 100000
open Go Go.Am Go.RowKit
namespace Go.Proofs.Ytdcggjkcbheolaa
open Go.Proofs.Try
/-- The places of a tree's nodes: so far down, so far along. -/
def posL : Nat → List (Nat × Nat)
  | 0 => []
  | k + 1 => (0, 0) :: (List.range 8).flatMap fun i => (posL k).map fun x => (x.1 + 1, i * 8 ^ x.1 + x.2)
theorem posL_lt : ∀ (k : Nat) (x : Nat × Nat), x ∈ posL k → x.1 < k ∧ x.2 < 8 ^ x.1
  | 0, x, h => by cases h
  | k + 1, x, h => by
    rcases List.mem_cons.1 h with rfl | h
    · exact ⟨Nat.succ_pos _, by decide⟩
    · obtain ⟨i, hi, h⟩ := List.mem_flatMap.1 h
      obtain ⟨y, hy, rfl⟩ := List.mem_map.1 h
      rw [List.mem_range] at hi
      obtain ⟨h1, h2⟩ := posL_lt k y hy
      refine ⟨by omega, ?_⟩
      show i * 8 ^ y.1 + y.2 < 8 ^ (y.1 + 1)
      have : i * 8 ^ y.1 + 8 ^ y.1 ≤ 8 ^ y.1 * 8 := by rw [← Nat.succ_mul, Nat.mul_comm]; exact Nat.mul_le_mul_left _ hi
      rw [Nat.pow_succ]; omega
theorem posL_mem : ∀ (k d q : Nat), d < k → q < 8 ^ d → (d, q) ∈ posL k
  | 0, d, q, h, _ => absurd h (Nat.not_lt_zero _)
  | k + 1, 0, q, _, h2 => by
    have : q = 0 := by simpa using h2
    subst this
    exact List.mem_cons_self ..
  | k + 1, d + 1, q, h1, h2 => by
    have hpos : 0 < 8 ^ d := Nat.pow_pos (by decide)
    refine List.mem_cons_of_mem _ (List.mem_flatMap.2 ⟨q / 8 ^ d, List.mem_range.2 (by rw [Nat.div_lt_iff_lt_mul hpos]; rw [Nat.pow_succ, Nat.mul_comm] at h2; exact h2), List.mem_map.2 ⟨(d, q % 8 ^ d), posL_mem k d _ (by omega) (Nat.mod_lt _ hpos), ?_⟩⟩)
    show (d + 1, q / 8 ^ d * 8 ^ d + q % 8 ^ d) = _
    rw [Nat.div_add_mod']
theorem look_at {L : List Int} {B d i q : Nat} {p : Int} (hi : i < 8) (hq : q < 8 ^ d) : look L B (d + 1) p (i * 8 ^ d + q) = look L B d ((ptrsL L B p).getD i 0) q := by
  have hpos : 0 < 8 ^ d := Nat.pow_pos (by decide)
  rw [look_suc]
  have e1 : (i * 8 ^ d + q) / 8 ^ d = i := by rw [Nat.add_comm, Nat.add_mul_div_right _ _ hpos, Nat.div_eq_of_lt hq, Nat.zero_add]
  have e2 : (i * 8 ^ d + q) % 8 ^ d = q := by rw [Nat.add_comm, Nat.add_mul_mod_self_right, Nat.mod_eq_of_lt hq]
  rw [e1, e2]
theorem filter_flat {α β : Type} (f : α → List β) (p : β → Bool) : ∀ l : List α, (l.flatMap f).filter p = l.flatMap fun x => (f x).filter p
  | [] => rfl
  | x :: l => by rw [List.flatMap_cons, List.filter_append, filter_flat f p l, List.flatMap_cons]
theorem nodL_pos (L : List Int) (B : Nat) : ∀ (k : Nat) (p : Int), nodL L B k p = ((posL k).map fun x => look L B x.1 p x.2).filter (· != 0)
  | 0, p => rfl
  | k + 1, p => by
    by_cases hp : p = 0
    · subst hp
      rw [nodL_zero]
      symm
      rw [List.filter_eq_nil_iff]
      intro x hx
      obtain ⟨y, _, rfl⟩ := List.mem_map.1 hx
      rw [look_zero]; simp
    · show (if p = 0 then _ else _) = _
      rw [if_neg hp]
      show _ = List.filter _ (List.map _ ((0, 0) :: _))
      rw [List.map_cons, List.filter_cons_of_pos (by show (p != 0) = true; exact bne_iff_ne.2 hp)]
      show p :: _ = p :: _
      congr 1
      rw [List.map_flatMap, filter_flat]
      have key : ∀ l : List Nat, (∀ i ∈ l, i < 8) → (l.flatMap fun i => nodL L B k ((ptrsL L B p).getD i 0)) = l.flatMap fun i => List.filter (· != 0) (List.map (fun x => look L B x.1 p x.2) (List.map (fun x => (x.1 + 1, i * 8 ^ x.1 + x.2)) (posL k))) := by
        intro l
        induction l with
        | nil => intro _; rfl
        | cons i l ih =>
          intro hl
          rw [List.flatMap_cons, List.flatMap_cons, ih (fun j hj => hl j (List.mem_cons_of_mem _ hj)), nodL_pos L B k]
          congr 2
          rw [List.map_map]
          apply List.map_congr_left
          intro x hx
          exact (look_at (hl i (List.mem_cons_self ..)) (posL_lt k x hx).2).symm
      exact key _ (fun i hi => List.mem_range.1 hi)
theorem nodL_mem {L : List Int} {B k : Nat} {p x : Int} : x ∈ nodL L B k p ↔ x ≠ 0 ∧ ∃ d q, d < k ∧ q < 8 ^ d ∧ look L B d p q = x := by
  rw [nodL_pos, List.mem_filter, List.mem_map, bne_iff_ne]
  constructor
  · rintro ⟨⟨y, hy, rfl⟩, h0⟩
    exact ⟨h0, y.1, y.2, (posL_lt k y hy).1, (posL_lt k y hy).2, rfl⟩
  · rintro ⟨h0, d, q, hd, hq, rfl⟩
    exact ⟨⟨(d, q), posL_mem k d q hd hq, rfl⟩, h0⟩
theorem posL3_nodup : (posL 3).Nodup := by decide
theorem nodL_nodup {L : List Int} {B : Nat} {p : Int} (h : ∀ d q d' q', d < 3 → q < 8 ^ d → d' < 3 → q' < 8 ^ d' → look L B d p q ≠ 0 → look L B d p q = look L B d' p q' → d = d' ∧ q = q') : (nodL L B 3 p).Nodup := by
  rw [nodL_pos]
  show List.Pairwise _ _
  rw [List.pairwise_filter, List.pairwise_map]
  refine (List.Pairwise.and_mem.1 posL3_nodup).imp ?_
  rintro ⟨d, q⟩ ⟨d', q'⟩ ⟨h1, h2, hne⟩ h3 h4 e
  have p1 := posL_lt 3 _ h1
  have p2 := posL_lt 3 _ h2
  obtain ⟨rfl, rfl⟩ := h d q d' q' p1.1 p1.2 p2.1 p2.2 (by simpa using h3) e
  exact hne rfl
theorem nodL_inj {L : List Int} {B : Nat} {p : Int} (h : (nodL L B 3 p).Nodup) {d q d' q' : Nat} (hd : d < 3) (hq : q < 8 ^ d) (hd' : d' < 3) (hq' : q' < 8 ^ d') (h0 : look L B d p q ≠ 0) (e : look L B d p q = look L B d' p q') : d = d' ∧ q = q' := by
  rw [nodL_pos] at h
  change List.Pairwise _ _ at h
  rw [List.pairwise_filter, List.pairwise_map] at h
  have m1 := posL_mem 3 d q hd hq
  have m2 := posL_mem 3 d' q' hd' hq'
  obtain ⟨i, hi, e1⟩ := List.mem_iff_getElem.1 m1
  obtain ⟨j, hj, e2⟩ := List.mem_iff_getElem.1 m2
  have b1 : (look L B (d, q).1 p (d, q).2 != 0) = true := bne_iff_ne.2 h0
  have b2 : (look L B (d', q').1 p (d', q').2 != 0) = true := bne_iff_ne.2 (by show look L B d' p q' ≠ 0; rw [← e]; exact h0)
  rcases Nat.lt_trichotomy i j with g | g | g
  · have := List.pairwise_iff_getElem.1 h i j hi hj g
    rw [e1, e2] at this
    exact absurd e (this b1 b2)
  · subst g
    rw [e1] at e2
    cases e2
    exact ⟨rfl, rfl⟩
  · have := List.pairwise_iff_getElem.1 h j i hj hi g
    rw [e1, e2] at this
    exact absurd e.symm (this b2 b1)
end Go.Proofs.Ytdcggjkcbheolaa
end
section
set_option linter.unusedVariables false
set_option maxRecDepth 100000
open Go Go.Am Go.RowKit
namespace Go.Proofs.Ytdcggjkcbheolaa
open Go.Proofs.Try
/-- A sector stands under a node's place. -/
def under (l p s : Nat) : Prop := p * 8 ^ (l + 1) ≤ s ∧ s < p * 8 ^ (l + 1) + 8 ^ (l + 1)
theorem part_get {m : List Int} (hm : m.length = 512) {l p k : Nat} (hl : l < 3) (hp : p < lvN l) (hk : k < 8 ^ (l + 1)) : (part m l p)[k]? = some (m.getD (p * 8 ^ (l + 1) + k) 0) := by
  have := lv_span hl hp
  unfold part
  rw [List.getElem?_take, if_pos hk, List.getElem?_drop, List.getD_eq_getElem?_getD, List.getElem?_eq_getElem (by omega)]; rfl
theorem zr_iff {m : List Int} (hm : m.length = 512) {l p : Nat} (hl : l < 3) (hp : p < lvN l) : zrB m l p = true ↔ ∀ s, under l p s → m.getD s 0 = 0 := by
  unfold zrB
  rw [Bool.not_eq_true', List.any_eq_false]
  constructor
  · intro h s hs
    have hg := part_get hm hl hp (k := s - p * 8 ^ (l + 1)) (by have := hs.1; have := hs.2; omega)
    rw [show p * 8 ^ (l + 1) + (s - p * 8 ^ (l + 1)) = s by have := hs.1; omega] at hg
    simpa using h _ (List.mem_of_getElem? hg)
  · intro h x hx
    obtain ⟨k, hk, rfl⟩ := List.mem_iff_getElem.1 hx
    have hk2 := hk
    rw [part_len hm hl hp] at hk2
    have hg := part_get hm hl hp hk2
    rw [List.getElem?_eq_getElem hk, Option.some.injEq] at hg
    rw [hg, h _ ⟨Nat.le_add_right _ _, by omega⟩]; simp
theorem sm_iff {m o : List Int} (hm : m.length = 512) (ho : o.length = 512) {l p : Nat} (hl : l < 3) (hp : p < lvN l) : smB m o l p = true ↔ ∀ s, under l p s → m.getD s 0 = o.getD s 0 := by
  unfold smB
  rw [beq_iff_eq]
  constructor
  · intro h s hs
    have h1 := part_get hm hl hp (k := s - p * 8 ^ (l + 1)) (by have := hs.1; have := hs.2; omega)
    have h2 := part_get ho hl hp (k := s - p * 8 ^ (l + 1)) (by have := hs.1; have := hs.2; omega)
    rw [h, h2, Option.some.injEq] at h1
    rw [show p * 8 ^ (l + 1) + (s - p * 8 ^ (l + 1)) = s by have := hs.1; omega] at h1
    exact h1.symm
  · intro h
    apply List.ext_getElem?
    intro k
    by_cases hk : k < 8 ^ (l + 1)
    · rw [part_get hm hl hp hk, part_get ho hl hp hk, h _ ⟨Nat.le_add_right _ _, by omega⟩]
    · rw [List.getElem?_eq_none (by rw [part_len hm hl hp]; omega), List.getElem?_eq_none (by rw [part_len ho hl hp]; omega)]
/-- The new nodes: which, in which order. -/
theorem freP_mem (m o : List Int) {x : Nat × Nat} : x ∈ freP m o 3 0 ↔ x.1 < 3 ∧ x.2 < lvN x.1 ∧ newB m o x.1 x.2 = true := by
  unfold freP
  have e0 : (news m o 3 0).map (fun p => ((3 : Nat), p)) = [] := rfl
  rw [e0, List.append_nil, List.mem_flatMap]
  constructor
  · rintro ⟨k, hk, hx⟩
    obtain ⟨p, hp, rfl⟩ := List.mem_map.1 hx
    unfold news at hp
    rw [List.mem_filter, List.mem_range] at hp
    exact ⟨List.mem_range.1 hk, hp.1, hp.2⟩
  · rintro ⟨h1, h2, h3⟩
    refine ⟨x.1, List.mem_range.2 h1, List.mem_map.2 ⟨x.2, ?_, rfl⟩⟩
    unfold news
    rw [List.mem_filter, List.mem_range]
    exact ⟨h2, h3⟩
def befP (x y : Nat × Nat) : Prop := x.1 < y.1 ∨ (x.1 = y.1 ∧ x.2 < y.2)
theorem freP_ord (m o : List Int) : ∀ l n, List.Pairwise befP (freP m o l n) ∧ ∀ x ∈ freP m o l n, befP x (l, n) := by
  have step : ∀ l, (List.Pairwise befP (freP m o l 0) ∧ ∀ x ∈ freP m o l 0, x.1 < l) → ∀ n, List.Pairwise befP (freP m o l n) ∧ ∀ x ∈ freP m o l n, befP x (l, n) := by
    intro l hl n
    induction n with
    | zero => exact ⟨hl.1, fun x hx => .inl (hl.2 x hx)⟩
    | succ n ih =>
      rw [freP_succ]
      cases newB m o l n with
      | false =>
        rw [if_neg Bool.false_ne_true, List.append_nil]
        exact ⟨ih.1, fun x hx => (ih.2 x hx).imp id (fun g => ⟨g.1, Nat.lt_succ_of_lt g.2⟩)⟩
      | true =>
        rw [if_pos rfl]
        refine ⟨List.pairwise_append.2 ⟨ih.1, List.pairwise_singleton _ _, fun a ha b hb => ?_⟩, fun x hx => ?_⟩
        · rw [List.mem_singleton] at hb; subst hb; exact ih.2 a ha
        · rcases List.mem_append.1 hx with g | g
          · exact (ih.2 x g).imp id (fun g => ⟨g.1, Nat.lt_succ_of_lt g.2⟩)
          · rw [List.mem_singleton] at g; subst g; exact .inr ⟨rfl, Nat.lt_succ_self _⟩
  have all : ∀ l, List.Pairwise befP (freP m o l 0) ∧ ∀ x ∈ freP m o l 0, x.1 < l := by
    intro l
    induction l with
    | zero => exact ⟨List.Pairwise.nil, fun x hx => by cases hx⟩
    | succ l ih =>
      have := step l ih (lvN l)
      rw [freP_next] at this
      refine ⟨this.1, fun x hx => ?_⟩
      rcases this.2 x hx with g | g
      · exact Nat.lt_succ_of_lt g
      · have := g.1; show x.1 < l + 1; have h : x.1 = l := g.1; omega
  exact fun l n => step l (all l) n
theorem freP_lt {m o : List Int} {i j : Nat} (hi : i < (freP m o 3 0).length) (hj : j < (freP m o 3 0).length) (h : i < j) : befP (freP m o 3 0)[i] (freP m o 3 0)[j] := List.pairwise_iff_getElem.1 (freP_ord m o 3 0).1 i j hi hj h
theorem freP_inj {m o : List Int} {i j : Nat} (hi : i < (freP m o 3 0).length) (hj : j < (freP m o 3 0).length) (h : (freP m o 3 0)[i] = (freP m o 3 0)[j]) : i = j := by
  rcases Nat.lt_trichotomy i j with g | g | g
  · have := freP_lt hi hj g
    rw [h] at this
    rcases this with g | ⟨_, g⟩ <;> exact absurd g (Nat.lt_irrefl _)
  · exact g
  · have := freP_lt hj hi g
    rw [h] at this
    rcases this with g | ⟨_, g⟩ <;> exact absurd g (Nat.lt_irrefl _)
/-- The tables, step by step. -/
theorem wrS_tlen (m : List Int) (J0 : Nat → List Int) (F : List (Nat × Nat)) (at_ : List Int) : ∀ i l, ((wrS m J0 F at_ i).1 l).length = (J0 l).length
  | 0, l => rfl
  | i + 1, l => by
    show (setW _ _ _ _ l).length = _
    unfold setW
    split
    · rw [List.length_set, wrS_tlen m J0 F at_ i]
    · rw [wrS_tlen m J0 F at_ i]
theorem wrS_tab {m : List Int} {J0 : Nat → List Int} {F : List (Nat × Nat)} {at_ : List Int} (hF : ∀ i (hi : i < F.length), F[i].2 < (J0 F[i].1).length) (hinj : ∀ i j (hi : i < F.length) (hj : j < F.length), F[i] = F[j] → i = j) : ∀ i, i ≤ F.length →
    (∀ j (hj : j < F.length), j < i → ((wrS m J0 F at_ i).1 F[j].1).getD F[j].2 0 = at_.getD j 0) ∧ (∀ l q, (∀ j (hj : j < F.length), j < i → F[j] ≠ (l, q)) → ((wrS m J0 F at_ i).1 l).getD q 0 = (J0 l).getD q 0) := by
  intro i
  induction i with
  | zero => intro _; exact ⟨fun j _ h => absurd h (Nat.not_lt_zero _), fun l q _ => rfl⟩
  | succ i ih =>
    intro hi
    obtain ⟨h1, h2⟩ := ih (by omega)
    have hFi : F.getD i (0, 0) = F[i] := by rw [List.getD_eq_getElem?_getD, List.getElem?_eq_getElem (by omega)]; rfl
    have hst : ∀ l q, ((wrS m J0 F at_ (i + 1)).1 l).getD q 0 = if l = F[i].1 ∧ q = F[i].2 then at_.getD i 0 else ((wrS m J0 F at_ i).1 l).getD q 0 := by
      intro l q
      show (setW (wrS m J0 F at_ i).1 (F.getD i (0, 0)).1 (F.getD i (0, 0)).2 (at_.getD i 0) l).getD q 0 = _
      rw [hFi, setW_at _ _ _ _ (fun _ => by rw [wrS_tlen]; exact hF i (by omega))]
    refine ⟨fun j hj hji => ?_, fun l q hno => ?_⟩
    · rw [hst]
      by_cases e : j = i
      · subst e; rw [if_pos ⟨rfl, rfl⟩]
      · rw [if_neg ?_, h1 j hj (by omega)]
        rintro ⟨e1, e2⟩
        exact e (hinj j i hj (by omega) (Prod.ext e1 e2))
    · rw [hst, if_neg ?_, h2 l q (fun j hj h => hno j hj (by omega))]
      rintro ⟨e1, e2⟩
      exact hno i (by omega) (Nat.lt_succ_self _) (Prod.ext e1.symm e2.symm)
theorem wrS_out {m : List Int} {J0 : Nat → List Int} {F : List (Nat × Nat)} {at_ : List Int} : ∀ i, i ≤ F.length → ∀ j (hj : j < F.length), j < i → (wrS m J0 F at_ i).2[j]? = some ((1 : Int), at_.getD j 0, nodD F[j].1 (ptrOf m (wrS m J0 F at_ (j + 1)).1 F[j].1 F[j].2), ()) := by
  intro i
  induction i with
  | zero => intro _ j _ h; exact absurd h (Nat.not_lt_zero _)
  | succ i ih =>
    intro hi j hj hji
    have hlen := wrS_len m J0 F at_ i
    have hFi : F.getD i (0, 0) = F[i] := by rw [List.getD_eq_getElem?_getD, List.getElem?_eq_getElem (by omega)]; rfl
    show ((wrS m J0 F at_ i).2 ++ [((1 : Int), at_.getD i 0, nodD (F.getD i (0, 0)).1 (ptrOf m (wrS m J0 F at_ (i + 1)).1 (F.getD i (0, 0)).1 (F.getD i (0, 0)).2), ())])[j]? = _
    by_cases e : j < i
    · rw [List.getElem?_append_left (by omega)]
      exact ih (by omega) j hj e
    · obtain rfl : j = i := by omega
      rw [List.getElem?_append_right (by omega), hlen, Nat.sub_self, hFi]; rfl
end Go.Proofs.Ytdcggjkcbheolaa
end
