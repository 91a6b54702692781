/- DiffBuilt: a calculus over an abstract machine that stands beside the model, and contracts of functions by it (part 5).
Conditions: what each theorem says of its arguments. -/
import Derived.Test.YtimefcnagilhlaaGDiffBuilt4
section
set_option linter.unusedVariables false
set_option maxRecDepth 100000
open Go Go.Am Go.RowKit
namespace Go.Proofs.Ytimefcnagilhlaa
open Go.Proofs.Try
theorem strOf_ok {h : Heap} {v : Value} {l : List Int} (sl : Sl h v 1 l.length (us l)) : abytes prog h 22 9 v = some (.string (mkStr l)) := by
  obtain ⟨h1, h2, ⟨rfl, h0⟩ | ⟨b, o, c, rfl, hc, rd⟩⟩ := sl
  · obtain rfl : l = [] := List.eq_nil_of_length_eq_zero h0
    rfl
  · have hrd : aread h ⟨b, o, none⟩ l.length = some (us l) := by
      have := rd.read0 (m := l.length) (by rw [us_len]; exact Nat.le_refl _)
      rw [this, List.take_of_length_le (by rw [us_len]; exact Nat.le_refl _)]
    show (match aread h ⟨b, o, none⟩ l.length with | some l => (match bytesOf l with | some ns => some (Value.string (mkStr ns)) | none => none) | none => none) = _
    rw [hrd]
    simp only [bytesOf_us]
/-- Why bytes are no block of a name. -/
def openE (mb l : List Int) : Int := if l.length ≠ 64 then 2 else if l.take 4 ≠ mb then 4 else if goodB l = false then 5 else 0
theorem refOpen_ok {h : Heap} {v : Value} {mg : ByteArray} {l mb : List Int} (hmg : strCells mg = us mb) (sl : Sl h v 1 l.length (us l)) (hb : Byt l) :
    RunF prog 74 [v, .string mg] h fun r h' => r = .int .i64 (openE mb l) ∧ h = h' := by
  refine RunF.walk func74 rfl rfl ?_
  have sl0 := sl
  obtain ⟨A, c, rfl, hc, _⟩ := sl.form
  refine RunC.seq (RunC.region (RunO.all rfl ?_))
  refine RunC.seq (RunC.block ?_)
  refine RunC.seq (RunC.region (RunO.all rfl ?_))
  by_cases hl : l.length = 64
  case neg =>
    rw [show ((l.length : Int) != 64) = true by simpa using (by omega : ¬ ((l.length : Int) = 64)), show openE mb l = 2 from if_pos hl]
    refine RunC.cond rfl (fun _ => ?_) (fun g => by cases g)
    exact RunC.seq (RunC.region (RunO.all rfl (RunC.ret ⟨_, rfl, rfl, rfl⟩)))
  rw [show ((l.length : Int) != 64) = false by simpa using (by omega : ((l.length : Int) = 64))]
  refine RunC.cond rfl (fun g => by cases g) (fun _ => ?_)
  refine RunC.seq (RunC.region (RunO.part 1 rfl ?_))
  obtain ⟨v', h1, h2⟩ := sl_front (m := 4) sl (by omega) (by omega) .i64
  refine RunO.one (v := v') (h1 := h) rfl (by show pureR h _ = _; exact congrArg (pureR h) h1) rfl ?_
  have hcv : aconvert prog 22 9 v' = none := by
    obtain ⟨A', c', rfl, _, _⟩ := h2.form
    rfl
  refine RunO.one rfl (v := .string (mkStr (l.take 4))) (h1 := h) ?_ rfl ?_
  · show (match aconvert prog 22 9 v' with | some v => some (v, h) | none => pureR h (abytes prog h 22 9 v')) = _
    rw [hcv, strOf_ok h2]; rfl
  refine RunO.part 1 rfl ?_
  refine RunO.bin (v := .bool (!(decide (l.take 4 = mb)))) rfl rfl ?_ rfl ?_
  · show some (Value.bool (!((mkStr (l.take 4)).data.toList == mg.data.toList))) = _
    rw [str_eq hmg (fun x hx => hb x (List.mem_of_mem_take hx))]
  refine RunO.all rfl ?_
  by_cases hm : l.take 4 = mb
  case neg =>
    rw [decide_eq_false hm, show openE mb l = 4 by unfold openE; rw [if_neg (by omega), if_pos hm]]
    refine RunC.cond rfl (fun _ => ?_) (fun g => by cases g)
    exact RunC.seq (RunC.region (RunO.all rfl (RunC.ret ⟨_, rfl, rfl, rfl⟩)))
  rw [decide_eq_true hm]
  refine RunC.cond rfl (fun g => by cases g) (fun _ => ?_)
  refine RunC.seq (RunC.region (RunO.part 1 rfl ?_))
  refine RunO.callD (refGood_ok sl0 hb (by omega) (by omega)) rfl rfl rfl ?_
  rintro _ _ ⟨rfl, rfl⟩
  refine RunO.all rfl ?_
  cases hg : goodB l with
  | false =>
    rw [show openE mb l = 5 by unfold openE; rw [if_neg (by omega), if_neg (by simpa using hm), if_pos hg]]
    refine RunC.cond rfl (fun _ => ?_) (fun g => by cases g)
    exact RunC.seq (RunC.region (RunO.all rfl (RunC.ret ⟨_, rfl, rfl, rfl⟩)))
  | true =>
    rw [show openE mb l = 0 by unfold openE; rw [if_neg (by omega), if_neg (by simpa using hm), if_neg (by simp [hg])]]
    refine RunC.cond rfl (fun g => by cases g) (fun _ => RunC.skip ?_)
    exact RunC.seq (RunC.region (RunO.all rfl (RunC.ret ⟨_, rfl, rfl, rfl⟩)))
theorem readB_open (mb : List Int) (fl : List (Nat × Nat)) (l : List Int) : readB mb fl l = if openE mb l ≠ 0 then openE mb l else if fl.all (okF l) = false then 1 else if zerosN l (endF fl) 60 = false then 1 else 0 := by
  unfold readB openE
  by_cases h1 : l.length ≠ 64
  · rw [if_pos h1, if_pos h1]; rfl
  · rw [if_neg h1, if_neg h1]
    by_cases h2 : l.take 4 ≠ mb
    · rw [if_pos h2, if_pos h2]; rfl
    · rw [if_neg h2, if_neg h2]
      by_cases h3 : goodB l = false
      · rw [if_pos h3, if_pos h3]; rfl
      · rw [if_neg h3, if_neg h3]; rfl
theorem ok4 {l : List Int} (hb : Byt l) (k : Nat) : (leGet l k 4).2 = 0 := by
  unfold leGet
  have h1 := (leN_bound (hb.part k 4)).2
  have h2 : (256 : Int) ^ ((l.drop k).take 4).length ≤ 256 ^ 4 := by
    have : ((l.drop k).take 4).length ≤ 4 := by rw [List.length_take]; omega
    exact_mod_cast Nat.pow_le_pow_right (by decide : 0 < 256) this
  have h3 : (256 : Int) ^ 4 = 4294967296 := by decide
  rw [if_neg (by omega)]
end Go.Proofs.Ytimefcnagilhlaa
end
section
set_option linter.unusedVariables false
set_option maxRecDepth 100000
open Go Go.Am Go.RowKit
namespace Go.Proofs.Ytimefcnagilhlaa
open Go.Proofs.Try
theorem link_ptr (p : Int) : (p == 0 || inB p 2 (fwrap .i64 (4096 - 1))) = ptrB p := by
  have e : fwrap .i64 (4096 - 1) = 4095 := rfl
  rw [e]
  unfold ptrB inB
  have : decide (p ≤ 4095) = decide (p < 4096) := by
    by_cases c : p < 4096
    · rw [decide_eq_true c, decide_eq_true (by omega)]
    · rw [decide_eq_false c, decide_eq_false (by omega)]
  rw [this]
set_option maxHeartbeats 1000000 in
theorem refNode_ok {h : Heap} {lv : Int} {ps : List Int} (hp : ps.length = 8) : RunF prog 76 [.agg ⟨nc lv ps⟩] h fun v h' => v = .bool (nodOk lv ps) ∧ Fr no h h' := by
  refine RunF.walk func76 rfl rfl ?_
  refine RunC.seq (RunC.region (RunO.all (h1 := h.push ⟨nc lv ps, true⟩) rfl ?_))
  have ow : Ow (h.push ⟨nc lv ps, true⟩) h.next (nc lv ps) := Ow.push _ _
  have f1 : Fr no h (h.push ⟨nc lv ps, true⟩) := Fr.push _ _ _
  generalize h.push ⟨nc lv ps, true⟩ = h1 at *
  generalize h.next = p at *
  have hok : nodOk lv ps = (inB lv 0 2 && (ps.all ptrB && anyP ps)) := by
    unfold nodOk inB
    have e1 : (!decide (lv < 0)) = decide (lv ≥ 0) := by
      by_cases c : lv < 0
      · rw [decide_eq_true c, decide_eq_false (by omega)]; rfl
      · rw [decide_eq_false c, decide_eq_true (by omega)]; rfl
    have e2 : (!decide (lv > 2)) = decide (lv ≤ 2) := by
      by_cases c : lv > 2
      · rw [decide_eq_true c, decide_eq_false (by omega)]; rfl
      · rw [decide_eq_false c, decide_eq_true (by omega)]; rfl
    rw [e1, e2]
    cases decide (lv ≥ 0) <;> cases decide (lv ≤ 2) <;> cases ps.all ptrB <;> cases anyP ps <;> rfl
  rw [hok]
  refine RunC.seq (RunC.seq (RunC.region ?_))
  (repeat (first | refine RunO.step rfl ?_ | refine RunO.loadG rfl rfl (Ow.ld (by assumption) (by rfl)) rfl ?_ | refine RunO.nil ?_))
  refine RunO.callD refIn_ok rfl rfl rfl ?_
  rintro _ _ ⟨rfl, rfl⟩
  refine RunO.all rfl ?_
  cases inB lv 0 2 with
  | false =>
    refine RunC.cond rfl (fun _ => ?_) (fun g => by cases g)
    exact RunC.seq (RunC.region (RunO.all rfl (RunC.ret ⟨_, rfl, rfl, f1⟩)))
  | true =>
  refine RunC.cond rfl (fun g => by cases g) (fun _ => RunC.skip ?_)
  refine RunC.seq (RunC.region (RunO.all rfl ?_))
  refine RunC.seq (RunC.seq (RunC.region (RunO.all rfl ?_)))
  refine RunC.block ?_
  let I : Nat → Env → Heap → Prop := fun d E h' => ∃ i : Nat, i + d = 8 ∧ (ps.take i).all ptrB = true ∧ h1 = h' ∧ Le (upd (upd (upd E0 1 (.pointer (some ⟨p, 0, none⟩))) 3 (.bool (anyP (ps.take i)))) 4 (.int .i64 (i : Int))) E
  refine RunC.loop I ?_ (k := 8) ?_
  · rintro d E h' ⟨i, hi, hall, rfl, hE⟩
    refine RunC.le hE ?_
    clear hE
    refine RunC.seq (RunC.seq (RunC.region (RunO.all rfl ?_)))
    refine RunC.cond rfl (fun hlt => ?_) (fun hge => ?_)
    · have hlt := of_decide_eq_true hlt
      have hi8 : i < 8 := by omega
      have hi2 : i < ps.length := by omega
      have hat : anyP (ps.take (i + 1)) = (anyP (ps.take i) || ps[i] != 0) := by
        unfold anyP; rw [List.take_succ_eq_append_getElem hi2, List.any_append]; simp
      have hal : (ps.take (i + 1)).all ptrB = ptrB ps[i] := by
        rw [List.take_succ_eq_append_getElem hi2, List.all_append, hall]; simp
      have hmem := List.getElem_mem hi2
      have hld : apart prog 3 (nc lv ps) (1 + i * 1) = some (.int .i64 ps[i]) := by
        show nth (nc lv ps) (1 + i * 1) = _
        rw [Nat.mul_one, Nat.add_comm]; exact is_nth hi2
      generalize ps[i] = x at *
      refine RunC.skip ?_
      refine RunC.seq (RunC.block ?_)
      refine RunC.seq (RunC.seq (RunC.region (RunO.part 2 rfl ?_)))
      refine RunO.indexA (s := 1) rfl rfl rfl rfl rfl hi8 rfl ?_
      refine RunO.load (v := .int .i64 x) rfl (ow.ld hld) rfl ?_
      refine RunO.callD refLink_ok rfl rfl rfl ?_
      rintro _ _ ⟨rfl, rfl⟩
      rw [link_ptr]
      refine RunO.all rfl ?_
      cases hx : ptrB x with
      | false =>
        have : ps.all ptrB = false := List.all_eq_false.2 ⟨x, hmem, by rw [hx]; exact Bool.false_ne_true⟩
        rw [this]
        refine RunC.cond rfl (fun _ => ?_) (fun g => by cases g)
        exact RunC.seq (RunC.region (RunO.all rfl (RunC.ret ⟨_, rfl, rfl, f1⟩)))
      | true =>
        refine RunC.cond rfl (fun g => by cases g) (fun _ => RunC.skip ?_)
        rw [hx] at hal
        refine RunC.region (RunO.part 2 rfl ?_)
        have fin : ∀ E, Le (upd (upd (upd E0 1 (.pointer (some ⟨p, 0, none⟩))) 3 (.bool (anyP (ps.take (i + 1))))) 4 (.int .i64 ((i + 1 : Nat) : Int))) E → ∃ d', d' < d ∧ I d' E h1 := fun E hE => ⟨d - 1, by omega, i + 1, by omega, hal, rfl, hE⟩
        rw [hat] at fin
        generalize anyP (ps.take i) = an at fin ⊢
        cases an with
        | true =>
          refine RunO.all rfl ?_
          exact RunC.region (RunO.all rfl (fin _ (Le.cons (inc64 (by omega)) (Le.cons rfl (Le.cons rfl (Le.nil _))))))
        | false =>
          refine RunO.part 2 rfl ?_
          refine RunO.oneG (v := .pointer (some ⟨p, 0 + 1 + i * 1, none⟩)) (h1 := h1) rfl ?_ rfl ?_
          · show pureR h1 (cond (Nat.ble (Nat.succ i) 8) (some (Value.pointer (some ⟨p, 0 + 1 + Nat.mul i 1, none⟩))) none) = _
            rw [Nat.ble_eq_true_of_le (by omega)]; rfl
          refine RunO.loadG (v := .int .i64 x) rfl rfl (by rw [Nat.zero_add]; exact ow.ld hld) rfl ?_
          refine RunO.all rfl ?_
          exact RunC.region (RunO.all rfl (fin _ (Le.cons (inc64 (by omega)) (Le.cons rfl (Le.cons rfl (Le.nil _))))))
    · have hge := of_decide_eq_false hge
      obtain rfl : i = 8 := by omega
      rw [← hp, List.take_length] at hall
      rw [hall]
      refine RunC.exit ?_
      refine RunC.seq (RunC.region (RunO.all rfl (RunC.ret ⟨_, rfl, ?_, f1⟩)))
      rw [← hp, List.take_length]; rfl
  · exact ⟨0, by omega, rfl, rfl, Le.cons rfl (Le.cons rfl (Le.cons rfl (Le.nil _)))⟩
theorem nLay_end : endF nLay = 40 := rfl
/-- Why bytes are no node, as the page says it. -/
theorem nCode_open {l : List Int} (hb : Byt l) : nCode l = if openE nMag l ≠ 0 then openE nMag l else if (nodOk (nLv l) (nPs l) && zerosN l 40 60) = true then 0 else 1 := by
  unfold nCode
  rw [readB_open, nLay_end]
  by_cases he : openE nMag l ≠ 0
  · rw [if_pos he, if_pos he, if_neg he]
  · rw [if_neg he, if_neg he]
    have hall : nLay.all (okF l) = true := by
      show (((leGet l 4 4).2 == 0) && (((leGet l 8 4).2 == 0) && (((leGet l 12 4).2 == 0) && (((leGet l 16 4).2 == 0) && (((leGet l 20 4).2 == 0) && (((leGet l 24 4).2 == 0) && (((leGet l 28 4).2 == 0) && (((leGet l 32 4).2 == 0) && (((leGet l 36 4).2 == 0) && true))))))))) = true
      rw [ok4 hb, ok4 hb, ok4 hb, ok4 hb, ok4 hb, ok4 hb, ok4 hb, ok4 hb, ok4 hb]; rfl
    rw [hall]
    cases zerosN l 40 60 <;> cases nodOk (nLv l) (nPs l) <;> rfl
end Go.Proofs.Ytimefcnagilhlaa
end
section
set_option linter.unusedVariables false
set_option maxRecDepth 100000
open Go Go.Am Go.RowKit
namespace Go.Proofs.Ytimefcnagilhlaa
open Go.Proofs.Try
theorem refBlocks_ok {h : Heap} {v : Value} {L : List Int} (sl : Sl h v 1 L.length (us L)) (hm : L.length ≤ 4611686018427387904) : RunF prog 21 [v] h fun r h' => r = .tuple #[.int .i64 ((L.length / 64 : Nat) : Int), .bool (devOk L.length)] ∧ h = h' := by
  refine RunF.walk func21 rfl rfl ?_
  obtain ⟨A, c, rfl, hc, _⟩ := sl.form
  have e1 : (L.length : Int).tdiv 64 = ((L.length / 64 : Nat) : Int) := by rw [Int.tdiv_eq_ediv_of_nonneg (by omega)]; omega
  have e2 : (L.length : Int).tmod 64 = ((L.length % 64 : Nat) : Int) := by rw [Int.tmod_eq_emod_of_nonneg (by omega)]; omega
  refine RunC.seq (RunC.region (RunO.all rfl ?_))
  refine RunC.seq (RunC.region (RunO.part 2 rfl ?_))
  refine RunO.part 1 rfl ?_
  rw [e1, fw64 (by omega) (by omega)]
  refine RunO.all rfl ?_
  refine RunC.seq (RunC.region (RunO.part 4 rfl ?_))
  rw [e2]
  refine RunO.part 2 rfl ?_
  have hd : devOk L.length = ((((L.length % 64 : Nat) : Int) == 0) && inB ((L.length / 64 : Nat) : Int) 4 4096) := by
    unfold devOk inB
    rw [Bool.eq_iff_iff]
    simp only [Bool.and_eq_true, beq_iff_eq, decide_eq_true_eq]
    omega
  rw [hd]
  cases (((L.length % 64 : Nat) : Int) == 0) with
  | false => exact RunO.all rfl (RunC.ret ⟨_, rfl, rfl, rfl⟩)
  | true =>
    refine RunO.part 1 rfl ?_
    refine RunO.callDG rfl refIn_ok rfl rfl rfl ?_
    rintro _ _ ⟨rfl, rfl⟩
    exact RunO.all rfl (RunC.ret ⟨_, rfl, rfl, rfl⟩)
theorem refBlock_ok {h : Heap} {v : Value} {L : List Int} {i : Nat} (sl : Sl h v 1 L.length (us L)) (hi : (i + 1) * 64 ≤ L.length) (hm : L.length ≤ 4611686018427387904) :
    RunF prog 28 [v, .int .i64 (i : Int)] h fun r h' => Sl h r 1 64 (us (blkI L i)) ∧ h = h' := by
  refine RunF.walk func28 rfl rfl ?_
  refine RunC.seq (RunC.region (RunO.all rfl ?_))
  refine RunC.seq (RunC.region (RunO.part 6 rfl ?_))
  rw [fw64 (x := (i : Int) * 64) (by omega) (by omega), fw64 (x := (i : Int) * 64 + 64) (by omega) (by omega), show (i : Int) * 64 = ((i * 64 : Nat) : Int) by omega, show ((i * 64 : Nat) : Int) + 64 = ((i * 64 + 64 : Nat) : Int) by omega]
  obtain ⟨v', h1, h2⟩ := sl_part sl (k := i * 64) (m := i * 64 + 64) (by omega) (by omega) .i64 .i64
  rw [show i * 64 + 64 - i * 64 = 64 by omega] at h2
  have hl : ((L.drop (i * 64)).take 64).length = 64 := blkI_len hi
  rw [hl] at h2
  refine RunO.one (v := v') (h1 := h) rfl (by show pureR h _ = _; exact congrArg (pureR h) h1) rfl ?_
  exact RunO.all rfl (RunC.ret ⟨_, rfl, h2, rfl⟩)
/-- A device alone: is it more than is played? -/
theorem heavy_ok {h : Heap} {v : Value} {L : List Int} (sl : Sl h v 1 L.length (us L)) : RunF prog 11 [v, .slice none 0 0] h fun r h' => r = .bool (decide ((L.length : Int) > 19200)) ∧ h = h' := by
  refine RunF.walk func11 rfl rfl ?_
  obtain ⟨A, c, rfl, hc, _⟩ := sl.form
  refine RunC.seq (RunC.region (RunO.all rfl ?_))
  refine RunC.seq (RunC.seq (RunC.region (RunO.part 4 rfl ?_)))
  cases decide ((L.length : Int) > 19200) with
  | true =>
    refine RunO.all rfl (RunC.cond rfl (fun _ => ?_) (fun g => by cases g))
    exact RunC.seq (RunC.region (RunO.all rfl (RunC.ret ⟨_, rfl, rfl, rfl⟩)))
  | false =>
    refine RunO.all rfl (RunC.cond rfl (fun g => by cases g) (fun _ => RunC.skip ?_))
    refine RunC.seq (RunC.seq (RunC.region (RunO.all rfl ?_)))
    refine RunC.block ?_
    let I : Nat → Env → Heap → Prop := fun d E h' => h = h' ∧ Le (upd (upd E0 1 (.slice none 0 0)) 5 (.int .i64 0)) E
    refine RunC.loop I ?_ (k := 0) ?_
    · rintro d E h' ⟨rfl, hE⟩
      refine RunC.le hE ?_
      clear hE
      refine RunC.seq (RunC.seq (RunC.region (RunO.all rfl ?_)))
      refine RunC.cond rfl (fun g => by cases g) (fun _ => RunC.exit ?_)
      exact RunC.seq (RunC.region (RunO.all rfl (RunC.ret ⟨_, rfl, rfl, rfl⟩)))
    · exact ⟨rfl, Le.cons rfl (Le.cons rfl (Le.nil _))⟩
end Go.Proofs.Ytimefcnagilhlaa
end
section
set_option linter.unusedVariables false
set_option maxRecDepth 100000
open Go Go.Am Go.RowKit
namespace Go.Proofs.Ytimefcnagilhlaa
open Go.Proofs.Try
/-- A sector's place under a level, within bounds. -/
theorem nodPlace_ok {h : Heap} {s k : Nat} (hk : k ≤ 2) (hs : s < 8 ^ (k + 1)) : RunF prog 29 [.int .i64 (s : Int), .int .i64 (k : Int)] h fun v h' => v = .tuple #[.int .i64 ((s / 8 ^ k : Nat) : Int), .int .i64 ((s % 8 ^ k : Nat) : Int), .int .i64 0] ∧ h = h' := by
  have hle : 8 ^ (k + 1) ≤ 512 := by
    have : 8 ^ (k + 1) ≤ 8 ^ 3 := Nat.pow_le_pow_right (by decide) (by omega)
    exact this
  have hpos : 0 < 8 ^ k := Nat.pow_pos (by decide)
  refine RunF.walk func29 rfl rfl ?_
  refine RunC.seq (RunC.region (RunO.all rfl ?_))
  refine RunC.seq (RunC.seq (RunC.region (RunO.part 3 rfl ?_)))
  rw [show decide ((k : Int) < 0) = false from decide_eq_false (by omega)]
  refine RunO.part 4 rfl ?_
  rw [show decide ((k : Int) > 2) = false from decide_eq_false (by omega)]
  refine RunO.part 4 rfl ?_
  rw [show decide ((s : Int) < 0) = false from decide_eq_false (by omega)]
  refine RunO.part 2 rfl ?_
  refine RunO.part 1 rfl ?_
  rw [fw64 (x := (k : Int) + 1) (by omega) (by omega), show (k : Int) + 1 = ((k + 1 : Nat) : Int) by omega]
  refine RunO.callDG rfl (nodUnder_ok (k := k + 1) (by omega)) rfl rfl rfl ?_
  rintro _ _ ⟨rfl, rfl⟩
  refine RunO.part 1 rfl ?_
  rw [show decide ((s : Int) ≥ ((8 ^ (k + 1) : Nat) : Int)) = false from decide_eq_false (by omega)]
  refine RunO.all rfl (RunC.cond rfl (fun g => by cases g) (fun _ => RunC.skip ?_))
  refine RunC.seq (RunC.draw0 rfl (RunO.part 2 rfl ?_))
  refine RunO.callD (nodUnder_ok (k := k) (by omega)) rfl rfl rfl ?_
  rintro _ _ ⟨rfl, rfl⟩
  have hu := Nat.div_le_self s (8 ^ k)
  have e1 : (s : Int).tdiv ((8 ^ k : Nat) : Int) = ((s / 8 ^ k : Nat) : Int) := by rw [Int.tdiv_eq_ediv_of_nonneg (by omega)]; exact (Int.natCast_ediv _ _).symm
  have e2 : (s : Int).tmod ((8 ^ k : Nat) : Int) = ((s % 8 ^ k : Nat) : Int) := by rw [Int.tmod_eq_emod_of_nonneg (by omega)]; exact (Int.natCast_emod _ _).symm
  refine RunO.bin (v := .int .i64 ((s / 8 ^ k : Nat) : Int)) rfl rfl ?_ rfl ?_
  · show cond (decide (((8 ^ k : Nat) : Int) = 0)) none (some (Value.int .i64 (fwrap .i64 ((s : Int).tdiv ((8 ^ k : Nat) : Int))))) = _
    rw [decide_eq_false (by omega), cond_false, e1]
    clear e1 e2
    generalize s / 8 ^ k = u at hu ⊢
    rw [fw64 (by omega) (by omega)]
  refine RunO.part 2 rfl ?_
  refine RunO.callD (nodUnder_ok (k := k) (by omega)) rfl rfl rfl ?_
  rintro _ _ ⟨rfl, rfl⟩
  refine RunO.bin (v := .int .i64 ((s % 8 ^ k : Nat) : Int)) rfl rfl ?_ rfl ?_
  · show cond (decide (((8 ^ k : Nat) : Int) = 0)) none (some (Value.int .i64 ((s : Int).tmod ((8 ^ k : Nat) : Int)))) = _
    rw [decide_eq_false (by omega), cond_false, e2]
  exact RunO.all rfl (RunC.ret ⟨_, rfl, rfl, rfl⟩)
end Go.Proofs.Ytimefcnagilhlaa
end
section
set_option linter.unusedVariables false
set_option maxRecDepth 100000
open Go Go.Am Go.RowKit
namespace Go.Proofs.Ytimefcnagilhlaa
open Go.Proofs.Try
theorem nPs_get (l : List Int) {i : Nat} (hi : i < 8) : (nPs l).getD i 0 = (leGet l (8 + 4 * i) 4).1 := by
  obtain rfl | rfl | rfl | rfl | rfl | rfl | rfl | rfl : i = 0 ∨ i = 1 ∨ i = 2 ∨ i = 3 ∨ i = 4 ∨ i = 5 ∨ i = 6 ∨ i = 7 := by omega
  all_goals rfl
def firstP (ps : List Int) (i : Nat) : List Int := ps.take i ++ List.replicate (8 - i) 0
theorem firstP_len {ps : List Int} (hp : ps.length = 8) {i : Nat} (hi : i ≤ 8) : (firstP ps i).length = 8 := by
  unfold firstP; rw [List.length_append, List.length_take, List.length_replicate]; omega
theorem firstP_set {ps : List Int} (hp : ps.length = 8) {i : Nat} (hi : i < 8) : (firstP ps i).set i (ps.getD i 0) = firstP ps (i + 1) := by
  apply List.ext_getElem?
  intro j
  have hl : i < (firstP ps i).length := by rw [firstP_len hp (by omega)]; exact hi
  rw [List.getElem?_set]
  unfold firstP at hl ⊢
  by_cases e : i = j
  · subst e
    rw [if_pos rfl, if_pos hl, List.getElem?_append_left (by rw [List.length_take]; omega), List.getElem?_take, if_pos (by omega), List.getD_eq_getElem?_getD, List.getElem?_eq_getElem (by omega)]; rfl
  · rw [if_neg e]
    by_cases c : j < i
    · rw [List.getElem?_append_left (by rw [List.length_take]; omega), List.getElem?_append_left (by rw [List.length_take]; omega), List.getElem?_take, List.getElem?_take, if_pos c, if_pos (by omega)]
    · rw [List.getElem?_append_right (by rw [List.length_take]; omega), List.getElem?_append_right (by rw [List.length_take]; omega), List.getElem?_replicate, List.getElem?_replicate, List.length_take, List.length_take]
      by_cases c2 : j < 8
      · rw [if_pos (by omega), if_pos (by omega)]
      · rw [if_neg (by omega), if_neg (by omega)]
theorem nc_cell (lv : Int) (ps : List Int) : (cellsOf (.agg ⟨nc lv ps⟩)).length = ps.length + 1 ∧ allCells (cellsOf (.agg ⟨nc lv ps⟩)) = true := by
  constructor
  · show (nc lv ps).length = _; simp [nc, is_len]
  · show allCells (.int .i64 lv :: is ps) = true; exact allCells_map (f := Value.int .i64) (fun _ => rfl) ps
/-- A whole node stored. -/
theorem nc_store {P : Program} {t : TypeId} {h : Heap} {b : Nat} {lw lv : Int} {qs ps : List Int} (ow : Ow h b (nc lw qs)) (hq : qs.length = 8) (hp : ps.length = 8) (hs : Go.Am.sizeOf P t = some 9) : astore P h t ⟨b, 0, none⟩ (.agg ⟨nc lv ps⟩) = some (h.put b (some ⟨nc lv ps, true⟩)) := by
  have hl : (nc lw qs).length = 9 := by simp [nc, is_len, hq]
  have hl2 : (nc lv ps).length = 9 := by simp [nc, is_len, hp]
  have := store_ow (P := P) (t := t) (v := .agg ⟨nc lv ps⟩) (off := 0) ow hs (by rw [(nc_cell lv ps).1, hp]) (nc_cell lv ps).2 (by omega)
  rw [this]
  congr 4
  show [] ++ nc lv ps ++ (nc lw qs).drop (0 + 9) = _
  rw [List.drop_of_length_le (by omega)]; simp
set_option maxHeartbeats 4000000 in
theorem refParseNode_ok {h : Heap} {v : Value} {l : List Int} (sl : Sl h v 1 l.length (us l)) (hb : Byt l) :
    RunF prog 54 [v] h fun r h' => r = .tuple #[.agg ⟨nc (nodV l).1 (nodV l).2⟩, .int .i64 (nCode l)] ∧ Fr no h h' := by
  refine RunF.walk func54 rfl rfl ?_
  refine RunC.seq (RunC.region (RunO.part 1 (h1 := h.push ⟨nc 0 nZero, true⟩) rfl (RunO.all rfl ?_)))
  have ow : Ow (h.push ⟨nc 0 nZero, true⟩) h.next (nc 0 nZero) := Ow.push _ _
  have f1 : Fr (fun b => h.next ≤ b) h (h.push ⟨nc 0 nZero, true⟩) := Fr.push _ _ _
  have s1 := sl.fr0 (Fr.push no h ⟨nc 0 nZero, true⟩)
  generalize h.push ⟨nc 0 nZero, true⟩ = h1 at *
  have hp : h.next < h1.next := ow.1
  refine RunC.seq (RunC.seq (RunC.region (RunO.part 1 rfl ?_)))
  refine RunO.callD (refOpen_ok (mb := nMag) rfl s1 hb) rfl rfl rfl ?_
  rintro _ _ ⟨rfl, rfl⟩
  refine RunO.all rfl ?_
  refine RunC.seq (RunC.region (RunO.all rfl ?_))
  have hro := nCode_open hb
  have hvd : nodV l = if nCode l = 0 then (nLv l, nPs l) else (0, nZero) := rfl
  rw [hvd]
  by_cases he : openE nMag l ≠ 0
  · rw [if_pos he] at hro
    rw [hro, if_neg he, show (openE nMag l != 0) = true from bne_iff_ne.2 he]
    refine RunC.cond rfl (fun _ => ?_) (fun g => by cases g)
    refine RunC.seq (RunC.region (RunO.part 2 rfl ?_))
    refine RunO.store rfl rfl (nc_store (lv := 0) (ps := nZero) ow rfl rfl rfl) (RunO.all rfl ?_)
    exact RunC.ret ⟨_, eresults_cell rfl (nc_load rfl (Ow.put (nc 0 nZero) ow.1)) rfl, rfl, frNo (f1.same (Fr.put _ (.inl (Nat.le_refl _))))⟩
  have he0 : openE nMag l = 0 := Decidable.not_not.1 he
  have hl : l.length = 64 := by
    unfold openE at he0
    by_cases g : l.length ≠ 64
    · rw [if_pos g] at he0; cases he0
    · exact Decidable.not_not.1 g
  rw [if_neg he] at hro
  rw [he0, hro]
  refine RunC.cond rfl (fun g => by cases g) (fun _ => RunC.skip ?_)
  refine RunC.seq (RunC.region (RunO.part 1 rfl ?_))
  refine RunO.callD (refGet4_ok (k := 4) s1 hb (by omega) (by omega)) rfl rfl rfl ?_
  rintro _ _ ⟨rfl, rfl⟩
  refine RunO.part 2 (h1 := h1.push ⟨nc 0 nZero, true⟩) rfl ?_
  refine RunO.store rfl rfl (nc_store (lv := nLv l) (ps := nZero) (Ow.push h1 (nc 0 nZero)) rfl rfl rfl) (RunO.nil ?_)
  have on : Ow ((h1.push ⟨nc 0 nZero, true⟩).put h1.next (some ⟨nc (nLv l) nZero, true⟩)) h1.next (nc (nLv l) nZero) := Ow.put _ (Nat.lt_succ_self _)
  have f4 : Fr no h1 ((h1.push ⟨nc 0 nZero, true⟩).put h1.next (some ⟨nc (nLv l) nZero, true⟩)) := (Fr.push _ _ _).trans (Fr.put (m := (· = h1.next)) _ (.inl rfl)) (fun j hj => .inr (by omega))
  have hqn : h.next < h1.next := hp
  generalize (h1.push ⟨nc 0 nZero, true⟩).put h1.next (some ⟨nc (nLv l) nZero, true⟩) = h4 at *
  generalize h1.next = q at *
  have ow4 := ow.fr f4 (fun g => g)
  have s4 := s1.fr0 f4
  have f14 := f1.quiet f4
  have hps : (nPs l).length = 8 := rfl
  have hget := fun i hi => nPs_get l (i := i) hi
  generalize nLv l = lv at *
  generalize nPs l = ps at *
  refine RunC.seq (RunC.seq (RunC.region (RunO.all rfl ?_)))
  refine RunC.block ?_
  let I : Nat → Env → Heap → Prop := fun d E h' => ∃ i : Nat, i + d = 8 ∧ Ow h' q (nc lv (firstP ps i)) ∧ Fr (· = q) h4 h' ∧ Le (upd (upd (upd (upd E0 0 v) 2 (.pointer (some ⟨h.next, 0, none⟩))) 5 (.pointer (some ⟨q, 0, none⟩))) 6 (.int .i64 (i : Int))) E
  refine RunC.loop I ?_ (k := 8) ?_
  · rintro d E h5 ⟨i, hi, on5, f5, hE⟩
    refine RunC.le hE ?_
    clear hE
    have s5 : Sl h5 v 1 l.length (us l) := by
      refine ⟨s4.1, s4.2.1, s4.2.2.imp (fun y => y) ?_⟩
      rintro ⟨b, o, c, h1', h2', h3'⟩
      have hbl : b < h.next := by
        rcases sl.2.2 with ⟨e, _⟩ | ⟨b', o', c', e, _, rd⟩
        · rw [h1'] at e; cases e
        · rw [h1'] at e; cases e; exact rd.2.1
      exact ⟨b, o, c, h1', h2', h3'.fr f5 (show ¬ b = q by omega)⟩
    refine RunC.seq (RunC.seq (RunC.region (RunO.all rfl ?_)))
    refine RunC.cond rfl (fun hlt => ?_) (fun hge => ?_)
    · have hlt := of_decide_eq_true hlt
      have hi8 : i < 8 := by omega
      refine RunC.skip ?_
      refine RunC.seq (RunC.block ?_)
      refine RunC.region (RunO.part 4 rfl ?_)
      rw [fw64 (x := 4 * (i : Int)) (by omega) (by omega)]
      refine RunO.part 1 rfl ?_
      rw [fw64 (x := 8 + 4 * (i : Int)) (by omega) (by omega), show 8 + 4 * (i : Int) = ((8 + 4 * i : Nat) : Int) by omega]
      refine RunO.callD (refGet4_ok (k := 8 + 4 * i) s5 hb (by omega) (by omega)) rfl rfl rfl ?_
      rintro _ _ ⟨rfl, rfl⟩
      rw [← hget i hi8]
      refine RunO.part 1 rfl ?_
      refine RunO.indexA (s := 1) rfl rfl rfl rfl rfl hi8 rfl ?_
      have hfl := firstP_len hps (show i ≤ 8 by omega)
      have on6 := Ow.put (h := h5) (b := q) (nc lv (firstP ps (i + 1))) on5.1
      refine RunO.store (h1 := h5.put q (some ⟨nc lv (firstP ps (i + 1)), true⟩)) rfl rfl ?_ (RunO.nil ?_)
      · rw [Nat.mul_one]
        show astore _ _ _ ⟨q, 1 + i, none⟩ _ = _
        rw [Nat.add_comm 1]
        refine (store1_ow on5 rfl rfl rfl (by show _ < (is _).length + 1; rw [is_len, hfl]; omega)).trans ?_
        rw [← firstP_set hps hi8]
        unfold nc
        rw [List.set_cons_succ]
        unfold is
        rw [List.map_set]
      refine RunC.region (RunO.all rfl ?_)
      exact ⟨d - 1, by omega, i + 1, by omega, on6, f5.same (Fr.put _ (.inl rfl)), Le.cons (inc64 (by omega)) (Le.cons rfl (Le.cons rfl (Le.cons rfl (Le.nil _))))⟩
    · have hge := of_decide_eq_false hge
      obtain rfl : i = 8 := by omega
      have hfin : firstP ps 8 = ps := by unfold firstP; rw [← hps, List.take_length, Nat.sub_self]; simp
      rw [hfin] at on5
      have ow5 := ow4.fr f5 (show ¬ h.next = q by omega)
      have f15 : Fr (fun b => h.next ≤ b) h h5 := f14.trans f5 (fun b e => .inl (by omega))
      refine RunC.exit ?_
      refine RunC.seq ?_
      refine RunC.seqc (fun E' h' => Fr no h5 h' ∧ Le (upd (upd (upd (upd E0 0 v) 2 (.pointer (some ⟨h.next, 0, none⟩))) 5 (.pointer (some ⟨q, 0, none⟩))) 35 (.bool (!(nodOk lv ps && zerosN l 40 60)))) E') ?_ ?_
      · refine RunC.region ?_
        refine RunO.load (v := .agg ⟨nc lv ps⟩) rfl (nc_load hps on5) rfl ?_
        refine RunO.callD (refNode_ok hps) rfl rfl rfl ?_
        rintro _ h6 ⟨rfl, f6⟩
        refine RunO.part 2 rfl ?_
        cases nodOk lv ps with
        | false => exact RunO.all rfl ⟨f6, Le.cons rfl (Le.cons rfl (Le.cons rfl (Le.cons rfl (Le.nil _))))⟩
        | true =>
          refine RunO.part 1 rfl ?_
          refine RunO.callDG rfl (refZeros_ok (k := 40) (m := 60) (s5.fr0 f6) (by decide) (by omega) (by omega)) rfl rfl rfl ?_
          rintro _ _ ⟨rfl, rfl⟩
          exact RunO.all rfl ⟨f6, Le.cons rfl (Le.cons rfl (Le.cons rfl (Le.cons rfl (Le.nil _))))⟩
      rintro E' h6 ⟨f6, hE⟩
      refine RunC.le hE ?_
      clear hE
      have ow6 := ow5.fr f6 (fun g => g)
      have on6 := on5.fr f6 (fun g => g)
      have f16 := f15.quiet f6
      cases (nodOk lv ps && zerosN l 40 60) with
      | false =>
        refine RunC.cond rfl (fun _ => ?_) (fun g => by cases g)
        refine RunC.seq (RunC.region (RunO.part 1 rfl ?_))
        refine RunO.store rfl rfl (nc_store (lv := 0) (ps := nZero) ow6 rfl rfl rfl) (RunO.all rfl ?_)
        exact RunC.ret ⟨_, eresults_cell rfl (nc_load rfl (Ow.put (nc 0 nZero) ow6.1)) rfl, rfl, frNo (f16.same (Fr.put _ (.inl (Nat.le_refl _))))⟩
      | true =>
        refine RunC.cond rfl (fun g => by cases g) (fun _ => RunC.skip ?_)
        refine RunC.seq (RunC.region ?_)
        refine RunO.load (v := .agg ⟨nc lv ps⟩) rfl (nc_load hps on6) rfl ?_
        refine RunO.store rfl rfl (nc_store ow6 rfl hps rfl) (RunO.all rfl ?_)
        exact RunC.ret ⟨_, eresults_cell rfl (nc_load hps (Ow.put (nc lv ps) ow6.1)) rfl, rfl, frNo (f16.same (Fr.put _ (.inl (Nat.le_refl _))))⟩
  · exact ⟨0, by omega, on, Fr.refl _ _, Le.cons rfl (Le.cons rfl (Le.cons rfl (Le.cons rfl (Le.nil _))))⟩
end Go.Proofs.Ytimefcnagilhlaa
end
section
set_option linter.unusedVariables false
set_option maxRecDepth 100000
open Go Go.Am Go.RowKit
namespace Go.Proofs.Ytimefcnagilhlaa
open Go.Proofs.Try
/-- What a pointer of a level leads to, for a place under it; level 0: a sector's block. -/
def look (L : List Int) (B : Nat) : Nat → Int → Nat → Int
  | 0, p, _ => p
  | k + 1, p, s => if p = 0 then 0 else look L B k ((atV L B p).2.getD (s / 8 ^ k) 0) (s % 8 ^ k)
/-- Along the way to a place each node is one, of its level. -/
def pathOk (L : List Int) (B : Nat) : Nat → Int → Nat → Prop
  | 0, _, _ => True
  | k + 1, p, s => p ≠ 0 → atIs L B p (k : Int) = true ∧ pathOk L B k ((atV L B p).2.getD (s / 8 ^ k) 0) (s % 8 ^ k)
theorem look_zero (L : List Int) (B k s : Nat) : look L B k 0 s = 0 := by cases k <;> rfl
theorem tbody_bad {L : List Int} {B lv : Nat} {r : Int → Nat → TS → TS} {a : Int} {f : Nat} {w : TS} (hr : ∀ a f w, w.2.2 = true → (r a f w).2.2 = true) (hw : w.2.2 = true) : (tbody L B lv r a f w).2.2 = true := by
  unfold tbody
  split
  · rfl
  · generalize hz : (w.1, w.2.1 ++ [a], w.2.2) = z
    have hzb : z.2.2 = true := by rw [← hz]; exact hw
    clear hz
    generalize List.range 8 = l
    induction l generalizing z with
    | nil => exact hzb
    | cons i l ih =>
      rw [List.foldl_cons]
      refine ih _ ?_
      unfold tstep
      rw [if_pos hzb]; exact hzb
theorem tstep_mono {r : Int → Nat → TS → TS} {B : Nat} {leaf : Bool} {w : TS} {p : Int} {t : Nat} (hr : ∀ a f w, w.2.2 = true → (r a f w).2.2 = true) (hw : w.2.2 = true) : (tstep r B leaf w p t).2.2 = true := by
  unfold tstep
  rw [if_pos hw]; exact hw
/-- The fold of a node's pointers, as it goes. -/
def tst (L : List Int) (B lv : Nat) (ps : List Int) (f : Nat) (w : TS) (i : Nat) : TS := tstep (trec L B lv) B (lv == 0) w (ps.getD i 0) (f + i * 8 ^ lv)
theorem fold_bad {L : List Int} {B lv : Nat} {ps : List Int} {f : Nat} : ∀ (l : List Nat) (w : TS), w.2.2 = true → (l.foldl (tst L B lv ps f) w).2.2 = true
  | [], w, h => h
  | i :: l, w, h => by
    rw [List.foldl_cons]
    refine fold_bad l _ ?_
    unfold tst tstep
    rw [if_pos h]; exact h
theorem fold_pre {L : List Int} {B lv : Nat} {ps : List Int} {f N : Nat} {w : TS} (h : ((List.range N).foldl (tst L B lv ps f) w).2.2 = false) {i : Nat} (hi : i ≤ N) : ((List.range i).foldl (tst L B lv ps f) w).2.2 = false := by
  cases e : ((List.range i).foldl (tst L B lv ps f) w).2.2 with
  | false => rfl
  | true =>
    have hs : List.range N = List.range i ++ (List.range (N - i)).map (i + ·) := by
      rw [← List.range_add]; congr 1; omega
    rw [hs, List.foldl_append, fold_bad _ _ e] at h
    cases h
/-- What a walk that ends well has done. -/
structure TSpec (L : List Int) (B lv : Nat) (a : Int) (f : Nat) (w r : TS) : Prop where
  is_ : atIs L B a (lv : Int) = true
  new : w.2.1.contains a = false
  ns : ∃ t, r.2.1 = w.2.1 ++ a :: t
  nd : w.2.1.Nodup → r.2.1.Nodup
  m : ∀ s, s < 512 → r.1.getD s 0 = if f ≤ s ∧ s < f + 8 ^ (lv + 1) then look L B (lv + 1) a (s - f) else w.1.getD s 0
  path : ∀ s, s < 8 ^ (lv + 1) → pathOk L B (lv + 1) a s
  all : ∀ x ∈ r.2.1, x ∈ w.2.1 ∨ ∃ k, k ≤ lv ∧ atIs L B x (k : Int) = true
  bnd : ∀ x ∈ r.1, x ∈ w.1 ∨ x = 0 ∨ x < B
theorem atIs_ne {L : List Int} {B : Nat} {a lv : Int} (h : atIs L B a lv = true) : 2 ≤ a ∧ a < B := by
  unfold atIs at h
  rw [Bool.and_eq_true] at h
  exact atIn_iff.1 h.1
theorem nodup_snoc {α : Type} {l : List α} {x : α} (h : l.Nodup) (hx : ¬ x ∈ l) : (l ++ [x]).Nodup := by
  rw [List.nodup_append]
  refine ⟨h, List.nodup_cons.2 ⟨by simp, List.nodup_nil⟩, fun a ha b hb => ?_⟩
  rw [List.mem_singleton] at hb
  subst hb
  exact fun e => hx (e ▸ ha)
def SpecAt (L : List Int) (B lv : Nat) : Prop := ∀ (a : Int) (f : Nat) (w : TS), f + 8 ^ (lv + 1) ≤ 512 → w.1.length = 512 → w.2.2 = false → (∀ s, f ≤ s → s < f + 8 ^ (lv + 1) → w.1.getD s 0 = 0) → (tgo L B lv a f w).2.2 = false → TSpec L B lv a f w (tgo L B lv a f w)
structure FSpec (L : List Int) (B lv : Nat) (ps : List Int) (f : Nat) (m ns : List Int) (i : Nat) (r : TS) : Prop where
  len : r.1.length = 512
  tail : ∃ t, r.2.1 = ns ++ t
  nd : ns.Nodup → r.2.1.Nodup
  map : ∀ s, s < 512 → r.1.getD s 0 = if f ≤ s ∧ s < f + i * 8 ^ lv then look L B lv (ps.getD ((s - f) / 8 ^ lv) 0) ((s - f) % 8 ^ lv) else m.getD s 0
  path : ∀ j, j < i → ∀ s, s < 8 ^ lv → pathOk L B lv (ps.getD j 0) s
  all : ∀ x ∈ r.2.1, x ∈ ns ∨ ∃ k, k ≤ lv ∧ atIs L B x (k : Int) = true
  bnd : ∀ x ∈ r.1, x ∈ m ∨ x = 0 ∨ x < B
theorem getD_set (l : List Int) (k s : Nat) (p : Int) (hk : k < l.length) : (l.set k p).getD s 0 = if s = k then p else l.getD s 0 := by
  rw [List.getD_eq_getElem?_getD, List.getElem?_set]
  by_cases e : k = s
  · subst e; rw [if_pos rfl, if_pos hk, if_pos rfl]; rfl
  · rw [if_neg e, if_neg (fun g => e g.symm), List.getD_eq_getElem?_getD]
theorem divmod_at {s f i d : Nat} (hd : 0 < d) (h1 : f + i * d ≤ s) (h2 : s < f + i * d + d) : (s - f) / d = i ∧ (s - f) % d = s - (f + i * d) := by
  have e : s - f = (s - (f + i * d)) + i * d := by omega
  have hlt : s - (f + i * d) < d := by omega
  constructor
  · rw [e, Nat.add_mul_div_right _ _ hd, Nat.div_eq_of_lt hlt, Nat.zero_add]
  · rw [e, Nat.add_mul_mod_self_right, Nat.mod_eq_of_lt hlt]
theorem fold_spec {L : List Int} {B lv : Nat} {ps : List Int} {f : Nat} {m ns : List Int} (hrec : ∀ k, lv = k + 1 → SpecAt L B k) (hf : f + 8 ^ (lv + 1) ≤ 512) (hl : m.length = 512) (hz : ∀ s, f ≤ s → s < f + 8 ^ (lv + 1) → m.getD s 0 = 0)
    {N : Nat} (hN : N ≤ 8) (hb : ((List.range N).foldl (tst L B lv ps f) (m, ns, false)).2.2 = false) : ∀ i, i ≤ N → FSpec L B lv ps f m ns i ((List.range i).foldl (tst L B lv ps f) (m, ns, false)) := by
  have hp8 : 8 ^ (lv + 1) = 8 * 8 ^ lv := by rw [Nat.pow_succ, Nat.mul_comm]
  have hpos : 0 < 8 ^ lv := Nat.pow_pos (by decide)
  intro i
  induction i with
  | zero =>
    intro _
    exact ⟨hl, ⟨[], by simp⟩, fun h => h, fun s _ => by rw [if_neg (by omega)]; rfl, fun j hj => absurd hj (Nat.not_lt_zero _), fun x hx => .inl hx, fun x hx => .inl hx⟩
  | succ i ih =>
    intro hi
    have S := ih (by omega)
    have hnb := fold_pre hb (i := i) (by omega)
    have hnb1 := fold_pre hb (i := i + 1) hi
    have hstep : (List.range (i + 1)).foldl (tst L B lv ps f) (m, ns, false) = tst L B lv ps f ((List.range i).foldl (tst L B lv ps f) (m, ns, false)) i := by rw [List.range_succ, List.foldl_append]; rfl
    rw [hstep] at hnb1 ⊢
    generalize (List.range i).foldl (tst L B lv ps f) (m, ns, false) = W at *
    obtain ⟨wm, wn, wb⟩ := W
    simp only at hnb
    subst hnb
    have hile : i * 8 ^ lv + 8 ^ lv ≤ 8 * 8 ^ lv := by rw [← Nat.succ_mul]; exact Nat.mul_le_mul_right _ (Nat.le_trans hi hN)
    have hsucc : (i + 1) * 8 ^ lv = i * 8 ^ lv + 8 ^ lv := Nat.succ_mul ..
    obtain ⟨Sl, ⟨t, St⟩, Snd, Sm, Sp, Sa, Sb⟩ := S
    simp only at Sl St Snd Sm Sa Sb
    have here : ∀ s, f + i * 8 ^ lv ≤ s → s < f + i * 8 ^ lv + 8 ^ lv → wm.getD s 0 = 0 := fun s h1 h2 => by
      rw [Sm s (by omega), if_neg (by omega)]
      exact hz s (by omega) (by omega)
    unfold tst tstep at hnb1 ⊢
    rw [if_neg Bool.false_ne_true] at hnb1 ⊢
    generalize hp : ps.getD i 0 = p at *
    by_cases hB : decide (p ≥ (B : Int)) = true
    · rw [if_pos hB] at hnb1; cases hnb1
    rw [if_neg hB] at hnb1 ⊢
    have hpB : p < B := by have := of_decide_eq_false (Bool.eq_false_iff.2 hB); omega
    by_cases hp0 : p = 0
    · subst hp0
      rw [if_neg (by simp), if_neg (by simp)] at hnb1 ⊢
      refine ⟨Sl, ⟨t, St⟩, Snd, fun s hs => ?_, fun j hj s hs => ?_, Sa, Sb⟩
      · simp only
        by_cases c : f + i * 8 ^ lv ≤ s ∧ s < f + i * 8 ^ lv + 8 ^ lv
        · obtain ⟨d1, d2⟩ := divmod_at hpos c.1 c.2
          rw [here s c.1 c.2, if_pos (by omega), d1, hp, look_zero]
        · rw [Sm s hs]
          by_cases c2 : f ≤ s ∧ s < f + i * 8 ^ lv
          · rw [if_pos c2, if_pos (by omega)]
          · rw [if_neg c2, if_neg (by omega)]
      · by_cases e : j = i
        · subst e
          rw [hp]
          cases lv with
          | zero => trivial
          | succ k => intro h; exact absurd rfl h
        · exact Sp j (by omega) s hs
    have hpn : (p != 0) = true := bne_iff_ne.2 hp0
    cases lv with
    | zero =>
      rw [hpn, if_pos (by rfl)]
      simp only [Nat.pow_zero, Nat.mul_one] at *
      refine ⟨by simp only [List.length_set]; exact Sl, ⟨t, St⟩, Snd, fun s hs => ?_, fun j hj s hs => trivial, Sa, fun x hx => ?_⟩
      · simp only
        rw [getD_set _ _ _ _ (by omega)]
        by_cases e : s = f + i
        · subst e
          rw [if_pos rfl, if_pos (by omega), Nat.div_one, show f + i - f = i by omega, hp]; rfl
        · rw [if_neg e, Sm s hs]
          by_cases c2 : f ≤ s ∧ s < f + i
          · rw [if_pos c2, if_pos (by omega)]
          · rw [if_neg c2, if_neg (by omega)]
      · rcases List.mem_or_eq_of_mem_set hx with g | g
        · exact Sb x g
        · exact .inr (.inr (by omega))
    | succ k =>
      rw [hpn, if_neg (by simp), if_pos rfl] at hnb1 ⊢
      have T := hrec k rfl p (f + i * 8 ^ (k + 1)) (wm, wn, false) (by omega) Sl rfl here hnb1
      have hlen : (trec L B (k + 1) p (f + i * 8 ^ (k + 1)) (wm, wn, false)).1.length = 512 := by rw [trec_len]; exact Sl
      change TSpec L B k p (f + i * 8 ^ (k + 1)) (wm, wn, false) (trec L B (k + 1) p (f + i * 8 ^ (k + 1)) (wm, wn, false)) at T
      generalize trec L B (k + 1) p (f + i * 8 ^ (k + 1)) (wm, wn, false) = R at *
      obtain ⟨T1, T2, ⟨t2, T3⟩, T4, T5, T6, T7, T8⟩ := T
      simp only at T2 T3 T4 T5 T7 T8
      refine ⟨hlen, ⟨t ++ p :: t2, by rw [T3, St, List.append_assoc]⟩, fun h => T4 (Snd h), fun s hs => ?_, fun j hj s hs => ?_, fun x hx => ?_, fun x hx => ?_⟩
      · rw [T5 s hs]
        by_cases c : f + i * 8 ^ (k + 1) ≤ s ∧ s < f + i * 8 ^ (k + 1) + 8 ^ (k + 1)
        · obtain ⟨d1, d2⟩ := divmod_at hpos c.1 c.2
          rw [if_pos c, if_pos (by omega), d1, d2, hp]
        · rw [if_neg c, Sm s hs]
          by_cases c2 : f ≤ s ∧ s < f + i * 8 ^ (k + 1)
          · rw [if_pos c2, if_pos (by omega)]
          · rw [if_neg c2, if_neg (by omega)]
      · by_cases e : j = i
        · subst e; rw [hp]; exact T6 s hs
        · exact Sp j (by omega) s hs
      · rcases T7 x hx with g | ⟨q, g1, g2⟩
        · exact Sa x g
        · exact .inr ⟨q, by omega, g2⟩
      · rcases T8 x hx with g | g
        · exact Sb x g
        · exact .inr g
theorem spec_body {L : List Int} {B lv : Nat} (hrec : ∀ k, lv = k + 1 → SpecAt L B k) : SpecAt L B lv := by
  intro a f w hf hl hw hz hb
  obtain ⟨m, ns, bd⟩ := w
  simp only at hl hw hz
  subst hw
  have hpos : 0 < 8 ^ lv := Nat.pow_pos (by decide)
  have hp8 : 8 ^ (lv + 1) = 8 * 8 ^ lv := by rw [Nat.pow_succ, Nat.mul_comm]
  rw [tgo_eq] at hb ⊢
  unfold tbody at hb ⊢
  by_cases hc : (!atIs L B a (lv : Int) || ns.contains a) = true
  · rw [if_pos hc] at hb; cases hb
  rw [if_neg hc] at hb ⊢
  rw [Bool.or_eq_true, not_or, Bool.not_eq_true, Bool.not_eq_true, Bool.not_eq_false'] at hc
  obtain ⟨h1, h2⟩ := hc
  have ha := atIs_ne h1
  have S := fold_spec (ps := (atV L B a).2) (ns := ns ++ [a]) hrec hf hl hz (Nat.le_refl 8) hb 8 (Nat.le_refl 8)
  change TSpec L B lv a f (m, ns, false) ((List.range 8).foldl (tst L B lv (atV L B a).2 f) (m, ns ++ [a], false))
  generalize (List.range 8).foldl (tst L B lv (atV L B a).2 f) (m, ns ++ [a], false) = R at *
  obtain ⟨_, ⟨t, St⟩, Snd, Sm, Sp, Sa, Sb⟩ := S
  refine ⟨h1, h2, ⟨t, by rw [St, List.append_assoc]; rfl⟩, fun h => Snd (nodup_snoc h (by simpa using h2)), fun s hs => ?_, fun s hs => ?_, fun x hx => ?_, fun x hx => Sb x hx⟩
  · rw [Sm s hs, ← hp8]
    by_cases c : f ≤ s ∧ s < f + 8 ^ (lv + 1)
    · rw [if_pos c, if_pos c]
      show _ = if a = 0 then 0 else _
      rw [if_neg (by omega)]
    · rw [if_neg c, if_neg c]
  · intro _
    exact ⟨h1, Sp (s / 8 ^ lv) (by rw [Nat.div_lt_iff_lt_mul hpos]; omega) (s % 8 ^ lv) (Nat.mod_lt _ hpos)⟩
  · rcases Sa x hx with g | g
    · rcases List.mem_append.1 g with g | g
      · exact .inl g
      · rw [List.mem_singleton] at g; subst g; exact .inr ⟨lv, Nat.le_refl _, h1⟩
    · exact .inr g
theorem tgo_spec (L : List Int) (B : Nat) : ∀ lv, SpecAt L B lv := by
  intro lv
  induction lv with
  | zero => exact spec_body (fun k e => by cases e)
  | succ k ih => exact spec_body (fun j e => by cases e; exact ih)
end Go.Proofs.Ytimefcnagilhlaa
end
section
set_option linter.unusedVariables false
set_option maxRecDepth 100000
open Go Go.Am Go.RowKit
namespace Go.Proofs.Ytimefcnagilhlaa
open Go.Proofs.Try
def bs (l : List Bool) : List Value := l.map Value.bool
theorem bs_len (l : List Bool) : (bs l).length = l.length := List.length_map _
theorem bs_part {l : List Bool} {i : Nat} (h : i < l.length) : apart prog 4 (bs l) (i * 1) = some (.bool l[i]) := by
  show nth (bs l) (i * 1) = _
  rw [Nat.mul_one, nth_eq, bs, List.getElem?_map, List.getElem?_eq_getElem h]; rfl
theorem bs_set (l : List Bool) (i : Nat) (x : Bool) : (bs l).set i (.bool x) = bs (l.set i x) := by unfold bs; rw [List.map_set]
/-- The page's walk through a tree, as cells. -/
def rwc (iv : Value) (B sb db mb : Nat) (nv : Value) (ok : Bool) : List Value := [iv, .int .i64 (B : Int), nv, .slice (some ⟨sb, 0, none⟩) B (exc B), .slice (some ⟨db, 0, none⟩) B (exc B), .slice (some ⟨mb, 0, none⟩) 512 (exc 512), .bool ok]
structure RW (lo : Nat) (h : Heap) (iv : Value) (B wb sb db mb : Nat) (nv : Value) (m ns : List Int) (sn dt : List Bool) (ok : Bool) : Prop where
  ow : Ow h wb (rwc iv B sb db mb nv ok)
  os : Ow h sb (bs sn)
  od : Ow h db (bs dt)
  om : Ow h mb (is m)
  row : Row lo h nv 1 ns.length (is ns)
  lm : m.length = 512
  ls : sn.length = B
  ld : dt.length = B
  ln : lo ≤ h.next
structure RB (lo wb sb db mb : Nat) : Prop where
  w : wb < lo
  s : sb < lo
  d : db < lo
  m : mb < lo
  ws : wb ≠ sb
  wd : wb ≠ db
  wm : wb ≠ mb
  sd : sb ≠ db
  sm : sb ≠ mb
  dm : db ≠ mb
def RM (lo wb sb db mb : Nat) : Nat → Prop := fun b => b = wb ∨ b = sb ∨ b = db ∨ b = mb ∨ lo ≤ b
/-- What a walk writes: its own blocks, the row of the nodes. -/
def RR (wb sb db mb : Nat) (nv : Value) : Nat → Prop := fun b => b = wb ∨ b = sb ∨ b = db ∨ b = mb ∨ At nv b
/-- Seen are the nodes, data the map's. -/
def Cpl (B : Nat) (m ns : List Int) (sn dt : List Bool) : Prop := (∀ i, i < B → sn.getD i false = ns.contains (i : Int)) ∧ ∀ i, 0 < i → i < B → dt.getD i false = m.contains (i : Int)
theorem RW.quiet {lo : Nat} {h h' : Heap} {iv : Value} {B wb sb db mb : Nat} {nv : Value} {m ns : List Int} {sn dt : List Bool} {ok : Bool} (t : RW lo h iv B wb sb db mb nv m ns sn dt ok) (f : Fr no h h') : RW lo h' iv B wb sb db mb nv m ns sn dt ok :=
  ⟨t.ow.fr f (fun g => g), t.os.fr f (fun g => g), t.od.fr f (fun g => g), t.om.fr f (fun g => g), t.row.fr f (fun _ _ _ g => g), t.lm, t.ls, t.ld, Nat.le_trans t.ln f.next⟩
/-- Ok is put down. -/
theorem RW.fail {lo : Nat} {h : Heap} {iv : Value} {B wb sb db mb : Nat} {nv : Value} {m ns : List Int} {sn dt : List Bool} {ok : Bool} (rb : RB lo wb sb db mb) (t : RW lo h iv B wb sb db mb nv m ns sn dt ok) (x : Bool) :
    astore prog h 4 ⟨wb, 6, none⟩ (.bool x) = some (h.put wb (some ⟨rwc iv B sb db mb nv x, true⟩)) ∧ RW lo (h.put wb (some ⟨rwc iv B sb db mb nv x, true⟩)) iv B wb sb db mb nv m ns sn dt x ∧ Fr (RR wb sb db mb nv) h (h.put wb (some ⟨rwc iv B sb db mb nv x, true⟩)) := by
  have f : Fr (· = wb) h (h.put wb (some ⟨rwc iv B sb db mb nv x, true⟩)) := Fr.put _ (.inl rfl)
  refine ⟨store1_ow t.ow rfl rfl rfl (Nat.le_of_ble_eq_true rfl), ⟨Ow.put _ t.ow.1, t.os.fr f (fun e => rb.ws e.symm), t.od.fr f (fun e => rb.wd e.symm), t.om.fr f (fun e => rb.wm e.symm), t.row.fr f (fun b h1 _ e => by have := rb.w; omega), t.lm, t.ls, t.ld, t.ln⟩, f.weak (fun i e => .inl (.inl e))⟩
theorem contains_set0 {m : List Int} {k : Nat} {p : Int} (hk : k < m.length) (h0 : m.getD k 0 = 0) {x : Int} (hx : x ≠ 0) : (m.set k p).contains x = (x == p || m.contains x) := by
  rw [Bool.eq_iff_iff]
  simp only [List.contains_eq_mem, decide_eq_true_eq, Bool.or_eq_true, beq_iff_eq]
  constructor
  · intro h
    rcases List.mem_or_eq_of_mem_set h with g | g
    · exact .inr g
    · exact .inl g
  · rintro (rfl | h)
    · exact List.mem_of_getElem? (List.getElem?_set_self hk)
    · obtain ⟨j, hj⟩ := List.getElem?_of_mem h
      have hne : k ≠ j := by
        intro e; subst e
        rw [List.getD_eq_getElem?_getD, hj] at h0
        exact hx h0
      exact List.mem_of_getElem? (by rw [List.getElem?_set_ne hne]; exact hj)
theorem getD_setB (l : List Bool) (k s : Nat) (p : Bool) (hk : k < l.length) : (l.set k p).getD s false = if s = k then p else l.getD s false := by
  rw [List.getD_eq_getElem?_getD, List.getElem?_set]
  by_cases e : k = s
  · subst e; rw [if_pos rfl, if_pos hk, if_pos rfl]; rfl
  · rw [if_neg e, if_neg (fun g => e g.symm), List.getD_eq_getElem?_getD]
theorem sl_rm {h h' : Heap} {iv : Value} {n s : Nat} {cs : List Value} {M : Nat → Prop} (sl : Sl h iv s n cs) (hn : ∀ b o c, iv = .slice (some ⟨b, o, none⟩) n c → ¬ M b) (f : Fr M h h') : Sl h' iv s n cs := by
  refine ⟨sl.1, sl.2.1, sl.2.2.imp (fun y => y) ?_⟩
  rintro ⟨b, o, c, h1, h2, h3⟩
  exact ⟨b, o, c, h1, h2, h3.fr f (hn b o c h1)⟩
/-- A walk that has failed goes no further. -/
theorem rnode_dead {h : Heap} {lo : Nat} {iv : Value} {B wb sb db mb : Nat} {nv : Value} {m ns : List Int} {sn dt : List Bool} {at_ lv from_ : Int} (rb : RB lo wb sb db mb) (t : RW lo h iv B wb sb db mb nv m ns sn dt false) :
    RunF prog 42 [.pointer (some ⟨wb, 0, none⟩), .int .i64 at_, .int .i64 lv, .int .i64 from_] h fun v h' => v = .tuple #[] ∧ RW lo h' iv B wb sb db mb nv m ns sn dt false ∧ Fr (RR wb sb db mb nv) h h' := by
  refine RunF.walk func42 rfl rfl ?_
  have ow := t.ow
  obtain ⟨e1, e2, e3⟩ := t.fail rb false
  refine RunC.seq (RunC.seq (RunC.region (RunO.part 3 rfl ?_)))
  refine RunO.load (v := .bool false) rfl (ow.ld rfl) rfl (RunO.all rfl ?_)
  refine RunC.cond rfl (fun _ => ?_) (fun g => by cases g)
  refine RunC.seq (RunC.region (RunO.part 3 rfl ?_))
  refine RunO.store rfl rfl e1 (RunO.all rfl ?_)
  exact RunC.ret ⟨_, rfl, rfl, e2, e3⟩
theorem tstep_none {r : Int → Nat → TS → TS} {B : Nat} {leaf : Bool} {w : TS} {t : Nat} (hB : 1 ≤ B) : tstep r B leaf w 0 t = w := by
  unfold tstep
  rw [show decide ((0 : Int) ≥ (B : Int)) = false from decide_eq_false (by omega)]
  cases w.2.2 <;> cases leaf <;> rfl
def RNodeOk (L : List Int) (B lo wb sb db mb : Nat) (iv : Value) (lv : Nat) : Prop := ∀ {h : Heap} {nv : Value} {m ns : List Int} {sn dt : List Bool} {at_ : Int} {from_ : Nat},
    Sl h iv 1 L.length (us L) → RW lo h iv B wb sb db mb nv m ns sn dt true → Cpl B m ns sn dt → ns.length + nN lv ≤ 100000 → from_ + 8 ^ (lv + 1) ≤ 512 → (∀ s, from_ ≤ s → s < from_ + 8 ^ (lv + 1) → m.getD s 0 = 0) →
    RunF prog 42 [.pointer (some ⟨wb, 0, none⟩), .int .i64 at_, .int .i64 (lv : Int), .int .i64 (from_ : Int)] h fun v h' => v = .tuple #[] ∧ Fr (RR wb sb db mb nv) h h' ∧ ∃ nv' m' ns' sn' dt' ok', RW lo h' iv B wb sb db mb nv' m' ns' sn' dt' ok' ∧ (∀ b, At nv' b → At nv b ∨ h.next ≤ b) ∧ ns'.length ≤ ns.length + nN lv ∧
      ok' = !(tgo L B lv at_ from_ (m, ns, false)).2.2 ∧ (ok' = true → tgo L B lv at_ from_ (m, ns, false) = (m', ns', false) ∧ Cpl B m' ns' sn' dt')
theorem refIn10_ok {h : Heap} {a lo hi : Int} : RunF prog 62 [.int .i64 a, .int .i64 lo, .int .i64 hi] h fun v h' => v = .bool (inB a lo hi) ∧ h = h' := by
  refine RunF.walk func62 rfl rfl ?_
  refine RunC.seq (RunC.region (RunO.all rfl ?_))
  refine RunC.seq (RunC.region (RunO.part 4 rfl ?_))
  unfold inB
  cases decide (a ≥ lo) with
  | true => exact RunO.all rfl (RunC.ret ⟨_, rfl, by simp, rfl⟩)
  | false => exact RunO.all rfl (RunC.ret ⟨_, rfl, by simp, rfl⟩)
theorem atIn_inB {B : Nat} {a : Int} (hB : B ≤ 4096) : inB a 2 (fwrap .i64 ((B : Int) - 1)) = atIn B a := by
  rw [fw64 (by omega) (by omega), Bool.eq_iff_iff, inB_iff, atIn_iff]
  omega
set_option maxHeartbeats 16000000 in
theorem rnode_body {L : List Int} {B lo wb sb db mb : Nat} {iv : Value} (hb : Byt L) (hB : B * 64 ≤ L.length) (hB1 : 1 ≤ B) (hB2 : B ≤ 4096) (hm : L.length ≤ 4611686018427387904) (rb : RB lo wb sb db mb) (hiv : ∀ b o c, iv = .slice (some ⟨b, o, none⟩) L.length c → ¬ RM lo wb sb db mb b)
    {lv : Nat} (hlv : lv ≤ 2) (hrec : ∀ k, lv = k + 1 → RNodeOk L B lo wb sb db mb iv k) : RNodeOk L B lo wb sb db mb iv lv := by
  intro h nv m ns sn dt at_ from_ sl t hcp hns hfrom hz
  have hlv8 : 8 ^ lv ≤ 64 := by
    have : 8 ^ lv ≤ 8 ^ 2 := Nat.pow_le_pow_right (by decide) hlv
    exact this
  have hp8 : 8 ^ (lv + 1) = 8 ^ lv * 8 := Nat.pow_succ ..
  have hpos : 1 ≤ 8 ^ lv := Nat.pow_pos (by decide)
  have hgo : tgo L B lv at_ from_ (m, ns, false) = if (!atIs L B at_ (lv : Int) || ns.contains at_) = true then (m, ns, true) else (List.range 8).foldl (tst L B lv (atV L B at_).2 from_) (m, ns ++ [at_], false) := tgo_eq ..
  rw [hgo]
  clear hgo
  have hbad : ∀ {h' : Heap} {nv' : Value} {m' ns' : List Int} {sn' dt' : List Bool} {ok : Bool} {T : TS}, RW lo h' iv B wb sb db mb nv' m' ns' sn' dt' ok → Fr (RR wb sb db mb nv) h h' → (∀ b, At nv' b → At nv b ∨ h.next ≤ b) → ns'.length ≤ ns.length + nN lv → T.2.2 = true →
      ∃ h'', astore prog h' 4 ⟨wb, 6, none⟩ (.bool false) = some h'' ∧ Value.tuple #[] = .tuple #[] ∧ Fr (RR wb sb db mb nv) h h'' ∧ ∃ nv' m' ns' sn' dt' ok', RW lo h'' iv B wb sb db mb nv' m' ns' sn' dt' ok' ∧ (∀ b, At nv' b → At nv b ∨ h.next ≤ b) ∧ ns'.length ≤ ns.length + nN lv ∧ ok' = !T.2.2 ∧ (ok' = true → T = (m', ns', false) ∧ Cpl B m' ns' sn' dt') := by
    intro h' nv' m' ns' sn' dt' ok T t' F' hr' hl' hT
    obtain ⟨e1, e2, e3⟩ := t'.fail rb false
    refine ⟨_, e1, rfl, F'.trans e3 (fun b g => ?_), nv', m', ns', sn', dt', false, e2, hr', hl', by rw [hT]; rfl, fun g => by cases g⟩
    rcases g with g | g | g | g | g
    · exact .inl (.inl g)
    · exact .inl (.inr (.inl g))
    · exact .inl (.inr (.inr (.inl g)))
    · exact .inl (.inr (.inr (.inr (.inl g))))
    · exact (hr' b g).imp (fun g => .inr (.inr (.inr (.inr g)))) id
  refine RunF.walk func42 rfl rfl ?_
  have ow := t.ow
  -- is it one that may be?
  refine RunC.seq (RunC.seqE (upd (upd (upd (upd (upd E0 0 (.pointer (some ⟨wb, 0, none⟩))) 1 (.int .i64 at_)) 2 (.int .i64 (lv : Int))) 3 (.int .i64 (from_ : Int))) 37 (.bool (!atIn B at_ || ns.contains at_))) ?_ ?_)
  · refine RunC.region (RunO.part 3 rfl ?_)
    refine RunO.load (v := .bool true) rfl (ow.ld rfl) rfl ?_
    refine RunO.part 6 rfl ?_
    refine RunO.loadG (v := .int .i64 (B : Int)) rfl rfl (ow.ld rfl) rfl ?_
    refine RunO.part 1 rfl ?_
    refine RunO.callDG rfl refIn10_ok rfl rfl rfl ?_
    rintro _ _ ⟨rfl, rfl⟩
    rw [atIn_inB hB2]
    refine RunO.part 3 rfl ?_
    cases hin : atIn B at_ with
    | false => exact RunO.all rfl ⟨rfl, Le.cons rfl (Le.cons rfl (Le.cons rfl (Le.cons rfl (Le.cons rfl (Le.nil _)))))⟩
    | true =>
      obtain ⟨ha2, haB⟩ := atIn_iff.1 hin
      obtain ⟨a, rfl⟩ := Int.eq_ofNat_of_zero_le (show 0 ≤ at_ by omega)
      have has : a < sn.length := by rw [t.ls]; omega
      have hse : sn[a] = ns.contains (a : Int) := by
        have := hcp.1 a (by omega)
        rwa [List.getD_eq_getElem?_getD, List.getElem?_eq_getElem has] at this
      refine RunO.part 3 rfl ?_
      refine RunO.loadG (v := .slice (some ⟨sb, 0, none⟩) B (exc B)) rfl rfl (ow.ld rfl) rfl ?_
      refine RunO.part 1 rfl ?_
      have sls : Sl h (.slice (some ⟨sb, 0, none⟩) B (exc B)) 1 B (bs sn) := t.os.all.sl (by rw [bs_len, t.ls, Nat.mul_one]) (by omega) (Cp.exc (Nat.le_refl _))
      refine RunO.atG (s := 1) (k := a) (u := .bool (ns.contains (a : Int))) rfl (fun _ => rfl) rfl rfl sls rfl rfl (by omega) (by rw [bs_part has, hse]) rfl rfl rfl ?_
      exact RunO.all rfl ⟨rfl, Le.cons rfl (Le.cons rfl (Le.cons rfl (Le.cons rfl (Le.cons rfl (Le.nil _)))))⟩
  by_cases hmay : (!atIn B at_ || ns.contains at_) = true
  · rw [hmay]
    have hcond : (!atIs L B at_ (lv : Int) || ns.contains at_) = true := by
      unfold atIs
      cases hi : atIn B at_ with
      | false => rfl
      | true => rw [hi, Bool.not_true, Bool.false_or] at hmay; rw [hmay, Bool.or_true]
    rw [if_pos hcond]
    refine RunC.cond rfl (fun _ => ?_) (fun g => by cases g)
    obtain ⟨h2, e1, e2⟩ := hbad (T := (m, ns, true)) t (Fr.refl _ _) (fun b g => .inl g) (by omega) rfl
    refine RunC.seq (RunC.region (RunO.part 3 rfl ?_))
    refine RunO.store rfl rfl e1 (RunO.all rfl ?_)
    exact RunC.ret ⟨_, rfl, e2⟩
  rw [Bool.not_eq_true] at hmay
  rw [hmay]
  rw [Bool.or_eq_false_iff, Bool.not_eq_false'] at hmay
  obtain ⟨hin, hnc⟩ := hmay
  obtain ⟨ha2, haB⟩ := atIn_iff.1 hin
  obtain ⟨a, rfl⟩ := Int.eq_ofNat_of_zero_le (show 0 ≤ at_ by omega)
  have haL : (a + 1) * 64 ≤ L.length := Nat.le_trans (Nat.mul_le_mul_right 64 (by omega)) hB
  refine RunC.cond rfl (fun g => by cases g) (fun _ => RunC.skip ?_)
  refine RunC.seq (RunC.region (RunO.part 3 rfl ?_))
  refine RunO.load (v := iv) rfl (ow.ld rfl) rfl ?_
  refine RunO.part 1 rfl ?_
  refine RunO.callD (refBlock_ok (i := a) sl haL hm) rfl rfl rfl ?_
  rintro bv _ ⟨slb, rfl⟩
  have hbl := blkI_len haL
  refine RunO.callD (refParseNode_ok (by rw [hbl]; exact slb) (byt_blk hb a)) rfl rfl rfl ?_
  rintro _ h1 ⟨rfl, f1⟩
  have hvv : atV L B (a : Int) = nodV (blkI L a) := by unfold atV; rw [hin, if_pos rfl, Int.toNat_natCast]
  have his : atIs L B (a : Int) (lv : Int) = (nCode (blkI L a) == 0 && (nodV (blkI L a)).1 == (lv : Int)) := by unfold atIs; rw [hin, hvv, Int.toNat_natCast, Bool.true_and]
  have hvl := nodV_len (blkI L a)
  have hptr : nCode (blkI L a) = 0 → ∀ x ∈ (nodV (blkI L a)).2, x = 0 ∨ 2 ≤ x := by
    intro hc x hx
    have hv : nodV (blkI L a) = (nLv (blkI L a), nPs (blkI L a)) := by unfold nodV; rw [if_pos hc]
    rw [hv] at hx
    have hok : nodOk (nLv (blkI L a)) (nPs (blkI L a)) = true := by
      unfold nCode at hc
      split at hc
      · split at hc
        · assumption
        · cases hc
      · rename_i h1; exact absurd hc h1
    unfold nodOk at hok
    rw [Bool.and_eq_true, List.all_eq_true] at hok
    have := hok.1 x hx
    unfold ptrB at this
    rw [Bool.or_eq_true, beq_iff_eq, Bool.and_eq_true, decide_eq_true_eq] at this
    omega
  rw [his, hvv, hnc, Bool.or_false]
  generalize nCode (blkI L a) = cd at *
  generalize nodV (blkI L a) = nd at *
  obtain ⟨nl, ps⟩ := nd
  simp only at hvl hptr ⊢
  refine RunO.part 4 (h1 := h1.push ⟨nc 0 nZero, true⟩) rfl ?_
  refine RunO.store rfl rfl (nc_store (lv := nl) (ps := ps) (Ow.push h1 (nc 0 nZero)) rfl hvl rfl) (RunO.all rfl ?_)
  have on : Ow ((h1.push ⟨nc 0 nZero, true⟩).put h1.next (some ⟨nc nl ps, true⟩)) h1.next (nc nl ps) := Ow.put _ (Nat.lt_succ_self _)
  have f2 : Fr no h1 ((h1.push ⟨nc 0 nZero, true⟩).put h1.next (some ⟨nc nl ps, true⟩)) := (Fr.push _ _ _).trans (Fr.put (m := (· = h1.next)) _ (.inl rfl)) (fun j hj => .inr (by omega))
  have f12 := f1.same f2
  have hq : lo ≤ h1.next := Nat.le_trans t.ln f1.next
  have hnv : ∀ b, At nv b → b < h.next := fun b ha => (t.row.at ha).2
  have hnrow : ∀ b, At nv b → b ≠ h1.next := fun b ha => by have := hnv b ha; have := f1.next; omega
  have hqh0 : h.next ≤ h1.next := f1.next
  generalize (h1.push ⟨nc 0 nZero, true⟩).put h1.next (some ⟨nc nl ps, true⟩) = h2 at *
  generalize h1.next = q at *
  have t2 := t.quiet f12
  have F2 : Fr (RR wb sb db mb nv) h h2 := f12.weak (fun _ g => g.elim)
  have hqh : h.next ≤ q := hqh0
  clear t ow
  -- its kind, its level
  refine RunC.seq (RunC.seqE (upd (upd (upd (upd (upd (upd E0 0 (.pointer (some ⟨wb, 0, none⟩))) 1 (.int .i64 (a : Int))) 2 (.int .i64 (lv : Int))) 3 (.int .i64 (from_ : Int))) 8 (.pointer (some ⟨q, 0, none⟩))) 58 (.bool (!(cd == 0 && nl == (lv : Int))))) ?_ ?_)
  · refine RunC.region (RunO.part 3 rfl ?_)
    have e1 : (cd != 0) = !(cd == 0) := rfl
    rw [e1]
    cases (cd == 0) with
    | false => exact RunO.all rfl ⟨rfl, Le.cons rfl (Le.cons rfl (Le.cons rfl (Le.cons rfl (Le.cons rfl (Le.cons rfl (Le.nil _))))))⟩
    | true =>
      refine RunO.part 1 rfl ?_
      refine RunO.loadG (v := .int .i64 nl) rfl rfl (on.ld rfl) rfl ?_
      exact RunO.all rfl ⟨rfl, Le.cons rfl (Le.cons rfl (Le.cons rfl (Le.cons rfl (Le.cons rfl (Le.cons rfl (Le.nil _))))))⟩
  by_cases hone : (cd == 0 && nl == (lv : Int)) = true
  case neg =>
    rw [Bool.not_eq_true] at hone
    rw [hone, if_pos (show (!false) = true from rfl)]
    refine RunC.cond rfl (fun _ => ?_) (fun g => by cases g)
    obtain ⟨h3, e1, e2⟩ := hbad (T := (m, ns, true)) t2 F2 (fun b g => .inl g) (by omega) rfl
    refine RunC.seq (RunC.region (RunO.part 3 rfl ?_))
    refine RunO.store rfl rfl e1 (RunO.all rfl ?_)
    exact RunC.ret ⟨_, rfl, e2⟩
  rw [hone, if_neg (show ¬ (!true) = true by decide)]
  rw [Bool.and_eq_true, beq_iff_eq, beq_iff_eq] at hone
  replace hptr := hptr hone.1
  refine RunC.cond rfl (fun g => by cases g) (fun _ => RunC.skip ?_)
  -- it is seen
  have ow2 := t2.ow
  have has : a < sn.length := by rw [t2.ls]; omega
  refine RunC.seq (RunC.region (RunO.part 3 rfl ?_))
  refine RunO.load (v := .slice (some ⟨sb, 0, none⟩) B (exc B)) rfl (ow2.ld rfl) rfl ?_
  refine RunO.part 1 rfl ?_
  refine RunO.index (s := 1) rfl rfl rfl rfl (show a < B by omega) rfl ?_
  refine RunO.store rfl rfl (store1_ow t2.os rfl rfl rfl (by rw [bs_len]; omega)) (RunO.nil ?_)
  rw [show (bs sn).set (0 + a * 1) (.bool true) = bs (sn.set a true) by rw [Nat.zero_add, Nat.mul_one, bs_set]]
  have fs : Fr (· = sb) h2 (h2.put sb (some ⟨bs (sn.set a true), true⟩)) := Fr.put _ (.inl rfl)
  have t3 : RW lo (h2.put sb (some ⟨bs (sn.set a true), true⟩)) iv B wb sb db mb nv m ns (sn.set a true) dt true :=
    ⟨t2.ow.fr fs rb.ws, Ow.put _ t2.os.1, t2.od.fr fs (fun e => rb.sd e.symm), t2.om.fr fs (fun e => rb.sm e.symm), t2.row.fr fs (fun b h1 _ e => by have := rb.s; omega), t2.lm, by rw [List.length_set]; exact t2.ls, t2.ld, t2.ln⟩
  have on3 := on.fr fs (show ¬ q = sb by have := rb.s; omega)
  have F3 : Fr (RR wb sb db mb nv) h (h2.put sb (some ⟨bs (sn.set a true), true⟩)) := F2.trans fs (fun b e => .inl (.inr (.inl e)))
  have hn3 : (h2.put sb (some ⟨bs (sn.set a true), true⟩)).next = h2.next := rfl
  generalize h2.put sb (some ⟨bs (sn.set a true), true⟩) = h3 at *
  clear t2 ow2 on
  -- one node more
  have ow3 := t3.ow
  refine RunC.seq (RunC.region (RunO.part 4 rfl ?_))
  refine RunO.load (v := nv) rfl (ow3.ld rfl) rfl ?_
  refine RunO.part 2 (h1 := h3.push ⟨is [(a : Int)], true⟩) rfl ?_
  have fp : Fr no h3 (h3.push ⟨is [(a : Int)], true⟩) := Fr.push _ _ _
  have ob := Ow.push h3 (is [(a : Int)])
  have t3p := t3.quiet fp
  have on4 := on3.fr fp (fun g => g)
  generalize h3.push ⟨is [(a : Int)], true⟩ = h4 at *
  refine RunO.append2 (s := 1) (m := 1) rfl rfl rfl rfl rfl rfl rfl rfl (Nat.le_refl 1) t3p.row ob.all rfl (Nat.le_refl 1) rfl (by show 2 * (ns.length + 1) * 8 ≤ _; omega) (by omega) ?_
  intro nv2 h5 row5 f5
  have hat : ∀ b, At nv b → lo ≤ b := fun b ha => (t3p.row.at ha).1
  have ow5 := t3p.ow.fr f5 (fun g => by have := hat _ g; have := rb.w; omega)
  have os5 := t3p.os.fr f5 (fun g => by have := hat _ g; have := rb.s; omega)
  have od5 := t3p.od.fr f5 (fun g => by have := hat _ g; have := rb.d; omega)
  have om5 := t3p.om.fr f5 (fun g => by have := hat _ g; have := rb.m; omega)
  have on5 := on4.fr f5 (fun g => hnrow _ g rfl)
  have hnv2 : ∀ b, At nv2 b → q < b := fun b g => Nat.lt_of_lt_of_le on4.1 (row5.at g).1
  refine RunO.part 2 rfl ?_
  refine RunO.store rfl rfl (store1_ow ow5 rfl row5.cell.1 row5.cell.2 (Nat.le_of_ble_eq_true rfl)) (RunO.all rfl ?_)
  change RunC _ _ _ _ (h5.put wb (some ⟨rwc iv B sb db mb nv2 true, true⟩)) _ _ _
  replace row5 := Row.lo row5 t3p.ln
  rw [← is_app] at row5
  have fw : Fr (· = wb) h5 (h5.put wb (some ⟨rwc iv B sb db mb nv2 true, true⟩)) := Fr.put _ (.inl rfl)
  have t6 : RW lo (h5.put wb (some ⟨rwc iv B sb db mb nv2 true, true⟩)) iv B wb sb db mb nv2 m (ns ++ [(a : Int)]) (sn.set a true) dt true :=
    ⟨Ow.put _ ow5.1, os5.fr fw (fun e => rb.ws e.symm), od5.fr fw (fun e => rb.wd e.symm), om5.fr fw (fun e => rb.wm e.symm), by
      have := row5.fr fw (fun b h1 _ e => by have := rb.w; omega)
      rw [List.length_append]; exact this, t3p.lm, t3p.ls, t3p.ld, Nat.le_trans t3p.ln f5.next⟩
  have on6 := on5.fr fw (show ¬ q = wb by have := rb.w; omega)
  have F6 : Fr (RR wb sb db mb nv) h (h5.put wb (some ⟨rwc iv B sb db mb nv2 true, true⟩)) :=
    ((F3.quiet fp).trans f5 (fun b g => .inl (.inr (.inr (.inr (.inr g)))))).trans fw (fun b e => .inl (.inl e))
  generalize h5.put wb (some ⟨rwc iv B sb db mb nv2 true, true⟩) = h6 at *
  clear t3 t3p ow3 ow5 os5 od5 om5 on3 on4 on5 row5 f5 fp ob fw F3 fs F2 f12 f2 f1
  have hcp6 : Cpl B m (ns ++ [(a : Int)]) (sn.set a true) dt := by
    refine ⟨fun i hi => ?_, hcp.2⟩
    rw [getD_setB _ _ _ _ has, hcp.1 i hi, Bool.eq_iff_iff]
    simp only [List.contains_eq_mem, List.mem_append, List.mem_singleton, decide_eq_true_eq]
    by_cases e : i = a
    · subst e; simp
    · rw [if_neg e]
      simp only [decide_eq_true_eq]
      constructor
      · exact .inl
      · rintro (g | g)
        · exact g
        · exact absurd (by omega) e
  have hn6 : (ns ++ [(a : Int)]).length + 8 * rN lv ≤ 100000 ∧ (ns ++ [(a : Int)]).length + 8 * rN lv = ns.length + nN lv := by
    rw [nN_eq] at hns ⊢
    rw [List.length_append, List.length_singleton]; omega
  generalize ns ++ [(a : Int)] = ns6 at *
  generalize sn.set a true = sn6 at *
  -- the span
  refine RunC.seq (RunC.region (RunO.all rfl ?_))
  refine RunC.seqc (fun E' h' => h' = h6 ∧ Le (upd (upd (upd (upd (upd E0 0 (.pointer (some ⟨wb, 0, none⟩))) 2 (.int .i64 (lv : Int))) 3 (.int .i64 (from_ : Int))) 8 (.pointer (some ⟨q, 0, none⟩))) 10 (.int .i64 ((8 ^ lv : Nat) : Int))) E') ?_ ?_
  · refine RunC.seq (RunC.region (RunO.all rfl ?_))
    refine RunC.block ?_
    let I : Nat → Env → Heap → Prop := fun d E h' => ∃ i : Nat, i + d = lv ∧ h' = h6 ∧ Le (upd (upd (upd (upd (upd (upd E0 0 (.pointer (some ⟨wb, 0, none⟩))) 2 (.int .i64 (lv : Int))) 3 (.int .i64 (from_ : Int))) 8 (.pointer (some ⟨q, 0, none⟩))) 10 (.int .i64 ((8 ^ i : Nat) : Int))) 11 (.int .i64 (i : Int))) E
    refine RunC.loop I ?_ (k := lv) ?_
    · rintro d E h' ⟨i, hi, rfl, hE⟩
      refine RunC.le hE ?_
      clear hE
      refine RunC.seq (RunC.seq (RunC.region (RunO.all rfl ?_)))
      refine RunC.cond rfl (fun hlt => ?_) (fun hge => ?_)
      · have hlt := of_decide_eq_true hlt
        have hi8 : 8 ^ i ≤ 64 := by
          have : 8 ^ i ≤ 8 ^ 2 := Nat.pow_le_pow_right (by decide) (by omega)
          exact this
        have hi0 : 1 ≤ 8 ^ i := Nat.pow_pos (by decide)
        refine RunC.skip ?_
        refine RunC.seq (RunC.block ?_)
        refine RunC.region (RunO.part 2 rfl ?_)
        rw [fw64 (x := ((8 ^ i : Nat) : Int) * 8) (by omega) (by omega), show ((8 ^ i : Nat) : Int) * 8 = ((8 ^ (i + 1) : Nat) : Int) by rw [Nat.pow_succ]; omega]
        refine RunO.all rfl ?_
        refine RunC.region (RunO.all rfl ?_)
        exact ⟨d - 1, by omega, i + 1, by omega, rfl, Le.cons (inc64 (by omega)) (Le.cons rfl (Le.cons rfl (Le.cons rfl (Le.cons rfl (Le.cons rfl (Le.nil _))))))⟩
      · have hge := of_decide_eq_false hge
        obtain rfl : i = lv := by omega
        exact RunC.exit ⟨rfl, Le.cons rfl (Le.cons rfl (Le.cons rfl (Le.cons rfl (Le.cons rfl (Le.nil _)))))⟩
    · exact ⟨0, by omega, rfl, Le.cons rfl (Le.cons rfl (Le.cons rfl (Le.cons rfl (Le.cons rfl (Le.cons rfl (Le.nil _))))))⟩
  rintro E' _ ⟨rfl, hE⟩
  refine RunC.le hE ?_
  clear hE
  refine RunC.seq (RunC.region (RunO.all rfl ?_))
  refine RunC.block ?_
  obtain ⟨T, hT⟩ : ∃ T : Nat → TS, T = fun i => (List.range i).foldl (tst L B lv ps from_) (m, ns6, false) := ⟨_, rfl⟩
  have hT8 : (List.range 8).foldl (tst L B lv ps from_) (m, ns6, false) = T 8 := by rw [hT]
  rw [hT8]
  have hTs : ∀ i, T (i + 1) = tst L B lv ps from_ (T i) i := fun i => by rw [hT]; show List.foldl _ _ (List.range (i + 1)) = _; rw [List.range_succ, List.foldl_append]; rfl
  have hTb : ∀ i, i ≤ 8 → (T i).2.2 = true → (T 8).2.2 = true := fun i hi hbi => by
    cases e : (T 8).2.2 with
    | true => rfl
    | false =>
      rw [← hT8] at e
      have := fold_pre e hi
      rw [hT] at hbi
      rw [this] at hbi; cases hbi
  have hTz : ∀ i, i < 8 → (T i).2.2 = false → ∀ s, from_ + i * 8 ^ lv ≤ s → s < from_ + i * 8 ^ lv + 8 ^ lv → (T i).1.getD s 0 = 0 := fun i hi hbi s h1 h2 => by
    have hle : i * 8 ^ lv + 8 ^ lv ≤ 8 ^ lv * 8 := by rw [← Nat.succ_mul, Nat.mul_comm]; exact Nat.mul_le_mul_left _ hi
    rw [hT] at hbi
    have S := fold_spec (N := i) (fun k _ => tgo_spec L B k) hfrom t6.lm hz (by omega) hbi i (Nat.le_refl i)
    have := S.map s (by omega)
    rw [if_neg (by omega), hz s (by omega) (by omega)] at this
    rw [hT]; exact this
  have hT0 : T 0 = (m, ns6, false) := by rw [hT]; rfl
  clear hT
  let I : Nat → Env → Heap → Prop := fun d E h' => ∃ (i : Nat) (nv' : Value) (m' ns' : List Int) (sn' dt' : List Bool) (ok' : Bool), i + d = 8 ∧ RW lo h' iv B wb sb db mb nv' m' ns' sn' dt' ok' ∧ (∀ b, At nv' b → At nv b ∨ h.next ≤ b) ∧ (∀ b, At nv' b → b ≠ q) ∧ ns'.length ≤ ns6.length + i * rN lv ∧ ok' = !(T i).2.2 ∧ (ok' = true → T i = (m', ns', false) ∧ Cpl B m' ns' sn' dt') ∧ Fr (RR wb sb db mb nv) h h' ∧ Ow h' q (nc nl ps) ∧
    Le (upd (upd (upd (upd (upd (upd E0 0 (.pointer (some ⟨wb, 0, none⟩))) 2 (.int .i64 (lv : Int))) 3 (.int .i64 (from_ : Int))) 8 (.pointer (some ⟨q, 0, none⟩))) 10 (.int .i64 ((8 ^ lv : Nat) : Int))) 12 (.int .i64 (i : Int))) E
  refine RunC.loop I ?_ (k := 8) ?_
  · rintro d E h7 ⟨i, nv7, m7, ns7, sn7, dt7, ok7, hi, t7, hr7, hq7, hl7, hok7, hal7, F7, on7, hE⟩
    refine RunC.le hE ?_
    clear hE
    refine RunC.seq (RunC.seq (RunC.region (RunO.all rfl ?_)))
    refine RunC.cond rfl (fun hlt => ?_) (fun hge => ?_)
    · have hlt := of_decide_eq_true hlt
      have hi8 : i < 8 := by omega
      have hps : i < ps.length := by omega
      have hpi : ps.getD i 0 = ps[i] := by rw [List.getD_eq_getElem?_getD, List.getElem?_eq_getElem hps]; rfl
      have hld : apart prog 3 (nc nl ps) (1 + i * 1) = some (.int .i64 ps[i]) := by
        show nth (nc nl ps) (1 + i * 1) = _
        rw [Nat.mul_one, Nat.add_comm]; exact is_nth hps
      have hp02 := hptr _ (List.getElem_mem hps)
      have hstep := hTs i
      unfold tst at hstep
      rw [hpi] at hstep
      have hzi := hTz i hi8
      have hTbi := hTb i (by omega)
      have hTbi1 := hTb (i + 1) (by omega)
      generalize ps[i] = p at *
      have hto : from_ + i * 8 ^ lv + 8 ^ lv ≤ 512 := by
        have : i * 8 ^ lv + 8 ^ lv ≤ 8 ^ lv * 8 := by rw [← Nat.succ_mul, Nat.mul_comm]; exact Nat.mul_le_mul_left _ hi8
        omega
      obtain ⟨to_, hto_⟩ : ∃ t, t = from_ + i * 8 ^ lv := ⟨_, rfl⟩
      rw [← hto_] at hstep hto hzi
      have hrl : ns7.length + rN lv ≤ 100000 := by
        have : i * rN lv + rN lv ≤ 8 * rN lv := by rw [← Nat.succ_mul]; exact Nat.mul_le_mul_right _ hi8
        omega
      have hsuc : (i + 1) * rN lv = i * rN lv + rN lv := Nat.succ_mul ..
      -- what the loop goes on with
      have next : ∀ (h8 : Heap) (nv8 : Value) (m8 ns8 : List Int) (sn8 dt8 : List Bool) (ok8 : Bool), RW lo h8 iv B wb sb db mb nv8 m8 ns8 sn8 dt8 ok8 → (∀ b, At nv8 b → At nv b ∨ h.next ≤ b) → (∀ b, At nv8 b → b ≠ q) → ns8.length ≤ ns7.length + rN lv → ok8 = !(T (i + 1)).2.2 → (ok8 = true → T (i + 1) = (m8, ns8, false) ∧ Cpl B m8 ns8 sn8 dt8) → Fr (RR wb sb db mb nv) h h8 → Ow h8 q (nc nl ps) →
          ∀ E, Le (upd (upd (upd (upd (upd (upd E0 0 (.pointer (some ⟨wb, 0, none⟩))) 2 (.int .i64 (lv : Int))) 3 (.int .i64 (from_ : Int))) 8 (.pointer (some ⟨q, 0, none⟩))) 10 (.int .i64 ((8 ^ lv : Nat) : Int))) 12 (.int .i64 ((i + 1 : Nat) : Int))) E → ∃ d', d' < d ∧ I d' E h8 := by
        intro h8 nv8 m8 ns8 sn8 dt8 ok8 a1 a2 a3 a4 a5 a6 a7 a8 E a9
        exact ⟨d - 1, by omega, i + 1, nv8, m8, ns8, sn8, dt8, ok8, by omega, a1, a2, a3, by omega, a5, a6, a7, a8, a9⟩
      refine RunC.skip ?_
      refine RunC.seq (RunC.block ?_)
      refine RunC.seq (RunC.region (RunO.part 2 rfl ?_))
      refine RunO.indexA (s := 1) rfl rfl rfl rfl rfl hi8 rfl ?_
      refine RunO.load (v := .int .i64 p) rfl (on7.ld hld) rfl (RunO.all rfl ?_)
      refine RunC.seq (RunC.seq (RunC.region (RunO.all rfl ?_)))
      by_cases hp0 : p = 0
      · subst hp0
        have hT1 : T (i + 1) = T i := by rw [hstep]; exact tstep_none hB1
        rw [← hT1] at hok7 hal7
        refine RunC.cond rfl (fun _ => RunC.exit ?_) (fun g => by cases g)
        exact RunC.region (RunO.all rfl (next h7 nv7 m7 ns7 sn7 dt7 ok7 t7 hr7 hq7 (by omega) hok7 hal7 F7 on7 _ (Le.cons (inc64 (by omega)) (Le.cons rfl (Le.cons rfl (Le.cons rfl (Le.cons rfl (Le.cons rfl (Le.nil _)))))))))
      rw [show (p == 0) = false from beq_eq_false_iff_ne.2 hp0]
      refine RunC.cond rfl (fun g => by cases g) (fun _ => RunC.skip ?_)
      obtain ⟨pn, rfl⟩ := Int.eq_ofNat_of_zero_le (show 0 ≤ p by omega)
      have ow7 := t7.ow
      refine RunC.seq (RunC.seq (RunC.region (RunO.part 4 rfl ?_)))
      refine RunO.load (v := .int .i64 (B : Int)) rfl (ow7.ld rfl) rfl (RunO.all rfl ?_)
      by_cases hpB : B ≤ pn
      · -- beyond the device
        have hbadi : (T (i + 1)).2.2 = true := by
          rw [hstep]
          unfold tstep
          split
          · assumption
          · rw [if_pos (by rw [decide_eq_true_eq]; omega)]
        rw [show decide ((pn : Int) ≥ (B : Int)) = true from decide_eq_true (by omega)]
        refine RunC.cond rfl (fun _ => ?_) (fun g => by cases g)
        obtain ⟨h8, e1, e2⟩ := hbad (T := T 8) t7 F7 hr7 (by
          have : i * rN lv ≤ 8 * rN lv := Nat.mul_le_mul_right _ (by omega)
          omega) (hTbi1 hbadi)
        refine RunC.seq (RunC.region (RunO.part 3 rfl ?_))
        refine RunO.store rfl rfl e1 (RunO.all rfl ?_)
        exact RunC.ret ⟨_, rfl, e2⟩
      rw [show decide ((pn : Int) ≥ (B : Int)) = false from decide_eq_false (by omega)]
      refine RunC.cond rfl (fun g => by cases g) (fun _ => RunC.skip ?_)
      have hgo : (T i).2.2 = false → T (i + 1) = if (lv == 0) = true then ((T i).1.set to_ (pn : Int), (T i).2.1, (T i).2.2) else trec L B lv (pn : Int) to_ (T i) := fun hbi => by
        rw [hstep]
        unfold tstep
        rw [if_neg (by rw [hbi]; exact Bool.false_ne_true), if_neg (by rw [decide_eq_true_eq]; omega), show ((pn : Int) != 0) = true from bne_iff_ne.2 hp0]
        cases (lv == 0) <;> rfl
      have hdead : (T i).2.2 = true → (T (i + 1)).2.2 = true := fun hbi => by
        rw [hstep]
        unfold tstep
        rw [if_pos hbi]; exact hbi
      refine RunC.seq (RunC.seq (RunC.region (RunO.all rfl ?_)))
      cases hl0 : lv == 0 with
      | true =>
        have hl00 : lv = 0 := beq_iff_eq.1 hl0
        rw [show ((lv : Int) == 0) = true from beq_iff_eq.2 (by omega)]
        refine RunC.cond rfl (fun _ => ?_) (fun g => by cases g)
        have e8 : 8 ^ lv = 1 := by rw [hl00]
        have hmt : to_ < m7.length := by rw [t7.lm]; omega
        have htoi : (from_ : Int) + (i : Int) = (to_ : Int) := by rw [hto_, e8]; omega
        refine RunC.seq (RunC.region (RunO.part 3 rfl ?_))
        refine RunO.load (v := .slice (some ⟨mb, 0, none⟩) 512 (exc 512)) rfl (ow7.ld rfl) rfl ?_
        refine RunO.part 3 rfl ?_
        rw [htoi, fw64 (x := (to_ : Int)) (by omega) (by omega)]
        refine RunO.part 1 rfl ?_
        refine RunO.index (s := 1) rfl rfl rfl rfl (by have := t7.lm; omega) rfl ?_
        refine RunO.store rfl rfl (store1_ow t7.om rfl rfl rfl (by rw [is_len]; simpa using hmt)) (RunO.nil ?_)
        have ei : (is m7).set (0 + to_ * 1) (.int .i64 (pn : Int)) = is (m7.set to_ (pn : Int)) := by rw [Nat.zero_add, Nat.mul_one]; unfold is; rw [List.map_set]
        rw [ei]
        have fm : Fr (· = mb) h7 (h7.put mb (some ⟨is (m7.set to_ (pn : Int)), true⟩)) := Fr.put _ (.inl rfl)
        have t8 : RW lo (h7.put mb (some ⟨is (m7.set to_ (pn : Int)), true⟩)) iv B wb sb db mb nv7 (m7.set to_ (pn : Int)) ns7 sn7 dt7 ok7 :=
          ⟨t7.ow.fr fm rb.wm, t7.os.fr fm rb.sm, t7.od.fr fm rb.dm, Ow.put _ t7.om.1, t7.row.fr fm (fun b h1 _ e => by have := rb.m; omega), by rw [List.length_set]; exact t7.lm, t7.ls, t7.ld, t7.ln⟩
        have on8 := on7.fr fm (show ¬ q = mb by have := rb.m; omega)
        have F8 : Fr (RR wb sb db mb nv) h (h7.put mb (some ⟨is (m7.set to_ (pn : Int)), true⟩)) := F7.trans fm (fun b e => .inl (.inr (.inr (.inr (.inl e)))))
        generalize h7.put mb (some ⟨is (m7.set to_ (pn : Int)), true⟩) = h8 at *
        have ow8 := t8.ow
        have hpd : pn < dt7.length := by rw [t8.ld]; omega
        refine RunC.seq (RunC.region (RunO.part 3 rfl ?_))
        refine RunO.load (v := .slice (some ⟨db, 0, none⟩) B (exc B)) rfl (ow8.ld rfl) rfl ?_
        refine RunO.part 1 rfl ?_
        refine RunO.index (s := 1) rfl rfl rfl rfl (show pn < B by omega) rfl ?_
        refine RunO.store rfl rfl (store1_ow t8.od rfl rfl rfl (by rw [bs_len]; omega)) (RunO.nil ?_)
        rw [show (bs dt7).set (0 + pn * 1) (.bool true) = bs (dt7.set pn true) by rw [Nat.zero_add, Nat.mul_one, bs_set]]
        have fd : Fr (· = db) h8 (h8.put db (some ⟨bs (dt7.set pn true), true⟩)) := Fr.put _ (.inl rfl)
        have t9 : RW lo (h8.put db (some ⟨bs (dt7.set pn true), true⟩)) iv B wb sb db mb nv7 (m7.set to_ (pn : Int)) ns7 sn7 (dt7.set pn true) ok7 :=
          ⟨t8.ow.fr fd rb.wd, t8.os.fr fd rb.sd, Ow.put _ t8.od.1, t8.om.fr fd (fun e => rb.dm e.symm), t8.row.fr fd (fun b h1 _ e => by have := rb.d; omega), t8.lm, t8.ls, by rw [List.length_set]; exact t8.ld, t8.ln⟩
        have on9 := on8.fr fd (show ¬ q = db by have := rb.d; omega)
        have F9 : Fr (RR wb sb db mb nv) h (h8.put db (some ⟨bs (dt7.set pn true), true⟩)) := F8.trans fd (fun b e => .inl (.inr (.inr (.inl e))))
        refine RunC.exit ?_
        refine RunC.region (RunO.all rfl (next _ nv7 _ ns7 sn7 _ ok7 t9 hr7 hq7 (by omega) ?_ ?_ F9 on9 _ (Le.cons (inc64 (by omega)) (Le.cons rfl (Le.cons rfl (Le.cons rfl (Le.cons rfl (Le.cons rfl (Le.nil _)))))))))
        · rw [hok7]
          cases hbi : (T i).2.2 with
          | true => rw [hdead hbi]
          | false => rw [hgo hbi, if_pos hl0]; show (!false) = !(T i).2.2; rw [hbi]
        · intro hok
          have hbi : (T i).2.2 = false := by rw [hok] at hok7; cases e : (T i).2.2 with
            | false => rfl
            | true => rw [e] at hok7; cases hok7
          obtain ⟨g1, g2, g3⟩ := hal7 hok
          rw [hgo hbi, if_pos hl0, g1]
          refine ⟨rfl, g2, fun x hx hxB => ?_⟩
          have hz0 : m7.getD to_ 0 = 0 := by
            have := hzi hbi to_ (Nat.le_refl _) (by omega)
            rwa [g1] at this
          rw [getD_setB _ _ _ _ hpd, contains_set0 hmt hz0 (by omega), g3 x hx hxB]
          by_cases e : x = pn
          · subst e; simp
          · rw [if_neg e, show ((x : Int) == (pn : Int)) = false from beq_eq_false_iff_ne.2 (by omega)]; rfl
      | false =>
        obtain ⟨k, rfl⟩ : ∃ k, lv = k + 1 := by
          cases lv with
          | zero => cases hl0
          | succ k => exact ⟨k, rfl⟩
        rw [show (((k + 1 : Nat) : Int) == 0) = false from beq_eq_false_iff_ne.2 (by omega)]
        refine RunC.cond rfl (fun g => by cases g) (fun _ => RunC.skip ?_)
        refine RunC.region (RunO.part 3 rfl ?_)
        refine RunO.part 1 rfl ?_
        rw [fw64 (x := ((k + 1 : Nat) : Int) - 1) (by omega) (by omega), show ((k + 1 : Nat) : Int) - 1 = (k : Int) by omega]
        refine RunO.part 3 rfl ?_
        refine RunO.part 1 rfl ?_
        have hmul : (i : Int) * ((8 ^ (k + 1) : Nat) : Int) = ((i * 8 ^ (k + 1) : Nat) : Int) := by rw [Int.natCast_mul]
        rw [hmul, fw64 (x := ((i * 8 ^ (k + 1) : Nat) : Int)) (by omega) (by omega)]
        refine RunO.part 1 rfl ?_
        rw [fw64 (x := (from_ : Int) + ((i * 8 ^ (k + 1) : Nat) : Int)) (by omega) (by omega), show (from_ : Int) + ((i * 8 ^ (k + 1) : Nat) : Int) = (to_ : Int) by omega]
        cases hok : ok7 with
        | false =>
          rw [hok] at t7 hok7
          have hbi : (T i).2.2 = true := by
            cases e : (T i).2.2 with
            | true => rfl
            | false => rw [e] at hok7; cases hok7
          refine RunO.callD (rnode_dead rb t7) rfl rfl rfl ?_
          rintro _ h8 ⟨rfl, t8, f8⟩
          have on8 := on7.fr f8 (by
            have := rb.w; have := rb.s; have := rb.d; have := rb.m
            rintro (e | e | e | e | e)
            · omega
            · omega
            · omega
            · omega
            · exact hq7 _ e rfl)
          have F8 : Fr (RR wb sb db mb nv) h h8 := F7.trans f8 (fun b g => by
            rcases g with g | g | g | g | g
            · exact .inl (.inl g)
            · exact .inl (.inr (.inl g))
            · exact .inl (.inr (.inr (.inl g)))
            · exact .inl (.inr (.inr (.inr (.inl g))))
            · exact (hr7 b g).imp (fun g => .inr (.inr (.inr (.inr g)))) id)
          refine RunO.all rfl ?_
          exact RunC.region (RunO.all rfl (next h8 nv7 m7 ns7 sn7 dt7 false t8 hr7 hq7 (by omega) (by rw [hdead hbi]; rfl) (fun g => by cases g) F8 on8 _ (Le.cons (inc64 (by omega)) (Le.cons rfl (Le.cons rfl (Le.cons rfl (Le.cons rfl (Le.cons rfl (Le.nil _)))))))))
        | true =>
          rw [hok] at t7 hok7
          have hbi : (T i).2.2 = false := by
            cases e : (T i).2.2 with
            | false => rfl
            | true => rw [e] at hok7; cases hok7
          obtain ⟨g1, g2⟩ := hal7 hok
          have hM : Fr (RM lo wb sb db mb) h h7 := F7.weak (fun b g => by
            rcases g with g | g | g | g | g
            · exact .inl (.inl g)
            · exact .inl (.inr (.inl g))
            · exact .inl (.inr (.inr (.inl g)))
            · exact .inl (.inr (.inr (.inr (.inl g))))
            · exact .inl (.inr (.inr (.inr (.inr (hat b g))))))
          refine RunO.callD (hrec k rfl (at_ := (pn : Int)) (from_ := to_) (sl_rm sl hiv hM) t7 g2 hrl hto (fun s h1 h2 => by have := hzi hbi s h1 h2; rwa [g1] at this)) rfl rfl rfl ?_
          rintro _ h8 ⟨rfl, f8, nv8, m8, ns8, sn8, dt8, ok8, t8, r8, l8, o8, a8⟩
          have hT1 : T (i + 1) = tgo L B k (pn : Int) to_ (m7, ns7, false) := by rw [hgo hbi, if_neg (by rw [hl0]; exact Bool.false_ne_true), g1]; rfl
          rw [← hT1] at o8 a8
          have on8 := on7.fr f8 (by
            have := rb.w; have := rb.s; have := rb.d; have := rb.m
            rintro (e | e | e | e | e)
            · omega
            · omega
            · omega
            · omega
            · exact hq7 _ e rfl)
          have F8 : Fr (RR wb sb db mb nv) h h8 := F7.trans f8 (fun b g => by
            rcases g with g | g | g | g | g
            · exact .inl (.inl g)
            · exact .inl (.inr (.inl g))
            · exact .inl (.inr (.inr (.inl g)))
            · exact .inl (.inr (.inr (.inr (.inl g))))
            · exact (hr7 b g).imp (fun g => .inr (.inr (.inr (.inr g)))) id)
          have hq8 : ∀ b, At nv8 b → b ≠ q := fun b g => by
            rcases r8 b g with e | e
            · exact hq7 b e
            · have := on7.1; omega
          have hr8 : ∀ b, At nv8 b → At nv b ∨ h.next ≤ b := fun b g => by
            rcases r8 b g with e | e
            · exact hr7 b e
            · exact .inr (Nat.le_trans F7.next e)
          refine RunO.all rfl ?_
          exact RunC.region (RunO.all rfl (next h8 nv8 m8 ns8 sn8 dt8 ok8 t8 hr8 hq8 l8 o8 a8 F8 on8 _ (Le.cons (inc64 (by omega)) (Le.cons rfl (Le.cons rfl (Le.cons rfl (Le.cons rfl (Le.cons rfl (Le.nil _)))))))))
    · have hge := of_decide_eq_false hge
      obtain rfl : i = 8 := by omega
      refine RunC.exit ?_
      exact ⟨_, rfl, rfl, F7, nv7, m7, ns7, sn7, dt7, ok7, t7, hr7, by omega, hok7, hal7⟩
  · refine ⟨0, nv2, m, ns6, sn6, dt, true, by omega, t6, fun b g => .inr ?_, fun b g => ?_, by omega, by rw [hT0]; rfl, fun _ => ⟨hT0, hcp6⟩, F6, on6, Le.cons rfl (Le.cons rfl (Le.cons rfl (Le.cons rfl (Le.cons rfl (Le.cons rfl (Le.nil _))))))⟩
    · have := hnv2 b g; omega
    · have := hnv2 b g; omega
theorem rnode_ok {L : List Int} {B lo wb sb db mb : Nat} {iv : Value} (hb : Byt L) (hB : B * 64 ≤ L.length) (hB1 : 1 ≤ B) (hB2 : B ≤ 4096) (hm : L.length ≤ 4611686018427387904) (rb : RB lo wb sb db mb) (hiv : ∀ b o c, iv = .slice (some ⟨b, o, none⟩) L.length c → ¬ RM lo wb sb db mb b) : ∀ (lv : Nat), lv ≤ 2 → RNodeOk L B lo wb sb db mb iv lv := by
  intro lv
  induction lv with
  | zero => intro h; exact rnode_body hb hB hB1 hB2 hm rb hiv h (fun k e => by cases e)
  | succ k ih =>
    intro h
    exact rnode_body hb hB hB1 hB2 hm rb hiv h (fun j e => by cases e; exact ih (by omega))
end Go.Proofs.Ytimefcnagilhlaa
end
section
set_option linter.unusedVariables false
set_option maxRecDepth 100000
open Go Go.Am Go.RowKit
namespace Go.Proofs.Ytimefcnagilhlaa
open Go.Proofs.Try
theorem reps_bs (n : Nat) : reps (cellsOf (Value.bool false)) n = bs (List.replicate n false) := by
  rw [show cellsOf (Value.bool false) = [.bool false] from rfl, reps_one]; unfold bs; rw [List.map_replicate]
theorem reps_is0 (n : Nat) : reps (cellsOf (Value.int .i64 0)) n = is (List.replicate n 0) := by
  rw [show cellsOf (Value.int .i64 0) = [.int .i64 0] from rfl, reps_one]; unfold is; rw [List.map_replicate]
theorem getD_rep {α : Type} (x d : α) (n i : Nat) (h : x = d) : (List.replicate n x).getD i d = d := by
  rw [List.getD_eq_getElem?_getD, List.getElem?_replicate]; split
  · exact h
  · rfl
def rz : List Value := [.slice none 0 0, .int .i64 0, .slice none 0 0, .slice none 0 0, .slice none 0 0, .slice none 0 0, .bool false]
/-- No block is a node's and a sector's. -/
def apartB (sn dt : List Bool) (i : Nat) : Bool := !sn.getD i false || !dt.getD i false
theorem treeApart {L : List Int} {B : Nat} {root : Int} {m ns : List Int} {sn dt : List Bool} (S : TSpec L B 2 root 0 (List.replicate 512 0, [], false) (m, ns, false)) (c : Cpl B m ns sn dt) : (!false && !(m.any fun b => ns.contains b)) = (true && (List.range B).all (apartB sn dt)) := by
  rw [Bool.not_false, Bool.true_and, Bool.true_and, Bool.eq_iff_iff, Bool.not_eq_true', List.any_eq_false, List.all_eq_true]
  have hns : ∀ x, x ∈ ns → 2 ≤ x ∧ x < B := fun x hx => by
    rcases S.all x hx with g | ⟨k, _, g⟩
    · cases g
    · exact atIs_ne g
  constructor
  · intro H i hi
    rw [List.mem_range] at hi
    unfold apartB
    rw [c.1 i hi]
    cases hc : ns.contains (i : Int) with
    | false => rfl
    | true =>
      have hin : (i : Int) ∈ ns := by simpa using hc
      rw [c.2 i (by have := hns _ hin; omega) hi]
      cases hd : m.contains (i : Int) with
      | false => rfl
      | true =>
        have him : (i : Int) ∈ m := by simpa using hd
        exact absurd hc (H _ him)
  · intro H x hx hc
    have hin : x ∈ ns := by simpa using hc
    have hb := hns x hin
    obtain ⟨i, rfl⟩ := Int.eq_ofNat_of_zero_le (show 0 ≤ x by omega)
    have := H i (List.mem_range.2 (by omega))
    unfold apartB at this
    rw [c.1 i (by omega), c.2 i (by omega) (by omega), hc, show m.contains (i : Int) = true by simpa using hx] at this
    cases this
set_option maxHeartbeats 8000000 in
theorem refTree_ok {h : Heap} {iv : Value} {L : List Int} {root : Int} (sl : Sl h iv 1 L.length (us L)) (hb : Byt L) (hd : devOk L.length = true) :
    RunF prog 23 [iv, .int .i64 root] h fun v h' => Fr no h h' ∧ ((treeOk L root = true ∧ ∃ mb nv, h.next ≤ mb ∧ v = .tuple #[.slice (some ⟨mb, 0, none⟩) 512 (exc 512), nv, .bool true] ∧ Ow h' mb (is (treeM L root)) ∧ Row h.next h' nv 1 (treeN L root).length (is (treeN L root))) ∨ (treeOk L root = false ∧ v = .tuple #[.slice none 0 0, .slice none 0 0, .bool false])) := by
  have hdl : L.length % 64 = 0 ∧ 4 ≤ L.length / 64 ∧ L.length / 64 ≤ 4096 := by
    unfold devOk at hd
    simpa using hd
  have hm : L.length ≤ 4611686018427387904 := by omega
  refine RunF.walk func23 rfl rfl ?_
  have sl0 := sl
  obtain ⟨A, c, rfl, hc, hA⟩ := sl.form
  have hAlt : ∀ b o c', Value.slice A L.length c = .slice (some ⟨b, o, none⟩) L.length c' → b < h.next := fun b o c' e => by
    obtain ⟨b', o', rfl, rd⟩ := hA (by omega)
    cases e; exact rd.2.1
  refine RunC.seq (RunC.region (RunO.all rfl ?_))
  refine RunC.seq (RunC.region (RunO.part 1 rfl ?_))
  refine RunO.callD (refBlocks_ok sl hm) rfl rfl rfl ?_
  rintro _ _ ⟨rfl, rfl⟩
  refine RunO.all rfl ?_
  have hTW : ∀ x, treeW L x = tgo L (L.length / 64) 2 x 0 (List.replicate 512 0, [], false) := fun x => rfl
  obtain ⟨B, hBe⟩ : ∃ B, B = L.length / 64 := ⟨_, rfl⟩
  rw [← hBe] at hdl hTW ⊢
  refine RunC.seq (RunC.draw0 rfl ?_)
  refine RunO.part 3 rfl ?_
  refine RunO.make (m := B) rfl rfl rfl rfl rfl rfl (show 1 * B ≤ _ by omega) (by omega) rfl ?_
  rw [reps_bs]
  have os := Ow.push h (bs (List.replicate B false))
  have f1 : Fr no h (h.push ⟨bs (List.replicate B false), true⟩) := Fr.push _ _ _
  have hn1 : (h.push ⟨bs (List.replicate B false), true⟩).next = h.next + 1 := rfl
  generalize h.push ⟨bs (List.replicate B false), true⟩ = h1 at *
  generalize hsb : h.next = sb at os hn1 ⊢
  refine RunO.part 1 rfl ?_
  refine RunO.make (m := B) rfl rfl rfl rfl rfl rfl (show 1 * B ≤ _ by omega) (by omega) rfl ?_
  rw [reps_bs]
  have od := Ow.push h1 (bs (List.replicate B false))
  have f2 : Fr no h1 (h1.push ⟨bs (List.replicate B false), true⟩) := Fr.push _ _ _
  have hn2 : (h1.push ⟨bs (List.replicate B false), true⟩).next = h1.next + 1 := rfl
  replace os := os.fr f2 (fun g => g)
  generalize h1.push ⟨bs (List.replicate B false), true⟩ = h2 at *
  generalize hdb : h1.next = db at od hn2 ⊢
  refine RunO.make (m := 512) rfl rfl rfl rfl rfl rfl (Nat.le_of_ble_eq_true rfl) (by decide) rfl ?_
  rw [reps_is0]
  have om := Ow.push h2 (is (List.replicate 512 0))
  have f3 : Fr no h2 (h2.push ⟨is (List.replicate 512 0), true⟩) := Fr.push _ _ _
  have hn3 : (h2.push ⟨is (List.replicate 512 0), true⟩).next = h2.next + 1 := rfl
  replace os := os.fr f3 (fun g => g)
  replace od := od.fr f3 (fun g => g)
  generalize h2.push ⟨is (List.replicate 512 0), true⟩ = h3 at *
  generalize hmb : h2.next = mb at om hn3 ⊢
  refine RunO.part 2 (h1 := h3.push ⟨rz, true⟩) rfl ?_
  obtain ⟨iv, hive⟩ : ∃ iv, iv = Value.slice A L.length c := ⟨_, rfl⟩
  rw [← hive] at sl0 hAlt ⊢
  have hcl : (cellsOf (.agg ⟨rwc iv B sb db mb (.slice none 0 0) true⟩)).length = 7 := rfl
  have hac : allCells (cellsOf (.agg ⟨rwc iv B sb db mb (.slice none 0 0) true⟩)) = true := by
    rw [hive]; rfl
  refine RunO.store rfl rfl (store_ow (s := 7) (v := .agg ⟨rwc iv B sb db mb (.slice none 0 0) true⟩) (Ow.push h3 rz) rfl hcl hac (Nat.le_refl 7)) (RunO.nil ?_)
  change RunC _ _ _ _ ((h3.push ⟨rz, true⟩).put h3.next (some ⟨rwc iv B sb db mb (.slice none 0 0) true, true⟩)) _ _ _
  have ow : Ow ((h3.push ⟨rz, true⟩).put h3.next (some ⟨rwc iv B sb db mb (.slice none 0 0) true, true⟩)) h3.next (rwc iv B sb db mb (.slice none 0 0) true) := Ow.put _ (Nat.lt_succ_self _)
  have f4 : Fr no h3 ((h3.push ⟨rz, true⟩).put h3.next (some ⟨rwc iv B sb db mb (.slice none 0 0) true, true⟩)) := (Fr.push _ _ _).trans (Fr.put (m := (· = h3.next)) _ (.inl rfl)) (fun j hj => .inr (by omega))
  have hn4 : ((h3.push ⟨rz, true⟩).put h3.next (some ⟨rwc iv B sb db mb (.slice none 0 0) true, true⟩)).next = h3.next + 1 := rfl
  replace os := os.fr f4 (fun g => g)
  replace od := od.fr f4 (fun g => g)
  replace om := om.fr f4 (fun g => g)
  have f14 := ((f1.same f2).same f3).same f4
  generalize (h3.push ⟨rz, true⟩).put h3.next (some ⟨rwc iv B sb db mb (.slice none 0 0) true, true⟩) = h4 at *
  generalize h3.next = wb at *
  have rb : RB h4.next wb sb db mb := ⟨by omega, by omega, by omega, by omega, by omega, by omega, by omega, by omega, by omega, by omega⟩
  have t4 : RW h4.next h4 iv B wb sb db mb (.slice none 0 0) (List.replicate 512 0) [] (List.replicate B false) (List.replicate B false) true := ⟨ow, os, od, om, Row.nil _ _ _, List.length_replicate, List.length_replicate, List.length_replicate, Nat.le_refl _⟩
  have hiv : ∀ b o c, iv = .slice (some ⟨b, o, none⟩) L.length c → ¬ RM h4.next wb sb db mb b := fun b o c e => by
    have := hAlt b o c e
    rintro (e | e | e | e | e) <;> omega
  have hcp : Cpl B (List.replicate 512 0) [] (List.replicate B false) (List.replicate B false) := by
    refine ⟨fun i hi => getD_rep _ _ _ _ rfl, fun i h0 hi => ?_⟩
    rw [getD_rep _ _ _ _ rfl, eq_comm, ← Bool.not_eq_true]
    simp only [List.contains_eq_mem, decide_eq_true_eq, List.mem_replicate]
    omega
  have sl4 := sl0.fr0 f14
  refine RunC.seq (RunC.seq (RunC.region (RunO.all rfl ?_)))
  by_cases hr : root = 0
  · have h1 : treeOk L root = true := by unfold treeOk; rw [hr]; rfl
    have h2 : treeM L root = List.replicate 512 0 := by unfold treeM; rw [hr]; rfl
    have h3' : treeN L root = [] := by unfold treeN; rw [hr]; rfl
    rw [h1, h2, h3']
    subst hr
    refine RunC.cond rfl (fun _ => ?_) (fun g => by cases g)
    refine RunC.seq (RunC.region (RunO.part 1 rfl ?_))
    refine RunO.load (v := .slice (some ⟨mb, 0, none⟩) 512 (exc 512)) rfl (ow.ld rfl) rfl (RunO.all rfl ?_)
    exact RunC.ret ⟨_, rfl, f14, .inl ⟨rfl, mb, _, by omega, rfl, om, Row.nil _ _ _⟩⟩
  rw [show (root == 0) = false from beq_eq_false_iff_ne.2 hr]
  refine RunC.cond rfl (fun g => by cases g) (fun _ => RunC.skip ?_)
  have hTok : treeOk L root = (!(treeW L root).2.2 && !((treeW L root).1.any fun b => (treeW L root).2.1.contains b)) := by unfold treeOk; rw [show (root == 0) = false from beq_eq_false_iff_ne.2 hr]; rfl
  have hTm : treeM L root = (treeW L root).1 := by unfold treeM; rw [show (root == 0) = false from beq_eq_false_iff_ne.2 hr]; rfl
  have hTn : treeN L root = (treeW L root).2.1 := by unfold treeN; rw [show (root == 0) = false from beq_eq_false_iff_ne.2 hr]; rfl
  rw [hTok, hTm, hTn, hTW]
  have hspec := tgo_spec L B 2 root 0 (List.replicate 512 0, [], false) (by decide) List.length_replicate rfl (fun s _ _ => getD_rep _ _ _ _ rfl)
  refine RunC.seq (RunC.region (RunO.part 1 rfl ?_))
  refine RunO.callD (rnode_ok hb (by omega) (by omega) hdl.2.2 hm rb hiv 2 (by decide) (at_ := root) (from_ := 0) sl4 t4 hcp (by decide) (by decide) (fun s _ _ => getD_rep _ _ _ _ rfl)) rfl rfl rfl ?_
  rintro _ h5 ⟨rfl, f5, nv, m, ns, sn, dt, ok, t5, hr5, hl5, hok, hal⟩
  refine RunO.nil ?_
  have F5 : Fr no h h5 := f14.trans f5 (fun b g => .inr (by
    rcases g with e | e | e | e | ⟨n, c, e⟩
    · omega
    · omega
    · omega
    · omega
    · cases e))
  have hw : wb < h5.next := t5.ow.1
  -- what is to be found
  have goal : (!(tgo L B 2 root 0 (List.replicate 512 0, [], false)).2.2 && !((tgo L B 2 root 0 (List.replicate 512 0, [], false)).1.any fun b => (tgo L B 2 root 0 (List.replicate 512 0, [], false)).2.1.contains b)) = (ok && (List.range B).all (apartB sn dt)) := by
    rw [← hok]
    cases hk : ok with
    | false => rfl
    | true =>
      obtain ⟨g1, g2⟩ := hal hk
      have S := hspec (by rw [hk] at hok; cases e : (tgo L B 2 root 0 (List.replicate 512 0, [], false)).2.2 with
        | false => rfl
        | true => rw [e] at hok; cases hok)
      rw [g1] at S ⊢
      exact treeApart S g2
  rw [goal]
  have hmn : ok = true → (tgo L B 2 root 0 (List.replicate 512 0, [], false)).1 = m ∧ (tgo L B 2 root 0 (List.replicate 512 0, [], false)).2.1 = ns := fun hk => by rw [(hal hk).1]; exact ⟨rfl, rfl⟩
  generalize tgo L B 2 root 0 (List.replicate 512 0, [], false) = TT at *
  refine RunC.seqc (fun E' h' => ∃ ok', RW h4.next h' iv B wb sb db mb nv m ns sn dt ok' ∧ ok' = (ok && (List.range B).all (apartB sn dt)) ∧ Fr (· = wb) h5 h' ∧ Le (upd (upd E0 7 (.int .i64 (B : Int))) 9 (.pointer (some ⟨wb, 0, none⟩))) E') ?_ ?_
  · refine RunC.seq (RunC.region (RunO.all rfl ?_))
    refine RunC.block ?_
    let I : Nat → Env → Heap → Prop := fun d E h' => ∃ (i : Nat) (ok' : Bool), i + d = B ∧ RW h4.next h' iv B wb sb db mb nv m ns sn dt ok' ∧ ok' = (ok && (List.range i).all (apartB sn dt)) ∧ Fr (· = wb) h5 h' ∧ Le (upd (upd (upd E0 7 (.int .i64 (B : Int))) 9 (.pointer (some ⟨wb, 0, none⟩))) 10 (.int .i64 (i : Int))) E
    refine RunC.loop I ?_ (k := B) ?_
    · rintro d E h6 ⟨i, ok', hi, t6, ho, F6, hE⟩
      refine RunC.le hE ?_
      clear hE
      have ow6 := t6.ow
      refine RunC.seq (RunC.seq (RunC.region (RunO.part 4 rfl ?_)))
      by_cases hlt : i < B
      case neg =>
        rw [show decide ((i : Int) < (B : Int)) = false from decide_eq_false (by omega)]
        refine RunO.all rfl ?_
        obtain rfl : i = B := by omega
        exact RunC.cond rfl (fun g => by cases g) (fun _ => RunC.exit ⟨ok', t6, ho, F6, Le.cons rfl (Le.cons rfl (Le.nil _))⟩)
      rw [show decide ((i : Int) < (B : Int)) = true from decide_eq_true (by omega)]
      refine RunO.part 1 rfl ?_
      refine RunO.loadG (v := .bool ok') rfl rfl (ow6.ld rfl) rfl (RunO.all rfl ?_)
      cases hk : ok' with
      | false =>
        refine RunC.cond rfl (fun g => by cases g) (fun _ => RunC.exit ⟨false, hk ▸ t6, ?_, F6, Le.cons rfl (Le.cons rfl (Le.nil _))⟩)
        rw [hk] at ho
        cases ok with
        | false => rfl
        | true =>
          rw [Bool.true_and] at ho ⊢
          have := List.all_eq_false.1 ho.symm
          obtain ⟨x, hx, hx2⟩ := this
          exact (List.all_eq_false.2 ⟨x, List.mem_range.2 (by have := List.mem_range.1 hx; omega), hx2⟩).symm
      | true =>
        rw [hk] at t6 ho
        refine RunC.cond rfl (fun _ => RunC.skip ?_) (fun g => by cases g)
        have hs : i < sn.length := by rw [t6.ls]; exact hlt
        have hdl' : i < dt.length := by rw [t6.ld]; exact hlt
        have sls : Sl h6 (.slice (some ⟨sb, 0, none⟩) B (exc B)) 1 B (bs sn) := t6.os.all.sl (by rw [bs_len, t6.ls, Nat.mul_one]) (by omega) (Cp.exc (Nat.le_refl _))
        have sld : Sl h6 (.slice (some ⟨db, 0, none⟩) B (exc B)) 1 B (bs dt) := t6.od.all.sl (by rw [bs_len, t6.ld, Nat.mul_one]) (by omega) (Cp.exc (Nat.le_refl _))
        have hap : apartB sn dt i = (!sn[i] || !dt[i]) := by
          unfold apartB
          rw [List.getD_eq_getElem?_getD, List.getElem?_eq_getElem hs, List.getD_eq_getElem?_getD, List.getElem?_eq_getElem hdl']; rfl
        have ho2 : (!sn[i] || !dt[i]) = (ok && (List.range (i + 1)).all (apartB sn dt)) := by
          rw [List.range_succ, List.all_append, ← Bool.and_assoc, ← ho, Bool.true_and]
          show _ = (apartB sn dt i && true)
          rw [Bool.and_true, hap]
        obtain ⟨e1, e2, e3⟩ := t6.fail rb (!sn[i] || !dt[i])
        have f7 : Fr (· = wb) h5 (h6.put wb (some ⟨rwc iv B sb db mb nv (!sn[i] || !dt[i]), true⟩)) := F6.same (Fr.put _ (.inl rfl))
        have hI : ∀ E, Le (upd (upd (upd E0 7 (.int .i64 (B : Int))) 9 (.pointer (some ⟨wb, 0, none⟩))) 10 (.int .i64 ((i + 1 : Nat) : Int))) E → ∃ d', d' < d ∧ I d' E (h6.put wb (some ⟨rwc iv B sb db mb nv (!sn[i] || !dt[i]), true⟩)) :=
          fun E hE => ⟨d - 1, by omega, i + 1, _, by omega, e2, ho2, f7, hE⟩
        have hbs := bs_part hs
        have hbd := bs_part hdl'
        clear ho2 hap e2 e3
        refine RunC.seq (RunC.block ?_)
        refine RunC.region (RunO.part 1 rfl ?_)
        refine RunO.load (v := .slice (some ⟨sb, 0, none⟩) B (exc B)) rfl (ow6.ld rfl) rfl ?_
        refine RunO.part 1 rfl ?_
        refine RunO.at (s := 1) (k := i) (u := .bool sn[i]) rfl rfl sls rfl rfl hlt hbs rfl rfl rfl ?_
        refine RunO.part 2 rfl ?_
        generalize sn[i] = x at *
        generalize dt[i] = y at *
        cases x with
        | false =>
          refine RunO.part 7 rfl ?_
          refine RunO.part 1 rfl ?_
          refine RunO.store rfl rfl e1 (RunO.nil ?_)
          exact RunC.region (RunO.all rfl (hI _ (Le.cons (inc64 (by omega)) (Le.cons rfl (Le.cons rfl (Le.nil _))))))
        | true =>
          refine RunO.part 1 rfl ?_
          refine RunO.loadG (v := .slice (some ⟨db, 0, none⟩) B (exc B)) rfl rfl (ow6.ld rfl) rfl ?_
          refine RunO.part 1 rfl ?_
          refine RunO.atG (s := 1) (k := i) (u := .bool y) rfl (fun _ => rfl) rfl rfl sld rfl rfl hlt hbd rfl rfl rfl ?_
          refine RunO.part 3 rfl ?_
          refine RunO.store rfl rfl e1 (RunO.nil ?_)
          exact RunC.region (RunO.all rfl (hI _ (Le.cons (inc64 (by omega)) (Le.cons rfl (Le.cons rfl (Le.nil _))))))
    · exact ⟨0, ok, by omega, t5, by simp, Fr.refl _ _, Le.cons rfl (Le.cons rfl (Le.cons rfl (Le.nil _)))⟩
  rintro E' h6 ⟨ok', t6, ho, F6, hE⟩
  refine RunC.le hE ?_
  clear hE
  have ow6 := t6.ow
  rw [← ho]
  have F06 : Fr no h h6 := F5.trans F6 (fun b e => .inr (by omega))
  refine RunC.seq (RunC.seq (RunC.region (RunO.part 1 rfl ?_)))
  refine RunO.load (v := .bool ok') rfl (ow6.ld rfl) rfl (RunO.all rfl ?_)
  cases hk : ok' with
  | false =>
    refine RunC.cond rfl (fun _ => ?_) (fun g => by cases g)
    exact RunC.seq (RunC.region (RunO.all rfl (RunC.ret ⟨_, rfl, F06, .inr ⟨rfl, rfl⟩⟩)))
  | true =>
    refine RunC.cond rfl (fun g => by cases g) (fun _ => RunC.skip ?_)
    have hkk : ok = true := by
      rw [hk] at ho
      cases ok with
      | true => rfl
      | false => cases ho
    obtain ⟨g1, g2⟩ := hmn hkk
    rw [g1, g2]
    refine RunC.seq (RunC.draw0 rfl ?_)
    refine RunO.part 1 rfl ?_
    refine RunO.load (v := .slice (some ⟨mb, 0, none⟩) 512 (exc 512)) rfl (ow6.ld rfl) rfl ?_
    refine RunO.part 1 rfl ?_
    refine RunO.load (v := nv) rfl (ow6.ld rfl) rfl (RunO.all rfl ?_)
    exact RunC.ret ⟨_, rfl, F06, .inl ⟨rfl, mb, nv, by omega, rfl, t6.om, Row.lo t6.row (by omega)⟩⟩
end Go.Proofs.Ytimefcnagilhlaa
end
section
set_option linter.unusedVariables false
set_option maxRecDepth 100000
open Go Go.Am Go.RowKit
namespace Go.Proofs.Ytimefcnagilhlaa
open Go.Proofs.Try
/-- What a tree that is one says of its map. -/
theorem tree_spec {L : List Int} {root : Int} (hr : root ≠ 0) (h : treeOk L root = true) : TSpec L (L.length / 64) 2 root 0 (List.replicate 512 0, [], false) (treeM L root, treeN L root, false) := by
  unfold treeOk at h
  rw [show (root == 0) = false from beq_eq_false_iff_ne.2 hr, Bool.false_or, Bool.and_eq_true, Bool.not_eq_true', Bool.not_eq_true'] at h
  have hm : treeM L root = (treeW L root).1 := by unfold treeM; rw [show (root == 0) = false from beq_eq_false_iff_ne.2 hr]; rfl
  have hn : treeN L root = (treeW L root).2.1 := by unfold treeN; rw [show (root == 0) = false from beq_eq_false_iff_ne.2 hr]; rfl
  have := tgo_spec L (L.length / 64) 2 root 0 (List.replicate 512 0, [], false) (by decide) List.length_replicate rfl (fun s _ _ => by
    rw [List.getD_eq_getElem?_getD, List.getElem?_replicate]; split <;> rfl) h.1
  change TSpec L (L.length / 64) 2 root 0 (List.replicate 512 0, [], false) (treeW L root) at this
  rw [hm, hn]
  generalize treeW L root = w at *
  obtain ⟨a, b, c⟩ := w
  have hc : c = false := h.1
  subst hc
  exact this
theorem tree_at {L : List Int} {root : Int} (hr : root ≠ 0) (h : treeOk L root = true) {s : Nat} (hs : s < 512) : (treeM L root).getD s 0 = look L (L.length / 64) 3 root s := by
  have := (tree_spec hr h).m s hs
  rw [if_pos ⟨Nat.zero_le _, by simpa using hs⟩, Nat.sub_zero] at this
  exact this
theorem sl64 {h : Heap} {v : Value} {l : List Int} (hl : l.length = 64) (sl : Sl h v 1 64 (us l)) : Sl h v 1 l.length (us l) := by rw [hl]; exact sl
theorem nodParseS_ok {h : Heap} {v : Value} {l : List Int} (sl : Sl h v 1 l.length (us l)) (hb : Byt l) : RunF prog 27 [v] h fun r h' => r = .tuple #[.agg ⟨nc (nodV l).1 (nodV l).2⟩, .int .i64 (nCode l)] ∧ Fr no h h' := by
  obtain ⟨A, c, rfl, hc, hA⟩ := sl.form
  rw [← nodV_cells]
  exact nodParse_ok (fun hl => by obtain ⟨b, o, rfl, rd⟩ := hA (by omega); exact ⟨_, rfl, rd⟩) hb hc
theorem is_pos {l : List Int} (hl : l ≠ []) : 0 < l.length := List.length_pos_iff.2 hl
set_option maxHeartbeats 16000000 in
theorem treeWalks_true : ∀ h xs avs, ArgsK [.slice (.int .u8), .int .i64] h xs avs → RunF prog 6 avs h fun v _ => v = .bool true := by
  intro h xs avs ha
  obtain ⟨L, _, iv, _, rfl, sl, hLw, ha⟩ := argInts ha
  obtain ⟨root, _, _, rfl, _, ha⟩ := argInt ha
  obtain rfl := argNil ha
  have hb : Byt L := fun x hx => wf_u8 (hLw x hx)
  have sl : Sl h iv 1 L.length (us L) := sl
  refine RunF.walk func6 rfl rfl ?_
  refine RunC.seq (RunC.region (RunO.all rfl ?_))
  refine RunC.seq (RunC.seq (RunC.region (RunO.part 1 rfl ?_)))
  refine RunO.callD (heavy_ok sl) rfl rfl rfl ?_
  rintro _ _ ⟨rfl, rfl⟩
  refine RunO.all rfl ?_
  cases hh : decide ((L.length : Int) > 19200) with
  | true =>
    refine RunC.cond rfl (fun _ => ?_) (fun g => by cases g)
    exact RunC.seq (RunC.region (RunO.all rfl (RunC.ret ⟨_, rfl, rfl⟩)))
  | false =>
  have hLl : L.length ≤ 19200 := by have := of_decide_eq_false hh; omega
  refine RunC.cond rfl (fun g => by cases g) (fun _ => RunC.skip ?_)
  refine RunC.seq (RunC.region (RunO.part 2 rfl ?_))
  refine RunO.callD (treeMap_ok (root := root) sl hb (by omega)) rfl rfl rfl ?_
  rintro _ h2 ⟨f2, hv2⟩
  have sl2 := sl.fr0 f2
  by_cases he : treeE L root = 0
  case neg =>
    rcases hv2 with ⟨h0, _⟩ | ⟨_, rfl⟩
    · exact absurd h0 he
    refine RunO.all rfl ?_
    refine RunC.seq (RunC.region (RunO.part 2 rfl ?_))
    refine RunO.callD (treeNodes_ok (root := root) sl2 hb (by omega)) rfl rfl rfl ?_
    rintro _ h3 ⟨f3, ⟨h0, _⟩ | ⟨_, rfl⟩⟩
    · exact absurd h0 he
    generalize treeE L root = e at *
    refine RunO.all rfl ?_
    refine RunC.seq (RunC.seq (RunC.region (RunO.part 3 rfl ?_)))
    rw [show (e != 0) = true from bne_iff_ne.2 he]
    refine RunO.all rfl ?_
    refine RunC.cond rfl (fun _ => ?_) (fun g => by cases g)
    refine RunC.seq (RunC.region (RunO.part 4 rfl ?_))
    rw [show (e == e) = true from beq_self_eq_true e]
    refine RunO.part 8 rfl ?_
    refine RunO.callDG rfl wakes10_ok rfl rfl rfl ?_
    rintro _ h9 ⟨rfl, f9⟩
    exact RunO.all rfl (RunC.ret ⟨_, rfl, rfl⟩)
  rcases hv2 with ⟨_, mb, hmb, rfl, om⟩ | ⟨h0, _⟩
  case inr => exact absurd he h0
  refine RunO.all rfl ?_
  refine RunC.seq (RunC.region (RunO.part 2 rfl ?_))
  refine RunO.callD (treeNodes_ok (root := root) sl2 hb (by omega)) rfl rfl rfl ?_
  rintro _ h3 ⟨f3, ⟨_, nv, rfl, row⟩ | ⟨h0, _⟩⟩
  case inr => exact absurd he h0
  have sl3 := sl2.fr0 f3
  replace om := om.fr f3 (fun g => g)
  obtain ⟨hok, hdev⟩ := treeE_ok he
  have hml := treeM_len L root
  have hnl := treeN_len L root
  refine RunO.all rfl ?_
  refine RunC.seq (RunC.seq (RunC.region (RunO.all rfl (RunC.cond rfl (fun g => by cases g) (fun _ => RunC.skip ?_)))))
  have slm := sl_owI om hml (Cp.exc (Nat.le_refl 512)) (by decide)
  have sln := row.sl (by omega)
  have hlen : ∀ {E : Env} {h : Heap}, alen prog 23 nv = some (.int .i64 ((treeN L root).length : Int)) := by
    intro _ _
    obtain ⟨A, c, rfl, _, _⟩ := sln.form
    rfl
  by_cases hr : root = 0
  · -- no tree
    subst hr
    have z2 : treeM L 0 = List.replicate 512 0 := rfl
    have z3 : treeN L 0 = [] := rfl
    rw [z2] at om
    rw [z3] at row sln
    obtain ⟨A, c, rfl, hc, _⟩ := sln.form
    refine RunC.seq (RunC.seq (RunC.region (RunO.all rfl (RunC.cond rfl (fun _ => ?_) (fun g => by cases g)))))
    refine RunC.seq (RunC.region (RunO.part 9 rfl ?_))
    refine RunO.makeG (m := 512) rfl rfl rfl rfl rfl rfl rfl (Nat.le_of_ble_eq_true rfl) (by decide) rfl ?_
    rw [reps_is]
    have ok := Ow.push h3 (is (List.replicate 512 0))
    have f6 : Fr no h3 (h3.push ⟨is (List.replicate 512 0), true⟩) := Fr.push _ _ _
    replace om := om.fr f6 (fun g => g)
    generalize h3.push ⟨is (List.replicate 512 0), true⟩ = h6 at *
    refine RunO.callDG rfl (keepInts_ok (sl_owI om List.length_replicate (Cp.exc (Nat.le_refl 512)) (by decide)) (sl_owI ok List.length_replicate (Cp.exc (Nat.le_refl 512)) (by decide)) (by decide)) rfl rfl rfl ?_
    rintro _ _ ⟨rfl, rfl⟩
    rw [show ((List.replicate 512 (0 : Int)) == List.replicate 512 0) = true from beq_self_eq_true _]
    refine RunO.part 2 rfl ?_
    refine RunO.callDG rfl wakes10_ok rfl rfl rfl ?_
    rintro _ h9 ⟨rfl, f9⟩
    exact RunO.all rfl (RunC.ret ⟨_, rfl, rfl⟩)
  have spec := tree_spec hr hok
  have hat := fun s hs => tree_at hr hok (s := s) hs
  have hnd : (treeN L root).Nodup := spec.nd List.nodup_nil
  obtain ⟨t, hnt⟩ := spec.ns
  have hnt : treeN L root = root :: t := hnt
  have hpath : ∀ s, s < 512 → pathOk L (L.length / 64) 3 root s := fun s hs => spec.path s hs
  have hB : L.length / 64 * 64 ≤ L.length := Nat.div_mul_le_self _ _
  generalize treeN L root = ns at *
  generalize treeM L root = m at *
  clear spec
  have hn0 : 0 < ns.length := by have := congrArg List.length hnt; simp at this; omega
  obtain ⟨nA, nc_, hnv, hncp, _⟩ := sln.form
  refine RunC.seq (RunC.seq (RunC.region (RunO.part 3 rfl ?_)))
  rw [show (root == 0) = false from beq_eq_false_iff_ne.2 hr]
  subst hnv
  refine RunO.part 3 rfl ?_
  rw [show ((ns.length : Int) == 0) = false from beq_eq_false_iff_ne.2 (by omega)]
  refine RunO.all rfl ?_
  refine RunC.cond rfl (fun g => by cases g) (fun _ => RunC.skip ?_)
  refine RunC.seq (RunC.region (RunO.part 1 rfl ?_))
  refine RunO.callD (refBlocks_ok sl3 (by omega)) rfl rfl rfl ?_
  rintro _ _ ⟨rfl, rfl⟩
  obtain ⟨B, hBe⟩ : ∃ B, B = L.length / 64 := ⟨_, rfl⟩
  rw [← hBe] at hat hpath hB ⊢
  refine RunO.all rfl ?_
  refine RunC.seq (RunC.seq (RunC.region (RunO.part 1 rfl ?_)))
  have hn0' : ns[0]'hn0 = root := by
    have := congrArg (fun l => l[0]?) hnt
    simp only [List.getElem?_eq_getElem hn0] at this
    exact Option.some.inj this
  refine RunO.at (s := 1) (k := 0) (u := .int .i64 root) rfl rfl sln rfl rfl hn0 (by rw [is_part hn0, hn0']) rfl rfl rfl ?_
  refine RunO.part 1 rfl ?_
  refine RunO.bin (v := .bool false) rfl rfl (by show some (Value.bool (root != root)) = _; simp) rfl (RunO.all rfl ?_)
  refine RunC.cond rfl (fun g => by cases g) (fun _ => RunC.skip ?_)
  -- the sectors
  refine RunC.seqc (fun E' h' => Fr no h3 h' ∧ Le (upd E0 7 (.slice nA ns.length nc_)) E') ?_ ?_
  · refine RunC.seq (RunC.region (RunO.all rfl ?_))
    refine RunC.block ?_
    let I : Nat → Env → Heap → Prop := fun d E h' => ∃ s : Nat, s + d = 512 ∧ Fr no h3 h' ∧ Le (upd (upd (upd (upd (upd (upd E0 0 iv) 1 (.int .i64 root)) 5 (.slice (some ⟨mb, 0, none⟩) 512 (exc 512))) 7 (.slice nA ns.length nc_)) 9 (.int .i64 (B : Int))) 11 (.int .i64 (s : Int))) E
    refine RunC.loop I ?_ (k := 512) ?_
    · rintro d E h4 ⟨s, hs, f4, hE⟩
      refine RunC.le hE ?_
      clear hE
      refine RunC.seq (RunC.seq (RunC.region (RunO.all rfl ?_)))
      refine RunC.cond rfl (fun hlt => ?_) (fun hge => ?_)
      · have hlt := of_decide_eq_true hlt
        have hs5 : s < 512 := by omega
        have hms := hat s hs5
        refine RunC.skip ?_
        refine RunC.seq (RunC.block ?_)
        refine RunC.seq (RunC.region (RunO.all rfl ?_))
        refine RunC.seq (RunC.seq (RunC.region (RunO.all rfl ?_)))
        refine RunC.block ?_
        let J : Nat → Env → Heap → Prop := fun k E h' => ∃ (at_ : Int) (rest : Nat), k ≤ 3 ∧ look L B k at_ rest = m.getD s 0 ∧ pathOk L B k at_ rest ∧ rest < 8 ^ k ∧ Fr no h3 h' ∧ Le (upd (upd (upd (upd (upd (upd (upd (upd (upd E0 0 iv) 1 (.int .i64 root)) 5 (.slice (some ⟨mb, 0, none⟩) 512 (exc 512))) 7 (.slice nA ns.length nc_)) 9 (.int .i64 (B : Int))) 11 (.int .i64 (s : Int))) 12 (.int .i64 at_)) 13 (.int .i64 (rest : Int))) 14 (.int .i64 ((k : Int) - 1))) E
        refine RunC.loop J ?_ (k := 3) ?_
        · rintro k E h5 ⟨at_, rest, hk3, hlook, hpo, hrest, f5, hE⟩
          refine RunC.le hE ?_
          clear hE
          -- what stands behind the walk down
          have fin : at_ = m.getD s 0 → ∀ E, Le (upd (upd (upd (upd (upd (upd (upd E0 0 iv) 1 (.int .i64 root)) 5 (.slice (some ⟨mb, 0, none⟩) 512 (exc 512))) 7 (.slice nA ns.length nc_)) 9 (.int .i64 (B : Int))) 11 (.int .i64 (s : Int))) 12 (.int .i64 at_)) E → True := fun _ _ _ => trivial
          by_cases hstop : k = 0 ∨ at_ = 0
          · have hval : at_ = m.getD s 0 := by
              rw [← hlook]
              rcases hstop with e | e
              · subst e; rfl
              · subst e; rw [look_zero]
            have hsm : s < m.length := by omega
            have hpm : apart prog 3 (is m) (s * 1) = some (.int .i64 at_) := by
              rw [is_part hsm, hval, List.getD_eq_getElem?_getD, List.getElem?_eq_getElem hsm]; rfl
            refine RunC.seq ?_
            refine RunC.seqE (upd (upd (upd (upd (upd (upd (upd (upd E0 0 iv) 1 (.int .i64 root)) 5 (.slice (some ⟨mb, 0, none⟩) 512 (exc 512))) 7 (.slice nA ns.length nc_)) 9 (.int .i64 (B : Int))) 11 (.int .i64 (s : Int))) 12 (.int .i64 at_)) 104 (.bool false)) ?_ ?_
            · refine RunC.region (RunO.part 3 rfl ?_)
              by_cases hk0 : k = 0
              · rw [show decide ((k : Int) - 1 ≥ 0) = false from decide_eq_false (by omega)]
                exact RunO.all rfl ⟨rfl, Le.cons rfl (Le.cons rfl (Le.cons rfl (Le.cons rfl (Le.cons rfl (Le.cons rfl (Le.cons rfl (Le.cons rfl (Le.nil _))))))))⟩
              · rw [show decide ((k : Int) - 1 ≥ 0) = true from decide_eq_true (by omega)]
                obtain rfl : at_ = 0 := hstop.resolve_left hk0
                exact RunO.all rfl ⟨rfl, Le.cons rfl (Le.cons rfl (Le.cons rfl (Le.cons rfl (Le.cons rfl (Le.cons rfl (Le.cons rfl (Le.cons rfl (Le.nil _))))))))⟩
            refine RunC.cond rfl (fun g => by cases g) (fun _ => RunC.exit ?_)
            have slm5 : Sl h5 (.slice (some ⟨mb, 0, none⟩) 512 (exc 512)) 1 512 (is m) := by have := slm.fr0 f5; rwa [hml] at this
            refine RunC.seq (RunC.region (RunO.part 2 rfl ?_))
            refine RunO.at (s := 1) (k := s) rfl rfl slm5 rfl rfl hs5 hpm rfl rfl rfl ?_
            refine RunO.part 1 rfl ?_
            refine RunO.bin (v := .bool false) rfl rfl (by show some (Value.bool (at_ != at_)) = _; simp) rfl (RunO.all rfl ?_)
            refine RunC.cond rfl (fun g => by cases g) (fun _ => RunC.skip ?_)
            refine RunC.region (RunO.all rfl ?_)
            exact ⟨d - 1, by omega, s + 1, by omega, f5, Le.cons (inc64 (by omega)) (Le.cons rfl (Le.cons rfl (Le.cons rfl (Le.cons rfl (Le.cons rfl (Le.nil _))))))⟩
          · rw [not_or] at hstop
            obtain ⟨hk0, ha0⟩ := hstop
            obtain ⟨j, rfl⟩ : ∃ j, k = j + 1 := ⟨k - 1, by omega⟩
            obtain ⟨his, hpo2⟩ := hpo ha0
            have hab := atIs_ne his
            obtain ⟨a, rfl⟩ := Int.eq_ofNat_of_zero_le (show 0 ≤ at_ by omega)
            have hal : (a + 1) * 64 ≤ L.length := Nat.le_trans (Nat.mul_le_mul_right 64 (by omega)) hB
            have hlook2 : look L B j ((atV L B (a : Int)).2.getD (rest / 8 ^ j) 0) (rest % 8 ^ j) = m.getD s 0 := by rw [← hlook]; show _ = if (a : Int) = 0 then 0 else _; rw [if_neg ha0]
            have hin : atIn B (a : Int) = true := atIn_iff.2 ⟨by omega, by omega⟩
            have hvv : atV L B (a : Int) = nodV (blkI L a) := by unfold atV; rw [hin, if_pos rfl, Int.toNat_natCast]
            have hcd : nCode (blkI L a) = 0 ∧ (nodV (blkI L a)).1 = (j : Int) := by
              unfold atIs at his
              rw [hin, hvv, Int.toNat_natCast, Bool.true_and, Bool.and_eq_true, beq_iff_eq, beq_iff_eq] at his
              exact his
            rw [hvv] at hlook2 hpo2
            have hbl := blkI_len hal
            have hbb := byt_blk hb a
            have hvl := nodV_len (blkI L a)
            have hpos : 0 < 8 ^ j := Nat.pow_pos (by decide)
            have hq8 : rest / 8 ^ j < 8 := by rw [Nat.div_lt_iff_lt_mul hpos]; rw [Nat.pow_succ, Nat.mul_comm] at hrest; exact hrest
            have hlow : rest % 8 ^ j < 8 ^ j := Nat.mod_lt _ hpos
            refine RunC.seq (RunC.seq (RunC.region (RunO.part 3 rfl ?_)))
            rw [show decide (((j + 1 : Nat) : Int) - 1 ≥ 0) = true from decide_eq_true (by omega)]
            refine RunO.part 2 rfl ?_
            rw [show ((a : Int) != 0) = true from bne_iff_ne.2 ha0]
            refine RunO.all rfl ?_
            refine RunC.cond rfl (fun _ => RunC.skip ?_) (fun g => by cases g)
            refine RunC.seq (RunC.block ?_)
            refine RunC.seq (RunC.seq (RunC.region (RunO.part 3 rfl ?_)))
            rw [show decide ((a : Int) < 2) = false from decide_eq_false (by omega)]
            refine RunO.part 3 rfl ?_
            rw [show decide ((a : Int) ≥ (B : Int)) = false from decide_eq_false (by omega)]
            refine RunO.all rfl ?_
            refine RunC.cond rfl (fun g => by cases g) (fun _ => RunC.skip ?_)
            refine RunC.seq (RunC.region (RunO.part 2 rfl ?_))
            refine RunO.callD (refBlock_ok (i := a) (sl3.fr0 f5) hal (by omega)) rfl rfl rfl ?_
            rintro bv _ ⟨slb, rfl⟩
            refine RunO.callD (nodParseS_ok (sl64 hbl slb) hbb) rfl rfl rfl ?_
            rintro _ h6 ⟨rfl, f6⟩
            rw [hcd.1]
            have hl1 := hcd.2
            generalize nodV (blkI L a) = nd at *
            obtain ⟨nl, ps⟩ := nd
            simp only at hvl hl1 hlook2 hpo2
            subst hl1
            refine RunO.part 4 (h1 := h6.push ⟨nc 0 nZero, true⟩) rfl ?_
            have hcl : (cellsOf (.agg ⟨nc (j : Int) ps⟩)).length = 9 := by show (nc (j : Int) ps).length = 9; simp [nc, is_len, hvl]
            have hac : allCells (cellsOf (.agg ⟨nc (j : Int) ps⟩)) = true := by show allCells (.int .i64 (j : Int) :: is ps) = true; exact allCells_map (f := Value.int .i64) (fun _ => rfl) ps
            refine RunO.store rfl rfl (store_ow (s := 9) (Ow.push h6 (nc 0 nZero)) rfl hcl hac (Nat.le_refl 9)) (RunO.all rfl ?_)
            have e9 : (nc 0 nZero).take 0 ++ cellsOf (.agg ⟨nc (j : Int) ps⟩) ++ (nc 0 nZero).drop (0 + 9) = nc (j : Int) ps := by
              show [] ++ nc (j : Int) ps ++ [] = _; simp
            rw [e9]
            have on : Ow ((h6.push ⟨nc 0 nZero, true⟩).put h6.next (some ⟨nc (j : Int) ps, true⟩)) h6.next (nc (j : Int) ps) := Ow.put _ (Nat.lt_succ_self _)
            have f7 : Fr no h6 ((h6.push ⟨nc 0 nZero, true⟩).put h6.next (some ⟨nc (j : Int) ps, true⟩)) := (Fr.push _ _ _).trans (Fr.put (m := (· = h6.next)) _ (.inl rfl)) (fun j hj => .inr (by omega))
            have F7 := (f5.same f6).same f7
            generalize (h6.push ⟨nc 0 nZero, true⟩).put h6.next (some ⟨nc (j : Int) ps, true⟩) = h7 at *
            generalize h6.next = q at *
            refine RunC.seq (RunC.region (RunO.part 2 rfl ?_))
            rw [show ((j + 1 : Nat) : Int) - 1 = (j : Int) by omega]
            refine RunO.callD (nodPlace_ok (s := rest) (k := j) (by omega) hrest) rfl rfl rfl ?_
            rintro _ _ ⟨rfl, rfl⟩
            generalize rest / 8 ^ j = i at *
            generalize rest % 8 ^ j = low at *
            refine RunO.all rfl ?_
            refine RunC.seq (RunC.seq (RunC.region (RunO.part 8 rfl ?_)))
            refine RunO.loadG (v := .int .i64 (j : Int)) rfl rfl (on.ld rfl) rfl ?_
            refine RunO.part 1 rfl ?_
            refine RunO.oneG (v := .bool false) (h1 := h7) rfl (by show some (Value.bool ((j : Int) != (j : Int)), h7) = _; rw [show ((j : Int) != (j : Int)) = false by simp]) rfl ?_
            refine RunO.part 4 rfl ?_
            rw [show decide ((i : Int) < 0) = false from decide_eq_false (by omega)]
            refine RunO.part 4 rfl ?_
            rw [show decide ((i : Int) ≥ 8) = false from decide_eq_false (by omega)]
            refine RunO.all rfl ?_
            refine RunC.cond rfl (fun g => by cases g) (fun _ => RunC.skip ?_)
            refine RunC.region (RunO.part 2 rfl ?_)
            refine RunO.indexA (s := 1) rfl rfl rfl rfl rfl hq8 rfl ?_
            have hip : i < ps.length := by omega
            refine RunO.load (v := .int .i64 ps[i]) rfl (on.ld (by show nth (nc (j : Int) ps) (1 + i * 1) = _; rw [Nat.mul_one, Nat.add_comm]; exact is_nth hip)) rfl (RunO.all rfl ?_)
            have hgd : ps.getD i 0 = ps[i] := by rw [List.getD_eq_getElem?_getD, List.getElem?_eq_getElem hip]; rfl
            rw [hgd] at hlook2 hpo2
            refine RunC.region (RunO.all rfl ?_)
            exact ⟨j, Nat.lt_succ_self j, ps[i], low, by omega, hlook2, hpo2, hlow, F7, Le.cons (by rw [fw64 (by omega) (by omega)]; rfl) (Le.cons rfl (Le.cons rfl (Le.cons rfl (Le.cons rfl (Le.cons rfl (Le.cons rfl (Le.cons rfl (Le.cons rfl (Le.nil _)))))))))⟩
        · exact ⟨root, s, Nat.le_refl 3, hms.symm, hpath s hs5, hs5, f4, Le.cons rfl (Le.cons rfl (Le.cons rfl (Le.cons rfl (Le.cons rfl (Le.cons rfl (Le.cons rfl (Le.cons rfl (Le.cons rfl (Le.nil _)))))))))⟩
      · refine RunC.exit ?_
        exact ⟨f4, Le.cons rfl (Le.nil _)⟩
    · exact ⟨0, by omega, Fr.refl _ _, Le.cons rfl (Le.cons rfl (Le.cons rfl (Le.cons rfl (Le.cons rfl (Le.cons rfl (Le.nil _))))))⟩
  · rintro E' h4 ⟨f4, hE⟩
    refine RunC.le hE ?_
    clear hE
    have sl4 := sln.fr0 f4
    refine RunC.seq (RunC.seq (RunC.region (RunO.all rfl ?_)))
    refine RunC.block ?_
    let I : Nat → Env → Heap → Prop := fun d E h' => ∃ i : Nat, i + d = ns.length ∧ h4 = h' ∧ Le (upd (upd E0 7 (.slice nA ns.length nc_)) 20 (.int .i64 (i : Int))) E
    refine RunC.loop I ?_ (k := ns.length) ?_
    · rintro d E h5 ⟨i, hi, rfl, hE⟩
      refine RunC.le hE ?_
      clear hE
      refine RunC.seq (RunC.seq (RunC.region (RunO.all rfl ?_)))
      refine RunC.cond rfl (fun hlt => ?_) (fun hge => ?_)
      · have hlt := of_decide_eq_true hlt
        have hil : i < ns.length := by omega
        refine RunC.skip ?_
        refine RunC.seq (RunC.block ?_)
        refine RunC.seq (RunC.region (RunO.all rfl ?_))
        refine RunC.block ?_
        let J : Nat → Env → Heap → Prop := fun e E h' => ∃ k : Nat, k + e = i ∧ h4 = h' ∧ Le (upd (upd (upd E0 7 (.slice nA ns.length nc_)) 20 (.int .i64 (i : Int))) 21 (.int .i64 (k : Int))) E
        refine RunC.loop J ?_ (k := i) ?_
        · rintro e E h6 ⟨k, hk, rfl, hE⟩
          refine RunC.le hE ?_
          clear hE
          refine RunC.seq (RunC.seq (RunC.region (RunO.all rfl ?_)))
          refine RunC.cond rfl (fun hlt2 => ?_) (fun hge => ?_)
          · have hlt2 := of_decide_eq_true hlt2
            have hkl : k < ns.length := by omega
            have hne : ns[k] ≠ ns[i] := List.pairwise_iff_getElem.1 hnd k i hkl hil (by omega)
            refine RunC.skip ?_
            refine RunC.seq (RunC.block ?_)
            refine RunC.seq (RunC.draw0 rfl (RunO.part 2 rfl ?_))
            refine RunO.at (s := 1) rfl rfl sl4 rfl rfl hkl (is_part hkl) rfl rfl rfl ?_
            refine RunO.part 2 rfl ?_
            refine RunO.at (s := 1) rfl rfl sl4 rfl rfl hil (is_part hil) rfl rfl rfl ?_
            refine RunO.bin (v := .bool false) rfl rfl (by show some (Value.bool (ns[k] == ns[i])) = _; rw [beq_eq_false_iff_ne.2 hne]) rfl (RunO.all rfl ?_)
            refine RunC.cond rfl (fun g => by cases g) (fun _ => RunC.skip ?_)
            refine RunC.region (RunO.all rfl ?_)
            exact ⟨e - 1, by omega, k + 1, by omega, rfl, Le.cons (inc64 (by omega)) (Le.cons rfl (Le.cons rfl (Le.nil _)))⟩
          · refine RunC.exit ?_
            refine RunC.region (RunO.all rfl ?_)
            exact ⟨d - 1, by omega, i + 1, by omega, rfl, Le.cons (inc64 (by omega)) (Le.cons rfl (Le.nil _))⟩
        · exact ⟨0, by omega, rfl, Le.cons rfl (Le.cons rfl (Le.cons rfl (Le.nil _)))⟩
      · refine RunC.exit ?_
        refine RunC.seq (RunC.region ?_)
        refine RunO.callD wakes10_ok rfl rfl rfl ?_
        rintro _ h9 ⟨rfl, f9⟩
        exact RunO.all rfl (RunC.ret ⟨_, rfl, rfl⟩)
    · exact ⟨0, by omega, rfl, Le.cons rfl (Le.cons rfl (Le.nil _))⟩
end Go.Proofs.Ytimefcnagilhlaa
end
section
set_option linter.unusedVariables false
set_option maxRecDepth 100000
open Go Go.Am Go.RowKit
namespace Go.Proofs.Ytimefcnagilhlaa
open Go.Proofs.Try
theorem keepBytesS_ok {h : Heap} {v w : Value} {l m : List Int} (sl : Sl h v 1 l.length (us l)) (sm : Sl h w 1 m.length (us m)) (hm : l.length ≤ 4611686018427387904) :
    RunF prog 19 [v, w] h fun v h' => v = .bool (l == m) ∧ h = h' := by
  obtain ⟨A, c, rfl, _, hA⟩ := sl.form
  obtain ⟨B, d, rfl, _, hB⟩ := sm.form
  exact keepBytes_ok (fun hl => by obtain ⟨b, o, rfl, rd⟩ := hA hl; exact ⟨_, rfl, rd⟩) (fun hl => by obtain ⟨b, o, rfl, rd⟩ := hB hl; exact ⟨_, rfl, rd⟩) hm
def mapG (L : List Int) (root : Int) : List Int := if treeE L root = 0 then treeM L root else []
def nodG (L : List Int) (root : Int) : List Int := if treeE L root = 0 then treeN L root else []
theorem mapG_len (L : List Int) (root : Int) : (mapG L root).length ≤ 512 := by
  unfold mapG; split
  · rw [treeM_len]; exact Nat.le_refl _
  · exact Nat.zero_le _
theorem nodG_len (L : List Int) (root : Int) : (nodG L root).length ≤ 100000 := by
  unfold nodG; split
  · have := treeN_len L root; omega
  · exact Nat.zero_le _
theorem treeMapS_ok {h : Heap} {iv : Value} {L : List Int} {root : Int} (sl : Sl h iv 1 L.length (us L)) (hb : Byt L) (hm : L.length ≤ 4611686018427387904) :
    RunF prog 14 [iv, .int .i64 root] h fun v h' => Fr no h h' ∧ ∃ gv, v = .tuple #[gv, .int .i64 (treeE L root)] ∧ Osl h.next h' gv 1 (mapG L root).length (is (mapG L root)) := by
  refine (treeMap_ok sl hb hm).mono ?_
  have hml3 := treeM_len L root
  rintro _ h3 ⟨f3, ⟨e0, mb, hmb, rfl, om⟩ | ⟨e0, rfl⟩⟩
  · refine ⟨f3, _, by rw [e0], ?_⟩
    unfold mapG
    rw [if_pos e0, hml3]
    have := sl_owI om hml3 (Cp.exc (Nat.le_refl 512)) (by decide)
    rw [hml3] at this
    exact ⟨this.1, this.2.1, .inr ⟨mb, _, hmb, rfl, Cp.exc (Nat.le_refl 512), om⟩⟩
  · refine ⟨f3, _, rfl, ?_⟩
    unfold mapG
    rw [if_neg e0]
    exact ⟨by simp [is], Nat.zero_le _, .inl ⟨rfl, rfl⟩⟩
theorem treeNodesS_ok {h : Heap} {iv : Value} {L : List Int} {root : Int} (sl : Sl h iv 1 L.length (us L)) (hb : Byt L) (hm : L.length ≤ 4611686018427387904) :
    RunF prog 15 [iv, .int .i64 root] h fun v h' => Fr no h h' ∧ ∃ gv, v = .tuple #[gv, .int .i64 (treeE L root)] ∧ Osl h.next h' gv 1 (nodG L root).length (is (nodG L root)) := by
  refine (treeNodes_ok sl hb hm).mono ?_
  have hnl := treeN_len L root
  rintro _ h3 ⟨f3, ⟨e0, nv, rfl, row⟩ | ⟨e0, rfl⟩⟩
  · refine ⟨f3, _, by rw [e0], ?_⟩
    unfold nodG
    rw [if_pos e0]
    exact row.os (by omega)
  · refine ⟨f3, _, rfl, ?_⟩
    unfold nodG
    rw [if_neg e0]
    exact ⟨by simp [is], Nat.zero_le _, .inl ⟨rfl, rfl⟩⟩
theorem Sl.lenI {P : Program} {h : Heap} {v : Value} {s n : Nat} {cells : List Value} (sl : Sl h v s n cells) : ∃ A c, v = .slice A n c := by
  obtain ⟨A, c, rfl, _⟩ := sl.form
  exact ⟨A, c, rfl⟩
end Go.Proofs.Ytimefcnagilhlaa
end
section
set_option linter.unusedVariables false
set_option maxRecDepth 100000
open Go Go.Am Go.RowKit
namespace Go.Proofs.Ytimefcnagilhlaa
open Go.Proofs.Try
def refM (L : List Int) (root : Int) : List Int := if treeOk L root then treeM L root else []
theorem refM_len (L : List Int) (root : Int) : (refM L root).length ≤ 512 := by
  unfold refM; split
  · rw [treeM_len]; exact Nat.le_refl _
  · exact Nat.zero_le _
theorem refTreeS_ok {h : Heap} {iv : Value} {L : List Int} {root : Int} (sl : Sl h iv 1 L.length (us L)) (hb : Byt L) (hd : devOk L.length = true) :
    RunF prog 23 [iv, .int .i64 root] h fun v h' => Fr no h h' ∧ ∃ xv yv, v = .tuple #[xv, yv, .bool (treeOk L root)] ∧ Osl h.next h' xv 1 (refM L root).length (is (refM L root)) := by
  refine (refTree_ok sl hb hd).mono ?_
  have hml := treeM_len L root
  rintro _ h3 ⟨f3, ⟨e0, mb, nv, hmb, rfl, om, row⟩ | ⟨e0, rfl⟩⟩
  · refine ⟨f3, _, nv, by rw [e0], ?_⟩
    unfold refM
    rw [if_pos e0, hml]
    have := sl_owI om hml (Cp.exc (Nat.le_refl 512)) (by decide)
    rw [hml] at this
    exact ⟨this.1, this.2.1, .inr ⟨mb, _, hmb, rfl, Cp.exc (Nat.le_refl 512), om⟩⟩
  · refine ⟨f3, .slice none 0 0, .slice none 0 0, by rw [e0], ?_⟩
    unfold refM
    rw [if_neg (by rw [e0]; exact Bool.false_ne_true)]
    exact ⟨by simp [is], Nat.zero_le _, .inl ⟨rfl, rfl⟩⟩
end Go.Proofs.Ytimefcnagilhlaa
end
section
set_option linter.unusedVariables false
set_option maxRecDepth 100000
open Go Go.Am Go.RowKit
namespace Go.Proofs.Ytimefcnagilhlaa
open Go.Proofs.Try
/-- The sectors, from one on, that two maps tell otherwise. -/
def offS (u v : Nat → Int) (n : Nat) : List Nat := (List.range n).filter fun s => u s != v s
def chs (u v : Nat → Int) (f n : Nat) : List (Int × Int × Int) := (offS u v n).map fun s => (((f + s : Nat) : Int), u s, v s)
def getI (l : List Int) : Nat → Int := fun s => l.getD s 0
def mapsC (a b : List Int) : List (Int × Int × Int) := chs (getI a) (getI b) 0 (max a.length b.length)
theorem offS_len (u v : Nat → Int) (n : Nat) : (offS u v n).length ≤ n := by
  unfold offS; have := List.length_filter_le (fun s => u s != v s) (List.range n); rwa [List.length_range] at this
theorem chs_len (u v : Nat → Int) (f n : Nat) : (chs u v f n).length ≤ n := by
  unfold chs; rw [List.length_map]; exact offS_len u v n
theorem offS_symm (u v : Nat → Int) (n : Nat) : offS u v n = offS v u n := by
  unfold offS
  congr 1
  funext s
  rw [Bool.eq_iff_iff, bne_iff_ne, bne_iff_ne]
  exact ⟨Ne.symm, Ne.symm⟩
theorem chs_symm_len (u v : Nat → Int) (f n : Nat) : (chs u v f n).length = (chs v u f n).length := by
  unfold chs; rw [List.length_map, List.length_map, offS_symm]
theorem chs_succ (u v : Nat → Int) (f n : Nat) : chs u v f (n + 1) = chs u v f n ++ (if u n = v n then [] else [(((f + n : Nat) : Int), u n, v n)]) := by
  unfold chs offS
  rw [List.range_succ, List.filter_append, List.map_append]
  congr 1
  by_cases e : u n = v n
  · rw [if_pos e, List.filter_cons_of_neg (by simp [e])]; rfl
  · rw [if_neg e, List.filter_cons_of_pos (by simp [e])]; rfl
theorem chs_eq (u v u' v' : Nat → Int) (f n : Nat) (hu : ∀ s, s < n → u s = u' s) (hv : ∀ s, s < n → v s = v' s) : chs u v f n = chs u' v' f n := by
  induction n with
  | zero => rfl
  | succ n ih =>
    rw [chs_succ, chs_succ, ih (fun s h => hu s (by omega)) (fun s h => hv s (by omega)), hu n (by omega), hv n (by omega)]
theorem chs_same (u : Nat → Int) (f n : Nat) : chs u u f n = [] := by
  induction n with
  | zero => rfl
  | succ n ih => rw [chs_succ, ih, if_pos rfl]; rfl
theorem chs_add (u v : Nat → Int) (f n : Nat) : ∀ m, chs u v f (n + m) = chs u v f n ++ chs (fun s => u (n + s)) (fun s => v (n + s)) (f + n) m
  | 0 => by show _ = _ ++ []; rw [List.append_nil]; rfl
  | m + 1 => by
    rw [← Nat.add_assoc, chs_succ, chs_succ, chs_add u v f n m, List.append_assoc, Nat.add_assoc]
/-- A node's pointers; of no node none. -/
def ptrs (L : List Int) (B : Nat) (p : Int) : List Int := if p = 0 then nZero else (atV L B p).2
theorem ptrs_len (L : List Int) (B : Nat) (p : Int) : (ptrs L B p).length = 8 := by
  unfold ptrs; split
  · rfl
  · exact atV_len L B p
def one (p : Int) : Nat := if p = 0 then 0 else 1
/-- What two pointers of a level lead to, otherwise; how many nodes are looked at. -/
def dgo (L : List Int) (B : Nat) : Nat → Int → Int → Nat → List (Int × Int × Int) × Nat
  | 0, a, b, f => if a = b then ([], 0) else ([((f : Int), a, b)], 0)
  | k + 1, a, b, f => if a = b then ([], 0) else (List.range 8).foldl (fun w i =>
      (w.1 ++ (dgo L B k ((ptrs L B a).getD i 0) ((ptrs L B b).getD i 0) (f + i * 8 ^ k)).1, w.2 + (dgo L B k ((ptrs L B a).getD i 0) ((ptrs L B b).getD i 0) (f + i * 8 ^ k)).2)) ([], one a + one b)
/-- The walk's state behind so many of a node's pointers. -/
def dgoI (L : List Int) (B k : Nat) (a b : Int) (f i : Nat) : List (Int × Int × Int) × Nat := (List.range i).foldl (fun w i =>
      (w.1 ++ (dgo L B k ((ptrs L B a).getD i 0) ((ptrs L B b).getD i 0) (f + i * 8 ^ k)).1, w.2 + (dgo L B k ((ptrs L B a).getD i 0) ((ptrs L B b).getD i 0) (f + i * 8 ^ k)).2)) ([], one a + one b)
theorem dgo_succ (L : List Int) (B k : Nat) (a b : Int) (f : Nat) : dgo L B (k + 1) a b f = if a = b then ([], 0) else dgoI L B k a b f 8 := rfl
theorem dgoI_succ (L : List Int) (B k : Nat) (a b : Int) (f i : Nat) : dgoI L B k a b f (i + 1) = ((dgoI L B k a b f i).1 ++ (dgo L B k ((ptrs L B a).getD i 0) ((ptrs L B b).getD i 0) (f + i * 8 ^ k)).1, (dgoI L B k a b f i).2 + (dgo L B k ((ptrs L B a).getD i 0) ((ptrs L B b).getD i 0) (f + i * 8 ^ k)).2) := by
  unfold dgoI
  rw [List.range_succ, List.foldl_append]; rfl
theorem look_succ (L : List Int) (B k : Nat) (p : Int) (s : Nat) : look L B (k + 1) p s = look L B k ((ptrs L B p).getD (s / 8 ^ k) 0) (s % 8 ^ k) := by
  show (if p = 0 then 0 else _) = _
  unfold ptrs
  by_cases e : p = 0
  · rw [if_pos e, if_pos e]
    rw [show nZero.getD (s / 8 ^ k) 0 = 0 by
      show (List.replicate 8 (0 : Int)).getD _ 0 = 0
      rw [List.getD_eq_getElem?_getD, List.getElem?_replicate]; split <;> rfl, look_zero]
  · rw [if_neg e, if_neg e]
theorem dgo_list (L : List Int) (B : Nat) : ∀ (k : Nat) (a b : Int) (f : Nat), (dgo L B k a b f).1 = chs (look L B k a) (look L B k b) f (8 ^ k)
  | 0, a, b, f => by
    show (if a = b then ([], 0) else ([((f : Int), a, b)], 0) : List (Int × Int × Int) × Nat).1 = chs _ _ f 1
    rw [chs_succ]
    show _ = [] ++ if a = b then [] else [(((f + 0 : Nat) : Int), a, b)]
    split <;> rfl
  | k + 1, a, b, f => by
    rw [dgo_succ]
    by_cases e : a = b
    · subst e; rw [if_pos rfl, chs_same]
    · rw [if_neg e, Nat.pow_succ, Nat.mul_comm]
      have hpos : 0 < 8 ^ k := Nat.pow_pos (by decide)
      have key : ∀ i, (dgoI L B k a b f i).1 = chs (look L B (k + 1) a) (look L B (k + 1) b) f (i * 8 ^ k) := by
        intro i
        induction i with
        | zero => rw [Nat.zero_mul]; rfl
        | succ i ih =>
          rw [dgoI_succ, Nat.succ_mul, chs_add, ← ih, dgo_list L B k]
          have hl : ∀ (p : Int) (s : Nat), s < 8 ^ k → look L B k ((ptrs L B p).getD i 0) s = look L B (k + 1) p (i * 8 ^ k + s) := fun p s hs => by
            rw [look_succ]
            have e1 : (i * 8 ^ k + s) / 8 ^ k = i := by rw [Nat.add_comm, Nat.add_mul_div_right _ _ hpos, Nat.div_eq_of_lt hs, Nat.zero_add]
            have e2 : (i * 8 ^ k + s) % 8 ^ k = s := by rw [Nat.add_comm, Nat.add_mul_mod_self_right, Nat.mod_eq_of_lt hs]
            rw [e1, e2]
          exact congrArg (_ ++ ·) (chs_eq _ _ _ _ _ _ (hl a) (hl b))
      exact key 8
/-- So many nodes are under a pointer. -/
def nodC (L : List Int) (B : Nat) : Nat → Int → Nat
  | 0, _ => 0
  | k + 1, p => one p + (List.range 8).foldl (fun w i => w + nodC L B k ((ptrs L B p).getD i 0)) 0
def nodI (L : List Int) (B k : Nat) (p : Int) (i : Nat) : Nat := (List.range i).foldl (fun w i => w + nodC L B k ((ptrs L B p).getD i 0)) 0
theorem nodI_succ (L : List Int) (B k : Nat) (p : Int) (i : Nat) : nodI L B k p (i + 1) = nodI L B k p i + nodC L B k ((ptrs L B p).getD i 0) := by
  unfold nodI; rw [List.range_succ, List.foldl_append]; rfl
theorem dgo_count (L : List Int) (B : Nat) : ∀ (k : Nat) (a b : Int) (f : Nat), (dgo L B k a b f).2 ≤ nodC L B k a + nodC L B k b
  | 0, a, b, f => by
    show (if a = b then ([], 0) else ([((f : Int), a, b)], 0) : List (Int × Int × Int) × Nat).2 ≤ 0
    split <;> exact Nat.le_refl _
  | k + 1, a, b, f => by
    rw [dgo_succ]
    by_cases e : a = b
    · rw [if_pos e]; exact Nat.zero_le _
    · rw [if_neg e]
      have key : ∀ i, (dgoI L B k a b f i).2 ≤ (one a + nodI L B k a i) + (one b + nodI L B k b i) := by
        intro i
        induction i with
        | zero => show one a + one b ≤ one a + 0 + (one b + 0); omega
        | succ i ih =>
          rw [dgoI_succ, nodI_succ, nodI_succ]
          have := dgo_count L B k ((ptrs L B a).getD i 0) ((ptrs L B b).getD i 0) (f + i * 8 ^ k)
          simp only
          omega
      exact key 8
theorem dgo_symm (L : List Int) (B : Nat) : ∀ (k : Nat) (a b : Int) (f : Nat), (dgo L B k a b f).2 = (dgo L B k b a f).2
  | 0, a, b, f => by
    show (if a = b then ([], 0) else ([((f : Int), a, b)], 0) : List (Int × Int × Int) × Nat).2 = (if b = a then ([], 0) else ([((f : Int), b, a)], 0) : List (Int × Int × Int) × Nat).2
    split <;> split <;> rfl
  | k + 1, a, b, f => by
    rw [dgo_succ, dgo_succ]
    by_cases e : a = b
    · rw [if_pos e, if_pos e.symm]
    · rw [if_neg e, if_neg (Ne.symm e)]
      have key : ∀ i, (dgoI L B k a b f i).2 = (dgoI L B k b a f i).2 := by
        intro i
        induction i with
        | zero => show one a + one b = one b + one a; omega
        | succ i ih => rw [dgoI_succ, dgoI_succ]; simp only; rw [ih, dgo_symm L B k]
      exact key 8
def cB : Nat → Nat
  | 0 => 0
  | k + 1 => 2 + 8 * cB k
theorem one_le (p : Int) : one p ≤ 1 := by unfold one; split <;> omega
theorem dgo_cB (L : List Int) (B : Nat) : ∀ (k : Nat) (a b : Int) (f : Nat), (dgo L B k a b f).2 ≤ cB k
  | 0, a, b, f => by
    show (if a = b then ([], 0) else ([((f : Int), a, b)], 0) : List (Int × Int × Int) × Nat).2 ≤ 0
    split <;> exact Nat.le_refl _
  | k + 1, a, b, f => by
    rw [dgo_succ]
    by_cases e : a = b
    · rw [if_pos e]; exact Nat.zero_le _
    · rw [if_neg e]
      have key : ∀ i, (dgoI L B k a b f i).2 ≤ 2 + i * cB k := by
        intro i
        induction i with
        | zero =>
          have := one_le a
          have := one_le b
          show one a + one b ≤ _; omega
        | succ i ih =>
          rw [dgoI_succ, Nat.succ_mul]
          have := dgo_cB L B k ((ptrs L B a).getD i 0) ((ptrs L B b).getD i 0) (f + i * 8 ^ k)
          simp only
          omega
      exact key 8
theorem dgo_llen (L : List Int) (B k : Nat) (a b : Int) (f : Nat) : (dgo L B k a b f).1.length ≤ 8 ^ k := by rw [dgo_list]; exact chs_len _ _ _ _
theorem dgoI_llen (L : List Int) (B k : Nat) (a b : Int) (f : Nat) : ∀ i, (dgoI L B k a b f i).1.length ≤ i * 8 ^ k
  | 0 => Nat.zero_le _
  | i + 1 => by
    rw [dgoI_succ, Nat.succ_mul, List.length_append]
    have := dgo_llen L B k ((ptrs L B a).getD i 0) ((ptrs L B b).getD i 0) (f + i * 8 ^ k)
    have := dgoI_llen L B k a b f i
    omega
theorem dgoI_cB (L : List Int) (B k : Nat) (a b : Int) (f : Nat) : ∀ i, (dgoI L B k a b f i).2 ≤ 2 + i * cB k
  | 0 => by
    have := one_le a
    have := one_le b
    show one a + one b ≤ _; omega
  | i + 1 => by
    rw [dgoI_succ, Nat.succ_mul]
    have := dgo_cB L B k ((ptrs L B a).getD i 0) ((ptrs L B b).getD i 0) (f + i * 8 ^ k)
    have := dgoI_cB L B k a b f i
    simp only
    omega
/-- A walk's nodes are those under its pointer. -/
theorem tgo_count (L : List Int) (B : Nat) : ∀ (lv : Nat) (a : Int) (f : Nat) (w : TS), w.2.2 = false → (tgo L B lv a f w).2.2 = false → (tgo L B lv a f w).2.1.length = w.2.1.length + nodC L B (lv + 1) a := by
  intro lv
  induction lv with
  | zero => exact fun a f w hw h => tgo_count_body (fun k e => by cases e) a f w hw h
  | succ k ih => exact fun a f w hw h => tgo_count_body (fun j e => by cases e; exact ih) a f w hw h
where
  tgo_count_body {lv : Nat} (hrec : ∀ k, lv = k + 1 → ∀ (a : Int) (f : Nat) (w : TS), w.2.2 = false → (tgo L B k a f w).2.2 = false → (tgo L B k a f w).2.1.length = w.2.1.length + nodC L B (k + 1) a) (a : Int) (f : Nat) (w : TS) (hw : w.2.2 = false) (h : (tgo L B lv a f w).2.2 = false) : (tgo L B lv a f w).2.1.length = w.2.1.length + nodC L B (lv + 1) a := by
    obtain ⟨m, ns, bd⟩ := w
    simp only at hw
    subst hw
    rw [tgo_eq] at h ⊢
    unfold tbody at h ⊢
    by_cases hc : (!atIs L B a (lv : Int) || ns.contains a) = true
    · rw [if_pos hc] at h; cases h
    rw [if_neg hc] at h ⊢
    rw [Bool.or_eq_true, not_or, Bool.not_eq_true, Bool.not_eq_true, Bool.not_eq_false'] at hc
    have ha := atIs_ne hc.1
    have hp : ptrs L B a = (atV L B a).2 := by unfold ptrs; rw [if_neg (by omega)]
    change ((List.range 8).foldl (tst L B lv (atV L B a).2 f) (m, ns ++ [a], false)).2.2 = false at h
    show ((List.range 8).foldl (tst L B lv (atV L B a).2 f) (m, ns ++ [a], false)).2.1.length = ns.length + (one a + nodI L B lv a 8)
    have key : ∀ i, i ≤ 8 → ((List.range i).foldl (tst L B lv (atV L B a).2 f) (m, ns ++ [a], false)).2.1.length = ns.length + (one a + nodI L B lv a i) := by
      intro i
      induction i with
      | zero =>
        intro _
        show (ns ++ [a]).length = ns.length + (one a + 0)
        unfold one
        rw [if_neg (by omega), List.length_append, List.length_singleton]
      | succ i ih =>
        intro hi
        have hnb := fold_pre h (i := i) (by omega)
        have hnb1 := fold_pre h (i := i + 1) hi
        have ih := ih (by omega)
        have hstep : (List.range (i + 1)).foldl (tst L B lv (atV L B a).2 f) (m, ns ++ [a], false) = tst L B lv (atV L B a).2 f ((List.range i).foldl (tst L B lv (atV L B a).2 f) (m, ns ++ [a], false)) i := by rw [List.range_succ, List.foldl_append]; rfl
        rw [hstep] at hnb1 ⊢
        rw [nodI_succ, hp]
        generalize (List.range i).foldl (tst L B lv (atV L B a).2 f) (m, ns ++ [a], false) = W at *
        unfold tst tstep at hnb1 ⊢
        rw [hnb, if_neg Bool.false_ne_true] at hnb1 ⊢
        generalize (atV L B a).2.getD i 0 = p at *
        by_cases hB : decide (p ≥ (B : Int)) = true
        · rw [if_pos hB] at hnb1; cases hnb1
        rw [if_neg hB] at hnb1 ⊢
        cases lv with
        | zero =>
          have : nodC L B 0 p = 0 := rfl
          rw [this]
          split
          · simp only; omega
          · split
            · show (trec L B 0 _ _ W).2.1.length = _
              show W.2.1.length = _; omega
            · omega
        | succ k =>
          rw [if_neg (by simp)] at hnb1 ⊢
          by_cases hp0 : p = 0
          · subst hp0
            rw [if_neg (by simp)]
            have : ∀ k, nodC L B k 0 = 0 := nodC_zero L B
            rw [this]; omega
          · rw [if_pos (bne_iff_ne.2 hp0)] at hnb1 ⊢
            have := hrec k rfl p (f + i * 8 ^ (k + 1)) W hnb hnb1
            show (tgo L B k p (f + i * 8 ^ (k + 1)) W).2.1.length = _
            rw [this]; omega
    exact key 8 (Nat.le_refl 8)
  nodC_zero (L : List Int) (B : Nat) : ∀ k, nodC L B k 0 = 0
    | 0 => rfl
    | k + 1 => by
      show one 0 + nodI L B k 0 8 = 0
      have key : ∀ i, nodI L B k 0 i = 0 := by
        intro i
        induction i with
        | zero => rfl
        | succ i ih =>
          rw [nodI_succ, ih]
          have : (ptrs L B 0).getD i 0 = 0 := by
            show (List.replicate 8 (0 : Int)).getD _ 0 = 0
            rw [List.getD_eq_getElem?_getD, List.getElem?_replicate]; split <;> rfl
          rw [this, nodC_zero L B k]
      rw [key 8]; rfl
end Go.Proofs.Ytimefcnagilhlaa
end
section
set_option linter.unusedVariables false
set_option maxRecDepth 100000
open Go Go.Am Go.RowKit
namespace Go.Proofs.Ytimefcnagilhlaa
open Go.Proofs.Try
def c3 (c : Int × Int × Int) : List Value := [.int .i64 c.1, .int .i64 c.2.1, .int .i64 c.2.2]
def cc (l : List (Int × Int × Int)) : List Value := l.flatMap c3
theorem cc_cons (c : Int × Int × Int) (l : List (Int × Int × Int)) : cc (c :: l) = c3 c ++ cc l := rfl
theorem cc_app (a b : List (Int × Int × Int)) : cc (a ++ b) = cc a ++ cc b := List.flatMap_append
theorem cc_len : ∀ l : List (Int × Int × Int), (cc l).length = l.length * 3
  | [] => rfl
  | c :: l => by rw [cc_cons, List.length_append, cc_len l, List.length_cons]; show 3 + _ = _; omega
theorem cc_drop : ∀ (l : List (Int × Int × Int)) (i : Nat), (cc l).drop (i * 3) = cc (l.drop i)
  | l, 0 => by rw [Nat.zero_mul]; rfl
  | [], i + 1 => by simp [cc]
  | c :: l, i + 1 => by
    rw [Nat.succ_mul, cc_cons, List.drop_succ_cons, ← cc_drop l i]
    show (List.drop (i * 3 + 3) (_ :: _ :: _ :: cc l)) = _
    rw [List.drop_succ_cons, List.drop_succ_cons, List.drop_succ_cons]
theorem cc_at {l : List (Int × Int × Int)} {i : Nat} (h : i < l.length) : (cc l).drop (i * 3) = c3 l[i] ++ cc (l.drop (i + 1)) := by
  rw [cc_drop, List.drop_eq_getElem_cons h, cc_cons]
theorem cc_part {l : List (Int × Int × Int)} {i : Nat} (h : i < l.length) : apart prog 69 (cc l) (i * 3) = some (.agg ⟨c3 l[i]⟩) := by
  show (match takeN 3 (dropN (i * 3) (cc l)) with | some l => some (Value.agg ⟨l⟩) | none => none) = _
  rw [takeN_eq, dropN_eq, cc_at h]
  rw [if_pos (by simp [c3])]
  rfl
theorem cc_fld {l : List (Int × Int × Int)} {i : Nat} (h : i < l.length) {j : Nat} (hj : j < 3) : apart prog 3 (cc l) (i * 3 + j) = some ((c3 l[i]).getD j undef) := by
  show nth (cc l) (i * 3 + j) = _
  have : (cc l)[i * 3 + j]? = ((cc l).drop (i * 3))[j]? := by rw [List.getElem?_drop]
  rw [nth_eq, this, cc_at h]
  obtain rfl | rfl | rfl : j = 0 ∨ j = 1 ∨ j = 2 := by omega
  all_goals rfl
theorem cc_cells (l : List (Int × Int × Int)) : allCells (cc l) = true := by
  induction l with
  | nil => rfl
  | cons c l ih => exact ih
theorem diffPlace_ok {h : Heap} {v : Value} {l : List Int} {i : Nat} (sl : Sl h v 1 l.length (is l)) : RunF prog 53 [v, .int .i64 (i : Int)] h fun v h' => v = .int .i64 (getI l i) ∧ h = h' := by
  refine RunF.walk func53 rfl rfl ?_
  have sl0 := sl
  obtain ⟨A, c, rfl, _, _⟩ := sl.form
  refine RunC.seq (RunC.region (RunO.all rfl ?_))
  refine RunC.seq (RunC.seq (RunC.region (RunO.all rfl ?_)))
  unfold getI
  by_cases hi : i < l.length
  · rw [show decide ((i : Int) ≥ (l.length : Int)) = false from decide_eq_false (by omega), List.getD_eq_getElem?_getD, List.getElem?_eq_getElem hi]
    refine RunC.cond rfl (fun g => by cases g) (fun _ => RunC.skip ?_)
    refine RunC.seq (RunC.region (RunO.part 2 rfl ?_))
    refine RunO.at (s := 1) (k := i) rfl rfl sl0 rfl rfl hi (is_part hi) rfl rfl rfl (RunO.all rfl ?_)
    exact RunC.ret ⟨_, rfl, rfl, rfl⟩
  · rw [show decide ((i : Int) ≥ (l.length : Int)) = true from decide_eq_true (by omega), List.getD_eq_getElem?_getD, List.getElem?_eq_none (by omega)]
    refine RunC.cond rfl (fun _ => ?_) (fun g => by cases g)
    exact RunC.seq (RunC.region (RunO.all rfl (RunC.ret ⟨_, rfl, rfl, rfl⟩)))
theorem maxB (a b : Nat) : (cond (decide ((b : Int) > (a : Int))) (b : Int) (a : Int)) = ((max a b : Nat) : Int) := by
  by_cases h : (b : Int) > a
  · rw [decide_eq_true h]; show (b : Int) = _; omega
  · rw [decide_eq_false h]; show (a : Int) = _; omega
/-- One change more, behind a row. -/
theorem row_chg {lo : Nat} {h : Heap} {v : Value} {l : List (Int × Int × Int)} {c : Int × Int × Int} (r : Row lo h v 3 (l.length + 1) (cc l ++ c3 c)) : Row lo h v 3 (l ++ [c]).length (cc (l ++ [c])) := by
  rw [cc_app, List.length_append]
  have : cc [c] = c3 c := by rw [cc_cons]; exact List.append_nil _
  rw [this]
  exact r
set_option maxHeartbeats 4000000 in
theorem diffMaps_ok {h : Heap} {va vb : Value} {a b : List Int} (sa : Sl h va 1 a.length (is a)) (sb : Sl h vb 1 b.length (is b)) (ha : a.length ≤ 100000) (hb : b.length ≤ 100000) :
    RunF prog 32 [va, vb] h fun v h' => Row h.next h' v 3 (mapsC a b).length (cc (mapsC a b)) ∧ Fr no h h' := by
  refine RunF.walk func32 rfl rfl ?_
  have sa0 := sa
  have sb0 := sb
  obtain ⟨A, c, rfl, _, _⟩ := sa.form
  obtain ⟨B, d, rfl, _, _⟩ := sb.form
  refine RunC.seq (RunC.region (RunO.all rfl ?_))
  refine RunC.seq (RunC.region (RunO.all rfl ?_))
  refine RunC.seq (RunC.seq (RunC.region (RunO.part 4 rfl (RunO.all rfl ?_))))
  rw [maxB]
  have hM : mapsC a b = chs (getI a) (getI b) 0 (max a.length b.length) := rfl
  rw [hM]
  obtain ⟨n, hn⟩ : ∃ n, n = max a.length b.length := ⟨_, rfl⟩
  rw [← hn]
  have hnl : n ≤ 100000 := by omega
  clear hM hn
  refine RunC.block ?_
  let I : Nat → Env → Heap → Prop := fun k E h' => ∃ (i : Nat) (ov : Value), i + k = n ∧ Row h.next h' ov 3 (chs (getI a) (getI b) 0 i).length (cc (chs (getI a) (getI b) 0 i)) ∧ Fr no h h' ∧
    Le (upd (upd (upd (upd (upd E0 0 (.slice A a.length c)) 1 (.slice B b.length d)) 5 ov) 13 (.int .i64 (n : Int))) 14 (.int .i64 (i : Int))) E
  refine RunC.loop I ?_ (k := n) ?_
  · rintro k E h1 ⟨i, ov, hi, row, f1, hE⟩
    refine RunC.le hE ?_
    clear hE
    refine RunC.seq (RunC.region (RunO.all rfl ?_))
    refine RunC.seq (RunC.cond rfl (fun hlt => RunC.skip ?_) (fun hge => ?_))
    · have hlt := of_decide_eq_true hlt
      have hin : i < n := by omega
      have sa1 := sa0.fr0 f1
      have sb1 := sb0.fr0 f1
      have hcl := chs_len (getI a) (getI b) 0 i
      have hsu := chs_succ (getI a) (getI b) 0 i
      rw [Nat.zero_add] at hsu
      refine RunC.seq (RunC.block ?_)
      refine RunC.seq (RunC.region (RunO.all rfl ?_))
      refine RunC.seq (RunC.region (RunO.part 2 rfl ?_))
      refine RunO.callD (diffPlace_ok sa1) rfl rfl rfl ?_
      rintro _ _ ⟨rfl, rfl⟩
      refine RunO.part 2 rfl ?_
      refine RunO.callD (diffPlace_ok sb1) rfl rfl rfl ?_
      rintro _ _ ⟨rfl, rfl⟩
      refine RunO.all rfl ?_
      refine RunC.seq (RunC.region (RunO.all rfl ?_))
      by_cases he : getI a i = getI b i
      · rw [if_pos he, List.append_nil] at hsu
        rw [show (getI a i != getI b i) = false by simp [he]]
        refine RunC.cond rfl (fun g => by cases g) (fun _ => RunC.skip ?_)
        refine RunC.region (RunO.all rfl ?_)
        exact ⟨k - 1, by omega, i + 1, ov, by omega, by rw [hsu]; exact row, f1, Le.cons (inc64 (by omega)) (Le.cons rfl (Le.cons rfl (Le.cons rfl (Le.cons rfl (Le.nil _)))))⟩
      · rw [if_neg he] at hsu
        rw [show (getI a i != getI b i) = true from bne_iff_ne.2 he]
        refine RunC.cond rfl (fun _ => ?_) (fun g => by cases g)
        generalize getI a i = x at *
        generalize getI b i = y at *
        refine RunC.region (RunO.part 6 (h1 := h1.push ⟨c3 ((i : Int), x, y), true⟩) rfl ?_)
        have fp : Fr no h1 (h1.push ⟨c3 ((i : Int), x, y), true⟩) := Fr.push _ _ _
        have ob := Ow.push h1 (c3 ((i : Int), x, y))
        have row2 := row.fr fp (fun _ _ _ g => g)
        generalize h1.push ⟨c3 ((i : Int), x, y), true⟩ = h2 at *
        refine RunO.append2 (s := 3) (m := 1) rfl rfl rfl rfl rfl rfl rfl rfl (by decide) row2 ob.all rfl (Nat.le_refl 1) rfl (by show 2 * (_ + 1) * 24 ≤ _; omega) (by omega) ?_
        intro ov2 h3 row3 f3
        have f13 : Fr no h h3 := (f1.same fp).trans f3 (fun b g => .inr (row2.at g).1)
        replace row3 : Row h.next h3 ov2 3 (chs (getI a) (getI b) 0 (i + 1)).length (cc (chs (getI a) (getI b) 0 (i + 1))) := by
          rw [hsu]
          exact Row.lo (row_chg row3) (f1.same fp).next
        refine RunO.all rfl ?_
        refine RunC.region (RunO.all rfl ?_)
        exact ⟨k - 1, by omega, i + 1, ov2, by omega, row3, f13, Le.cons (inc64 (by omega)) (Le.cons rfl (Le.cons rfl (Le.cons rfl (Le.cons rfl (Le.nil _)))))⟩
    · have hge := of_decide_eq_false hge
      obtain rfl : i = n := by omega
      refine RunC.exit ?_
      exact RunC.seq (RunC.region (RunO.all rfl (RunC.ret ⟨_, rfl, row, f1⟩)))
  · exact ⟨0, _, by omega, Row.nil _ _ _, Fr.refl _ _, Le.cons rfl (Le.cons rfl (Le.cons rfl (Le.cons rfl (Le.cons rfl (Le.nil _)))))⟩
end Go.Proofs.Ytimefcnagilhlaa
end
section
set_option linter.unusedVariables false
set_option maxRecDepth 100000
open Go Go.Am Go.RowKit
namespace Go.Proofs.Ytimefcnagilhlaa
open Go.Proofs.Try
theorem c3_neq (x y : Int × Int × Int) : abinop prog .neq 69 (.agg ⟨c3 x⟩) (.agg ⟨c3 y⟩) = some (.bool (x != y)) := by
  obtain ⟨a, b, c⟩ := x
  obtain ⟨d, e, f⟩ := y
  have hg : prog.eqGuardType prog.depth 69 = false := by decide +kernel
  show eqOp .neq (cond (prog.eqGuardType prog.depth 69) none (aeqv prog 8 69 (.agg ⟨c3 (a, b, c)⟩) (.agg ⟨c3 (d, e, f)⟩))) = _
  rw [hg, cond_false]
  have : aeqv prog 8 69 (.agg ⟨c3 (a, b, c)⟩) (.agg ⟨c3 (d, e, f)⟩) = (match some (a == d) with
    | some true => (match some (b == e) with
      | some true => (match some (c == f) with
        | some true => some true
        | some false => some false
        | none => none)
      | some false => some false
      | none => none)
    | some false => some false
    | none => none) := rfl
  rw [this]
  have hx : ((a, b, c) != (d, e, f)) = !((a == d) && ((b == e) && (c == f))) := rfl
  rw [hx]
  cases (a == d) <;> cases (b == e) <;> cases (c == f) <;> rfl
theorem beq_takeG {α : Type} {l m : List α} {i : Nat} (hi : i < l.length) (hm : i < m.length) (h : l.take i = m.take i) (he : l[i] = m[i]) : l.take (i + 1) = m.take (i + 1) := by
  rw [List.take_succ_eq_append_getElem hi, List.take_succ_eq_append_getElem hm, h, he]
set_option maxHeartbeats 4000000 in
theorem keepChanges_ok {h : Heap} {v w : Value} {l m : List (Int × Int × Int)} (sl : Sl h v 3 l.length (cc l)) (sm : Sl h w 3 m.length (cc m)) (hm : l.length ≤ 4611686018427387904) :
    RunF prog 31 [v, w] h fun v h' => v = .bool (l == m) ∧ h = h' := by
  refine RunF.walk func31 rfl rfl ?_
  obtain ⟨A, c, rfl, hc, _⟩ := sl.form
  obtain ⟨B, d, rfl, hd, _⟩ := sm.form
  refine RunC.seq (RunC.region (RunO.all rfl ?_))
  refine RunC.seq (RunC.seq (RunC.region (RunO.all rfl ?_)))
  by_cases hl : l.length = m.length
  case neg =>
    have e : (l == m) = false := beq_eq_false_iff_ne.2 (fun g => hl (by rw [g]))
    rw [show ((l.length : Int) != (m.length : Int)) = true by simp; omega, e]
    refine RunC.cond rfl (fun _ => ?_) (fun g => by cases g)
    exact RunC.seq (RunC.region (RunO.all rfl (RunC.ret ⟨_, rfl, rfl, rfl⟩)))
  rw [show ((l.length : Int) != (m.length : Int)) = false by simp; omega]
  refine RunC.cond rfl (fun g => by cases g) (fun _ => RunC.skip ?_)
  refine RunC.seq (RunC.seq (RunC.region (RunO.all rfl ?_)))
  refine RunC.block ?_
  let I : Nat → Env → Heap → Prop := fun k E h' => ∃ i : Nat, i + k = l.length ∧ l.take i = m.take i ∧ h = h' ∧ Le (upd (upd (upd E0 0 (.slice A l.length c)) 1 (.slice B m.length d)) 5 (.int .i64 i)) E
  refine RunC.loop I ?_ (k := l.length) ?_
  · rintro k E h' ⟨i, hi, ht, rfl, hE⟩
    refine RunC.le hE ?_
    clear hE
    refine RunC.seq (RunC.seq (RunC.region (RunO.all rfl ?_)))
    refine RunC.cond rfl (fun hlt => ?_) (fun hge => ?_)
    · have hlt := of_decide_eq_true hlt
      have h1 : i < l.length := by omega
      have h2 : i < m.length := by omega
      refine RunC.skip ?_
      refine RunC.seq (RunC.block ?_)
      refine RunC.seq (RunC.draw0 rfl (RunO.part 2 rfl ?_))
      refine RunO.at (s := 3) rfl rfl sl rfl rfl h1 (cc_part h1) rfl rfl rfl ?_
      refine RunO.part 2 rfl ?_
      refine RunO.at (s := 3) rfl rfl sm rfl rfl h2 (cc_part h2) rfl rfl rfl ?_
      refine RunO.bin rfl rfl (c3_neq _ _) rfl (RunO.all rfl ?_)
      refine RunC.cond rfl (fun hne => ?_) (fun heq => ?_)
      · have hne : l[i] ≠ m[i] := by simpa using hne
        have e : (l == m) = false := beq_eq_false_iff_ne.2 (fun g => hne (by subst g; rfl))
        rw [e]
        exact RunC.seq (RunC.region (RunO.all rfl (RunC.ret ⟨_, rfl, rfl, rfl⟩)))
      · have heq : l[i] = m[i] := by simpa using heq
        refine RunC.skip (RunC.region (RunO.all rfl ?_))
        exact ⟨k - 1, by omega, i + 1, by omega, beq_takeG h1 h2 ht heq, rfl, Le.cons (inc64 (by omega)) (Le.cons rfl (Le.cons rfl (Le.nil _)))⟩
    · have hge := of_decide_eq_false hge
      refine RunC.exit ?_
      have hi2 : i = l.length := by omega
      have e : l = m := by
        rw [hi2, List.take_length] at ht
        rw [ht, hl, List.take_length]
      rw [show (l == m) = true by rw [e]; exact beq_self_eq_true _]
      exact RunC.seq (RunC.region (RunO.all rfl (RunC.ret ⟨_, rfl, rfl, rfl⟩)))
  · exact ⟨0, by omega, rfl, rfl, Le.cons rfl (Le.cons rfl (Le.cons rfl (Le.nil _)))⟩
set_option maxHeartbeats 4000000 in
theorem refMaps_ok {h : Heap} {va vb : Value} {a b : List Int} (sa : Sl h va 1 a.length (is a)) (sb : Sl h vb 1 b.length (is b)) (ha : a.length ≤ 100000) (hb : b.length ≤ 100000) :
    RunF prog 33 [va, vb] h fun v h' => Row h.next h' v 3 (mapsC a b).length (cc (mapsC a b)) ∧ Fr no h h' := by
  refine RunF.walk func33 rfl rfl ?_
  have sa0 := sa
  have sb0 := sb
  obtain ⟨A, c, rfl, _, _⟩ := sa.form
  obtain ⟨B, d, rfl, _, _⟩ := sb.form
  have hM : mapsC a b = chs (getI a) (getI b) 0 (max a.length b.length) := rfl
  rw [hM]
  refine RunC.seq (RunC.region (RunO.all rfl ?_))
  refine RunC.seq (RunC.region (RunO.all rfl ?_))
  refine RunC.seq (RunC.seq (RunC.region (RunO.all rfl ?_)))
  refine RunC.block ?_
  let I : Nat → Env → Heap → Prop := fun k E h' => ∃ (i : Nat) (ov : Value), i + k = max a.length b.length ∧ Row h.next h' ov 3 (chs (getI a) (getI b) 0 i).length (cc (chs (getI a) (getI b) 0 i)) ∧ Fr no h h' ∧
    Le (upd (upd (upd (upd E0 0 (.slice A a.length c)) 1 (.slice B b.length d)) 5 ov) 6 (.int .i64 (i : Int))) E
  refine RunC.loop I ?_ (k := max a.length b.length) ?_
  · rintro k E h1 ⟨i, ov, hi, row, f1, hE⟩
    refine RunC.le hE ?_
    clear hE
    refine RunC.seq (RunC.seq (RunC.region (RunO.part 6 rfl ?_)))
    rw [maxB]
    refine RunO.all rfl ?_
    refine RunC.cond rfl (fun hlt => RunC.skip ?_) (fun hge => ?_)
    · have hlt := of_decide_eq_true hlt
      have hin : i < max a.length b.length := by omega
      have sa1 := sa0.fr0 f1
      have sb1 := sb0.fr0 f1
      have hcl := chs_len (getI a) (getI b) 0 i
      have hsu := chs_succ (getI a) (getI b) 0 i
      rw [Nat.zero_add] at hsu
      refine RunC.seq (RunC.block ?_)
      refine RunC.seq (RunC.region (RunO.all rfl ?_))
      refine RunC.seqE (upd (upd (upd (upd (upd (upd E0 0 (.slice A a.length c)) 1 (.slice B b.length d)) 5 ov) 6 (.int .i64 (i : Int))) 7 (.int .i64 (getI a i))) 8 (.int .i64 0)) ?_ ?_
      · refine RunC.seq (RunC.region (RunO.all rfl ?_))
        unfold getI
        by_cases hia : i < a.length
        · rw [show decide ((i : Int) < (a.length : Int)) = true from decide_eq_true (by omega), List.getD_eq_getElem?_getD, List.getElem?_eq_getElem hia]
          refine RunC.cond rfl (fun _ => ?_) (fun g => by cases g)
          refine RunC.region (RunO.part 2 rfl ?_)
          refine RunO.at (s := 1) (k := i) rfl rfl sa1 rfl rfl hia (is_part hia) rfl rfl rfl (RunO.all rfl ?_)
          exact ⟨rfl, Le.cons rfl (Le.cons rfl (Le.cons rfl (Le.cons rfl (Le.cons rfl (Le.cons rfl (Le.nil _))))))⟩
        · rw [show decide ((i : Int) < (a.length : Int)) = false from decide_eq_false (by omega), List.getD_eq_getElem?_getD, List.getElem?_eq_none (by omega)]
          refine RunC.cond rfl (fun g => by cases g) (fun _ => RunC.skip ?_)
          exact ⟨rfl, Le.cons rfl (Le.cons rfl (Le.cons rfl (Le.cons rfl (Le.cons rfl (Le.cons rfl (Le.nil _))))))⟩
      refine RunC.seqE (upd (upd (upd (upd (upd (upd E0 0 (.slice A a.length c)) 1 (.slice B b.length d)) 5 ov) 6 (.int .i64 (i : Int))) 7 (.int .i64 (getI a i))) 8 (.int .i64 (getI b i))) ?_ ?_
      · refine RunC.seq (RunC.region (RunO.all rfl ?_))
        generalize getI a i = xa at *
        unfold getI
        by_cases hib : i < b.length
        · rw [show decide ((i : Int) < (b.length : Int)) = true from decide_eq_true (by omega), List.getD_eq_getElem?_getD, List.getElem?_eq_getElem hib]
          refine RunC.cond rfl (fun _ => ?_) (fun g => by cases g)
          refine RunC.region (RunO.part 2 rfl ?_)
          refine RunO.at (s := 1) (k := i) rfl rfl sb1 rfl rfl hib (is_part hib) rfl rfl rfl (RunO.all rfl ?_)
          exact ⟨rfl, Le.cons rfl (Le.cons rfl (Le.cons rfl (Le.cons rfl (Le.cons rfl (Le.cons rfl (Le.nil _))))))⟩
        · rw [show decide ((i : Int) < (b.length : Int)) = false from decide_eq_false (by omega), List.getD_eq_getElem?_getD, List.getElem?_eq_none (by omega)]
          refine RunC.cond rfl (fun g => by cases g) (fun _ => RunC.skip ?_)
          exact ⟨rfl, Le.cons rfl (Le.cons rfl (Le.cons rfl (Le.cons rfl (Le.cons rfl (Le.cons rfl (Le.nil _))))))⟩
      refine RunC.seq (RunC.region (RunO.all rfl ?_))
      by_cases he : getI a i = getI b i
      · rw [if_pos he, List.append_nil] at hsu
        rw [show (getI a i != getI b i) = false by simp [he]]
        refine RunC.cond rfl (fun g => by cases g) (fun _ => RunC.skip ?_)
        refine RunC.region (RunO.all rfl ?_)
        exact ⟨k - 1, by omega, i + 1, ov, by omega, by rw [hsu]; exact row, f1, Le.cons (inc64 (by omega)) (Le.cons rfl (Le.cons rfl (Le.cons rfl (Le.nil _))))⟩
      · rw [if_neg he] at hsu
        rw [show (getI a i != getI b i) = true from bne_iff_ne.2 he]
        refine RunC.cond rfl (fun _ => ?_) (fun g => by cases g)
        generalize getI a i = x at *
        generalize getI b i = y at *
        refine RunC.region (RunO.part 6 (h1 := h1.push ⟨c3 ((i : Int), x, y), true⟩) rfl ?_)
        have fp : Fr no h1 (h1.push ⟨c3 ((i : Int), x, y), true⟩) := Fr.push _ _ _
        have ob := Ow.push h1 (c3 ((i : Int), x, y))
        have row2 := row.fr fp (fun _ _ _ g => g)
        generalize h1.push ⟨c3 ((i : Int), x, y), true⟩ = h2 at *
        refine RunO.append2 (s := 3) (m := 1) rfl rfl rfl rfl rfl rfl rfl rfl (by decide) row2 ob.all rfl (Nat.le_refl 1) rfl (by show 2 * (_ + 1) * 24 ≤ _; omega) (by omega) ?_
        intro ov2 h3 row3 f3
        have f13 : Fr no h h3 := (f1.same fp).trans f3 (fun b g => .inr (row2.at g).1)
        replace row3 : Row h.next h3 ov2 3 (chs (getI a) (getI b) 0 (i + 1)).length (cc (chs (getI a) (getI b) 0 (i + 1))) := by
          rw [hsu]
          exact Row.lo (row_chg row3) (f1.same fp).next
        refine RunO.all rfl ?_
        refine RunC.region (RunO.all rfl ?_)
        exact ⟨k - 1, by omega, i + 1, ov2, by omega, row3, f13, Le.cons (inc64 (by omega)) (Le.cons rfl (Le.cons rfl (Le.cons rfl (Le.nil _))))⟩
    · have hge := of_decide_eq_false hge
      have hie : i = max a.length b.length := by omega
      rw [hie] at row
      refine RunC.exit ?_
      exact RunC.seq (RunC.region (RunO.all rfl (RunC.ret ⟨_, rfl, row, f1⟩)))
  · exact ⟨0, _, by omega, Row.nil _ _ _, Fr.refl _ _, Le.cons rfl (Le.cons rfl (Le.cons rfl (Le.cons rfl (Le.nil _))))⟩
end Go.Proofs.Ytimefcnagilhlaa
end
section
set_option linter.unusedVariables false
set_option maxRecDepth 100000
open Go Go.Am Go.RowKit
namespace Go.Proofs.Ytimefcnagilhlaa
open Go.Proofs.Try
/-- The image lies apart. -/
def Away (lo gb : Nat) (iv : Value) (n : Nat) : Prop := ∀ b o c, iv = .slice (some ⟨b, o, none⟩) n c → b ≠ gb ∧ b < lo
theorem sl_away {lo gb : Nat} {h h' : Heap} {iv : Value} {n s : Nat} {cs : List Value} {M : Nat → Prop} (sl : Sl h iv s n cs) (ha : Away lo gb iv n) (hM : ∀ b, M b → b = gb ∨ lo ≤ b) (f : Fr M h h') : Sl h' iv s n cs := by
  refine ⟨sl.1, sl.2.1, sl.2.2.imp (fun y => y) ?_⟩
  rintro ⟨b, o, c, h1, h2, h3⟩
  have := ha b o c h1
  exact ⟨b, o, c, h1, h2, h3.fr f (fun g => by rcases hM b g with e | e <;> omega)⟩
theorem arr_store {t : TypeId} {h : Heap} {b : Nat} {qs ps : List Int} (ow : Ow h b (is qs)) (hq : qs.length = 8) (hp : ps.length = 8) (hs : Go.Am.sizeOf prog t = some 8) : astore prog h t ⟨b, 0, none⟩ (.agg ⟨is ps⟩) = some (h.put b (some ⟨is ps, true⟩)) := by
  have := store_ow (P := prog) (t := t) (v := .agg ⟨is ps⟩) (off := 0) ow hs (by show (is ps).length = 8; rw [is_len, hp]) (allCells_map (f := Value.int .i64) (fun _ => rfl) ps) (by rw [is_len, hq]; exact Nat.le_refl _)
  rw [this]
  congr 4
  show [] ++ is ps ++ (is qs).drop (0 + 8) = _
  rw [List.drop_of_length_le (by rw [is_len, hq]; omega)]; simp
theorem arr_load {h : Heap} {b : Nat} {ps : List Int} (hp : ps.length = 8) (ow : Ow h b (is ps)) : aload prog h 45 ⟨b, 0, none⟩ = some (.agg ⟨is ps⟩) := by
  refine Ow.ld ow ?_
  show (match takeN 8 (dropN 0 (is ps)) with | some l => some (Value.agg ⟨l⟩) | none => none) = _
  rw [takeN_eq, dropN_eq, List.drop_zero, if_pos (by rw [is_len, hp]; exact Nat.le_refl 8), List.take_of_length_le (by rw [is_len, hp]; exact Nat.le_refl _)]
end Go.Proofs.Ytimefcnagilhlaa
end
section
set_option linter.unusedVariables false
set_option maxRecDepth 100000
open Go Go.Am Go.RowKit
namespace Go.Proofs.Ytimefcnagilhlaa
open Go.Proofs.Try
/-- The cells of a walk through two trees. -/
def gc (iv : Value) (B : Nat) (lv : Value) (n : Nat) : List Value := [iv, .int .i64 (B : Int), lv, .int .i64 (n : Int)]
structure DW (lo : Nat) (h : Heap) (iv : Value) (B gb : Nat) (lv : Value) (cl : List (Int × Int × Int)) (n : Nat) : Prop where
  ow : Ow h gb (gc iv B lv n)
  row : Row lo h lv 3 cl.length (cc cl)
  gl : gb < lo
  ln : lo ≤ h.next
def DR (gb : Nat) (lv : Value) : Nat → Prop := fun b => b = gb ∨ At lv b
theorem DW.quiet {lo : Nat} {h h' : Heap} {iv : Value} {B gb : Nat} {lv : Value} {cl : List (Int × Int × Int)} {n : Nat} (t : DW lo h iv B gb lv cl n) (f : Fr no h h') : DW lo h' iv B gb lv cl n :=
  ⟨t.ow.fr f (fun g => g), t.row.fr f (fun _ _ _ g => g), t.gl, Nat.le_trans t.ln f.next⟩
set_option maxHeartbeats 4000000 in
theorem goerAt_ok {h : Heap} {lo B gb n : Nat} {iv lv : Value} {L : List Int} {cl : List (Int × Int × Int)} {p k : Int} (hb : Byt L) (hB : B * 64 ≤ L.length) (hm : L.length ≤ 4611686018427387904) (ha : Away lo gb iv L.length) (sl : Sl h iv 1 L.length (us L)) (t : DW lo h iv B gb lv cl n) (hn : n ≤ 100000) :
    RunF prog 73 [.pointer (some ⟨gb, 0, none⟩), .int .i64 p, .int .i64 k] h fun v h' => v = .agg ⟨is (ptrs L B p)⟩ ∧ DW lo h' iv B gb lv cl (n + one p) ∧ Fr (· = gb) h h' := by
  refine RunF.walk func73 rfl rfl ?_
  have t0 := t
  refine RunC.seq (RunC.region (RunO.part 1 (h1 := h.push ⟨is nZero, true⟩) rfl (RunO.all rfl ?_)))
  have oq : Ow (h.push ⟨is nZero, true⟩) h.next (is nZero) := Ow.push _ _
  have f1 : Fr no h (h.push ⟨is nZero, true⟩) := Fr.push _ _ _
  have hq : gb < h.next := t.ow.1
  have hq1 : h.next < (h.push ⟨is nZero, true⟩).next := oq.1
  have hln := t.ln
  have hgl := t.gl
  replace t := t.quiet f1
  replace sl := sl.fr0 f1
  generalize h.push ⟨is nZero, true⟩ = h1 at *
  obtain ⟨q, hqe⟩ : ∃ q, q = h.next := ⟨_, rfl⟩
  rw [← hqe] at oq hq hq1 ⊢
  refine RunC.seq (RunC.seq (RunC.region (RunO.all rfl ?_)))
  by_cases hp : p = 0
  · have e1 : ptrs L B p = nZero := by unfold ptrs; rw [if_pos hp]
    have e2 : n + one p = n := by unfold one; rw [if_pos hp]; rfl
    rw [e1, e2, show (p == 0) = true from beq_iff_eq.2 hp]
    refine RunC.cond rfl (fun _ => ?_) (fun g => by cases g)
    refine RunC.seq (RunC.region (RunO.part 1 rfl ?_))
    refine RunO.store rfl rfl (arr_store (ps := nZero) oq rfl rfl rfl) (RunO.all rfl ?_)
    have f2 : Fr (· = q) h1 (h1.put q (some ⟨is nZero, true⟩)) := Fr.put _ (.inl rfl)
    have F : Fr (· = gb) h (h1.put q (some ⟨is nZero, true⟩)) := (f1.weak (fun _ g => g.elim)).trans f2 (fun b e => .inr (by omega))
    exact RunC.ret ⟨_, eresults_cell1 rfl (arr_load rfl (Ow.put (is nZero) oq.1)), rfl,
      ⟨t.ow.fr f2 (show ¬ gb = q by omega), t0.row.fr F (fun b h1 _ e => by omega), t0.gl, Nat.le_trans t0.ln F.next⟩, F⟩
  have e1 : ptrs L B p = (atV L B p).2 := by unfold ptrs; rw [if_neg hp]
  have e2 : n + one p = n + 1 := by unfold one; rw [if_neg hp]
  rw [e1, e2, show (p == 0) = false from beq_eq_false_iff_ne.2 hp]
  refine RunC.cond rfl (fun g => by cases g) (fun _ => RunC.skip ?_)
  have ow1 := t.ow
  refine RunC.seq (RunC.region (RunO.part 3 rfl ?_))
  refine RunO.load (v := .int .i64 (n : Int)) rfl (ow1.ld rfl) rfl ?_
  refine RunO.part 3 rfl ?_
  rw [fw64 (x := (n : Int) + 1) (by omega) (by omega), show (n : Int) + 1 = ((n + 1 : Nat) : Int) by omega]
  refine RunO.store rfl rfl (store1_ow ow1 rfl rfl rfl (Nat.le_of_ble_eq_true rfl)) (RunO.nil ?_)
  change RunC _ _ _ _ (h1.put gb (some ⟨gc iv B lv (n + 1), true⟩)) _ _ _
  have ow2 : Ow (h1.put gb (some ⟨gc iv B lv (n + 1), true⟩)) gb (gc iv B lv (n + 1)) := Ow.put _ ow1.1
  have f2 : Fr (· = gb) h1 (h1.put gb (some ⟨gc iv B lv (n + 1), true⟩)) := Fr.put _ (.inl rfl)
  have oq2 := oq.fr f2 (show ¬ q = gb by omega)
  have sl2 := sl_away sl ha (fun b e => .inl e) f2
  have F2 : Fr (· = gb) h (h1.put gb (some ⟨gc iv B lv (n + 1), true⟩)) := (f1.weak (fun _ g => g.elim)).trans f2 (fun b e => .inl e)
  generalize h1.put gb (some ⟨gc iv B lv (n + 1), true⟩) = h2 at *
  refine RunC.seq (RunC.draw0 rfl ?_)
  refine RunO.part 3 rfl ?_
  refine RunO.load (v := iv) rfl (ow2.ld rfl) rfl ?_
  refine RunO.part 3 rfl ?_
  refine RunO.load (v := .int .i64 (B : Int)) rfl (ow2.ld rfl) rfl ?_
  refine RunO.part 2 rfl ?_
  refine RunO.callD (treeAt_ok sl2 hb hB hm) rfl rfl rfl ?_
  rintro _ h3 ⟨rfl, f3⟩
  have hpl := atV_len L B p
  generalize atV L B p = nd at *
  obtain ⟨nl, ps⟩ := nd
  simp only at hpl
  have ow3 := ow2.fr f3 (fun g => g)
  have oq3 := oq2.fr f3 (fun g => g)
  have F3 := F2.quiet f3
  refine RunO.part 4 (h1 := h3.push ⟨nc 0 nZero, true⟩) rfl ?_
  refine RunO.store rfl rfl (nc_store (lv := nl) (ps := ps) (Ow.push h3 (nc 0 nZero)) rfl hpl rfl) (RunO.all rfl ?_)
  have on : Ow ((h3.push ⟨nc 0 nZero, true⟩).put h3.next (some ⟨nc nl ps, true⟩)) h3.next (nc nl ps) := Ow.put _ (Nat.lt_succ_self _)
  have f4 : Fr no h3 ((h3.push ⟨nc 0 nZero, true⟩).put h3.next (some ⟨nc nl ps, true⟩)) := (Fr.push _ _ _).trans (Fr.put (m := (· = h3.next)) _ (.inl rfl)) (fun j hj => .inr (by omega))
  generalize (h3.push ⟨nc 0 nZero, true⟩).put h3.next (some ⟨nc nl ps, true⟩) = h4 at *
  generalize h3.next = qn at *
  have ow4 := ow3.fr f4 (fun g => g)
  have oq4 := oq3.fr f4 (fun g => g)
  have F4 := F3.quiet f4
  refine RunC.seq (RunC.region (RunO.part 1 rfl ?_))
  refine RunO.load (v := .agg ⟨is ps⟩) rfl (nc_ptrs hpl on) rfl ?_
  refine RunO.store rfl rfl (arr_store (ps := ps) oq4 rfl hpl rfl) (RunO.all rfl ?_)
  have f5 : Fr (· = q) h4 (h4.put q (some ⟨is ps, true⟩)) := Fr.put _ (.inl rfl)
  have F5 : Fr (· = gb) h (h4.put q (some ⟨is ps, true⟩)) := F4.trans f5 (fun b e => .inr (by omega))
  exact RunC.ret ⟨_, eresults_cell1 rfl (arr_load hpl (Ow.put (is ps) oq4.1)), rfl,
    ⟨ow4.fr f5 (show ¬ gb = q by omega), t0.row.fr F5 (fun b h1 _ e => by omega), t0.gl, Nat.le_trans t0.ln F5.next⟩, F5⟩
end Go.Proofs.Ytimefcnagilhlaa
end
section
set_option linter.unusedVariables false
set_option maxRecDepth 100000
open Go Go.Am Go.RowKit
namespace Go.Proofs.Ytimefcnagilhlaa
open Go.Proofs.Try
def GoesD (L : List Int) (B lo gb : Nat) (iv : Value) (k : Nat) : Prop := ∀ {h : Heap} {lv : Value} {cl : List (Int × Int × Int)} {n : Nat} {a b : Int} {f : Nat},
    Sl h iv 1 L.length (us L) → DW lo h iv B gb lv cl n → cl.length + 8 ^ k ≤ 50000 → n + cB k ≤ 50000 → f + 8 ^ k ≤ 512 →
    RunF prog 52 [.pointer (some ⟨gb, 0, none⟩), .int .i64 a, .int .i64 b, .int .i64 ((k : Int) - 1), .int .i64 (f : Int)] h fun v h' => v = .tuple #[] ∧ Fr (DR gb lv) h h' ∧ ∃ lv', DW lo h' iv B gb lv' (cl ++ (dgo L B k a b f).1) (n + (dgo L B k a b f).2) ∧ ∀ b, At lv' b → At lv b ∨ h.next ≤ b
theorem DR_at {lo gb : Nat} {h : Heap} {iv lv : Value} {B n : Nat} {cl : List (Int × Int × Int)} (t : DW lo h iv B gb lv cl n) : ∀ b, DR gb lv b → b = gb ∨ lo ≤ b := by
  rintro b (e | e)
  · exact .inl e
  · exact .inr (t.row.at e).1
theorem arr_at {h : Heap} {b : Nat} {ps : List Int} {i : Nat} (hi : i < ps.length) (ow : Ow h b (is ps)) : aload prog h 3 ⟨b, 0 + i * 1, none⟩ = some (.int .i64 (ps.getD i 0)) := by
  refine Ow.ld ow ?_
  rw [List.getD_eq_getElem?_getD, List.getElem?_eq_getElem hi, Nat.zero_add]
  exact is_part hi
set_option maxHeartbeats 16000000 in
theorem dgoes_body {L : List Int} {B lo gb : Nat} {iv : Value} (hb : Byt L) (hB : B * 64 ≤ L.length) (hm : L.length ≤ 4611686018427387904) (ha : Away lo gb iv L.length)
    {k : Nat} (hk : k ≤ 3) (hrec : ∀ j, k = j + 1 → GoesD L B lo gb iv j) : GoesD L B lo gb iv k := by
  intro h lv cl n a b f sl t hcl hn hf
  refine RunF.walk func52 rfl rfl ?_
  refine RunC.seq (RunC.seq (RunC.region (RunO.all rfl ?_)))
  have hgl := t.gl
  have hln := t.ln
  by_cases hab : a = b
  · have e : dgo L B k a b f = ([], 0) := by
      cases k with
      | zero => show (if a = b then _ else _) = _; rw [if_pos hab]
      | succ k => rw [dgo_succ, if_pos hab]
    rw [e, show (a == b) = true from beq_iff_eq.2 hab]
    exact RunC.cond rfl (fun _ => RunC.ret ⟨_, rfl, rfl, Fr.refl _ _, lv, by rw [List.append_nil]; exact t, fun b g => .inl g⟩) (fun g => by cases g)
  rw [show (a == b) = false from beq_eq_false_iff_ne.2 hab]
  refine RunC.cond rfl (fun g => by cases g) (fun _ => RunC.skip ?_)
  refine RunC.seq (RunC.seq (RunC.region (RunO.all rfl ?_)))
  have ow := t.ow
  cases k with
  | zero =>
    have e : dgo L B 0 a b f = ([((f : Int), a, b)], 0) := by show (if a = b then _ else _) = _; rw [if_neg hab]
    rw [e]
    refine RunC.cond rfl (fun _ => ?_) (fun g => by cases g)
    refine RunC.seq (RunC.region (RunO.part 4 rfl ?_))
    refine RunO.load (v := lv) rfl (ow.ld rfl) rfl ?_
    refine RunO.part 5 (h1 := h.push ⟨c3 ((f : Int), a, b), true⟩) rfl ?_
    have fp : Fr no h (h.push ⟨c3 ((f : Int), a, b), true⟩) := Fr.push _ _ _
    have ob := Ow.push h (c3 ((f : Int), a, b))
    have t2 := t.quiet fp
    have hnx := fp.next
    generalize h.push ⟨c3 ((f : Int), a, b), true⟩ = h2 at *
    refine RunO.append2 (s := 3) (m := 1) rfl rfl rfl rfl rfl rfl rfl rfl (by decide) t2.row ob.all rfl (Nat.le_refl 1) rfl (by show 2 * (_ + 1) * 24 ≤ _; omega) (by omega) ?_
    intro lv2 h3 row3 f3
    have hat : ∀ b, At lv b → lo ≤ b := fun b ha => (t2.row.at ha).1
    have ow3 := t2.ow.fr f3 (fun g => by have := hat _ g; omega)
    have hr3 : ∀ b, At lv2 b → h.next ≤ b := fun b g => Nat.le_trans hnx (row3.at g).1
    refine RunO.part 2 rfl ?_
    refine RunO.store rfl rfl (store1_ow ow3 rfl row3.cell.1 row3.cell.2 (Nat.le_of_ble_eq_true rfl)) (RunO.all rfl ?_)
    have fw : Fr (· = gb) h3 (h3.put gb (some ⟨gc iv B lv2 n, true⟩)) := Fr.put _ (.inl rfl)
    replace row3 : Row lo h3 lv2 3 (cl ++ [((f : Int), a, b)]).length (cc (cl ++ [((f : Int), a, b)])) := Row.lo (row_chg row3) t2.ln
    exact RunC.ret ⟨_, rfl, rfl, ((fp.weak (m1 := DR gb lv) (fun _ g => g.elim)).trans f3 (fun b g => .inl (.inr g))).trans fw (fun b e => .inl (.inl e)), lv2,
      ⟨Ow.put _ ow3.1, row3.fr fw (fun b h1 _ e => by omega), t.gl, Nat.le_trans (Nat.le_trans t2.ln f3.next) fw.next⟩, fun b g => .inr (hr3 b g)⟩
  | succ k =>
    have hlt : decide ((((k + 1 : Nat) : Int) - 1) < 0) = false := decide_eq_false (by omega)
    rw [hlt]
    refine RunC.cond rfl (fun g => by cases g) (fun _ => RunC.skip ?_)
    have hk1 : ((k + 1 : Nat) : Int) - 1 = (k : Int) := by omega
    rw [hk1]
    have hcb : cB (k + 1) = 2 + 8 * cB k := rfl
    have hp8 : 8 ^ (k + 1) = 8 ^ k * 8 := Nat.pow_succ ..
    have hpos : 1 ≤ 8 ^ k := Nat.pow_pos (by decide)
    have hk8 : 8 ^ k ≤ 64 := by
      have : 8 ^ k ≤ 8 ^ 2 := Nat.pow_le_pow_right (by decide) (by omega)
      exact this
    have ho1 := one_le a
    have ho2 := one_le b
    have hat0 : ∀ b, At lv b → lo ≤ b ∧ b < h.next := fun b g => t.row.at g
    -- the two nodes
    refine RunC.seq (RunC.region (RunO.part 3 rfl ?_))
    refine RunO.callD (goerAt_ok hb hB hm ha sl t (by omega)) rfl rfl rfl ?_
    rintro _ h1 ⟨rfl, t1, f1⟩
    have sl1 := sl_away sl ha (fun b e => .inl e) f1
    refine RunO.part 3 rfl ?_
    refine RunO.callD (goerAt_ok hb hB hm ha sl1 t1 (by omega)) rfl rfl rfl ?_
    rintro _ h2 ⟨rfl, t2, f2⟩
    have sl2 := sl_away sl1 ha (fun b e => .inl e) f2
    have F2 : Fr (DR gb lv) h h2 := (f1.same f2).weak (fun b e => .inl (.inl e))
    have hla := ptrs_len L B a
    have hlb := ptrs_len L B b
    -- what is to come
    obtain ⟨W, hW⟩ : ∃ W : Nat → List (Int × Int × Int) × Nat, W = dgoI L B k a b f := ⟨_, rfl⟩
    have hW8 : dgo L B (k + 1) a b f = W 8 := by rw [dgo_succ, if_neg hab, hW]
    rw [hW8]
    have hWs : ∀ i, W (i + 1) = ((W i).1 ++ (dgo L B k ((ptrs L B a).getD i 0) ((ptrs L B b).getD i 0) (f + i * 8 ^ k)).1, (W i).2 + (dgo L B k ((ptrs L B a).getD i 0) ((ptrs L B b).getD i 0) (f + i * 8 ^ k)).2) := fun i => by rw [hW]; exact dgoI_succ ..
    have hWl : ∀ i, (W i).1.length ≤ i * 8 ^ k := fun i => by rw [hW]; exact dgoI_llen ..
    have hWc : ∀ i, (W i).2 ≤ 2 + i * cB k := fun i => by rw [hW]; exact dgoI_cB ..
    have hW0 : W 0 = ([], one a + one b) := by rw [hW]; rfl
    clear hW hW8
    generalize ptrs L B a = pa at *
    generalize ptrs L B b = pb at *
    -- two arrays
    refine RunO.part 1 (h1 := h2.push ⟨is nZero, true⟩) rfl ?_
    obtain ⟨xb, hxb⟩ : ∃ xb, xb = h2.next := ⟨_, rfl⟩
    have hx0 := Ow.push h2 (is nZero)
    have f3a : Fr no h2 (h2.push ⟨is nZero, true⟩) := Fr.push _ _ _
    rw [← hxb] at hx0 ⊢
    generalize h2.push ⟨is nZero, true⟩ = h2a at *
    refine RunO.part 1 (h1 := h2a.push ⟨is nZero, true⟩) rfl ?_
    obtain ⟨yb, hyb⟩ : ∃ yb, yb = h2a.next := ⟨_, rfl⟩
    have hy0 := Ow.push h2a (is nZero)
    have f3b : Fr no h2a (h2a.push ⟨is nZero, true⟩) := Fr.push _ _ _
    have hyn : xb < yb := by have := hx0.1; rw [hyb]; exact this
    have hxy : xb ≠ yb := by omega
    replace hx0 := hx0.fr f3b (fun g => g)
    rw [← hyb] at hy0 ⊢
    have f3 := f3a.same f3b
    clear f3a f3b
    generalize h2a.push ⟨is nZero, true⟩ = h3 at *
    have hnx : h.next ≤ xb := by rw [hxb]; exact F2.next
    refine RunO.store rfl rfl (arr_store (ps := pa) hx0 rfl hla rfl) ?_
    have f4 : Fr (· = xb) h3 (h3.put xb (some ⟨is pa, true⟩)) := Fr.put _ (.inl rfl)
    have ox := Ow.put (h := h3) (b := xb) (is pa) hx0.1
    have hy1 := hy0.fr f4 (fun e => hxy e.symm)
    generalize h3.put xb (some ⟨is pa, true⟩) = h4 at *
    refine RunO.store rfl rfl (arr_store (ps := pb) hy1 rfl hlb rfl) (RunO.nil ?_)
    change RunC _ _ _ _ (h4.put yb (some ⟨is pb, true⟩)) _ _ _
    have f5 : Fr (· = yb) h4 (h4.put yb (some ⟨is pb, true⟩)) := Fr.put _ (.inl rfl)
    have oy := Ow.put (h := h4) (b := yb) (is pb) hy1.1
    replace ox := ox.fr f5 hxy
    generalize h4.put yb (some ⟨is pb, true⟩) = h5 at *
    have f25 : Fr no h2 h5 := (f3.trans f4 (fun b e => .inr (by omega))).trans f5 (fun b e => .inr (by omega))
    have t5 := t2.quiet f25
    have sl5 := sl2.fr0 f25
    have F5 := F2.quiet f25
    have hxl : xb < h5.next := ox.1
    clear f3 f4 f5 hx0 hy0 hy1 t1 t2 sl1 sl2 f1 f2 F2
    -- pointer by pointer
    refine RunC.seq (RunC.region (RunO.all rfl ?_))
    refine RunC.block ?_
    let I : Nat → Env → Heap → Prop := fun d E h' => ∃ (i : Nat) (lv' : Value), i + d = 8 ∧ DW lo h' iv B gb lv' (cl ++ (W i).1) (n + (W i).2) ∧ Sl h' iv 1 L.length (us L) ∧ Ow h' xb (is pa) ∧ Ow h' yb (is pb) ∧ Fr (DR gb lv) h h' ∧ (∀ b, At lv' b → At lv b ∨ h.next ≤ b) ∧ (∀ b, At lv' b → b ≠ xb ∧ b ≠ yb) ∧
      Le (upd (upd (upd (upd (upd (upd E0 0 (.pointer (some ⟨gb, 0, none⟩))) 3 (.int .i64 (k : Int))) 4 (.int .i64 (f : Int))) 10 (.pointer (some ⟨xb, 0, none⟩))) 11 (.pointer (some ⟨yb, 0, none⟩))) 39 (.int .i64 (i : Int))) E
    refine RunC.loop I ?_ (k := 8) ?_
    · rintro d E h6 ⟨i, lv6, hi, t6, sl6, ox6, oy6, F6, hr6, hq6, hE⟩
      refine RunC.le hE ?_
      clear hE
      refine RunC.seq (RunC.region (RunO.all rfl ?_))
      refine RunC.seq (RunC.cond rfl (fun hlt => RunC.skip ?_) (fun hge => ?_))
      · have hlt := of_decide_eq_true hlt
        have hi8 : i < 8 := by omega
        have h1 := hWl i
        have h2' := hWc i
        have hstep := hWs i
        have hto : f + i * 8 ^ k + 8 ^ k ≤ 512 := by
          have : i * 8 ^ k + 8 ^ k ≤ 8 ^ k * 8 := by rw [← Nat.succ_mul, Nat.mul_comm]; exact Nat.mul_le_mul_left _ hi8
          omega
        have hcl6 : (cl ++ (W i).1).length + 8 ^ k ≤ 50000 := by
          have : i * 8 ^ k + 8 ^ k ≤ 8 ^ k * 8 := by rw [← Nat.succ_mul, Nat.mul_comm]; exact Nat.mul_le_mul_left _ hi8
          rw [List.length_append]; omega
        have hn6 : n + (W i).2 + cB k ≤ 50000 := by
          have : i * cB k + cB k ≤ 8 * cB k := by rw [← Nat.succ_mul]; exact Nat.mul_le_mul_right _ hi8
          omega
        have hpa : i < pa.length := by omega
        have hpb : i < pb.length := by omega
        have hmul : (i : Int) * ((8 ^ k : Nat) : Int) = ((i * 8 ^ k : Nat) : Int) := by rw [Int.natCast_mul]
        have hib : i * 8 ^ k ≤ 512 := by omega
        refine RunC.seq (RunC.block ?_)
        refine RunC.seq (RunC.region (RunO.all rfl ?_))
        refine RunC.drawT 15 (DR gb lv6) rfl ?_
        refine RunQ.part 2 rfl ?_
        refine RunQ.indexA (s := 1) (k := i) rfl rfl rfl rfl rfl hi8 rfl ?_
        refine RunQ.load (v := .int .i64 (pa.getD i 0)) rfl rfl (arr_at hpa ox6) rfl ?_
        refine RunQ.part 1 rfl ?_
        refine RunQ.indexA (s := 1) (k := i) rfl rfl rfl rfl rfl hi8 rfl ?_
        refine RunQ.load (v := .int .i64 (pb.getD i 0)) rfl rfl (arr_at hpb oy6) rfl ?_
        refine RunQ.part 5 rfl ?_
        refine RunQ.call rfl (nodUnder_ok (k := k) (by omega)) (fun v h1 q => by obtain ⟨_, rfl⟩ := q; exact Fr.refl _ _) rfl rfl rfl ?_
        rintro _ _ ⟨rfl, rfl⟩
        refine RunQ.lo ?_
        refine RunQ.part 1 rfl ?_
        rw [hmul, fw64 (x := ((i * 8 ^ k : Nat) : Int)) (by omega) (by omega)]
        refine RunQ.all rfl ?_
        rw [fw64 (x := (f : Int) + ((i * 8 ^ k : Nat) : Int)) (by omega) (by omega), show (f : Int) + ((i * 8 ^ k : Nat) : Int) = ((f + i * 8 ^ k : Nat) : Int) by omega]
        rw [fw64 (x := (k : Int) - 1) (by omega) (by omega)]
        have sl6' : Sl (h6.lo h6.next) iv 1 L.length (us L) := sl6
        have t6' : DW lo (h6.lo h6.next) iv B gb lv6 (cl ++ (W i).1) (n + (W i).2) := ⟨t6.ow, t6.row, t6.gl, t6.ln⟩
        refine RunT.callG rfl (hrec k rfl (a := pa.getD i 0) (b := pb.getD i 0) (f := f + i * 8 ^ k) sl6' t6' hcl6 hn6 hto) (fun v h1 q => q.2.1) rfl rfl ?_
        rintro _ h7 ⟨rfl, f7, lv7, t7, r7⟩
        refine ⟨_, rfl, RunT.nil ?_⟩
        intro lw F67
        have hst1 : (cl ++ (W i).1) ++ (dgo L B k (pa.getD i 0) (pb.getD i 0) (f + i * 8 ^ k)).1 = cl ++ (W (i + 1)).1 := by rw [hstep, List.append_assoc]
        have hst2 : n + (W i).2 + (dgo L B k (pa.getD i 0) (pb.getD i 0) (f + i * 8 ^ k)).2 = n + (W (i + 1)).2 := by rw [hstep, Nat.add_assoc]
        rw [hst1, hst2] at t7
        have t8 : DW lo (h7.lo lw) iv B gb lv7 (cl ++ (W (i + 1)).1) (n + (W (i + 1)).2) := ⟨t7.ow, t7.row, t7.gl, t7.ln⟩
        have hnx7 : h6.next ≤ h7.next := f7.next
        have r7 : ∀ b, At lv7 b → At lv6 b ∨ h6.next ≤ b := r7
        have hx6 := ox6.1
        have hy6 := oy6.1
        have hh6 := F6.next
        clear hrec t7 f7 sl6' t6'
        generalize h7.lo lw = h8 at *
        refine RunC.region (RunO.all rfl ?_)
        refine ⟨d - 1, by omega, i + 1, lv7, by omega, t8, sl_away sl6 ha (DR_at t6) F67, ox6.fr F67 ?_, oy6.fr F67 ?_, F6.trans F67 ?_, ?_, ?_, Le.cons (inc64 (by omega)) (Le.cons rfl (Le.cons rfl (Le.cons rfl (Le.cons rfl (Le.cons rfl (Le.nil _))))))⟩
        · rintro (e | e)
          · omega
          · exact (hq6 _ e).1 rfl
        · rintro (e | e)
          · omega
          · exact (hq6 _ e).2 rfl
        · rintro b (e | e)
          · exact .inl (.inl e)
          · exact (hr6 b e).imp (fun g => .inr g) id
        · intro b g
          rcases r7 b g with e | e
          · exact hr6 b e
          · exact .inr (by omega)
        · intro b g
          rcases r7 b g with e | e
          · exact hq6 b e
          · omega
      · have hge := of_decide_eq_false hge
        obtain rfl : i = 8 := by omega
        refine RunC.exit ?_
        exact ⟨_, rfl, rfl, F6, lv6, t6, hr6⟩
    · refine ⟨0, lv, by omega, by rw [hW0, List.append_nil, ← Nat.add_assoc]; exact t5, sl5, ox, oy, F5, fun b g => .inl g, fun b g => ?_, Le.cons rfl (Le.cons rfl (Le.cons rfl (Le.cons rfl (Le.cons rfl (Le.cons rfl (Le.nil _))))))⟩
      have := hat0 b g
      omega
theorem dgoes_ok {L : List Int} {B lo gb : Nat} {iv : Value} (hb : Byt L) (hB : B * 64 ≤ L.length) (hm : L.length ≤ 4611686018427387904) (ha : Away lo gb iv L.length) : ∀ k, k ≤ 3 → GoesD L B lo gb iv k := by
  intro k
  induction k with
  | zero => intro h; exact dgoes_body hb hB hm ha h (fun j e => by cases e)
  | succ k ih => intro h; exact dgoes_body hb hB hm ha h (fun j e => by cases e; exact ih (by omega))
end Go.Proofs.Ytimefcnagilhlaa
end
section
set_option linter.unusedVariables false
set_option maxRecDepth 100000
open Go Go.Am Go.RowKit
namespace Go.Proofs.Ytimefcnagilhlaa
open Go.Proofs.Try
/-- Why two trees have no changes. -/
def diffE (L : List Int) (a b : Int) : Int := if treeE L a = 0 then treeE L b else treeE L a
def diffL (L : List Int) (a b : Int) : List (Int × Int × Int) := if diffE L a b = 0 then (dgo L (L.length / 64) 3 a b 0).1 else []
def diffN (L : List Int) (a b : Int) : Nat := if diffE L a b = 0 then (dgo L (L.length / 64) 3 a b 0).2 else 0
theorem diffL_len (L : List Int) (a b : Int) : (diffL L a b).length ≤ 512 := by
  unfold diffL; split
  · exact dgo_llen L _ 3 a b 0
  · exact Nat.zero_le _
theorem diffN_le (L : List Int) (a b : Int) : diffN L a b ≤ 146 := by
  unfold diffN; split
  · exact dgo_cB L _ 3 a b 0
  · exact Nat.zero_le _
set_option maxHeartbeats 8000000 in
theorem diffTrees_ok {h : Heap} {iv : Value} {L : List Int} {a b : Int} (sl : Sl h iv 1 L.length (us L)) (hb : Byt L) (hm : L.length ≤ 4611686018427387904) :
    RunF prog 30 [iv, .int .i64 a, .int .i64 b] h fun v h' => Fr no h h' ∧ ∃ lv, v = .tuple #[lv, .int .i64 (diffN L a b : Nat), .int .i64 (diffE L a b)] ∧ Row h.next h' lv 3 (diffL L a b).length (cc (diffL L a b)) := by
  refine RunF.walk func30 rfl rfl ?_
  refine RunC.seq (RunC.region (RunO.all rfl ?_))
  refine RunC.seq (RunC.region (RunO.part 2 rfl ?_))
  refine RunO.callD (treeMapS_ok (root := a) sl hb hm) rfl rfl rfl ?_
  rintro _ h1 ⟨f1, gv, rfl, _⟩
  have sl1 := sl.fr0 f1
  refine RunO.all rfl ?_
  have bad : ∀ (E : Env) (h' : Heap) (e : Int), e ≠ 0 → diffE L a b = e → Fr no h h' → Fr no h h' ∧ ∃ lv, Value.tuple #[.slice none 0 0, .int .i64 0, .int .i64 e] = .tuple #[lv, .int .i64 (diffN L a b : Nat), .int .i64 (diffE L a b)] ∧ Row h.next h' lv 3 (diffL L a b).length (cc (diffL L a b)) := by
    intro E h' e h1 h2 f
    refine ⟨f, .slice none 0 0, ?_, ?_⟩
    · unfold diffN; rw [h2, if_neg h1]; rfl
    · unfold diffL; rw [h2, if_neg h1]; exact Row.nil _ _ _
  refine RunC.seqc (fun E' h' => Fr no h h' ∧ Le (upd (upd (upd (upd E0 0 iv) 1 (.int .i64 a)) 2 (.int .i64 b)) 8 (.int .i64 (diffE L a b))) E') ?_ ?_
  · refine RunC.seq (RunC.region (RunO.all rfl ?_))
    by_cases he : treeE L a = 0
    · have hE : diffE L a b = treeE L b := by unfold diffE; rw [if_pos he]
      rw [hE, he]
      refine RunC.cond rfl (fun _ => ?_) (fun g => by cases g)
      refine RunC.region (RunO.part 2 rfl ?_)
      refine RunO.callD (treeMapS_ok (root := b) sl1 hb hm) rfl rfl rfl ?_
      rintro _ h2 ⟨f2, gv2, rfl, _⟩
      exact RunO.all rfl ⟨f1.same f2, Le.cons rfl (Le.cons rfl (Le.cons rfl (Le.cons rfl (Le.nil _))))⟩
    · have hE : diffE L a b = treeE L a := by unfold diffE; rw [if_neg he]
      rw [hE, show (treeE L a == 0) = false from beq_eq_false_iff_ne.2 he]
      refine RunC.cond rfl (fun g => by cases g) (fun _ => RunC.skip ?_)
      exact ⟨f1, Le.cons rfl (Le.cons rfl (Le.cons rfl (Le.cons rfl (Le.nil _))))⟩
  rintro E' h2 ⟨f2, hE⟩
  refine RunC.le hE ?_
  clear hE f1 sl1
  have sl2 := sl.fr0 f2
  refine RunC.seq (RunC.seq (RunC.region (RunO.all rfl ?_)))
  by_cases he : diffE L a b = 0
  case neg =>
    rw [show (diffE L a b != 0) = true from bne_iff_ne.2 he]
    refine RunC.cond rfl (fun _ => ?_) (fun g => by cases g)
    exact RunC.seq (RunC.region (RunO.all rfl (RunC.ret ⟨_, rfl, bad E0 h2 _ he rfl f2⟩)))
  rw [show (diffE L a b != 0) = false by rw [he]; rfl]
  refine RunC.cond rfl (fun g => by cases g) (fun _ => RunC.skip ?_)
  have hdev : devOk L.length = true := by
    have : treeE L a = 0 := by
      unfold diffE at he
      split at he
      · assumption
      · exact he
    exact (treeE_ok this).2
  have hdl : L.length % 64 = 0 ∧ 4 ≤ L.length / 64 ∧ L.length / 64 ≤ 4096 := by
    have hdev := hdev
    unfold devOk at hdev
    simpa using hdev
  have hL : diffL L a b = (dgo L (L.length / 64) 3 a b 0).1 := by unfold diffL; rw [if_pos he]
  have hN : diffN L a b = (dgo L (L.length / 64) 3 a b 0).2 := by unfold diffN; rw [if_pos he]
  rw [he, hL, hN]
  obtain ⟨B, hBe⟩ : ∃ B, B = L.length / 64 := ⟨_, rfl⟩
  rw [← hBe] at hdl ⊢
  clear bad hL hN
  have hAlt : ∀ b o c, iv = .slice (some ⟨b, o, none⟩) L.length c → b < h2.next := fun b o c e => by
    obtain ⟨A, c', rfl, hc, hA⟩ := sl2.form
    obtain ⟨b', o', rfl, rd⟩ := hA (by omega)
    cases e; exact rd.2.1
  have sl20 := sl2
  obtain ⟨A, c, hiv, hc, hA⟩ := sl2.form
  subst hiv
  refine RunC.seq (RunC.region (RunO.all (h1 := h2.push ⟨gc (.slice A L.length c) 0 (.slice none 0 0) 0, true⟩) rfl ?_))
  have ow := Ow.push h2 (gc (.slice A L.length c) 0 (.slice none 0 0) 0)
  have f3 : Fr no h2 (h2.push ⟨gc (.slice A L.length c) 0 (.slice none 0 0) 0, true⟩) := Fr.push _ _ _
  have hn3 : (h2.push ⟨gc (.slice A L.length c) 0 (.slice none 0 0) 0, true⟩).next = h2.next + 1 := rfl
  have sl3 := sl20.fr0 f3
  generalize h2.push ⟨gc (.slice A L.length c) 0 (.slice none 0 0) 0, true⟩ = h3 at *
  obtain ⟨gb, hgb⟩ : ∃ gb, gb = h2.next := ⟨_, rfl⟩
  rw [← hgb] at ow hn3 hAlt ⊢
  refine RunC.seq (RunC.region (RunO.part 2 rfl ?_))
  refine RunO.callD (devCheck_ok hm) rfl rfl rfl ?_
  rintro _ _ ⟨rfl, rfl⟩
  rw [hdev, if_pos rfl, if_pos rfl, ← hBe]
  refine RunO.part 5 rfl ?_
  refine RunO.store rfl rfl (store1_ow ow rfl rfl rfl (Nat.le_of_ble_eq_true rfl)) (RunO.nil ?_)
  obtain ⟨iv, hiv⟩ : ∃ iv, iv = Value.slice A L.length c := ⟨_, rfl⟩
  rw [← hiv] at sl3 hAlt ow ⊢
  change RunC _ _ _ _ (h3.put gb (some ⟨gc iv B (.slice none 0 0) 0, true⟩)) _ _ _
  have ow4 : Ow (h3.put gb (some ⟨gc iv B (.slice none 0 0) 0, true⟩)) gb (gc iv B (.slice none 0 0) 0) := Ow.put _ ow.1
  have f4 : Fr (· = gb) h3 (h3.put gb (some ⟨gc iv B (.slice none 0 0) 0, true⟩)) := Fr.put _ (.inl rfl)
  have ha : Away h3.next gb iv L.length := fun b o c e => by have := hAlt b o c e; omega
  have sl4 := sl_away sl3 ha (fun b e => .inl e) f4
  have F4 : Fr no h (h3.put gb (some ⟨gc iv B (.slice none 0 0) 0, true⟩)) := (f2.same f3).trans f4 (fun b e => .inr (by have := f2.next; omega))
  have hn4 : (h3.put gb (some ⟨gc iv B (.slice none 0 0) 0, true⟩)).next = h3.next := rfl
  generalize h3.put gb (some ⟨gc iv B (.slice none 0 0) 0, true⟩) = h4 at *
  have t4 : DW h3.next h4 iv B gb (.slice none 0 0) [] 0 := ⟨ow4, Row.nil _ _ _, by omega, by omega⟩
  refine RunC.seq (RunC.region (RunO.part 3 rfl ?_))
  refine RunO.callD (dgoes_ok hb (by omega) hm ha 3 (Nat.le_refl 3) (a := a) (b := b) (f := 0) sl4 t4 (by decide) (by decide) (by decide)) rfl rfl rfl ?_
  rintro _ h5 ⟨rfl, f5, lv, t5, r5⟩
  refine RunO.nil ?_
  rw [List.nil_append, Nat.zero_add] at t5
  have F5 : Fr no h h5 := F4.trans f5 (fun b e => .inr (by
    rcases e with e | ⟨_, _, e⟩
    · have := f2.next; omega
    · cases e))
  have ow5 := t5.ow
  refine RunC.seq (RunC.draw0 rfl ?_)
  refine RunO.part 3 rfl ?_
  refine RunO.load (v := lv) rfl (ow5.ld rfl) rfl ?_
  refine RunO.part 3 rfl ?_
  refine RunO.load (v := .int .i64 ((dgo L B 3 a b 0).2 : Nat)) rfl (ow5.ld rfl) rfl (RunO.all rfl ?_)
  exact RunC.ret ⟨_, rfl, F5, lv, rfl, Row.lo t5.row (by have := f2.next; omega)⟩
end Go.Proofs.Ytimefcnagilhlaa
end
