/- SuperPick: part of a calculus over an abstract machine that stands beside the model, and contracts of functions by it.
Conditions: what each theorem says of its arguments. -/
import Derived.Test.YtaaemamcdhebhaaDev2
import Derived.Test.YtaaemamcdhebhaaSuperP
import Derived.Test.YtaaemamcdhebhaaChg
import Derived.Test.YtaaemamcdhebhaaLaid
import Derived.Test.YtaaemamcdhebhaaAm22
set_option linter.unusedVariables false
set_option maxRecDepth 100000
open Go Go.Am Go.RowKit
namespace Go.Proofs.Ytaaemamcdhebhaa
open Go.Proofs.Try
theorem stepsE_ok {n : Nat} {l : List IoT} (h1 : devOk n = true) (h2 : l.length ≤ 1048576) (h3 : ∀ x ∈ l, ioOk n x) : stepsE n l = 0 := by
  unfold stepsE
  rw [if_pos h1, if_neg (by rw [decide_eq_true_eq]; omega), if_neg]
  intro g
  obtain ⟨x, hx, hr⟩ := List.any_eq_true.1 g
  rw [ioR_iff.2 (h3 x hx)] at hr
  cases hr
theorem us_zeros (n : Nat) : us (List.replicate n 0) = List.replicate n (Value.int .u8 0) := by unfold us; rw [List.map_replicate]
def dev6 (X Y : List Int) : List Int := setBlk (setBlk (List.replicate 384 0) 0 X) 1 Y
theorem dev6_len {X Y : List Int} (hX : X.length = 64) (hY : Y.length = 64) : (dev6 X Y).length = 384 := by
  unfold dev6
  have h1 : (setBlk (List.replicate 384 (0 : Int)) 0 X).length = 384 := by rw [setBlk_len (by simp) hX]; simp
  rw [setBlk_len (by rw [h1]; omega) hY, h1]
theorem dev6_blk {X Y : List Int} (hX : X.length = 64) (hY : Y.length = 64) : blkI (dev6 X Y) 0 = X ∧ blkI (dev6 X Y) 1 = Y := by
  have e : dev6 X Y = X ++ (Y ++ List.replicate 256 0) := by
    unfold dev6 setBlk
    rw [Nat.zero_mul, Nat.zero_add, List.take_zero, List.nil_append, List.drop_replicate, Nat.one_mul, List.take_append_of_le_length (by omega), List.take_of_length_le (by omega), List.drop_append, List.drop_of_length_le (by omega), List.nil_append, List.drop_replicate, hX, List.append_assoc]
  rw [e]
  unfold blkI
  constructor
  · rw [Nat.zero_mul, List.drop_zero, List.take_append_of_le_length (by omega), List.take_of_length_le (by omega)]
  · rw [Nat.one_mul, List.drop_append, List.drop_of_length_le (by omega), List.nil_append, hX, Nat.sub_self, List.drop_zero, List.take_append_of_le_length (by omega), List.take_of_length_le (by omega)]
def pstep (c : Int) (v : S5) (i : Int) (st : S5 × Int × Bool) : S5 × Int × Bool := if (c == 0 && (v.2.1 == 6 && (!st.2.2 || decide (v.1 > st.1.1)))) = true then (v, i, true) else st
theorem pick6 {X Y : List Int} (hX : X.length = 64) (hY : Y.length = 64) : pickS (dev6 X Y) = pstep (sCode Y) (sVal Y) 1 (pstep (sCode X) (sVal X) 0 ((0, 0, 0, 0, 0), 0, false)) := by
  obtain ⟨h0, h1⟩ := dev6_blk hX hY
  have hl := dev6_len hX hY
  show pickStep (dev6 X Y) (pickStep (dev6 X Y) ((0, 0, 0, 0, 0), 0, false) 0) 1 = _
  unfold pickStep pstep
  rw [h0, h1, hl]
  rfl
theorem bad9 {X : List Int} (hX : X.length = 64) (hb : Byt X) (hc : sCode X = 0) : sCode (X.set 9 ((X.getD 9 0 + 1) % 256)) ≠ 0 := by
  intro h
  have r0 : ∀ l, sCode l = 0 → readB sMag sLay l = 0 := by
    intro l hl
    unfold sCode at hl
    split at hl
    · assumption
    · assumption
  have g1 := (readB_good (r0 _ hc)).1
  have g2 := (readB_good (r0 _ h)).1
  have h9 : 9 < X.length := by omega
  have hx9 : X.getD 9 0 = X[9] := by rw [List.getD_eq_getElem?_getD, List.getElem?_eq_getElem h9]; rfl
  have hb9 := hb X[9] (List.getElem_mem h9)
  rw [hx9] at g2 h
  have := burst_good (b := X) (b' := X.set 9 ((X[9] + 1) % 256)) (p := 9) (by omega) hX (by rw [List.length_set, hX]) hb (fun y hy => by
    rcases List.mem_or_eq_of_mem_set hy with g | g
    · exact hb y g
    · rw [g]; omega) (by rw [List.take_set_of_le (Nat.le_refl _)]) (by rw [List.drop_set_of_lt (by omega)]) g1 g2
  have e := congrArg (fun l => l[9]?) this
  simp only [List.getElem?_set_self h9, List.getElem?_eq_getElem h9] at e
  injection e with e
  omega
/-- What the switch leaves: the slot that is picked, its size. -/
def pickW (X Y : List Int) (w : Int) : Prop := X.length = 64 ∧ Y.length = 64 ∧ Byt X ∧ Byt Y ∧ ∃ g bl rt fi, pickS (dev6 X Y) = ((g, bl, rt, w + 1, fi), w, true) ∧ 0 ≤ w ∧ w ≤ 1
theorem pstep_no {c : Int} {v : S5} {i : Int} {st : S5 × Int × Bool} (h : c ≠ 0) : pstep c v i st = st := by unfold pstep; rw [if_neg]; rw [beq_eq_false_iff_ne.2 h]; exact Bool.false_ne_true
theorem pickW0 {a b : Int} (ha : superOk a 6 0 1 0 = true) (hb : superOk b 6 0 2 0 = true) : pickW (superBlock a 6 0 1 0) (superBlock b 6 0 2 0) (if b > a then 1 else 0) := by
  refine ⟨superBlock_len .., superBlock_len .., superBlock_byt _ _ _ _ _, superBlock_byt _ _ _ _ _, ?_⟩
  rw [pick6 (superBlock_len ..) (superBlock_len ..), (super_back ha).1, (super_back ha).2, (super_back hb).1, (super_back hb).2]
  have h1 : pstep 0 (a, 6, 0, 1, 0) 0 ((0, 0, 0, 0, 0), 0, false) = ((a, 6, 0, 1, 0), 0, true) := rfl
  rw [h1]
  by_cases c : b > a
  · have h2 : pstep 0 (b, 6, 0, 2, 0) 1 ((a, 6, 0, 1, 0), 0, true) = ((b, 6, 0, 2, 0), 1, true) := by
      unfold pstep; rw [if_pos]
      show (true && (true && (false || decide (b > a)))) = true
      rw [decide_eq_true c]; rfl
    rw [h2, if_pos c]
    exact ⟨_, _, _, _, rfl, by omega, by omega⟩
  · have h2 : pstep 0 (b, 6, 0, 2, 0) 1 ((a, 6, 0, 1, 0), 0, true) = ((a, 6, 0, 1, 0), 0, true) := by
      unfold pstep; rw [if_neg]
      show ¬ (true && (true && (false || decide (b > a)))) = true
      rw [decide_eq_false c]; exact Bool.false_ne_true
    rw [h2, if_neg c]
    exact ⟨_, _, _, _, rfl, by omega, by omega⟩
theorem pickW1 {X : List Int} {b : Int} (hX : X.length = 64) (hB : Byt X) (hc : sCode X ≠ 0) (hb : superOk b 6 0 2 0 = true) : pickW X (superBlock b 6 0 2 0) 1 := by
  refine ⟨hX, superBlock_len .., hB, superBlock_byt _ _ _ _ _, ?_⟩
  rw [pick6 hX (superBlock_len ..), (super_back hb).1, (super_back hb).2, pstep_no hc]
  exact ⟨_, _, _, _, rfl, by omega, by omega⟩
theorem ok7 : superOk 2000 7 0 3 0 = true := by decide
theorem pickW2 {a : Int} (ha : superOk a 6 0 1 0 = true) : pickW (superBlock a 6 0 1 0) (superBlock 2000 7 0 3 0) 0 := by
  refine ⟨superBlock_len .., superBlock_len .., superBlock_byt _ _ _ _ _, superBlock_byt _ _ _ _ _, ?_⟩
  rw [pick6 (superBlock_len ..) (superBlock_len ..), (super_back ha).1, (super_back ha).2, (super_back ok7).1, (super_back ok7).2]
  exact ⟨_, _, _, _, rfl, by omega, by omega⟩
theorem pickW3 {b : Int} (hb : superOk b 6 0 2 0 = true) : pickW (superBlock 2000 7 0 3 0) (superBlock b 6 0 2 0) 1 := by
  refine ⟨superBlock_len .., superBlock_len .., superBlock_byt _ _ _ _ _, superBlock_byt _ _ _ _ _, ?_⟩
  rw [pick6 (superBlock_len ..) (superBlock_len ..), (super_back hb).1, (super_back hb).2, (super_back ok7).1, (super_back ok7).2]
  exact ⟨_, _, _, _, rfl, by omega, by omega⟩
theorem superPick_true : ∀ h xs avs, ArgsK [.int .i64, .int .i64, .int .i64] h xs avs → RunF prog 13 avs h fun v _ => v = .bool true := by
  intro h xs avs ha
  obtain ⟨ga, _, _, rfl, _, ha⟩ := argInt ha
  obtain ⟨gb, _, _, rfl, _, ha⟩ := argInt ha
  obtain ⟨how, _, _, rfl, _, ha⟩ := argInt ha
  obtain rfl := argNil ha
  refine RunF.walk func13 rfl rfl ?_
  refine RunC.seq (RunC.region (RunO.all rfl ?_))
  refine RunC.seq (RunC.region (RunO.all rfl ?_))
  rw [fwu64', fwu64']
  obtain ⟨hA0, hA1⟩ := modU ga 1000 (by decide)
  obtain ⟨hB0, hB1⟩ := modU gb 1000 (by decide)
  generalize (ga % 18446744073709551616).tmod 1000 = A at *
  generalize (gb % 18446744073709551616).tmod 1000 = B at *
  rw [fw64 (x := A) (by omega) (by omega), fw64 (x := B) (by omega) (by omega), fw64 (x := 1 + A) (by omega) (by omega), fw64 (x := 1 + B) (by omega) (by omega)]
  have okA : superOk (1 + A) 6 0 1 0 = true := (superOk_iff _ _ _ _ _).2 ⟨by omega, by omega, by omega, by omega, by omega⟩
  have okB : superOk (1 + B) 6 0 2 0 = true := (superOk_iff _ _ _ _ _).2 ⟨by omega, by omega, by omega, by omega, by omega⟩
  generalize 1 + A = a at *
  generalize 1 + B = b at *
  refine RunC.seq (RunC.region (RunO.make (m := 384) rfl rfl rfl rfl rfl rfl (by decide) (by decide) rfl (RunO.all rfl ?_)))
  rw [show reps (cellsOf (Value.int .u8 0)) 384 = us (List.replicate 384 0) by rw [us_zeros]; exact reps_one _ _]
  have oi := Ow.push h (us (List.replicate 384 0))
  generalize h.push ⟨us (List.replicate 384 0), true⟩ = h1 at *
  generalize h.next = bi at *
  refine RunC.seq (RunC.region (RunO.part 2 rfl ?_))
  refine RunO.callD (superBytes_ok (g := a) (bl := 6) (rt := 0) (sz := 1) (fi := 0)) rfl rfl rfl ?_
  rintro v h2 ⟨f2, ⟨_, bx, hbx, rfl, ox⟩ | ⟨hno, _⟩⟩
  case inr => rw [okA] at hno; cases hno
  have hne1 : bi ≠ bx := by have := oi.1; omega
  replace oi := oi.fr f2 (fun g => g)
  refine RunO.all rfl ?_
  refine RunC.seq (RunC.region (RunO.part 2 rfl ?_))
  refine RunO.callD (superBytes_ok (g := b) (bl := 6) (rt := 0) (sz := 2) (fi := 0)) rfl rfl rfl ?_
  rintro v h3 ⟨f3, ⟨_, byy, hby, rfl, oy⟩ | ⟨hno, _⟩⟩
  case inr => rw [okB] at hno; cases hno
  have hne2 : byy ≠ bx := by have := ox.1; omega
  replace oi := oi.fr f3 (fun g => g)
  replace ox := ox.fr f3 (fun g => g)
  refine RunO.all rfl ?_
  refine RunC.seq (RunC.region (RunO.part 1 rfl ?_))
  refine RunO.callD (superBytes_ok (g := 2000) (bl := 7) (rt := 0) (sz := 3) (fi := 0)) rfl rfl rfl ?_
  rintro v h4 ⟨f4, ⟨_, bz, hbz, rfl, oz⟩ | ⟨hno, _⟩⟩
  case inr => rw [ok7] at hno; cases hno
  replace oi := oi.fr f4 (fun g => g)
  replace ox := ox.fr f4 (fun g => g)
  replace oy := oy.fr f4 (fun g => g)
  refine RunO.all rfl ?_
  refine RunC.seq (RunC.seq (RunC.region (RunO.all rfl (RunC.cond rfl (fun g => by cases g) (fun _ => RunC.skip ?_)))))
  refine RunC.seq (RunC.region (RunO.all rfl ?_))
  let Q1 : Env → Heap → Prop := fun E h' => ∃ (b1 b2 : Nat) (X Y : List Int) (w : Int), pickW X Y w ∧ Ow h' bi (us (List.replicate 384 0)) ∧ Ow h' b1 (us X) ∧ Ow h' b2 (us Y) ∧ Le (upd (upd (upd (upd E0 7 (.slice (some ⟨bi, 0, none⟩) 384 (exc 384))) 8 (.slice (some ⟨b1, 0, none⟩) 64 (exc 64))) 10 (.slice (some ⟨b2, 0, none⟩) 64 (exc 64))) 14 (.int .i64 w)) E
  refine RunC.seqc Q1 ?_ ?_
  · refine RunC.seq (RunC.region (RunO.all rfl ?_))
    rw [fwu64']
    obtain ⟨hH0, hH1⟩ := modU how 4 (by decide)
    generalize (how % 18446744073709551616).tmod 4 = H at *
    refine RunC.block ?_
    refine RunC.seq (RunC.region (RunO.all rfl ?_))
    by_cases c0 : H = 0
    · subst c0
      refine RunC.cond rfl (fun _ => ?_) (fun g => by cases g)
      refine RunC.seq (RunC.region (RunO.all rfl ?_))
      have hw := pickW0 okA okB
      by_cases c : b > a
      · rw [decide_eq_true c]
        rw [if_pos c] at hw
        refine RunC.cond rfl (fun _ => ?_) (fun g => by cases g)
        refine RunC.region (RunO.all rfl ?_)
        exact ⟨bx, byy, _, _, _, hw, oi, ox, oy, Le.cons rfl (Le.cons rfl (Le.cons rfl (Le.cons rfl (Le.nil _))))⟩
      · rw [decide_eq_false c]
        rw [if_neg c] at hw
        refine RunC.cond rfl (fun g => by cases g) (fun _ => RunC.skip ?_)
        exact ⟨bx, byy, _, _, _, hw, oi, ox, oy, Le.cons rfl (Le.cons rfl (Le.cons rfl (Le.cons rfl (Le.nil _))))⟩
    rw [show (H == 0) = false from beq_eq_false_iff_ne.2 c0]
    refine RunC.cond rfl (fun g => by cases g) (fun _ => ?_)
    refine RunC.seq (RunC.region (RunO.all rfl ?_))
    by_cases c1 : H = 1
    · subst c1
      refine RunC.cond rfl (fun _ => ?_) (fun g => by cases g)
      refine RunC.region (RunO.part 2 rfl ?_)
      have hX := superBlock_len a 6 0 1 0
      have hXb := superBlock_byt a 6 0 1 0
      have hbad := bad9 hX hXb (super_back okA).1
      generalize superBlock a 6 0 1 0 = X at *
      have h9 : 9 < X.length := by omega
      have hg : X.getD 9 0 = X[9] := by rw [List.getD_eq_getElem?_getD, List.getElem?_eq_getElem h9]; rfl
      rw [hg] at hbad
      refine RunO.index (s := 1) (k := 9) rfl rfl rfl rfl (by decide) rfl ?_
      refine RunO.load (v := .int .u8 X[9]) rfl (ox.all.cell1 (k := 9 * 1) rfl (us_nth h9)) rfl ?_
      refine RunO.part 1 rfl ?_
      rw [fwu8]
      refine RunO.index (s := 1) (k := 9) rfl rfl rfl rfl (by decide) rfl ?_
      refine RunO.store rfl rfl (store1_ow ox rfl rfl rfl (by rw [us_len]; omega)) (RunO.all rfl ?_)
      rw [show (us X).set (0 + 9 * 1) (.int .u8 ((X[9] + 1) % 256)) = us (X.set 9 ((X[9] + 1) % 256)) by unfold us; rw [List.map_set]]
      have hb9 : Byt (X.set 9 ((X[9] + 1) % 256)) := fun y hy => by
        rcases List.mem_or_eq_of_mem_set hy with g | g
        · exact hXb y g
        · rw [g]; omega
      have hw := pickW1 (by rw [List.length_set, hX]) hb9 hbad okB
      have f5 : Fr (· = bx) h4 (h4.put bx (some ⟨us (X.set 9 ((X[9] + 1) % 256)), true⟩)) := Fr.put _ (.inl rfl)
      refine ⟨bx, byy, _, _, _, hw, oi.fr f5 hne1, Ow.put _ ox.1, oy.fr f5 hne2, Le.cons rfl (Le.cons rfl (Le.cons rfl (Le.cons rfl (Le.nil _))))⟩
    rw [show (H == 1) = false from beq_eq_false_iff_ne.2 c1]
    refine RunC.cond rfl (fun g => by cases g) (fun _ => ?_)
    refine RunC.seq (RunC.region (RunO.all rfl ?_))
    by_cases c2 : H = 2
    · subst c2
      refine RunC.cond rfl (fun _ => ?_) (fun g => by cases g)
      refine RunC.region (RunO.all rfl ?_)
      exact ⟨bx, bz, _, _, _, pickW2 okA, oi, ox, oz, Le.cons rfl (Le.cons rfl (Le.cons rfl (Le.cons rfl (Le.nil _))))⟩
    rw [show (H == 2) = false from beq_eq_false_iff_ne.2 c2]
    refine RunC.cond rfl (fun g => by cases g) (fun _ => ?_)
    refine RunC.region (RunO.all rfl ?_)
    exact ⟨bz, byy, _, _, _, pickW3 okB, oi, oz, oy, Le.cons rfl (Le.cons rfl (Le.cons rfl (Le.cons rfl (Le.nil _))))⟩
  rintro E' h5 ⟨b1, b2, X, Y, w, hw, oi, ox, oy, hE⟩
  refine RunC.le hE ?_
  clear hE
  obtain ⟨hX, hY, hXb, hYb, g, bl, rt, fi, hpick, hw0, hw1⟩ := hw
  refine RunC.seq (RunC.region (RunO.part 6 (h1 := h5.push ⟨[.int .i64 1, .int .i64 0, .slice (some ⟨b1, 0, none⟩) 64 (exc 64), .int .i64 1, .int .i64 1, .slice (some ⟨b2, 0, none⟩) 64 (exc 64)], true⟩) rfl ?_))
  have f6 : Fr no h5 (h5.push ⟨[.int .i64 1, .int .i64 0, .slice (some ⟨b1, 0, none⟩) 64 (exc 64), .int .i64 1, .int .i64 1, .slice (some ⟨b2, 0, none⟩) 64 (exc 64)], true⟩) := Fr.push _ _ _
  have ol := Ow.push h5 [.int .i64 1, .int .i64 0, .slice (some ⟨b1, 0, none⟩) 64 (exc 64), .int .i64 1, .int .i64 1, .slice (some ⟨b2, 0, none⟩) 64 (exc 64)]
  replace oi := oi.fr f6 (fun g => g)
  replace ox := ox.fr f6 (fun g => g)
  replace oy := oy.fr f6 (fun g => g)
  generalize h5.push ⟨[.int .i64 1, .int .i64 0, .slice (some ⟨b1, 0, none⟩) 64 (exc 64), .int .i64 1, .int .i64 1, .slice (some ⟨b2, 0, none⟩) 64 (exc 64)], true⟩ = h6 at *
  generalize h5.next = p at *
  have hlen : (List.replicate 384 (0 : Int)).length = 384 := List.length_replicate
  have sx : Sl h6 (.slice (some ⟨b1, 0, none⟩) 64 (exc 64)) 1 X.length (us X) := by rw [hX]; exact ox.all.sl (by rw [us_len, hX]) (by decide) (Cp.exc (Nat.le_refl _))
  have sy : Sl h6 (.slice (some ⟨b2, 0, none⟩) 64 (exc 64)) 1 Y.length (us Y) := by rw [hY]; exact oy.all.sl (by rw [us_len, hY]) (by decide) (Cp.exc (Nat.le_refl _))
  have il : Ios h6 (.slice (some ⟨p, 0, none⟩) 2 (exc 2)) [(1, 0, X, ()), (1, 1, Y, ())] := by
    refine ⟨_, ol.all.sl (s := 3) rfl (by decide) (Cp.exc (Nat.le_refl _)), fun j x hx => ?_⟩
    match j, hx with
    | 0, hx => cases hx; exact ⟨_, rfl, sx, hXb⟩
    | 1, hx => cases hx; exact ⟨_, rfl, sy, hYb⟩
    | j + 2, hx => simp at hx
  have si : Sl h6 (.slice (some ⟨bi, 0, none⟩) 384 (exc 384)) 1 (List.replicate 384 (0 : Int)).length (us (List.replicate 384 0)) := by rw [hlen]; exact oi.all.sl (by rw [us_len, hlen]) (by decide) (Cp.exc (Nat.le_refl _))
  refine RunO.callD (devApply_ok si (by rw [hlen]; decide) il (Nat.le_of_ble_eq_true rfl)) rfl rfl rfl ?_
  have hse : stepsE 384 [(1, 0, X, ()), (1, 1, Y, ())] = 0 := stepsE_ok rfl (Nat.le_of_ble_eq_true rfl) (fun x hx => by
    simp only [List.mem_cons, List.not_mem_nil, or_false] at hx
    rcases hx with rfl | rfl
    · exact .inl ⟨rfl, ⟨0, rfl, by decide⟩, hX⟩
    · exact .inl ⟨rfl, ⟨1, rfl, by decide⟩, hY⟩)
  rw [hlen, hse]
  rintro v h7 ⟨f7, ⟨_, bo, co, hbo, rfl, hco, oo⟩ | ⟨hno, _⟩⟩
  case inr => exact absurd rfl hno
  have oo : Ow h7 bo (us (dev6 X Y)) := oo
  refine RunO.all rfl ?_
  have hdl := dev6_len hX hY
  have hdb : Byt (dev6 X Y) := by
    intro x hx
    unfold dev6 setBlk at hx
    have z : ∀ y : Int, y ∈ List.replicate 384 (0 : Int) → 0 ≤ y ∧ y < 256 := fun y hy => by rw [List.eq_of_mem_replicate hy]; decide
    rcases List.mem_append.1 hx with hx | hx
    · rcases List.mem_append.1 hx with hx | hx
      · have hx := List.mem_of_mem_take hx
        rcases List.mem_append.1 hx with hx | hx
        · rcases List.mem_append.1 hx with hx | hx
          · exact z x (List.mem_of_mem_take hx)
          · exact hXb x hx
        · exact z x (List.mem_of_mem_drop hx)
      · exact hYb x hx
    · have hx := List.mem_of_mem_drop hx
      rcases List.mem_append.1 hx with hx | hx
      · rcases List.mem_append.1 hx with hx | hx
        · exact z x (List.mem_of_mem_take hx)
        · exact hXb x hx
      · exact z x (List.mem_of_mem_drop hx)
  refine RunC.seq (RunC.region (RunO.part 1 rfl ?_))
  have hpk := superPick_ok (h := h7) (A := some ⟨bo, 0, none⟩) (c := co) (l := dev6 X Y) (fun _ => ⟨_, rfl, oo.all⟩) hdb (by rw [hdl]; exact hco) (by rw [hdl]; decide)
  have hpc : pickCode (dev6 X Y) = 0 := by unfold pickCode; rw [hdl, hpick]; rfl
  rw [hpc, hpick, if_pos rfl, if_pos rfl, hdl] at hpk
  dsimp only at hpk
  refine RunO.callD hpk rfl rfl rfl ?_
  rintro v h8 ⟨rfl, f8⟩
  refine RunO.part 5 (h1 := h8.push ⟨sc 0 0 0 0 0, true⟩) rfl ?_
  refine RunO.store rfl rfl (store_ow (s := 5) (Ow.push h8 (sc 0 0 0 0 0)) rfl rfl rfl (by decide)) (RunO.all rfl ?_)
  change RunC _ _ _ _ ((h8.push ⟨sc 0 0 0 0 0, true⟩).put h8.next (some ⟨sc g bl rt (w + 1) fi, true⟩)) _ _ _
  have os : Ow ((h8.push ⟨sc 0 0 0 0 0, true⟩).put h8.next (some ⟨sc g bl rt (w + 1) fi, true⟩)) h8.next (sc g bl rt (w + 1) fi) := Ow.put _ (Nat.lt_succ_self _)
  generalize (h8.push ⟨sc 0 0 0 0 0, true⟩).put h8.next (some ⟨sc g bl rt (w + 1) fi, true⟩) = h9 at *
  generalize h8.next = q at *
  refine RunC.seq (RunC.region (RunO.part 10 rfl ?_))
  rw [show (w == w) = true from beq_self_eq_true _]
  refine RunO.part 3 rfl ?_
  refine RunO.loadG (v := .int .i64 (w + 1)) rfl rfl (os.all.cell1 (k := 3) rfl rfl) rfl ?_
  refine RunO.part 2 rfl ?_
  rw [fw64 (x := w + 1) (by omega) (by omega)]
  refine RunO.part 1 rfl ?_
  rw [show (w + 1 == w + 1) = true from beq_self_eq_true _]
  refine RunO.part 2 rfl ?_
  refine RunO.callDG rfl wakes06_ok rfl rfl rfl ?_
  rintro v h12 ⟨rfl, f12⟩
  exact RunO.all rfl (RunC.ret ⟨_, rfl, rfl⟩)
end Go.Proofs.Ytaaemamcdhebhaa
