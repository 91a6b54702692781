/- Super: part of a calculus over an abstract machine that stands beside the model, and contracts of functions by it.
Conditions: what each theorem says of its arguments. -/
import Derived.Test.YtaaemamcdhebhaaCrc
import Derived.Test.YtaaemamcdhebhaaAm15
set_option linter.unusedVariables false
set_option maxRecDepth 100000
open Go Go.Am
namespace Go.Proofs.Ytaaemamcdhebhaa
open Go.Proofs.Try
/-- le.Zeros: are all of from .. to 0? -/
def zerosN (l : List Int) (k m : Nat) : Bool := ((l.drop k).take (m - k)).all (· == 0)
theorem frNo {h h' : Heap} (f : Fr (fun b => h.next ≤ b) h h') : Fr no h h' := f.weak (fun _ g => .inr g)
theorem leZeros_ok {h : Heap} {a : Addr} {c k m : Nat} {l : List Int} (rd : Rd h a (us l)) (hk : m ≤ l.length) (hm : l.length ≤ 4611686018427387904) (hkm : k ≤ 4611686018427387904) :
    RunF prog 72 [.slice (some a) l.length c, .int .i64 k, .int .i64 m] h fun v h' => v = .bool (zerosN l k m) ∧ h = h' := by
  obtain ⟨b, o, sp⟩ := a
  have hsp : sp = none := rd.1
  subst hsp
  refine RunF.walk func72 rfl rfl ?_
  refine RunC.seq (RunC.region (RunO.all rfl ?_))
  refine RunC.seq (RunC.seq (RunC.region (RunO.all rfl ?_)))
  rw [show (cond (decide ((0 : Int) > (k : Int))) 0 (k : Int)) = (k : Int) by rw [decide_eq_false (by omega)]; rfl]
  refine RunC.block ?_
  let I : Nat → Env → Heap → Prop := fun d E h' => ∃ i : Nat, i + d = max k m ∧ k ≤ i ∧ ((l.drop k).take (i - k)).all (· == 0) = true ∧ h = h' ∧ Le (upd (upd (upd E0 0 (.slice (some ⟨b, o, none⟩) l.length c)) 2 (.int .i64 m)) 7 (.int .i64 i)) E
  refine RunC.loop I ?_ (k := max k m - k) ?_
  · rintro d E h' ⟨i, hi, hki, hall, rfl, hE⟩
    refine RunC.le hE ?_
    clear hE
    refine RunC.seq (RunC.seq (RunC.region (RunO.part 4 rfl ?_)))
    refine RunO.one (v := .int .i64 m) (E1 := upd _ 14 (.int .i64 m)) (h1 := h) rfl ?_ rfl ?_
    · show some (Value.int .i64 (cond (decide ((l.length : Int) < (m : Int))) (l.length : Int) (m : Int)), h) = _
      rw [decide_eq_false (by omega)]; rfl
    refine RunO.all rfl ?_
    refine RunC.cond rfl (fun hlt => ?_) (fun hge => ?_)
    · have hlt := of_decide_eq_true hlt
      have hlt2 : i < l.length := by omega
      refine RunC.skip ?_
      refine RunC.seq (RunC.block ?_)
      refine RunC.seq (RunC.region (RunO.part 2 rfl ?_))
      refine RunO.index (s := 1) rfl rfl rfl rfl hlt2 rfl ?_
      refine RunO.load (v := .int .u8 l[i]) rfl (rd.cell1 (k := i * 1) rfl (by rw [Nat.mul_one]; exact us_nth hlt2)) rfl ?_
      refine RunO.all rfl ?_
      have hx : ((l.drop k).take (i + 1 - k)) = ((l.drop k).take (i - k)) ++ [l[i]] := by
        have e := take_drop_snoc (l := l) (k := k) (i := i - k) (by omega)
        rw [show i + 1 - k = i - k + 1 by omega, e]
        congr 3
        omega
      refine RunC.cond rfl (fun hb => ?_) (fun hb => ?_)
      · have hz : zerosN l k m = false := by
          unfold zerosN
          have hin : l[i] ∈ (l.drop k).take (m - k) := by
            rw [List.mem_iff_getElem?]
            refine ⟨i - k, ?_⟩
            rw [List.getElem?_take, if_pos (by omega), List.getElem?_drop, show k + (i - k) = i by omega, List.getElem?_eq_getElem hlt2]
          rw [List.all_eq_false]
          refine ⟨_, hin, ?_⟩
          simpa using hb
        rw [hz]
        exact RunC.seq (RunC.region (RunO.all rfl (RunC.ret ⟨_, rfl, rfl, rfl⟩)))
      · refine RunC.skip ?_
        refine RunC.region (RunO.all rfl ?_)
        refine ⟨d - 1, by omega, i + 1, by omega, by omega, ?_, rfl, ?_⟩
        · rw [hx, List.all_append, hall]
          have : l[i] = 0 := by simpa using hb
          rw [this]; rfl
        · exact Le.cons (inc64 (by omega)) (Le.cons rfl (Le.cons rfl (Le.nil _)))
    · have hge := of_decide_eq_false hge
      refine RunC.exit ?_
      have hz : zerosN l k m = true := by
        unfold zerosN
        by_cases hkm2 : k ≤ m
        · have : i = m := by omega
          rw [← this]; exact hall
        · rw [show m - k = 0 by omega]; rfl
      rw [hz]
      exact RunC.seq (RunC.region (RunO.all rfl (RunC.ret ⟨_, rfl, rfl, rfl⟩)))
  · exact ⟨k, by omega, by omega, by simp, rfl, Le.cons rfl (Le.cons rfl (Le.cons rfl (Le.nil _)))⟩
/-- Do bytes end with the sum of those ahead? -/
def goodB (l : List Int) : Bool := (leGet l (l.length - 4) 4).1 == Crc.sum 0 (l.take (l.length - 4))
theorem rdTake {h : Heap} {a : Addr} {l : List Int} (rd : Rd h a (us l)) (k : Nat) : Rd h a (us (l.take k)) := by
  obtain ⟨h1, h2, o, ho, he⟩ := rd
  refine ⟨h1, h2, o, ho, ?_⟩
  have e : us (l.take k) = (us l).take k := List.map_take
  rw [e, List.length_take, ← List.take_take, he]
theorem crcGood_ok {h : Heap} {a : Addr} {c : Nat} {l : List Int} (rd : Rd h a (us l)) (hb : Byt l) (hl : 4 ≤ l.length) (hm : l.length ≤ 4611686018427387904) (hc : Cp 1 l.length c) :
    RunF prog 70 [.slice (some a) l.length c] h fun v h' => v = .bool (goodB l) ∧ h = h' := by
  obtain ⟨b, o, sp⟩ := a
  have hsp : sp = none := rd.1
  subst hsp
  refine RunF.walk func70 rfl rfl ?_
  refine RunC.seq (RunC.region (RunO.all rfl ?_))
  refine RunC.seq (RunC.region (RunO.all rfl ?_))
  rw [fw64 (by omega) (by omega), show (l.length : Int) - 4 = ((l.length - 4 : Nat) : Int) by omega]
  refine RunC.seq (RunC.seq (RunC.region (RunO.all rfl ?_)))
  rw [show decide (((l.length - 4 : Nat) : Int) < 0) = false from decide_eq_false (by omega)]
  refine RunC.cond rfl (fun g => by cases g) (fun _ => RunC.skip ?_)
  refine RunC.seq (RunC.region (RunO.part 2 rfl ?_))
  refine RunO.callD (leGet_ok (s := 4) rd hb (by omega) (by omega) hm) rfl rfl rfl ?_
  rintro _ _ ⟨rfl, rfl⟩
  refine RunO.all rfl ?_
  refine RunC.seq (RunC.region (RunO.part 3 rfl ?_))
  refine RunO.slicePre (s := 1) rfl rfl rfl rfl hc (by omega) rfl ?_
  intro c' hc'
  have hll : (l.take (l.length - 4)).length = l.length - 4 := by rw [List.length_take]; omega
  have hs := crcSum_ok (c := c') (rdTake rd (l.length - 4)) (by omega)
  rw [hll] at hs
  refine RunO.callD hs rfl rfl rfl ?_
  rintro _ _ ⟨rfl, rfl⟩
  exact RunO.all rfl (RunC.ret ⟨_, rfl, rfl, rfl⟩)
/-- The sum of all but the last four put there. -/
theorem crcSeal_ok {h : Heap} {b c : Nat} {l : List Int} (ow : Ow h b (us l)) (hl : 4 ≤ l.length) (hm : l.length ≤ 4611686018427387904) (hc : Cp 1 l.length c) :
    RunF prog 68 [.slice (some ⟨b, 0, none⟩) l.length c] h fun v h' => Fr (· = b) h h' ∧ Ow h' b (us (l.take (l.length - 4) ++ leB 4 (Crc.sum 0 (l.take (l.length - 4))))) := by
  refine RunF.walk func68 rfl rfl ?_
  refine RunC.seq (RunC.region (RunO.all rfl ?_))
  rw [fw64 (by omega) (by omega), show (l.length : Int) - 4 = ((l.length - 4 : Nat) : Int) by omega]
  refine RunC.region (RunO.part 4 rfl ?_)
  refine RunO.slicePre (s := 1) rfl rfl rfl rfl hc (by omega) rfl ?_
  intro c' hc'
  have hll : (l.take (l.length - 4)).length = l.length - 4 := by rw [List.length_take]; omega
  have hs := crcSum_ok (c := c') (rdTake ow.all (l.length - 4)) (by omega)
  rw [hll] at hs
  refine RunO.callD hs rfl rfl rfl ?_
  rintro _ _ ⟨rfl, rfl⟩
  have hset := leSet_ok (o := 0) (c := c) (len := l.length) (k := l.length - 4) (s := 4) (v := Crc.sum 0 (l.take (l.length - 4))) ow (by rw [us_len]; omega) (by omega) (by omega) (by rw [us_len]; exact hm)
  refine RunO.callD hset rfl rfl rfl ?_
  rintro v h' ⟨hf, ho⟩
  refine RunO.nil ⟨_, rfl, hf, ?_⟩
  have e : lay (us l) (0 + (l.length - 4)) (us (leB 4 (Crc.sum 0 (l.take (l.length - 4))))) = us (l.take (l.length - 4) ++ leB 4 (Crc.sum 0 (l.take (l.length - 4)))) := by
    unfold lay us
    rw [List.length_map, leB_len, List.map_append, ← List.map_take, List.drop_of_length_le (by simp; omega), List.append_nil, Nat.zero_add]
  rw [← e]; exact ho
end Go.Proofs.Ytaaemamcdhebhaa
