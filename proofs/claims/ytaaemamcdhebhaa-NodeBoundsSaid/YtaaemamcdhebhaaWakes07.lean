/- Wakes07: part of a calculus over an abstract machine that stands beside the model, and contracts of functions by it.
Conditions: what each theorem says of its arguments. -/
import Derived.Test.YtaaemamcdhebhaaNodS
set_option linter.unusedVariables false
set_option maxRecDepth 100000
open Go Go.Am Go.RowKit
namespace Go.Proofs.Ytaaemamcdhebhaa
open Go.Proofs.Try
theorem nodUnder_ok {h : Heap} {k : Nat} (hk : k ≤ 3) : RunF prog 59 [.int .i64 k] h fun v h' => v = .int .i64 (8 ^ k : Nat) ∧ h = h' := by
  refine RunF.walk func59 rfl rfl ?_
  refine RunC.seq (RunC.region (RunO.all rfl ?_))
  refine RunC.seq (RunC.region (RunO.all rfl ?_))
  refine RunC.seq (RunC.seq (RunC.region (RunO.all rfl ?_)))
  refine RunC.block ?_
  let I : Nat → Env → Heap → Prop := fun d E h' => ∃ i : Nat, i + d = k ∧ h = h' ∧ Le (upd (upd (upd E0 3 (.int .i64 (8 ^ i : Nat))) 4 (.int .i64 k)) 5 (.int .i64 i)) E
  refine RunC.loop I ?_ (k := k) ?_
  · rintro d E h' ⟨i, hi, rfl, hE⟩
    refine RunC.le hE ?_
    clear hE
    refine RunC.seq (RunC.region (RunO.all rfl ?_))
    refine RunC.seq (RunC.cond rfl (fun hlt => ?_) (fun hge => ?_))
    · have hlt := of_decide_eq_true hlt
      have h8 : 8 ^ i ≤ 8 ^ 3 := Nat.pow_le_pow_right (by decide) (by omega)
      refine RunC.skip ?_
      refine RunC.seq (RunC.block ?_)
      refine RunC.region (RunO.all rfl ?_)
      refine RunC.region (RunO.all rfl ?_)
      refine ⟨d - 1, by omega, i + 1, by omega, rfl, Le.cons (inc64 (by omega)) (Le.cons rfl (Le.cons ?_ (Le.nil _)))⟩
      show some (Value.int .i64 (fwrap .i64 (((8 ^ i : Nat) : Int) * 8))) = _
      rw [Nat.pow_succ]
      generalize 8 ^ i = q at *
      have h8 : q ≤ 512 := h8
      rw [fw64 (by omega) (by omega)]
      rfl
    · have hge := of_decide_eq_false hge
      have : i = k := by omega
      subst this
      refine RunC.exit ?_
      exact RunC.seq (RunC.region (RunO.all rfl (RunC.ret ⟨_, rfl, rfl, rfl⟩)))
  · exact ⟨0, by omega, rfl, Le.cons rfl (Le.cons rfl (Le.cons rfl (Le.nil _)))⟩
theorem nodPlace75_ok {h : Heap} : RunF prog 25 [.int .i64 75, .int .i64 2] h fun v h' => v = .tuple #[.int .i64 1, .int .i64 11, .int .i64 0] ∧ Fr no h h' := by
  refine RunF.walk func25 rfl rfl ?_
  refine RunC.seq (RunC.region (RunO.all rfl ?_))
  refine RunC.seq (RunC.seq (RunC.region (RunO.part 14 rfl ?_)))
  refine RunO.callDG rfl (nodUnder_ok (k := 3) (by decide)) rfl rfl rfl ?_
  rintro _ _ ⟨rfl, rfl⟩
  refine RunO.all rfl (RunC.cond rfl (fun g => by cases g) (fun _ => RunC.skip ?_))
  refine RunC.seq (RunC.draw0 rfl (RunO.part 2 rfl ?_))
  refine RunO.callD (nodUnder_ok (k := 2) (by decide)) rfl rfl rfl ?_
  rintro _ _ ⟨rfl, rfl⟩
  refine RunO.part 3 rfl ?_
  refine RunO.callD (nodUnder_ok (k := 2) (by decide)) rfl rfl rfl ?_
  rintro _ _ ⟨rfl, rfl⟩
  exact RunO.all rfl (RunC.ret ⟨_, rfl, rfl, Fr.refl _ _⟩)
theorem wakes07_ok {h : Heap} : RunF prog 29 [] h fun v h' => v = .bool true ∧ Fr no h h' := by
  refine RunF.walk func29 rfl rfl ?_
  refine RunC.seq (RunC.region (RunO.all rfl ?_))
  refine RunC.seq (RunC.region (RunO.part 3 (h1 := h.push ⟨nc 0 nZero, true⟩) rfl ?_))
  refine RunO.store rfl rfl (store_ow (s := 9) (Ow.push h (nc 0 nZero)) rfl rfl rfl (by decide)) (RunO.nil ?_)
  change RunC _ _ _ _ ((h.push ⟨nc 0 nZero, true⟩).put h.next (some ⟨nc 1 [0, 5, 0, 0, 0, 0, 0, 0], true⟩)) _ _ _
  have ow1 : Ow ((h.push ⟨nc 0 nZero, true⟩).put h.next (some ⟨nc 1 [0, 5, 0, 0, 0, 0, 0, 0], true⟩)) h.next (nc 1 [0, 5, 0, 0, 0, 0, 0, 0]) := Ow.put _ (Nat.lt_succ_self _)
  have f1 : Fr no h ((h.push ⟨nc 0 nZero, true⟩).put h.next (some ⟨nc 1 [0, 5, 0, 0, 0, 0, 0, 0], true⟩)) := (Fr.push _ _ _).trans (Fr.put (m := (· = h.next)) _ (.inl rfl)) (fun j hj => .inr (by omega))
  generalize (h.push ⟨nc 0 nZero, true⟩).put h.next (some ⟨nc 1 [0, 5, 0, 0, 0, 0, 0, 0], true⟩) = h1 at *
  generalize h.next = p1 at *
  refine RunC.seq (RunC.region ?_)
  refine RunO.load (v := .agg ⟨nc 1 [0, 5, 0, 0, 0, 0, 0, 0]⟩) rfl (ow1.all.part (k := 0) rfl) rfl ?_
  refine RunO.callD (nodBytes_ok rfl) rfl rfl rfl ?_
  rintro v h2 ⟨f2, hv⟩
  have hok : nodOk 1 [0, 5, 0, 0, 0, 0, 0, 0] = true := by decide
  rcases hv with ⟨_, b, hb, rfl, ob⟩ | ⟨hno, _⟩
  case inr => rw [hok] at hno; cases hno
  have ow2 := ow1.fr f2 (fun g => g)
  have f12 := f1.same f2
  refine RunO.all rfl ?_
  have hback := nod_back rfl hok
  refine RunC.seq (RunC.region (RunO.part 1 rfl ?_))
  have hparse := nodParse_ok (h := h2) (A := some ⟨b, 0, none⟩) (c := exc 64) (l := nodBlock 1 [0, 5, 0, 0, 0, 0, 0, 0]) (fun _ => ⟨_, rfl, ob.all⟩) (nodBlock_byt rfl) (Cp.exc (by rw [nodBlock_len rfl]; exact Nat.le_refl _))
  rw [nodBlock_len rfl] at hparse
  refine RunO.callD hparse rfl rfl rfl ?_
  rintro v h3 ⟨rfl, f3⟩
  rw [hback.1, hback.2]
  have ow3 := ow2.fr f3 (fun g => g)
  have f13 := f12.same f3
  refine RunO.part 4 (h1 := h3.push ⟨nc 0 nZero, true⟩) rfl ?_
  refine RunO.store rfl rfl (store_ow (s := 9) (Ow.push h3 (nc 0 nZero)) rfl rfl rfl (by decide)) ?_
  refine RunO.all rfl ?_
  change RunC _ _ _ _ ((h3.push ⟨nc 0 nZero, true⟩).put h3.next (some ⟨nc 1 [0, 5, 0, 0, 0, 0, 0, 0], true⟩)) _ _ _
  have ow4 : Ow ((h3.push ⟨nc 0 nZero, true⟩).put h3.next (some ⟨nc 1 [0, 5, 0, 0, 0, 0, 0, 0], true⟩)) h3.next (nc 1 [0, 5, 0, 0, 0, 0, 0, 0]) := Ow.put _ (Nat.lt_succ_self _)
  have f4 : Fr no h3 ((h3.push ⟨nc 0 nZero, true⟩).put h3.next (some ⟨nc 1 [0, 5, 0, 0, 0, 0, 0, 0], true⟩)) := (Fr.push _ _ _).trans (Fr.put (m := (· = h3.next)) _ (.inl rfl)) (fun j hj => .inr (by omega))
  generalize (h3.push ⟨nc 0 nZero, true⟩).put h3.next (some ⟨nc 1 [0, 5, 0, 0, 0, 0, 0, 0], true⟩) = h4 at *
  generalize h3.next = p3 at *
  have ow14 := ow3.fr f4 (fun g => g)
  have f14 := f13.same f4
  refine RunC.seq (RunC.region ?_)
  refine RunO.callD nodPlace75_ok rfl rfl rfl ?_
  rintro v h5 ⟨rfl, f5⟩
  have ow5 := ow4.fr f5 (fun g => g)
  have ow15 := ow14.fr f5 (fun g => g)
  have f15 := f14.same f5
  refine RunO.all rfl ?_
  refine RunC.seq (RunC.region (RunO.part 12 rfl ?_))
  refine RunO.loadG rfl rfl (nc_load (lv := 1) (ps := [0, 5, 0, 0, 0, 0, 0, 0]) rfl ow5) rfl ?_
  refine RunO.loadG rfl rfl (nc_load (lv := 1) (ps := [0, 5, 0, 0, 0, 0, 0, 0]) rfl ow15) rfl ?_
  refine RunO.oneG (v := .bool true) (E1 := upd _ 40 (.bool true)) (h1 := h5) rfl (by show pureR h5 (abinop prog .eql 43 (.agg ⟨nc 1 [0, 5, 0, 0, 0, 0, 0, 0]⟩) (.agg ⟨nc 1 [0, 5, 0, 0, 0, 0, 0, 0]⟩)) = _; rw [nod_eq]; rfl) rfl ?_
  refine RunO.part 15 rfl ?_
  refine RunO.callDG rfl (nodCheck_ok (lv := 0) (ps := nZero) rfl) rfl rfl rfl ?_
  rintro v h8 ⟨rfl, f8⟩
  rw [show (if nodOk 0 nZero then (0 : Int) else 1) = 1 by decide]
  exact RunO.all rfl (RunC.ret ⟨_, rfl, rfl, f15.same f8⟩)
end Go.Proofs.Ytaaemamcdhebhaa
