/- NodeBounds: part of a calculus over an abstract machine that stands beside the model, and contracts of functions by it.
Conditions: what each theorem says of its arguments. -/
import Derived.Test.YtaaemamcdhebhaaWakes07
import Derived.Test.YtaaemamcdhebhaaLaid
set_option linter.unusedVariables false
set_option maxRecDepth 100000
open Go Go.Am Go.RowKit
namespace Go.Proofs.Ytaaemamcdhebhaa
open Go.Proofs.Try
def nb8 : List Int := [0, 0, 0, 0, 0, 0, 0, 0]
theorem nodOk_bounds (i : Nat) (hi : i < 8) (p lv : Int) (hp : 0 ≤ p) (hl : 0 ≤ lv) : nodOk lv ((nb8.set ((i + 1) % 8) 2).set i p) = (p != 1 && (decide (p < 4096) && decide (lv < 3))) := by
  have key : ∀ (b : Bool), (ptrB p = b) → b = (p != 1 && decide (p < 4096)) → nodOk lv ((nb8.set ((i + 1) % 8) 2).set i p) = (p != 1 && (decide (p < 4096) && decide (lv < 3))) := by
    intro b hb hb2
    have hl1 : decide (lv < 0) = false := decide_eq_false (by omega)
    have hl2 : (!decide (lv > 2)) = decide (lv < 3) := by
      by_cases c : lv < 3
      · rw [decide_eq_true c, decide_eq_false (by omega)]; rfl
      · rw [decide_eq_false c, decide_eq_true (by omega)]; rfl
    have h2 : ptrB 2 = true := rfl
    have h0 : ptrB 0 = true := rfl
    unfold nodOk anyP nb8
    rw [hl1, hl2]
    obtain rfl | rfl | rfl | rfl | rfl | rfl | rfl | rfl : i = 0 ∨ i = 1 ∨ i = 2 ∨ i = 3 ∨ i = 4 ∨ i = 5 ∨ i = 6 ∨ i = 7 := by omega
    all_goals simp [h2, h0, hb, hb2, Bool.and_assoc]
  refine key _ rfl ?_
  unfold ptrB
  obtain rfl | rfl | c : p = 0 ∨ p = 1 ∨ 2 ≤ p := by omega
  · rfl
  · rfl
  · rw [show (p == 0) = false from beq_eq_false_iff_ne.2 (by omega), show (p != 1) = true from bne_iff_ne.2 (by omega), show decide (p ≥ 2) = true from decide_eq_true c]; rfl
theorem is_set (l : List Int) (i : Nat) (x : Int) : (is l).set i (.int .i64 x) = is (l.set i x) := by unfold is; rw [List.map_set]
theorem nodOk_none (lv : Int) : nodOk lv nb8 = false := by
  unfold nodOk anyP nb8
  simp
theorem nodOk_low (lv : Int) (i : Nat) (hi : i < 8) : nodOk lv (nb8.set i (-1)) = false := by
  have h : ptrB (-1) = false := rfl
  unfold nodOk nb8
  obtain rfl | rfl | rfl | rfl | rfl | rfl | rfl | rfl : i = 0 ∨ i = 1 ∨ i = 2 ∨ i = 3 ∨ i = 4 ∨ i = 5 ∨ i = 6 ∨ i = 7 := by omega
  all_goals simp [h]
theorem nodeBounds_true : ∀ h xs avs, ArgsK [.int .i64, .int .i64, .int .i64] h xs avs → RunF prog 9 avs h fun v _ => v = .bool true := by
  intro h xs avs ha
  obtain ⟨gi, _, _, rfl, _, ha⟩ := argInt ha
  obtain ⟨gp, _, _, rfl, _, ha⟩ := argInt ha
  obtain ⟨gl, _, _, rfl, _, ha⟩ := argInt ha
  obtain rfl := argNil ha
  refine RunF.walk func9 rfl rfl ?_
  refine RunC.seq (RunC.region (RunO.all rfl ?_))
  refine RunC.seq (RunC.region (RunO.all rfl ?_))
  rw [fwu64', fwu64', fwu64']
  obtain ⟨hi0, hi1⟩ := modU gi 8 (by decide)
  obtain ⟨hp0, hp1⟩ := modU gp 4099 (by decide)
  obtain ⟨hl0, hl1⟩ := modU gl 4 (by decide)
  generalize (gi % 18446744073709551616).tmod 8 = I at *
  generalize (gp % 18446744073709551616).tmod 4099 = p at *
  generalize (gl % 18446744073709551616).tmod 4 = lv at *
  obtain ⟨i, rfl⟩ := Int.eq_ofNat_of_zero_le hi0
  have hi : i < 8 := by omega
  rw [fw64 (x := (i : Int)) (by omega) (by omega), fw64 (x := p) (by omega) (by omega), fw64 (x := lv) (by omega) (by omega)]
  refine RunC.seq (RunC.region (RunO.all (h1 := h.push ⟨nc 0 nb8, true⟩) rfl ?_))
  have ow1 : Ow (h.push ⟨nc 0 nb8, true⟩) h.next (nc 0 nb8) := Ow.push _ _
  generalize h.push ⟨nc 0 nb8, true⟩ = h1 at *
  generalize h.next = b1 at *
  refine RunC.seq (RunC.region (RunO.part 2 rfl ?_))
  refine RunO.store rfl rfl (store1_ow ow1 rfl rfl rfl (Nat.le_of_ble_eq_true rfl)) (RunO.nil ?_)
  have ow2 : Ow (h1.put b1 (some ⟨nc lv nb8, true⟩)) b1 (nc lv nb8) := Ow.put _ ow1.1
  change RunC _ _ _ _ (h1.put b1 (some ⟨nc lv nb8, true⟩)) _ _ _
  generalize h1.put b1 (some ⟨nc lv nb8, true⟩) = h2 at *
  refine RunC.seq (RunC.region (RunO.part 2 rfl ?_))
  rw [fw64 (x := (i : Int) + 1) (by omega) (by omega)]
  refine RunO.bin (v := .int .i64 ((i + 1) % 8 : Nat)) rfl rfl ?_ rfl ?_
  · show some (Value.int .i64 (((i : Int) + 1).tmod 8)) = _
    rw [Int.tmod_eq_emod_of_nonneg (by omega)]; rfl
  refine RunO.part 1 rfl ?_
  refine RunO.indexA (s := 1) rfl rfl rfl rfl rfl (Nat.mod_lt _ (by decide)) rfl ?_
  have ow3 := Ow.put (h := h2) (b := b1) (nc lv (nb8.set ((i + 1) % 8) 2)) ow2.1
  refine RunO.store (h1 := h2.put b1 (some ⟨nc lv (nb8.set ((i + 1) % 8) 2), true⟩)) rfl rfl ?_ (RunO.nil ?_)
  · rw [Nat.mul_one]
    show astore _ _ _ ⟨b1, 1 + (i + 1) % 8, none⟩ _ = _
    rw [Nat.add_comm 1]
    refine (store1_ow ow2 rfl rfl rfl (by have : (i + 1) % 8 < 8 := Nat.mod_lt _ (by decide); show _ + 1 < 9; omega)).trans ?_
    unfold nc
    rw [List.set_cons_succ, is_set]
  generalize h2.put b1 (some ⟨nc lv (nb8.set ((i + 1) % 8) 2), true⟩) = h3 at *
  refine RunC.seq (RunC.region (RunO.part 3 rfl ?_))
  refine RunO.indexA (s := 1) rfl rfl rfl rfl rfl hi rfl ?_
  have ow4 := Ow.put (h := h3) (b := b1) (nc lv ((nb8.set ((i + 1) % 8) 2).set i p)) ow3.1
  refine RunO.store (h1 := h3.put b1 (some ⟨nc lv ((nb8.set ((i + 1) % 8) 2).set i p), true⟩)) rfl rfl ?_ (RunO.nil ?_)
  · rw [Nat.mul_one]
    show astore _ _ _ ⟨b1, 1 + i, none⟩ _ = _
    rw [Nat.add_comm 1]
    refine (store1_ow ow3 rfl rfl rfl (by show _ < (is _).length + 1; rw [is_len]; simp [nb8]; omega)).trans ?_
    unfold nc
    rw [List.set_cons_succ, is_set]
  generalize h3.put b1 (some ⟨nc lv ((nb8.set ((i + 1) % 8) 2).set i p), true⟩) = h4 at *
  have hok := nodOk_bounds i hi p lv hp0 hl0
  have hlen : ((nb8.set ((i + 1) % 8) 2).set i p).length = 8 := by simp [nb8]
  generalize (nb8.set ((i + 1) % 8) 2).set i p = ps at *
  refine RunC.seqE (upd (upd (upd (upd (upd E0 0 (.int .i64 i)) 1 (.int .i64 p)) 2 (.int .i64 lv)) 7 (.pointer (some ⟨b1, 0, none⟩))) 8 (.bool (nodOk lv ps))) ?_ ?_
  · refine RunC.region (RunO.part 3 rfl ?_)
    rw [hok]
    show RunO _ _ _ _ (upd (upd _ 37 (.bool (p != 1))) 38 (.bool (p != 1))) _ _
    cases (p != 1) with
    | false => exact RunO.all rfl ⟨rfl, Le.cons rfl (Le.cons rfl (Le.cons rfl (Le.cons rfl (Le.cons rfl (Le.nil _)))))⟩
    | true =>
      refine RunO.part 4 rfl ?_
      cases decide (p < 4096) with
      | false => exact RunO.all rfl ⟨rfl, Le.cons rfl (Le.cons rfl (Le.cons rfl (Le.cons rfl (Le.cons rfl (Le.nil _)))))⟩
      | true => exact RunO.all rfl ⟨rfl, Le.cons rfl (Le.cons rfl (Le.cons rfl (Le.cons rfl (Le.cons rfl (Le.nil _)))))⟩
  refine RunC.seq (RunC.region ?_)
  refine RunO.load (v := .agg ⟨nc lv ps⟩) rfl (nc_load hlen ow4) rfl ?_
  refine RunO.callD (nodBytes_ok hlen) rfl rfl rfl ?_
  rintro v h5 ⟨f5, hv⟩
  have ow5 := ow4.fr f5 (fun g => g)
  obtain ⟨A, c, rfl⟩ : ∃ A c, v = .tuple #[.slice A (if nodOk lv ps then 64 else 0) c, .int .i64 (if nodOk lv ps then 0 else 1)] := by
    rcases hv with ⟨e, b, _, rfl, _⟩ | ⟨e, rfl⟩
    · rw [e]; exact ⟨_, _, rfl⟩
    · rw [e]; exact ⟨_, _, rfl⟩
  clear hv
  refine RunO.all rfl ?_
  refine RunC.seq (RunC.region (RunO.part 4 (h1 := h5.push ⟨nc 0 nb8, true⟩) rfl ?_))
  have hne5 : b1 ≠ h5.next := by have := ow5.1; omega
  refine RunO.store rfl rfl (store_ow (s := 9) (Ow.push h5 (nc 0 nb8)) rfl rfl rfl (by decide)) (RunO.nil ?_)
  change RunC _ _ _ _ ((h5.push ⟨nc 0 nb8, true⟩).put h5.next (some ⟨nc (lv.tmod 3) nb8, true⟩)) _ _ _
  have om : Ow ((h5.push ⟨nc 0 nb8, true⟩).put h5.next (some ⟨nc (lv.tmod 3) nb8, true⟩)) h5.next (nc (lv.tmod 3) nb8) := Ow.put _ (Nat.lt_succ_self _)
  have f6 : Fr no h5 ((h5.push ⟨nc 0 nb8, true⟩).put h5.next (some ⟨nc (lv.tmod 3) nb8, true⟩)) := (Fr.push _ _ _).trans (Fr.put (m := (· = h5.next)) _ (.inl rfl)) (fun j hj => .inr (by omega))
  have ow6 := ow5.fr f6 (fun g => g)
  generalize (h5.push ⟨nc 0 nb8, true⟩).put h5.next (some ⟨nc (lv.tmod 3) nb8, true⟩) = h6 at *
  generalize h5.next = b2 at *
  generalize lv.tmod 3 = lm at *
  refine RunC.seq (RunC.region (RunO.part 2 (h1 := h6.push ⟨nc 0 nb8, true⟩) rfl ?_))
  refine RunO.store rfl rfl (store_ow (s := 9) (Ow.push h6 (nc 0 nb8)) rfl rfl rfl (by decide)) (RunO.nil ?_)
  change RunC _ _ _ _ ((h6.push ⟨nc 0 nb8, true⟩).put h6.next (some ⟨nc 0 nb8, true⟩)) _ _ _
  have ol : Ow ((h6.push ⟨nc 0 nb8, true⟩).put h6.next (some ⟨nc 0 nb8, true⟩)) h6.next (nc 0 nb8) := Ow.put _ (Nat.lt_succ_self _)
  have f7 : Fr no h6 ((h6.push ⟨nc 0 nb8, true⟩).put h6.next (some ⟨nc 0 nb8, true⟩)) := (Fr.push _ _ _).trans (Fr.put (m := (· = h6.next)) _ (.inl rfl)) (fun j hj => .inr (by omega))
  have ow7 := ow6.fr f7 (fun g => g)
  have om7 := om.fr f7 (fun g => g)
  have hne : b1 ≠ h6.next ∧ b2 ≠ h6.next := by have := ow6.1; have := om.1; exact ⟨by omega, by omega⟩
  generalize (h6.push ⟨nc 0 nb8, true⟩).put h6.next (some ⟨nc 0 nb8, true⟩) = h7 at *
  generalize h6.next = b3 at *
  refine RunC.seq (RunC.region (RunO.part 2 rfl ?_))
  refine RunO.indexA (s := 1) rfl rfl rfl rfl rfl hi rfl ?_
  have ol8 := Ow.put (h := h7) (b := b3) (nc 0 (nb8.set i (-1))) ol.1
  have f8 : Fr (· = b3) h7 (h7.put b3 (some ⟨nc 0 (nb8.set i (-1)), true⟩)) := Fr.put _ (.inl rfl)
  refine RunO.store (h1 := h7.put b3 (some ⟨nc 0 (nb8.set i (-1)), true⟩)) rfl rfl ?_ (RunO.nil ?_)
  · rw [Nat.mul_one]
    show astore _ _ _ ⟨b3, 1 + i, none⟩ _ = _
    rw [Nat.add_comm 1]
    refine (store1_ow ol rfl rfl rfl (by show _ < (is _).length + 1; rw [is_len]; simp [nb8]; omega)).trans ?_
    unfold nc
    rw [List.set_cons_succ, is_set]
  have ow8 := ow7.fr f8 hne.1
  have om8 := om7.fr f8 hne.2
  generalize h7.put b3 (some ⟨nc 0 (nb8.set i (-1)), true⟩) = h8 at *
  have hlow := nodOk_low 0 i hi
  have hll : (nb8.set i (-1)).length = 8 := by simp [nb8]
  generalize nb8.set i (-1) = pl at *
  refine RunC.seq (RunC.region ?_)
  refine RunO.load (v := .agg ⟨nc lv ps⟩) rfl (nc_load hlen ow8) rfl ?_
  refine RunO.callD (nodCheck_ok hlen) rfl rfl rfl ?_
  rintro v h9 ⟨rfl, f9⟩
  have om9 := om8.fr f9 (fun g => g)
  have ol9 := ol8.fr f9 (fun g => g)
  generalize nodOk lv ps = ok at *
  cases ok with
  | true =>
    refine RunO.part 17 rfl ?_
    refine RunO.loadG (v := .agg ⟨nc lm nb8⟩) rfl rfl (nc_load rfl om9) rfl ?_
    refine RunO.callDG rfl (nodCheck_ok rfl) rfl rfl rfl ?_
    rintro v h10 ⟨rfl, f10⟩
    rw [nodOk_none]
    refine RunO.part 3 rfl ?_
    refine RunO.loadG (v := .agg ⟨nc 0 pl⟩) rfl rfl (nc_load hll (ol9.fr f10 (fun g => g))) rfl ?_
    refine RunO.callDG rfl (nodCheck_ok hll) rfl rfl rfl ?_
    rintro v h11 ⟨rfl, f11⟩
    rw [hlow]
    refine RunO.part 3 rfl ?_
    refine RunO.callDG rfl wakes07_ok rfl rfl rfl ?_
    rintro v h12 ⟨rfl, f12⟩
    exact RunO.all rfl (RunC.ret ⟨_, rfl, rfl⟩)
  | false =>
    refine RunO.part 17 rfl ?_
    refine RunO.loadG (v := .agg ⟨nc lm nb8⟩) rfl rfl (nc_load rfl om9) rfl ?_
    refine RunO.callDG rfl (nodCheck_ok rfl) rfl rfl rfl ?_
    rintro v h10 ⟨rfl, f10⟩
    rw [nodOk_none]
    refine RunO.part 3 rfl ?_
    refine RunO.loadG (v := .agg ⟨nc 0 pl⟩) rfl rfl (nc_load hll (ol9.fr f10 (fun g => g))) rfl ?_
    refine RunO.callDG rfl (nodCheck_ok hll) rfl rfl rfl ?_
    rintro v h11 ⟨rfl, f11⟩
    rw [hlow]
    refine RunO.part 3 rfl ?_
    refine RunO.callDG rfl wakes07_ok rfl rfl rfl ?_
    rintro v h12 ⟨rfl, f12⟩
    exact RunO.all rfl (RunC.ret ⟨_, rfl, rfl⟩)
end Go.Proofs.Ytaaemamcdhebhaa
