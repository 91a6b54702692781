/- SuperBounds: part of a calculus over an abstract machine that stands beside the model, and contracts of functions by it.
Conditions: what each theorem says of its arguments. -/
import Derived.Test.YtaaemamcdhebhaaSuperP
import Derived.Test.YtaaemamcdhebhaaAm17
set_option linter.unusedVariables false
set_option maxRecDepth 100000
open Go Go.Am Go.RowKit
namespace Go.Proofs.Ytaaemamcdhebhaa
open Go.Proofs.Try
theorem modU (x m : Int) (hm : 0 < m) : 0 ≤ (x % 18446744073709551616).tmod m ∧ (x % 18446744073709551616).tmod m < m := by
  have h := Int.emod_nonneg x (show (18446744073709551616 : Int) ≠ 0 by decide)
  rw [Int.tmod_eq_emod_of_nonneg h]
  exact ⟨Int.emod_nonneg _ (by omega), Int.emod_lt_of_pos _ hm⟩
theorem superBounds_true {h : Heap} (gen blocks size how : Int) : RunF prog 12 [.int .i64 gen, .int .i64 blocks, .int .i64 size, .int .i64 how] h fun v _ => v = .bool true := by
  refine RunF.walk func12 rfl rfl ?_
  refine RunC.seq (RunC.region (RunO.all rfl ?_))
  refine RunC.seq (RunC.region (RunO.part 16 (h1 := h.push ⟨sc 0 0 0 0 0, true⟩) rfl ?_))
  rw [fwu64', fwu64', fwu64']
  obtain ⟨hG0, hG1⟩ := modU gen 1099511627776 (by decide)
  obtain ⟨hB0, hB1⟩ := modU blocks 1000 (by decide)
  obtain ⟨hS0, hS1⟩ := modU size 513 (by decide)
  obtain ⟨hH0, hH1⟩ := modU how 9 (by decide)
  generalize (gen % 18446744073709551616).tmod 1099511627776 = G at *
  generalize (blocks % 18446744073709551616).tmod 1000 = B at *
  generalize (size % 18446744073709551616).tmod 513 = S at *
  rw [fw64 (x := G) (by omega) (by omega), fw64 (x := B) (by omega) (by omega), fw64 (x := S) (by omega) (by omega), fw64 (x := 1 + G) (by omega) (by omega), fw64 (x := 4 + B) (by omega) (by omega)]
  refine RunO.store rfl rfl (store_ow (s := 5) (Ow.push h (sc 0 0 0 0 0)) rfl rfl rfl (by decide)) (RunO.nil ?_)
  change RunC _ _ _ _ ((h.push ⟨sc 0 0 0 0 0, true⟩).put h.next (some ⟨sc (1 + G) (4 + B) 0 S 0, true⟩)) _ _ _
  have ow1 : Ow ((h.push ⟨sc 0 0 0 0 0, true⟩).put h.next (some ⟨sc (1 + G) (4 + B) 0 S 0, true⟩)) h.next (sc (1 + G) (4 + B) 0 S 0) := Ow.put _ (Nat.lt_succ_self _)
  generalize (h.push ⟨sc 0 0 0 0 0, true⟩).put h.next (some ⟨sc (1 + G) (4 + B) 0 S 0, true⟩) = h1 at *
  generalize h.next = p1 at *
  refine RunC.seq (RunC.region (RunO.part 1 rfl ?_))
  refine RunO.load (v := .int .i64 (4 + B)) rfl (ow1.all.cell1 (k := 1) rfl rfl) rfl ?_
  refine RunO.part 2 rfl ?_
  rw [fw64 (x := 4 + B - 1) (by omega) (by omega)]
  refine RunO.store rfl rfl (store1_ow ow1 rfl rfl rfl (Nat.le_of_ble_eq_true rfl)) ?_
  have ow2 : Ow (h1.put p1 (some ⟨sc (1 + G) (4 + B) (4 + B - 1) S 0, true⟩)) p1 (sc (1 + G) (4 + B) (4 + B - 1) S 0) := Ow.put _ ow1.1
  change RunO _ _ _ _ _ (h1.put p1 (some ⟨sc (1 + G) (4 + B) (4 + B - 1) S 0, true⟩)) _
  generalize h1.put p1 (some ⟨sc (1 + G) (4 + B) (4 + B - 1) S 0, true⟩) = h2 at *
  refine RunO.part 1 rfl ?_
  refine RunO.store rfl rfl (store1_ow ow2 rfl rfl rfl (Nat.le_of_ble_eq_true rfl)) (RunO.nil ?_)
  have ow3 : Ow (h2.put p1 (some ⟨sc (1 + G) (4 + B) (4 + B - 1) S 2, true⟩)) p1 (sc (1 + G) (4 + B) (4 + B - 1) S 2) := Ow.put _ ow2.1
  change RunC _ _ _ _ (h2.put p1 (some ⟨sc (1 + G) (4 + B) (4 + B - 1) S 2, true⟩)) _ _ _
  generalize h2.put p1 (some ⟨sc (1 + G) (4 + B) (4 + B - 1) S 2, true⟩) = h3 at *
  clear ow1 ow2
  refine RunC.seq (RunC.region ?_)
  refine RunO.load (v := .agg ⟨sc (1 + G) (4 + B) (4 + B - 1) S 2⟩) rfl (ow3.all.part (k := 0) rfl) rfl ?_
  refine RunO.part 1 (h1 := h3.push ⟨sc 0 0 0 0 0, true⟩) rfl ?_
  refine RunO.store rfl rfl (store_ow (s := 5) (Ow.push h3 (sc 0 0 0 0 0)) rfl rfl rfl (by decide)) (RunO.nil ?_)
  change RunC _ _ _ _ ((h3.push ⟨sc 0 0 0 0 0, true⟩).put h3.next (some ⟨sc (1 + G) (4 + B) (4 + B - 1) S 2, true⟩)) _ _ _
  have ow4 : Ow ((h3.push ⟨sc 0 0 0 0 0, true⟩).put h3.next (some ⟨sc (1 + G) (4 + B) (4 + B - 1) S 2, true⟩)) h3.next (sc (1 + G) (4 + B) (4 + B - 1) S 2) := Ow.put _ (Nat.lt_succ_self _)
  have f4 : Fr no h3 ((h3.push ⟨sc 0 0 0 0 0, true⟩).put h3.next (some ⟨sc (1 + G) (4 + B) (4 + B - 1) S 2, true⟩)) := (Fr.push _ _ _).trans (Fr.put (m := (· = h3.next)) _ (.inl rfl)) (fun j hj => .inr (by omega))
  generalize (h3.push ⟨sc 0 0 0 0 0, true⟩).put h3.next (some ⟨sc (1 + G) (4 + B) (4 + B - 1) S 2, true⟩) = h4 at *
  have ow14 := ow3.fr f4 (fun g => g)
  have hp : p1 < h3.next := ow3.1
  generalize h3.next = p4 at *
  clear ow3 f4
  refine RunC.seqc (fun E' h' => Ow h' p1 (sc (1 + G) (4 + B) (4 + B - 1) S 2) ∧ (∃ g b r s f, superOk g b r s f = false ∧ Ow h' p4 (sc g b r s f)) ∧ Le (upd (upd E0 9 (.pointer (some ⟨p1, 0, none⟩))) 10 (.pointer (some ⟨p4, 0, none⟩))) E') ?_ ?_
  · have fin : ∀ {E' : Env} {g b r s f : Int} {cs : List Value} {bs : Option AObj}, superOk g b r s f = false → bs = some ⟨sc g b r s f, true⟩ → Le (upd (upd E0 9 (.pointer (some ⟨p1, 0, none⟩))) 10 (.pointer (some ⟨p4, 0, none⟩))) E' →
        (Ow (h4.put p4 bs) p1 (sc (1 + G) (4 + B) (4 + B - 1) S 2) ∧ (∃ g b r s f, superOk g b r s f = false ∧ Ow (h4.put p4 bs) p4 (sc g b r s f)) ∧ Le (upd (upd E0 9 (.pointer (some ⟨p1, 0, none⟩))) 10 (.pointer (some ⟨p4, 0, none⟩))) E') := by
      intro E' g b r s f cs bs hno hbs hle
      subst hbs
      exact ⟨ow14.fr (Fr.put (m := (· = p4)) _ (.inl rfl)) (by omega), ⟨g, b, r, s, f, hno, Ow.put _ ow4.1⟩, hle⟩
    have bad : ∀ {g b r s f : Int}, ¬ ((1 ≤ g ∧ g ≤ 1099511627776) ∧ (4 ≤ b ∧ b ≤ 4096) ∧ (0 ≤ s ∧ s ≤ 512) ∧ (r = 0 ∨ 2 ≤ r ∧ r ≤ b - 1) ∧ (f = 0 ∨ 2 ≤ f ∧ f ≤ b - 1)) → superOk g b r s f = false := by
      intro g b r s f hn
      rw [← superOk_iff] at hn
      simpa using hn
    refine RunC.seq (RunC.region (RunO.all rfl ?_))
    rw [fwu64']
    generalize (how % 18446744073709551616).tmod 9 = H at *
    refine RunC.block ?_
    refine RunC.seq (RunC.region (RunO.all rfl (RunC.cond rfl (fun c0 => ?_) (fun c0 => ?_))))
    · refine RunC.region (RunO.part 1 rfl ?_)
      refine RunO.store rfl rfl (store1_ow ow4 rfl rfl rfl (Nat.le_of_ble_eq_true rfl)) (RunO.nil ?_)
      exact fin (g := 0) (b := 4 + B) (r := 4 + B - 1) (s := S) (f := 2) (cs := []) (bad (by omega)) rfl (Le.cons rfl (Le.cons rfl (Le.nil _)))
    refine RunC.seq (RunC.region (RunO.all rfl (RunC.cond rfl (fun c1 => ?_) (fun c1 => ?_))))
    · refine RunC.region (RunO.part 1 rfl ?_)
      refine RunO.store rfl rfl (store1_ow ow4 rfl rfl rfl (Nat.le_of_ble_eq_true rfl)) (RunO.nil ?_)
      exact fin (g := 1099511627777) (b := 4 + B) (r := 4 + B - 1) (s := S) (f := 2) (cs := []) (bad (by omega)) rfl (Le.cons rfl (Le.cons rfl (Le.nil _)))
    refine RunC.seq (RunC.region (RunO.all rfl (RunC.cond rfl (fun c1 => ?_) (fun c1 => ?_))))
    · refine RunC.region (RunO.part 1 rfl ?_)
      refine RunO.store rfl rfl (store1_ow ow4 rfl rfl rfl (Nat.le_of_ble_eq_true rfl)) (RunO.nil ?_)
      exact fin (g := 1 + G) (b := 3) (r := 4 + B - 1) (s := S) (f := 2) (cs := []) (bad (by omega)) rfl (Le.cons rfl (Le.cons rfl (Le.nil _)))
    refine RunC.seq (RunC.region (RunO.all rfl (RunC.cond rfl (fun c1 => ?_) (fun c1 => ?_))))
    · refine RunC.region (RunO.part 1 rfl ?_)
      refine RunO.store rfl rfl (store1_ow ow4 rfl rfl rfl (Nat.le_of_ble_eq_true rfl)) (RunO.nil ?_)
      exact fin (g := 1 + G) (b := 4097) (r := 4 + B - 1) (s := S) (f := 2) (cs := []) (bad (by omega)) rfl (Le.cons rfl (Le.cons rfl (Le.nil _)))
    refine RunC.seq (RunC.region (RunO.all rfl (RunC.cond rfl (fun c1 => ?_) (fun c1 => ?_))))
    · refine RunC.region (RunO.part 1 rfl ?_)
      refine RunO.store rfl rfl (store1_ow ow4 rfl rfl rfl (Nat.le_of_ble_eq_true rfl)) (RunO.nil ?_)
      exact fin (g := 1 + G) (b := 4 + B) (r := 4 + B - 1) (s := 513) (f := 2) (cs := []) (bad (by omega)) rfl (Le.cons rfl (Le.cons rfl (Le.nil _)))
    refine RunC.seq (RunC.region (RunO.all rfl (RunC.cond rfl (fun c1 => ?_) (fun c1 => ?_))))
    · refine RunC.region (RunO.part 1 rfl ?_)
      refine RunO.store rfl rfl (store1_ow ow4 rfl rfl rfl (Nat.le_of_ble_eq_true rfl)) (RunO.nil ?_)
      exact fin (g := 1 + G) (b := 4 + B) (r := 4 + B - 1) (s := -1) (f := 2) (cs := []) (bad (by omega)) rfl (Le.cons rfl (Le.cons rfl (Le.nil _)))
    refine RunC.seq (RunC.region (RunO.all rfl (RunC.cond rfl (fun c1 => ?_) (fun c1 => ?_))))
    · refine RunC.region (RunO.part 1 rfl ?_)
      refine RunO.store rfl rfl (store1_ow ow4 rfl rfl rfl (Nat.le_of_ble_eq_true rfl)) (RunO.nil ?_)
      exact fin (g := 1 + G) (b := 4 + B) (r := 1) (s := S) (f := 2) (cs := []) (bad (by omega)) rfl (Le.cons rfl (Le.cons rfl (Le.nil _)))
    refine RunC.seq (RunC.region (RunO.all rfl (RunC.cond rfl (fun c1 => ?_) (fun c1 => ?_))))
    · refine RunC.region (RunO.part 1 rfl ?_)
      refine RunO.load (v := .int .i64 (4 + B)) rfl (ow4.all.cell1 (k := 1) rfl rfl) rfl ?_
      refine RunO.part 1 rfl ?_
      refine RunO.store rfl rfl (store1_ow ow4 rfl rfl rfl (Nat.le_of_ble_eq_true rfl)) (RunO.nil ?_)
      exact fin (g := 1 + G) (b := 4 + B) (r := 4 + B) (s := S) (f := 2) (cs := []) (bad (by omega)) rfl (Le.cons rfl (Le.cons rfl (Le.nil _)))
    · refine RunC.region (RunO.part 1 rfl ?_)
      refine RunO.store rfl rfl (store1_ow ow4 rfl rfl rfl (Nat.le_of_ble_eq_true rfl)) (RunO.nil ?_)
      exact fin (g := 1 + G) (b := 4 + B) (r := 4 + B - 1) (s := S) (f := -2) (cs := []) (bad (by omega)) rfl (Le.cons rfl (Le.cons rfl (Le.nil _)))
  rintro E' h5 ⟨og, ⟨g, b, r, s, f, hno, ob⟩, hE⟩
  refine RunC.le hE ?_
  clear hE ow4 ow14
  have hyes : superOk (1 + G) (4 + B) (4 + B - 1) S 2 = true := by rw [superOk_iff]; omega
  generalize 1 + G = a0 at *
  generalize 4 + B = a1 at *
  generalize a1 - 1 = a2 at *
  refine RunC.seq (RunC.region ?_)
  refine RunO.load (v := .agg ⟨sc a0 a1 a2 S 2⟩) rfl (og.all.part (k := 0) rfl) rfl ?_
  refine RunO.callD superBytes_ok rfl rfl rfl ?_
  rintro v h6 ⟨f6, hv⟩
  rcases hv with ⟨_, bx, hbx, rfl, obx⟩ | ⟨hn, _⟩
  case inr => rw [hyes] at hn; cases hn
  have og6 := og.fr f6 (fun g => g)
  have ob6 := ob.fr f6 (fun g => g)
  refine RunO.all rfl ?_
  refine RunC.seq (RunC.region ?_)
  refine RunO.load (v := .agg ⟨sc g b r s f⟩) rfl (ob6.all.part (k := 0) rfl) rfl ?_
  refine RunO.callD superBytes_ok rfl rfl rfl ?_
  rintro v h7 ⟨f7, hv⟩
  rcases hv with ⟨hn, _⟩ | ⟨_, rfl⟩
  case inl => rw [hno] at hn; cases hn
  have og7 := og6.fr f7 (fun g => g)
  have ob7 := ob6.fr f7 (fun g => g)
  have obx7 := obx.fr f7 (fun g => g)
  refine RunO.all rfl ?_
  have hback := super_back hyes
  refine RunC.seq (RunC.region (RunO.part 1 rfl ?_))
  have hparse := superParse_ok (h := h7) (A := some ⟨bx, 0, none⟩) (c := exc 64) (l := superBlock a0 a1 a2 S 2) (fun _ => ⟨_, rfl, obx7.all⟩) (superBlock_byt _ _ _ _ _) (Cp.exc (by rw [superBlock_len]; exact Nat.le_refl _))
  rw [superBlock_len] at hparse
  refine RunO.callD hparse rfl rfl rfl ?_
  rintro v h8 ⟨rfl, f8⟩
  rw [sCells_eq, hback.1, hback.2]
  have og8 := og7.fr f8 (fun g => g)
  have ob8 := ob7.fr f8 (fun g => g)
  refine RunO.part 4 (h1 := h8.push ⟨sc 0 0 0 0 0, true⟩) rfl ?_
  refine RunO.store rfl rfl (store_ow (s := 5) (Ow.push h8 (sc 0 0 0 0 0)) rfl rfl rfl (by decide)) ?_
  refine RunO.all rfl ?_
  change RunC _ _ _ _ ((h8.push ⟨sc 0 0 0 0 0, true⟩).put h8.next (some ⟨sc a0 a1 a2 S 2, true⟩)) _ _ _
  have o9 : Ow ((h8.push ⟨sc 0 0 0 0 0, true⟩).put h8.next (some ⟨sc a0 a1 a2 S 2, true⟩)) h8.next (sc a0 a1 a2 S 2) := Ow.put _ (Nat.lt_succ_self _)
  have f9 : Fr no h8 ((h8.push ⟨sc 0 0 0 0 0, true⟩).put h8.next (some ⟨sc a0 a1 a2 S 2, true⟩)) := (Fr.push _ _ _).trans (Fr.put (m := (· = h8.next)) _ (.inl rfl)) (fun j hj => .inr (by omega))
  generalize (h8.push ⟨sc 0 0 0 0 0, true⟩).put h8.next (some ⟨sc a0 a1 a2 S 2, true⟩) = h9 at *
  generalize h8.next = p9 at *
  have og9 := og8.fr f9 (fun g => g)
  have ob9 := ob8.fr f9 (fun g => g)
  refine RunC.seq (RunC.region ?_)
  refine RunO.load (v := .agg ⟨sc a0 a1 a2 S 2⟩) rfl (og9.all.part (k := 0) rfl) rfl ?_
  refine RunO.callD superCheck_ok rfl rfl rfl ?_
  rintro v h10 ⟨rfl, f10⟩
  rw [hyes]
  have og10 := og9.fr f10 (fun g => g)
  have ob10 := ob9.fr f10 (fun g => g)
  have o10 := o9.fr f10 (fun g => g)
  refine RunO.part 10 rfl ?_
  refine RunO.loadG (v := .agg ⟨sc a0 a1 a2 S 2⟩) rfl rfl (o10.all.part (k := 0) rfl) rfl ?_
  refine RunO.loadG (v := .agg ⟨sc a0 a1 a2 S 2⟩) rfl rfl (og10.all.part (k := 0) rfl) rfl ?_
  refine RunO.oneG (v := .bool true) (E1 := upd _ 97 (.bool true)) (h1 := h10) rfl (by show pureR h10 (abinop prog .eql 56 (.agg ⟨sc a0 a1 a2 S 2⟩) (.agg ⟨sc a0 a1 a2 S 2⟩)) = _; rw [super_eq]; simp [pureR]) rfl ?_
  refine RunO.part 2 rfl ?_
  refine RunO.loadG (v := .agg ⟨sc g b r s f⟩) rfl rfl (ob10.all.part (k := 0) rfl) rfl ?_
  refine RunO.callDG rfl superCheck_ok rfl rfl rfl ?_
  rintro v h11 ⟨rfl, f11⟩
  rw [hno]
  refine RunO.part 12 rfl ?_
  refine RunO.callDG rfl wakes06_ok rfl rfl rfl ?_
  rintro v h12 ⟨rfl, f12⟩
  exact RunO.all rfl (RunC.ret ⟨_, rfl, rfl⟩)
theorem mixed : prog.follows .mixedOrders = true := by kernel_rfl
theorem routines : noRoutine prog = true := by kernel_rfl
theorem superBounds_walk (a0 a1 a2 a3 : Int) (W : World) : Calls prog 12 #[.int .i64 a0, .int .i64 a1, .int .i64 a2, .int .i64 a3] W fun e w' => e = .returned (.bool true) ∧ Below W.heap.size W w' :=
  RunF.calls mixed routines rfl (superBounds_true a0 a1 a2 a3) W
end Go.Proofs.Ytaaemamcdhebhaa
