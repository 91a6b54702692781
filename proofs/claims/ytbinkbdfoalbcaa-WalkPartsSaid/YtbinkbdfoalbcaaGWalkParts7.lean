/- WalkParts: a calculus over an abstract machine that stands beside the model, and contracts of functions by it (part 7).
Conditions: what each theorem says of its arguments. -/
import Derived.Test.YtbinkbdfoalbcaaGWalkParts6
section
set_option linter.unusedVariables false
set_option linter.unusedSectionVars false
set_option maxRecDepth 100000
open Go Go.Am Go.RowKit
namespace Go.Proofs.Ytbinkbdfoalbcaa
open Go.Proofs.Try
theorem posP_two {L : List Int} (h : (lk L).2 = 0) : cntI (posP (cntL L)) 2 = 2 := by
  obtain ⟨hn, hp⟩ := cnt_inv h
  have h0 : posP (cntL L) 0 = true := decide_eq_true ((hp 0).2 (.inl (by decide)))
  have h1 : posP (cntL L) 1 = true := decide_eq_true ((hp 1).2 (.inl (by decide)))
  rw [show 2 = 0 + 1 + 1 from rfl, cntI_yes (by exact h1), cntI_yes h0]; rfl
theorem us_set0 (l : List Int) (i : Nat) (x : Int) : (us l).set (0 + i * 1) (.int .u8 x) = us (l.set i x) := by unfold us; rw [List.map_set, Nat.zero_add, Nat.mul_one]
set_option maxHeartbeats 32000000 in
theorem walkParts_true : ∀ h xs avs, ArgsK [.slice (.int .u8), .int .u8] h xs avs → RunF prog 7 avs h fun v _ => v = .bool true := by
  intro h xs avs ha
  obtain ⟨L, _, iv, _, rfl, sl, hwf, ha⟩ := argInts ha
  obtain ⟨cv, _, _, rfl, hcw, ha⟩ := argInt ha
  obtain rfl := argNil ha
  have hb : Byt L := fun x hx => wf_u8 (hwf x hx)
  have hcv := wf_u8 hcw
  refine RunF.walk func7 rfl rfl ?_
  refine RunC.seq (RunC.region (RunO.all rfl ?_))
  refine RunC.seq (RunC.seq (RunC.region (RunO.part 1 rfl ?_)))
  refine RunO.callD (heavy_ok sl) rfl rfl rfl ?_
  rintro _ _ ⟨rfl, rfl⟩
  refine RunO.all rfl ?_
  by_cases hL : (L.length : Int) > 19200
  · rw [decide_eq_true hL]
    refine RunC.cond rfl (fun _ => ?_) (fun g => by cases g)
    exact RunC.seq (RunC.region (RunO.all rfl (RunC.ret ⟨_, rfl, rfl⟩)))
  rw [decide_eq_false hL]
  refine RunC.cond rfl (fun g => by cases g) (fun _ => RunC.skip ?_)
  have hm : L.length ≤ 4611686018427387904 := by omega
  have sl0 : Sl h iv 1 L.length (us L) := sl
  obtain ⟨A, c, rfl, _, _⟩ := sl.form
  refine RunC.seq (RunC.region (RunO.part 1 rfl ?_))
  refine RunO.callD (walkCounts_ok sl0 hb hm) rfl rfl rfl ?_
  rintro _ h1 ⟨f1, ⟨g, cB, cb, hcb, rfl, ow⟩ | ⟨g, rfl⟩⟩
  case inr =>
    refine RunO.all rfl ?_
    refine RunC.seq (RunC.region (RunO.part 1 rfl ?_))
    refine RunO.callD (openOpen_ok (sl0.fr0 f1) hb hm) rfl rfl rfl ?_
    rintro _ h2 ⟨f2, ⟨g', _⟩ | ⟨_, rfl⟩⟩
    · exact absurd g' g
    refine RunO.part 4 (h1 := h2.push ⟨stc (0, 0, 0, 0, 0) 0 (.slice none 0 0), true⟩) rfl ?_
    refine RunO.store rfl rfl (store_ow (s := 7) (Ow.push h2 (stc (0, 0, 0, 0, 0) 0 (.slice none 0 0))) rfl rfl rfl (Nat.le_of_ble_eq_true rfl)) (RunO.all rfl ?_)
    generalize (lk L).2 = e at *
    refine RunC.seq (RunC.seq (RunC.region (RunO.part 2 rfl ?_)))
    rw [show (e != 0) = true from bne_iff_ne.2 g]
    refine RunO.all rfl (RunC.cond rfl (fun _ => ?_) (fun g => by cases g))
    refine RunC.seq (RunC.region (RunO.part 3 rfl ?_))
    rw [show (e == e) = true from beq_self_eq_true e]
    refine RunO.part 1 rfl ?_
    refine RunO.callDG rfl wakes12_ok rfl rfl rfl ?_
    rintro _ h9 ⟨rfl, f9⟩
    exact RunO.all rfl (RunC.ret ⟨_, rfl, rfl⟩)
  refine RunO.all rfl ?_
  refine RunC.seq (RunC.region (RunO.part 1 rfl ?_))
  refine RunO.callD (openOpen_ok (sl0.fr0 f1) hb hm) rfl rfl rfl ?_
  rintro _ h2 ⟨f2, ⟨_, rv, rfl, rl⟩ | ⟨g', _⟩⟩
  case inr => exact absurd g g'
  refine RunO.part 4 (h1 := h2.push ⟨stc (0, 0, 0, 0, 0) 0 (.slice none 0 0), true⟩) rfl ?_
  refine RunO.store rfl rfl (store_ow (s := 7) (Ow.push h2 (stc (0, 0, 0, 0, 0) 0 (.slice none 0 0))) rfl rfl (stc_cells rl) (Nat.le_of_ble_eq_true rfl)) (RunO.all rfl ?_)
  rw [stc_store]
  have f3 : Fr no h2 ((h2.push ⟨stc (0, 0, 0, 0, 0) 0 (.slice none 0 0), true⟩).put h2.next (some ⟨stc (lkS L) (pickS L).2.1 rv, true⟩)) := (Fr.push _ _ _).trans (Fr.put (m := (· = h2.next)) _ (.inl rfl)) (fun j hj => .inr (by omega))
  have os : Ow ((h2.push ⟨stc (0, 0, 0, 0, 0) 0 (.slice none 0 0), true⟩).put h2.next (some ⟨stc (lkS L) (pickS L).2.1 rv, true⟩)) h2.next (stc (lkS L) (pickS L).2.1 rv) := Ow.put _ (Nat.lt_succ_self _)
  have slI := ((sl0.fr0 f1).fr0 f2).fr0 f3
  have owc := (ow.fr f2 (fun g => g)).fr f3 (fun g => g)
  have hdl := lk_dev g
  obtain ⟨hre, hrl, hbl⟩ := recs_look g
  have slr := (rl.sl (by omega)).fr0 f3
  show RunC prog _ _ _ ((h2.push ⟨stc (0, 0, 0, 0, 0) 0 (.slice none 0 0), true⟩).put h2.next (some ⟨stc (lkS L) (pickS L).2.1 rv, true⟩)) _ _ _
  generalize (h2.push ⟨stc (0, 0, 0, 0, 0) 0 (.slice none 0 0), true⟩).put h2.next (some ⟨stc (lkS L) (pickS L).2.1 rv, true⟩) = h3 at *
  generalize h2.next = sb at *
  obtain ⟨B, hB⟩ : ∃ B, B = L.length / 64 := ⟨_, rfl⟩
  have hcn := cB.1
  rw [← hB] at hdl hcn
  refine RunC.seq (RunC.seq (RunC.region (RunO.all rfl (RunC.cond rfl (fun g => by cases g) (fun _ => RunC.skip ?_)))))
  -- the twin
  refine RunC.seq (RunC.region (RunO.part 1 rfl ?_))
  refine RunO.callD (twin_ok slI (by omega)) rfl rfl rfl ?_
  rintro xv h4 ⟨rx, f4⟩
  obtain ⟨xb, hxb, rfl, ox⟩ : ∃ b, h3.next ≤ b ∧ xv = .slice (some ⟨b, 0, none⟩) L.length (unkc 1) ∧ Ow h4 b (us L) := by
    rcases rx.2 with ⟨_, e⟩ | e
    · omega
    · exact e
  obtain ⟨xc, hxc⟩ : ∃ q, q = unkc 1 := ⟨_, rfl⟩
  have hcx : Cp 1 L.length xc := by
    have := (rx.sl (by omega)).2.2
    rw [hxc]
    rcases this with ⟨e, _⟩ | ⟨b, o, c', e, hc, _⟩
    · cases e
    · injection e with _ _ e3; rw [e3]; exact hc
  rw [← hxc]
  have owc3 := owc
  have os3 := os
  have hxb0 : ∀ b, b < h3.next → ¬ (b = xb) := fun b hb e => by omega
  have hsb1 := os.1
  have hcb1 := owc.1
  rw [← hB]
  refine RunO.all rfl ?_
  refine RunC.seq (RunC.region (RunO.all rfl ?_))
  have hp2 := posP_two g
  have hci := cnt_inv g
  refine RunC.seq (RunC.seq (RunC.region (RunO.all rfl ?_)))
  refine RunC.block ?_
  refine RunC.loop (fun d E h' => ∃ (i n : Nat) (X : List Int), i + d = B ∧ n + 2 = cntI (posP (cntL L)) i ∧ 2 ≤ i ∧ Fr no h3 h' ∧ Ow h' xb (us X) ∧ X.length = L.length ∧ Byt X ∧ (∀ j, (i ≤ j ∨ rch L j) → blkI X j = blkI L j) ∧ Le ((upd (upd (upd (upd (upd (upd (upd E0 0 (.slice A L.length c)) 1 (.int .u8 cv)) 5 (.slice (some ⟨cb, 0, none⟩) B (exc B))) 7 (.pointer (some ⟨sb, 0, none⟩))) 9 (.slice (some ⟨xb, 0, none⟩) L.length xc)) 10 (.int .i64 (n : Int))) 11 (.int .i64 (i : Int)))) E) ?st1 (k := B - 2) ?ini1
  case ini1 => exact ⟨2, 0, L, by omega, by rw [hp2], Nat.le_refl _, f4, ox, rfl, hb, fun _ _ => rfl, Le.cons rfl (Le.cons rfl (Le.cons rfl (Le.cons rfl (Le.cons rfl (Le.cons rfl (Le.cons rfl (Le.nil _)))))))⟩
  clear ox
  rintro d E g1 ⟨i, n, X, hi, hn, hi2, fg, ox, hXl, hXb, hXa, hE⟩
  refine RunC.le hE ?_
  clear hE
  have owc1 := owc.fr fg (fun g => g)
  have slc : Sl g1 (.slice (some ⟨cb, 0, none⟩) B (exc B)) 1 B (is (cntL L)) := by have := sl_owI owc1 hcn (Cp.exc (Nat.le_refl _)) (by omega); rwa [hcn] at this
  refine RunC.seq (RunC.seq (RunC.region (RunO.part 4 rfl ?_)))
  by_cases hlt : (i : Int) < (B : Int)
  case neg =>
    rw [decide_eq_false hlt]
    refine RunO.all rfl (RunC.cond rfl (fun g => by cases g) (fun _ => RunC.exit ?_))
    have hiB : i = B := by omega
    subst hiB
    have agr : Agr L X := ⟨hXl, fun j hj => hXa j (.inr hj)⟩
    have slX : Sl g1 (.slice (some ⟨xb, 0, none⟩) L.length xc) 1 X.length (us X) := by rw [← hXl] at hcx ⊢; exact sl_own ox rfl hcx (by omega)
    have e1 := agr.lks g
    have e2 := agr.F g
    have e3 := agr.S
    have e4 := agr.pick
    have e5 := agr.cnt g
    have e6 := agr.used g
    have hu : usedL L = n + 2 := by unfold usedL; rw [if_pos g, ← hB, hn]
    have gX : (lk X).2 = 0 := by rw [e1]; exact g
    refine RunC.seq (RunC.region (RunO.part 1 rfl ?_))
    refine RunO.callD (openOpen_ok slX hXb (by omega)) rfl rfl rfl ?_
    rintro _ g2 ⟨f5, ⟨_, wv, rfl, wl⟩ | ⟨g', _⟩⟩
    case inr => exact absurd gX g'
    refine RunO.part 4 (h1 := g2.push ⟨stc (0, 0, 0, 0, 0) 0 (.slice none 0 0), true⟩) rfl ?_
    refine RunO.store rfl rfl (store_ow (s := 7) (Ow.push g2 (stc (0, 0, 0, 0, 0) 0 (.slice none 0 0))) rfl rfl (stc_cells wl) (Nat.le_of_ble_eq_true rfl)) (RunO.all rfl ?_)
    rw [stc_store]
    have f6 : Fr no g2 ((g2.push ⟨stc (0, 0, 0, 0, 0) 0 (.slice none 0 0), true⟩).put g2.next (some ⟨stc (lkS X) (pickS X).2.1 wv, true⟩)) := (Fr.push _ _ _).trans (Fr.put (m := (· = g2.next)) _ (.inl rfl)) (fun j hj => .inr (by omega))
    have os2 : Ow ((g2.push ⟨stc (0, 0, 0, 0, 0) 0 (.slice none 0 0), true⟩).put g2.next (some ⟨stc (lkS X) (pickS X).2.1 wv, true⟩)) g2.next (stc (lkS X) (pickS X).2.1 wv) := Ow.put _ (Nat.lt_succ_self _)
    show RunC prog _ _ _ ((g2.push ⟨stc (0, 0, 0, 0, 0) 0 (.slice none 0 0), true⟩).put g2.next (some ⟨stc (lkS X) (pickS X).2.1 wv, true⟩)) _ _ _
    generalize (g2.push ⟨stc (0, 0, 0, 0, 0) 0 (.slice none 0 0), true⟩).put g2.next (some ⟨stc (lkS X) (pickS X).2.1 wv, true⟩) = g3 at *
    generalize g2.next = tb at *
    rw [e3, e4] at os2
    rw [e2] at wl
    replace wl := (wl.sl (by omega)).fr0 f6
    have slX3 := (slX.fr0 f5).fr0 f6
    refine RunC.seq (RunC.region (RunO.part 1 rfl ?_))
    refine RunO.callD (walkCounts_ok slX3 hXb (by omega)) rfl rfl rfl ?_
    rintro _ g4 ⟨f7, ⟨_, _, mb, _, rfl, om⟩ | ⟨g', _⟩⟩
    case inr => exact absurd gX g'
    rw [e5] at om
    rw [hXl, ← hB]
    refine RunO.all rfl ?_
    refine RunC.seq (RunC.region (RunO.part 1 rfl ?_))
    have slX4 := slX3.fr0 f7
    rw [hXl] at slX4
    have slX4 : Sl g4 (.slice (some ⟨xb, 0, none⟩) L.length xc) 1 X.length (us X) := by rw [hXl]; exact slX4
    refine RunO.callD (walkUsed_ok slX4 hXb (by omega)) rfl rfl rfl ?_
    rintro _ g5 ⟨rfl, f8⟩
    rw [e6, hu, gX]
    refine RunO.all rfl ?_
    have F7 := f7.same f8
    have F5 := (((fg.same f5).same f6).same F7)
    have oss := os.fr F5 (fun g => g)
    have ost := os2.fr F7 (fun g => g)
    have om5 := om.fr f8 (fun g => g)
    have slm : Sl g5 (.slice (some ⟨mb, 0, none⟩) i (exc i)) 1 (cntL L).length (is (cntL L)) := by have := sl_owI om5 hcn (Cp.exc (Nat.le_refl _)) (by omega); exact this
    have slc5 : Sl g5 (.slice (some ⟨cb, 0, none⟩) i (exc i)) 1 (cntL L).length (is (cntL L)) := by have := sl_owI (owc.fr F5 (fun g => g)) hcn (Cp.exc (Nat.le_refl _)) (by omega); exact this
    have slr5 := slr.fr0 F5
    have slw5 := wl.fr0 F7
    have hrl5 : (lkF L).1.length ≤ 4611686018427387904 := by omega
    have hn5 : n ≤ 100000 := by have := cntI_le (posP (cntL L)) i; omega
    generalize lkS L = s at *
    generalize (pickS L).2.1 = slot at *
    generalize (lkF L).1 = rs at *
    refine RunC.seq (RunC.region (RunO.part 11 rfl ?_))
    refine RunO.loadG (v := .agg ⟨stc s slot rv⟩) rfl rfl (oss.ld rfl) rfl ?_
    refine RunO.loadG (v := .agg ⟨stc s slot wv⟩) rfl rfl (ost.ld rfl) rfl ?_
    refine RunO.callDG rfl (keepState2_ok slr5 slw5 hrl5) rfl rfl rfl ?_
    rintro _ g6 ⟨rfl, f9⟩
    rw [show (((s == s) && (slot == slot)) && (rs == rs)) = true by rw [beq_self_eq_true s, beq_self_eq_true slot, beq_self_eq_true rs]; rfl]
    refine RunO.part 4 rfl ?_
    refine RunO.callDG rfl (keepInts_ok (slc5.fr0 f9) (slm.fr0 f9) (by omega)) rfl rfl rfl ?_
    rintro _ _ ⟨rfl, rfl⟩
    rw [beq_self_eq_true (cntL L)]
    refine RunO.part 5 rfl ?_
    rw [fw64 (x := (n : Int) + 2) (by omega) (by omega), show (n : Int) + 2 = ((n + 2 : Nat) : Int) by omega]
    refine RunO.part 1 rfl ?_
    rw [beq_self_eq_true ((n + 2 : Nat) : Int)]
    refine RunO.part 2 rfl ?_
    refine RunO.callDG rfl wakes12_ok rfl rfl rfl ?_
    rintro _ h9 ⟨rfl, f9⟩
    exact RunO.all rfl (RunC.ret ⟨_, rfl, rfl⟩)
  rw [decide_eq_true hlt]
  refine RunO.part 3 rfl ?_
  rw [fw64 (x := (i : Int) * 64) (by omega) (by omega)]
  refine RunO.part 3 rfl ?_
  rw [decide_eq_true (show (i : Int) * 64 < (L.length : Int) by omega)]
  refine RunO.all rfl (RunC.cond rfl (fun _ => RunC.skip ?_) (fun g => by cases g))
  have hlt : i < B := by omega
  refine RunC.seq (RunC.block ?_)
  refine RunC.seq (RunC.seq (RunC.region (RunO.part 2 rfl ?_)))
  refine RunO.at (s := 1) (k := i) rfl rfl slc rfl rfl hlt (ig_at (by rw [hcn]; exact hlt)) rfl rfl rfl (RunO.all rfl ?_)
  have hpi : decide ((cntL L).getD i 0 > 0) = posP (cntL L) i := rfl
  cases hp : posP (cntL L) i with
  | true =>
    refine RunC.cond (t := true) (congrArg (fun x => some (Value.bool x)) hp) (fun _ => ?_) (fun g => by cases g)
    refine RunC.seq (RunC.region (RunO.all rfl (RunC.exit ?_)))
    refine RunC.region (RunO.all rfl ?_)
    exact ⟨d - 1, by omega, i + 1, n + 1, X, by omega, by rw [cntI_yes hp]; omega, by omega, fg, ox, hXl, hXb, fun j hj => hXa j (by rcases hj with hj | hj; exact .inl (by omega); exact .inr hj), Le.cons (inc64 (by omega)) (Le.cons (inc64 (by have := cntI_le (posP (cntL L)) i; omega)) (Le.cons rfl (Le.cons rfl (Le.cons rfl (Le.cons rfl (Le.cons rfl (Le.nil _)))))))⟩
  | false =>
    refine RunC.cond (t := false) (congrArg (fun x => some (Value.bool x)) hp) (fun g => by cases g) (fun _ => RunC.skip ?_)
    have hnr : ¬ rch L i := fun g' => by
      have := (hci.2 i).2 g'
      have hp : decide ((cntL L).getD i 0 > 0) = false := hp
      exact of_decide_eq_false hp this
    refine RunC.seq (RunC.region (RunO.all rfl ?_))
    refine RunC.block ?_
    refine RunC.loop (fun e E h' => ∃ (k : Nat) (Y : List Int), k + e = 64 ∧ Fr no h3 h' ∧ Ow h' xb (us Y) ∧ Y.length = L.length ∧ Byt Y ∧ (∀ j, j ≠ i → blkI Y j = blkI X j) ∧ Le ((upd (upd (upd (upd (upd (upd (upd (upd E0 0 (.slice A L.length c)) 1 (.int .u8 cv)) 5 (.slice (some ⟨cb, 0, none⟩) B (exc B))) 7 (.pointer (some ⟨sb, 0, none⟩))) 9 (.slice (some ⟨xb, 0, none⟩) L.length xc)) 10 (.int .i64 (n : Int))) 11 (.int .i64 (i : Int))) 12 (.int .i64 (k : Int)))) E) ?st2 (k := 64) ?ini2
    case ini2 => exact ⟨0, X, by omega, fg, ox, hXl, hXb, fun _ _ => rfl, Le.cons rfl (Le.cons rfl (Le.cons rfl (Le.cons rfl (Le.cons rfl (Le.cons rfl (Le.cons rfl (Le.cons rfl (Le.nil _))))))))⟩
    rintro e E g2 ⟨k, Y, hk, fg2, oy, hYl, hYb, hYa, hE⟩
    refine RunC.le hE ?_
    clear hE
    refine RunC.seq (RunC.seq (RunC.region (RunO.all rfl ?_)))
    refine RunC.cond rfl (fun hlt => RunC.skip ?go2) (fun hge => RunC.exit ?ex2)
    case ex2 =>
      refine RunC.region (RunO.all rfl ?_)
      exact ⟨d - 1, by omega, i + 1, n, Y, by omega, by rw [cntI_no hp]; exact hn, by omega, fg2, oy, hYl, hYb, fun j hj => by
        have hji : j ≠ i := fun e => by
          subst e
          rcases hj with hj | hj
          · omega
          · exact hnr hj
        rw [hYa j hji]
        exact hXa j (by rcases hj with hj | hj; exact .inl (by omega); exact .inr hj), Le.cons (inc64 (by omega)) (Le.cons rfl (Le.cons rfl (Le.cons rfl (Le.cons rfl (Le.cons rfl (Le.cons rfl (Le.nil _)))))))⟩
    have hlt2 := of_decide_eq_true hlt
    have hk64 : k < 64 := by omega
    refine RunC.seq (RunC.block ?_)
    refine RunC.region (RunO.part 3 rfl ?_)
    rw [fw64 (x := (i : Int) * 64) (by omega) (by omega)]
    refine RunO.part 2 rfl ?_
    rw [fw64 (x := (i : Int) * 64 + (k : Int)) (by omega) (by omega), show (i : Int) * 64 + (k : Int) = ((i * 64 + k : Nat) : Int) by omega]
    refine RunO.part 4 rfl ?_
    rw [fwu8, fwu8]
    have hv0 : 0 ≤ (cv + (k : Int) % 256) % 256 := Int.emod_nonneg _ (by decide)
    have hv1 : (cv + (k : Int) % 256) % 256 < 256 := Int.emod_lt_of_pos _ (by decide)
    generalize (cv + (k : Int) % 256) % 256 = v at *
    refine RunO.index (s := 1) (k := i * 64 + k) rfl rfl rfl rfl (show i * 64 + k < L.length by omega) rfl ?_
    refine RunO.store rfl rfl (store1_ow oy rfl rfl rfl (by rw [us_len]; omega)) (RunO.nil ?_)
    rw [us_set0]
    refine RunC.region (RunO.all rfl ?_)
    exact ⟨e - 1, by omega, k + 1, Y.set (i * 64 + k) v, by omega, fg2.trans (Fr.put (m := (· = xb)) _ (.inl rfl)) (fun b e => .inr (by have e : b = xb := e; omega)), Ow.put _ oy.1, by rw [List.length_set]; exact hYl, fun x hx => by
      rcases List.mem_or_eq_of_mem_set hx with g | g
      · exact hYb x g
      · rw [g]; exact ⟨hv0, hv1⟩, fun j hj => by rw [blk_put hk64 hj]; exact hYa j hj, Le.cons (inc64 (by omega)) (Le.cons rfl (Le.cons rfl (Le.cons rfl (Le.cons rfl (Le.cons rfl (Le.cons rfl (Le.cons rfl (Le.nil _))))))))⟩
end Go.Proofs.Ytbinkbdfoalbcaa
end
