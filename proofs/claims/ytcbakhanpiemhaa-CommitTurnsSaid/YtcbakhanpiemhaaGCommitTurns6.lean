/- CommitTurns: a calculus over an abstract machine that stands beside the model, and contracts of functions by it (part 6).
Conditions: what each theorem says of its arguments. -/
import Derived.Test.YtcbakhanpiemhaaGCommitTurns5
section
set_option linter.unusedVariables false
set_option linter.unusedSectionVars false
set_option maxRecDepth 100000
open Go Go.Am Go.RowKit
namespace Go.Proofs.Ytcbakhanpiemhaa
open Go.Proofs.Try
theorem reps_bo (n : Nat) : reps (cellsOf (Value.bool false)) n = bo (List.replicate n false) := by
  rw [show cellsOf (Value.bool false) = [.bool false] from rfl, reps_one]; unfold bo; rw [List.map_replicate]
theorem rep_false (n j : Nat) : (List.replicate n false).getD j false = false := by
  rw [List.getD_eq_getElem?_getD, List.getElem?_replicate]; split <;> rfl
/-- The cells of an open image. -/
def imc (s : S5) (slot : Int) (rv bv tv : Value) : List Value := sc5 s ++ [.int .i64 slot, rv, bv, tv]
set_option maxHeartbeats 32000000 in
theorem openClash_ok {h : Heap} {xb B : Nat} {s : S5} {slot : Int} {rv bv tv : Value} {bl : List Int} {TL : List Tr3} (ox : Ow h xb (imc s slot rv bv tv)) (sbl : Sl h bv 1 bl.length (is bl)) (stl : Sl h tv 1 TL.length (tps TL))
    (htr : ∀ t ∈ TL, TrOk B h t) (hbr : ∀ x ∈ bl, 0 ≤ x ∧ x < (B : Int)) (hB : B ≤ 100000) (hbl : bl.length ≤ 100000) (hTL : TL.length ≤ 100000) :
    RunF prog 107 [.pointer (some ⟨xb, 0, none⟩), .int .i64 (B : Int)] h fun v h' => Fr no h h' ∧ ((∃ i : Nat, i < B ∧ v = .int .i64 (i : Int) ∧ clP bl TL i = true ∧ ∀ j, j < i → clP bl TL j = false) ∨ (v = .int .i64 0 ∧ ∀ j, j < B → clP bl TL j = false)) := by
  refine RunF.walk func107 rfl rfl ?_
  obtain ⟨bA, bc, rfl, _, _⟩ := sbl.form
  obtain ⟨tA, tc, rfl, _, _⟩ := stl.form
  refine RunC.seq (RunC.region (RunO.all rfl ?_))
  refine RunC.seq (RunC.draw0 rfl ?_)
  refine RunO.part 1 rfl ?_
  refine RunO.make (m := B) rfl rfl rfl rfl rfl rfl (show 1 * B ≤ _ by omega) (by omega) rfl ?_
  rw [reps_bo]
  have on := Ow.push h (bo (List.replicate B false))
  have f1 : Fr no h (h.push ⟨bo (List.replicate B false), true⟩) := Fr.push _ _ _
  generalize h.push ⟨bo (List.replicate B false), true⟩ = h1 at *
  obtain ⟨nb, hnb⟩ : ∃ q, q = h.next := ⟨_, rfl⟩
  rw [← hnb] at on ⊢
  have hn1 := on.1
  refine RunO.part 1 rfl ?_
  refine RunO.make (m := B) rfl rfl rfl rfl rfl rfl (show 1 * B ≤ _ by omega) (by omega) rfl ?_
  rw [reps_bo]
  have or := Ow.push h1 (bo (List.replicate B false))
  have f2 : Fr no h1 (h1.push ⟨bo (List.replicate B false), true⟩) := Fr.push _ _ _
  replace on := on.fr f2 (fun g => g)
  generalize h1.push ⟨bo (List.replicate B false), true⟩ = h2 at *
  obtain ⟨rb, hrb⟩ : ∃ q, q = h1.next := ⟨_, rfl⟩
  rw [← hrb] at or ⊢
  have hn2 := or.1
  refine RunO.part 1 rfl ?_
  refine RunO.make (m := B) rfl rfl rfl rfl rfl rfl (show 1 * B ≤ _ by omega) (by omega) rfl ?_
  rw [reps_bo]
  have os := Ow.push h2 (bo (List.replicate B false))
  have f3 : Fr no h2 (h2.push ⟨bo (List.replicate B false), true⟩) := Fr.push _ _ _
  replace on := on.fr f3 (fun g => g)
  replace or := or.fr f3 (fun g => g)
  generalize h2.push ⟨bo (List.replicate B false), true⟩ = h3 at *
  obtain ⟨sb, hsb⟩ : ∃ q, q = h2.next := ⟨_, rfl⟩
  rw [← hsb] at os ⊢
  have hn3 := os.1
  refine RunO.part 2 (h1 := h3.push ⟨[.slice none 0 0, .slice none 0 0, .slice none 0 0], true⟩) rfl ?_
  refine RunO.store rfl rfl (store_ow (s := 3) (Ow.push h3 [.slice none 0 0, .slice none 0 0, .slice none 0 0]) rfl rfl rfl (Nat.le_refl 3)) (RunO.nil ?_)
  have e3 : [Value.slice none 0 0, .slice none 0 0, .slice none 0 0].take 0 ++ cellsOf (.agg ⟨[.slice (some ⟨nb, 0, none⟩) B (exc B), .slice (some ⟨rb, 0, none⟩) B (exc B), .slice (some ⟨sb, 0, none⟩) B (exc B)]⟩) ++ [Value.slice none 0 0, .slice none 0 0, .slice none 0 0].drop (0 + 3) = [.slice (some ⟨nb, 0, none⟩) B (exc B), .slice (some ⟨rb, 0, none⟩) B (exc B), .slice (some ⟨sb, 0, none⟩) B (exc B)] := rfl
  have op : Ow ((h3.push ⟨[.slice none 0 0, .slice none 0 0, .slice none 0 0], true⟩).put h3.next (some ⟨[.slice (some ⟨nb, 0, none⟩) B (exc B), .slice (some ⟨rb, 0, none⟩) B (exc B), .slice (some ⟨sb, 0, none⟩) B (exc B)], true⟩)) h3.next _ := Ow.put _ (Nat.lt_succ_self _)
  have f4 : Fr no h3 ((h3.push ⟨[.slice none 0 0, .slice none 0 0, .slice none 0 0], true⟩).put h3.next (some ⟨[.slice (some ⟨nb, 0, none⟩) B (exc B), .slice (some ⟨rb, 0, none⟩) B (exc B), .slice (some ⟨sb, 0, none⟩) B (exc B)], true⟩)) := (Fr.push _ _ _).trans (Fr.put (m := (· = h3.next)) _ (.inl rfl)) (fun j hj => .inr (by omega))
  replace on := on.fr f4 (fun g => g)
  replace or := or.fr f4 (fun g => g)
  replace os := os.fr f4 (fun g => g)
  show RunC prog _ _ _ ((h3.push ⟨[.slice none 0 0, .slice none 0 0, .slice none 0 0], true⟩).put h3.next (some ⟨[.slice (some ⟨nb, 0, none⟩) B (exc B), .slice (some ⟨rb, 0, none⟩) B (exc B), .slice (some ⟨sb, 0, none⟩) B (exc B)], true⟩)) _ _ _
  generalize (h3.push ⟨[.slice none 0 0, .slice none 0 0, .slice none 0 0], true⟩).put h3.next (some ⟨[.slice (some ⟨nb, 0, none⟩) B (exc B), .slice (some ⟨rb, 0, none⟩) B (exc B), .slice (some ⟨sb, 0, none⟩) B (exc B)], true⟩) = h4 at *
  obtain ⟨pb, hpb⟩ : ∃ q, q = h3.next := ⟨_, rfl⟩
  rw [← hpb] at op ⊢
  have F4 : Fr no h h4 := ((f1.same f2).same f3).same f4
  have cd : CD pb nb rb sb := ⟨by omega, by omega, by omega, by omega, by omega, by omega⟩
  have cw : CW h4 B pb nb rb sb (List.replicate B false) (List.replicate B false) (List.replicate B false) := ⟨op, on, or, os, List.length_replicate, List.length_replicate, List.length_replicate⟩
  have hge : h.next ≤ nb ∧ h.next ≤ rb ∧ h.next ≤ sb := by omega
  clear op on or os f1 f2 f3 f4
  -- the records
  refine RunC.seq ?_
  refine RunC.seq (RunC.region (RunO.part 3 rfl ?_))
  refine RunO.load (v := .slice bA bl.length bc) rfl ((ox.fr F4 (fun g => g)).ld rfl) rfl (RunO.all rfl ?_)
  refine RunC.block ?_
  refine RunC.loop (fun d E h' => ∃ (i : Nat) (R : List Bool), i + d = bl.length ∧ CW h' B pb nb rb sb (List.replicate B false) R (List.replicate B false) ∧ (∀ j, j < B → R.getD j false = (bl.take i).contains (j : Int)) ∧ Fr no h h' ∧
    Le (upd (upd (upd (upd (upd (upd E0 0 (.pointer (some ⟨xb, 0, none⟩))) 1 (.int .i64 (B : Int))) 5 (.pointer (some ⟨pb, 0, none⟩))) 25 (.slice bA bl.length bc)) 26 (.int .i64 (bl.length : Int))) 27 (.int .i64 (i : Int))) E) ?st1 (k := bl.length) ?ini1
  case ini1 => exact ⟨0, _, by omega, cw, fun j _ => by rw [rep_false]; simp, F4, Le.cons rfl (Le.cons rfl (Le.cons rfl (Le.cons rfl (Le.cons rfl (Le.cons rfl (Le.nil _))))))⟩
  rintro d E g1 ⟨i, R, hi, cw, hR, fg, hE⟩
  refine RunC.le hE ?_
  clear hE
  refine RunC.seq (RunC.region (RunO.all rfl ?_))
  refine RunC.seq (RunC.cond rfl (fun hlt => RunC.skip ?go1) (fun hge => RunC.exit ?ex1))
  case go1 =>
    have hlt := of_decide_eq_true hlt
    have hlt : i < bl.length := by omega
    obtain ⟨x0, xB⟩ := hbr bl[i] (List.getElem_mem hlt)
    obtain ⟨q, hq⟩ := Int.eq_ofNat_of_zero_le x0
    have hqB : q < B := by omega
    have hcs := fun x => cont_succ hlt x
    refine RunC.seq (RunC.block ?_)
    refine RunC.seq (RunC.region ?_)
    refine RunO.at (s := 1) (k := i) rfl rfl (sbl.fr0 fg) rfl rfl hlt (is_part hlt) rfl rfl rfl (RunO.all rfl ?_)
    rw [hq] at hcs ⊢
    refine RunC.region (RunO.part 1 rfl ?_)
    refine RunO.load (v := .slice (some ⟨rb, 0, none⟩) B (exc B)) rfl (cw.op.ld rfl) rfl ?_
    refine RunO.part 1 rfl ?_
    refine RunO.index (s := 1) (k := q) rfl rfl rfl rfl hqB rfl ?_
    refine RunO.store rfl rfl (store1_ow cw.or rfl rfl rfl (by rw [bo_len, cw.lr]; omega)) (RunO.nil ?_)
    rw [bo_set]
    refine RunC.region (RunO.all rfl ?_)
    refine ⟨d - 1, by omega, i + 1, _, by omega, cw.putR cd true, fun j hj => ?_, fg.trans (Fr.put (m := (· = rb)) _ (.inl rfl)) (fun b e => .inr (by omega)), Le.cons (inc64 (by omega)) (Le.cons rfl (Le.cons rfl (Le.cons rfl (Le.cons rfl (Le.cons rfl (Le.nil _))))))⟩
    rw [getD_setBo R (by rw [cw.lr]; omega), hcs, hR j hj]
    by_cases e : j = q
    · rw [if_pos e, decide_eq_true (by omega)]; rfl
    · rw [if_neg e, decide_eq_false (by omega)]; rfl
  have hge1 := of_decide_eq_false hge
  obtain rfl : i = bl.length := by omega
  rw [List.take_length] at hR
  -- the trees
  refine RunC.seq ?_
  refine RunC.seq (RunC.region (RunO.part 3 rfl ?_))
  refine RunO.load (v := .slice tA TL.length tc) rfl ((ox.fr fg (fun g => g)).ld rfl) rfl (RunO.all rfl ?_)
  refine RunC.block ?_
  refine RunC.loop (fun d E h' => ∃ (i : Nat) (N S : List Bool), i + d = TL.length ∧ CW h' B pb nb rb sb N R S ∧ (∀ j, j < B → N.getD j false = isN (TL.take i) j) ∧ (∀ j, j < B → S.getD j false = isS (TL.take i) j) ∧ Fr no h h' ∧
    Le (upd (upd (upd (upd (upd (upd E0 0 (.pointer (some ⟨xb, 0, none⟩))) 1 (.int .i64 (B : Int))) 5 (.pointer (some ⟨pb, 0, none⟩))) 39 (.slice tA TL.length tc)) 40 (.int .i64 (TL.length : Int))) 41 (.int .i64 (i : Int))) E) ?st2 (k := TL.length) ?ini2
  case ini2 => exact ⟨0, _, _, by omega, cw, fun j _ => by rw [rep_false]; rfl, fun j _ => by rw [rep_false]; rfl, fg, Le.cons rfl (Le.cons rfl (Le.cons rfl (Le.cons rfl (Le.cons rfl (Le.cons rfl (Le.nil _))))))⟩
  rintro d2 E g2 ⟨ti, N, S, hti, cw, hN, hS, fg2, hE⟩
  refine RunC.le hE ?_
  clear hE
  refine RunC.seq (RunC.region (RunO.all rfl ?_))
  refine RunC.seq (RunC.cond rfl (fun hlt => RunC.skip ?go2) (fun hge => RunC.exit ?ex2))
  case go2 =>
    have hlt := of_decide_eq_true hlt
    have hlt : ti < TL.length := by omega
    have hNs : ∀ j, isN (TL.take (ti + 1)) j = (isN (TL.take ti) j || TL[ti].2.2.contains (j : Int)) := fun j => any_snoc hlt _
    have hSs : ∀ j, isS (TL.take (ti + 1)) j = (isS (TL.take ti) j || (decide (j ≠ 0) && TL[ti].2.1.contains (j : Int))) := fun j => any_snoc hlt _
    have htk := htr TL[ti] (List.getElem_mem hlt)
    have htp := tps_part hlt
    generalize TL[ti] = T at *
    obtain ⟨wb, tm, tn⟩ := T
    obtain ⟨tiv, tmv, tnv, ow, slm, sln, tml, tnl, tmr, tnr⟩ := htk
    simp only at ow slm sln tml tnl tmr tnr htp hNs hSs
    obtain ⟨mA, mc, rfl, _, _⟩ := slm.form
    obtain ⟨nA, nc_, rfl, _, _⟩ := sln.form
    refine RunC.seq (RunC.block ?_)
    refine RunC.seq (RunC.region ?_)
    refine RunO.at (s := 1) (k := ti) rfl rfl (stl.fr0 fg2) rfl rfl hlt htp rfl rfl rfl (RunO.all rfl ?_)
    -- its nodes
    refine RunC.seq ?_
    refine RunC.seq (RunC.region (RunO.part 3 rfl ?_))
    refine RunO.load (v := .slice nA tn.length nc_) rfl ((ow.fr fg2 (fun g => g)).ld rfl) rfl (RunO.all rfl ?_)
    refine RunC.block ?_
    refine RunC.loop (fun d E h' => ∃ (i : Nat) (N : List Bool), i + d = tn.length ∧ CW h' B pb nb rb sb N R S ∧ (∀ j, j < B → N.getD j false = (isN (TL.take ti) j || (tn.take i).contains (j : Int))) ∧ Fr no h h' ∧
      Le ((upd (upd (upd (upd (upd (upd (upd (upd (upd (upd E0 0 (.pointer (some ⟨xb, 0, none⟩))) 1 (.int .i64 (B : Int))) 5 (.pointer (some ⟨pb, 0, none⟩))) 39 (.slice tA TL.length tc)) 40 (.int .i64 (TL.length : Int))) 41 (.int .i64 (ti : Int))) 9 (.pointer (some ⟨wb, 0, none⟩))) 48 (.slice nA tn.length nc_)) 49 (.int .i64 (tn.length : Int))) 50 (.int .i64 (i : Int)))) E) ?st3 (k := tn.length) ?ini3
    case ini3 => exact ⟨0, _, by omega, cw, fun j hj => by rw [hN j hj]; simp, fg2, Le.cons rfl (Le.cons rfl (Le.cons rfl (Le.cons rfl (Le.cons rfl (Le.cons rfl (Le.cons rfl (Le.cons rfl (Le.cons rfl (Le.cons rfl (Le.nil _))))))))))⟩
    rintro d3 E g3 ⟨i, N3, hi, cw, hN3, fg3, hE⟩
    refine RunC.le hE ?_
    clear hE
    refine RunC.seq (RunC.region (RunO.all rfl ?_))
    refine RunC.seq (RunC.cond rfl (fun hlt => RunC.skip ?go3) (fun hge => RunC.exit ?ex3))
    case go3 =>
      have hlt := of_decide_eq_true hlt
      have hlt : i < tn.length := by omega
      obtain ⟨x0, xB⟩ := tnr tn[i] (List.getElem_mem hlt)
      obtain ⟨q, hq⟩ := Int.eq_ofNat_of_zero_le x0
      have hqB : q < B := by omega
      have hcs := fun x => cont_succ hlt x
      refine RunC.seq (RunC.block ?_)
      refine RunC.seq (RunC.region ?_)
      refine RunO.at (s := 1) (k := i) rfl rfl (sln.fr0 fg3) rfl rfl hlt (is_part hlt) rfl rfl rfl (RunO.all rfl ?_)
      rw [hq] at hcs ⊢
      refine RunC.region (RunO.part 1 rfl ?_)
      refine RunO.load (v := .slice (some ⟨nb, 0, none⟩) B (exc B)) rfl (cw.op.ld rfl) rfl ?_
      refine RunO.part 1 rfl ?_
      refine RunO.index (s := 1) (k := q) rfl rfl rfl rfl hqB rfl ?_
      refine RunO.store rfl rfl (store1_ow cw.on rfl rfl rfl (by rw [bo_len, cw.ln]; omega)) (RunO.nil ?_)
      rw [bo_set]
      refine RunC.region (RunO.all rfl ?_)
      refine ⟨d3 - 1, by omega, i + 1, _, by omega, cw.putN cd true, fun j hj => ?_, fg3.trans (Fr.put (m := (· = nb)) _ (.inl rfl)) (fun b e => .inr (by omega)), Le.cons (inc64 (by omega)) (Le.cons rfl (Le.cons rfl (Le.cons rfl (Le.cons rfl (Le.cons rfl (Le.cons rfl (Le.cons rfl (Le.cons rfl (Le.cons rfl (Le.nil _))))))))))⟩
      rw [getD_setBo N3 (by rw [cw.ln]; omega), hcs, hN3 j hj]
      by_cases e : j = q
      · rw [if_pos e, decide_eq_true (by omega), Bool.true_or, Bool.or_true]
      · rw [if_neg e, decide_eq_false (by omega), Bool.false_or]
    have hge3 := of_decide_eq_false hge
    obtain rfl : i = tn.length := by omega
    rw [List.take_length] at hN3
    -- its map
    refine RunC.seq (RunC.region (RunO.part 3 rfl ?_))
    refine RunO.load (v := .slice mA tm.length mc) rfl ((ow.fr fg3 (fun g => g)).ld rfl) rfl (RunO.all rfl ?_)
    refine RunC.block ?_
    refine RunC.loop (fun d E h' => ∃ (i : Nat) (S : List Bool), i + d = tm.length ∧ CW h' B pb nb rb sb N3 R S ∧ (∀ j, j < B → S.getD j false = (isS (TL.take ti) j || (decide (j ≠ 0) && (tm.take i).contains (j : Int)))) ∧ Fr no h h' ∧
      Le ((upd (upd (upd (upd (upd (upd (upd (upd (upd (upd E0 0 (.pointer (some ⟨xb, 0, none⟩))) 1 (.int .i64 (B : Int))) 5 (.pointer (some ⟨pb, 0, none⟩))) 39 (.slice tA TL.length tc)) 40 (.int .i64 (TL.length : Int))) 41 (.int .i64 (ti : Int))) 9 (.pointer (some ⟨wb, 0, none⟩))) 62 (.slice mA tm.length mc)) 63 (.int .i64 (tm.length : Int))) 64 (.int .i64 (i : Int)))) E) ?st4 (k := tm.length) ?ini4
    case ini4 => exact ⟨0, _, by omega, cw, fun j hj => by rw [hS j hj]; simp, fg3, Le.cons rfl (Le.cons rfl (Le.cons rfl (Le.cons rfl (Le.cons rfl (Le.cons rfl (Le.cons rfl (Le.cons rfl (Le.cons rfl (Le.cons rfl (Le.nil _))))))))))⟩
    rintro d4 E g4 ⟨i, S4, hi, cw, hS4, fg4, hE⟩
    refine RunC.le hE ?_
    clear hE
    refine RunC.seq (RunC.region (RunO.all rfl ?_))
    refine RunC.seq (RunC.cond rfl (fun hlt => RunC.skip ?go4) (fun hge => RunC.exit ?ex4))
    case go4 =>
      have hlt := of_decide_eq_true hlt
      have hlt : i < tm.length := by omega
      obtain ⟨x0, xB⟩ := tmr tm[i] (List.getElem_mem hlt)
      obtain ⟨q, hq⟩ := Int.eq_ofNat_of_zero_le x0
      have hqB : q < B := by omega
      have hcs := fun x => cont_succ hlt x
      refine RunC.seq (RunC.block ?_)
      refine RunC.seq (RunC.region ?_)
      refine RunO.at (s := 1) (k := i) rfl rfl (slm.fr0 fg4) rfl rfl hlt (is_part hlt) rfl rfl rfl (RunO.all rfl ?_)
      rw [hq] at hcs ⊢
      have hfin : ∀ x : Bool, x = (S4.getD q false || decide (q ≠ 0)) → ∀ j, j < B → (S4.set q x).getD j false = (isS (TL.take ti) j || (decide (j ≠ 0) && (tm.take (i + 1)).contains (j : Int))) := fun x hx j hj => by
        rw [getD_setBo S4 (by rw [cw.ls]; omega), hcs]
        by_cases e : j = q
        · rw [if_pos e, hx, hS4 q hqB, e, decide_eq_true (p := ((q : Int)) = (q : Int)) rfl, Bool.true_or, Bool.and_true]
          cases isS (TL.take ti) q <;> cases (decide (q ≠ 0)) <;> cases ((tm.take i).contains (q : Int)) <;> rfl
        · rw [if_neg e, hS4 j hj, decide_eq_false (p := ((j : Int)) = (q : Int)) (by omega), Bool.false_or]
      have sls : Sl g4 (.slice (some ⟨sb, 0, none⟩) B (exc B)) 1 B (bo S4) := cw.os.all.sl (by rw [bo_len, cw.ls, Nat.mul_one]) (by omega) (Cp.exc (Nat.le_refl _))
      refine RunC.draw0 rfl ?_
      refine RunO.part 1 rfl ?_
      refine RunO.load (v := .slice (some ⟨sb, 0, none⟩) B (exc B)) rfl (cw.op.ld rfl) rfl ?_
      refine RunO.part 2 rfl ?_
      refine RunO.load (v := .slice (some ⟨sb, 0, none⟩) B (exc B)) rfl (cw.op.ld rfl) rfl ?_
      refine RunO.part 1 rfl ?_
      refine RunO.at (s := 1) (k := q) rfl rfl sls rfl rfl hqB (bo_part (by rw [cw.ls]; exact hqB)) rfl rfl rfl ?_
      have fput : ∀ x : Bool, Fr no h (g4.put sb (some ⟨bo (S4.set q x), true⟩)) := fun x => fg4.trans (Fr.put (m := (· = sb)) _ (.inl rfl)) (fun b e => .inr (by omega))
      have hsl : 0 + q * 1 < (bo S4).length := by rw [bo_len, cw.ls]; omega
      cases hx : S4.getD q false with
      | true =>
        refine RunO.part 4 rfl ?_
        refine RunO.index (s := 1) (k := q) rfl rfl rfl rfl hqB rfl ?_
        refine RunO.store rfl rfl (store1_ow cw.os rfl rfl rfl hsl) (RunO.nil ?_)
        rw [bo_set]
        refine RunC.region (RunO.all rfl ?_)
        exact ⟨d4 - 1, by omega, i + 1, _, by omega, cw.putS cd true, hfin true (by rw [hx]; rfl), fput true, Le.cons (inc64 (by omega)) (Le.cons rfl (Le.cons rfl (Le.cons rfl (Le.cons rfl (Le.cons rfl (Le.cons rfl (Le.cons rfl (Le.cons rfl (Le.cons rfl (Le.nil _))))))))))⟩
      | false =>
        refine RunO.part 3 rfl ?_
        rw [show ((q : Int) != 0) = decide (q ≠ 0) by rw [Bool.eq_iff_iff, bne_iff_ne, decide_eq_true_eq]; omega]
        refine RunO.part 1 rfl ?_
        refine RunO.index (s := 1) (k := q) rfl rfl rfl rfl hqB rfl ?_
        refine RunO.store rfl rfl (store1_ow cw.os rfl rfl rfl hsl) (RunO.nil ?_)
        rw [bo_set]
        refine RunC.region (RunO.all rfl ?_)
        exact ⟨d4 - 1, by omega, i + 1, _, by omega, cw.putS cd _, hfin _ (by rw [hx]; rfl), fput _, Le.cons (inc64 (by omega)) (Le.cons rfl (Le.cons rfl (Le.cons rfl (Le.cons rfl (Le.cons rfl (Le.cons rfl (Le.cons rfl (Le.cons rfl (Le.cons rfl (Le.nil _))))))))))⟩
    have hge4 := of_decide_eq_false hge
    obtain rfl : i = tm.length := by omega
    rw [List.take_length] at hS4
    refine RunC.region (RunO.all rfl ?_)
    exact ⟨d2 - 1, by omega, ti + 1, _, _, by omega, cw, fun j hj => by rw [hN3 j hj, hNs], fun j hj => by rw [hS4 j hj, hSs], fg4, Le.cons (inc64 (by omega)) (Le.cons rfl (Le.cons rfl (Le.cons rfl (Le.cons rfl (Le.cons rfl (Le.nil _))))))⟩
  have hge2 := of_decide_eq_false hge
  obtain rfl : ti = TL.length := by omega
  rw [List.take_length] at hN hS
  have hP : ∀ j, j < B → clP bl TL j = ((S.getD j false && (N.getD j false || R.getD j false)) || (N.getD j false && R.getD j false)) := fun j hj => by
    rw [hN j hj, hS j hj, hR j hj]; rfl
  -- the first one
  refine RunC.seq ?_
  refine RunC.seq (RunC.region (RunO.all rfl ?_))
  refine RunC.block ?_
  refine RunC.loop (fun d E h' => ∃ i : Nat, i + d = B ∧ (∀ j, j < i → clP bl TL j = false) ∧ h' = g2 ∧
    Le ((upd (upd (upd (upd E0 1 (.int .i64 (B : Int))) 5 (.pointer (some ⟨pb, 0, none⟩))) 83 (.int .i64 (B : Int))) 84 (.int .i64 (i : Int)))) E) ?st5 (k := B) ?ini5
  case ini5 => exact ⟨0, by omega, fun j hj => absurd hj (Nat.not_lt_zero _), rfl, Le.cons rfl (Le.cons rfl (Le.cons rfl (Le.cons rfl (Le.nil _))))⟩
  rintro d5 E g5 ⟨i, hi, hno, rfl, hE⟩
  refine RunC.le hE ?_
  clear hE
  refine RunC.seq (RunC.region (RunO.all rfl ?_))
  refine RunC.seq (RunC.cond rfl (fun hlt => RunC.skip ?go5) (fun hge => RunC.exit ?ex5))
  case go5 =>
    have hlt := of_decide_eq_true hlt
    have hlt : i < B := by omega
    have sls : Sl g5 (.slice (some ⟨sb, 0, none⟩) B (exc B)) 1 B (bo S) := cw.os.all.sl (by rw [bo_len, cw.ls, Nat.mul_one]) (by omega) (Cp.exc (Nat.le_refl _))
    have sln : Sl g5 (.slice (some ⟨nb, 0, none⟩) B (exc B)) 1 B (bo N) := cw.on.all.sl (by rw [bo_len, cw.ln, Nat.mul_one]) (by omega) (Cp.exc (Nat.le_refl _))
    have slr : Sl g5 (.slice (some ⟨rb, 0, none⟩) B (exc B)) 1 B (bo R) := cw.or.all.sl (by rw [bo_len, cw.lr, Nat.mul_one]) (by omega) (Cp.exc (Nat.le_refl _))
    have hPi := hP i hlt
    refine RunC.seq (RunC.block ?_)
    refine RunC.seq (RunC.region (RunO.all rfl ?_))
    refine RunC.seq (RunC.region (RunO.part 1 rfl ?_))
    refine RunO.load (v := .slice (some ⟨sb, 0, none⟩) B (exc B)) rfl (cw.op.ld rfl) rfl ?_
    refine RunO.part 1 rfl ?_
    refine RunO.at (s := 1) (k := i) rfl rfl sls rfl rfl hlt (bo_part (by rw [cw.ls]; exact hlt)) rfl rfl rfl ?_
    cases ha : S.getD i false with
    | true =>
      rw [ha] at hPi
      refine RunO.part 1 rfl ?_
      refine RunO.part 1 rfl ?_
      refine RunO.loadG (v := .slice (some ⟨nb, 0, none⟩) B (exc B)) rfl rfl (cw.op.ld rfl) rfl ?_
      refine RunO.part 1 rfl ?_
      refine RunO.atG (s := 1) (k := i) rfl (fun _ => rfl) rfl rfl sln rfl rfl hlt (bo_part (by rw [cw.ln]; exact hlt)) rfl rfl rfl ?_
      cases hb : N.getD i false with
      | true =>
        rw [hb] at hPi
        refine RunO.part 1 rfl ?_
        refine RunO.all rfl (RunC.cond rfl (fun _ => ?_) (fun g => by cases g))
        exact RunC.seq (RunC.region (RunO.all rfl (RunC.ret ⟨_, rfl, fg2, .inl ⟨i, hlt, rfl, hPi, hno⟩⟩)))
      | false =>
        rw [hb] at hPi
        refine RunO.part 1 rfl ?_
        refine RunO.part 1 rfl ?_
        refine RunO.loadG (v := .slice (some ⟨rb, 0, none⟩) B (exc B)) rfl rfl (cw.op.ld rfl) rfl ?_
        refine RunO.part 1 rfl ?_
        refine RunO.atG (s := 1) (k := i) rfl (fun _ => rfl) rfl rfl slr rfl rfl hlt (bo_part (by rw [cw.lr]; exact hlt)) rfl rfl rfl ?_
        cases hc : R.getD i false with
        | true =>
          rw [hc] at hPi
          refine RunO.all rfl (RunC.cond rfl (fun _ => ?_) (fun g => by cases g))
          exact RunC.seq (RunC.region (RunO.all rfl (RunC.ret ⟨_, rfl, fg2, .inl ⟨i, hlt, rfl, hPi, hno⟩⟩)))
        | false =>
          rw [hc] at hPi
          refine RunO.part 3 rfl ?_
          refine RunO.part 1 rfl ?_
          refine RunO.loadG (v := .slice (some ⟨nb, 0, none⟩) B (exc B)) rfl rfl (cw.op.ld rfl) rfl ?_
          refine RunO.part 1 rfl ?_
          refine RunO.atG (s := 1) (k := i) rfl (fun _ => rfl) rfl rfl sln rfl rfl hlt (bo_part (by rw [cw.ln]; exact hlt)) rfl rfl rfl ?_
          rw [hb]
          refine RunO.all rfl (RunC.cond rfl (fun g => by cases g) (fun _ => RunC.skip ?_))
          refine RunC.region (RunO.all rfl ?_)
          exact ⟨d5 - 1, by omega, i + 1, by omega, fun j hj => by rcases Nat.lt_or_ge j i with e | e; exact hno j e; rw [show j = i by omega]; exact hPi, rfl, Le.cons (inc64 (by omega)) (Le.cons rfl (Le.cons rfl (Le.cons rfl (Le.nil _))))⟩
    | false =>
      rw [ha] at hPi
      refine RunO.part 15 rfl ?_
      refine RunO.part 1 rfl ?_
      refine RunO.loadG (v := .slice (some ⟨nb, 0, none⟩) B (exc B)) rfl rfl (cw.op.ld rfl) rfl ?_
      refine RunO.part 1 rfl ?_
      refine RunO.atG (s := 1) (k := i) rfl (fun _ => rfl) rfl rfl sln rfl rfl hlt (bo_part (by rw [cw.ln]; exact hlt)) rfl rfl rfl ?_
      cases hb : N.getD i false with
      | true =>
        rw [hb] at hPi
        refine RunO.part 1 rfl ?_
        refine RunO.part 1 rfl ?_
        refine RunO.loadG (v := .slice (some ⟨rb, 0, none⟩) B (exc B)) rfl rfl (cw.op.ld rfl) rfl ?_
        refine RunO.part 1 rfl ?_
        refine RunO.atG (s := 1) (k := i) rfl (fun _ => rfl) rfl rfl slr rfl rfl hlt (bo_part (by rw [cw.lr]; exact hlt)) rfl rfl rfl ?_
        cases hc : R.getD i false with
        | true =>
          rw [hc] at hPi
          refine RunO.all rfl (RunC.cond rfl (fun _ => ?_) (fun g => by cases g))
          exact RunC.seq (RunC.region (RunO.all rfl (RunC.ret ⟨_, rfl, fg2, .inl ⟨i, hlt, rfl, hPi, hno⟩⟩)))
        | false =>
          rw [hc] at hPi
          refine RunO.all rfl (RunC.cond rfl (fun g => by cases g) (fun _ => RunC.skip ?_))
          refine RunC.region (RunO.all rfl ?_)
          exact ⟨d5 - 1, by omega, i + 1, by omega, fun j hj => by rcases Nat.lt_or_ge j i with e | e; exact hno j e; rw [show j = i by omega]; exact hPi, rfl, Le.cons (inc64 (by omega)) (Le.cons rfl (Le.cons rfl (Le.cons rfl (Le.nil _))))⟩
      | false =>
        rw [hb] at hPi
        refine RunO.all rfl (RunC.cond rfl (fun g => by cases g) (fun _ => RunC.skip ?_))
        refine RunC.region (RunO.all rfl ?_)
        exact ⟨d5 - 1, by omega, i + 1, by omega, fun j hj => by rcases Nat.lt_or_ge j i with e | e; exact hno j e; rw [show j = i by omega]; exact hPi, rfl, Le.cons (inc64 (by omega)) (Le.cons rfl (Le.cons rfl (Le.cons rfl (Le.nil _))))⟩
  have hge5 := of_decide_eq_false hge
  exact RunC.seq (RunC.region (RunO.all rfl (RunC.ret ⟨_, rfl, fg2, .inr ⟨rfl, fun j hj => hno j (by omega)⟩⟩)))
end Go.Proofs.Ytcbakhanpiemhaa
end
section
set_option linter.unusedVariables false
set_option linter.unusedSectionVars false
set_option maxRecDepth 100000
open Go Go.Am Go.RowKit
namespace Go.Proofs.Ytcbakhanpiemhaa
open Go.Proofs.Try
/- An open image: what the page says of the parts. -/
theorem ptr_ge {L : List Int} {B : Nat} {p lv : Int} (h : atIs L B p lv = true) {i : Nat} (hi : i < 8) : (ptrsL L B p).getD i 0 = 0 ∨ (2 ≤ (ptrsL L B p).getD i 0 ∧ (ptrsL L B p).getD i 0 < 4096) := by
  have hp := (atIs_ne h).1
  unfold atIs at h
  rw [Bool.and_eq_true, Bool.and_eq_true, beq_iff_eq] at h
  have hv : ptrsL L B p = nPs (blkI L p.toNat) := by
    unfold ptrsL atV nodV
    rw [if_neg (by omega), if_pos h.1, if_pos h.2.1]
  have hok : nodOk (nLv (blkI L p.toNat)) (nPs (blkI L p.toNat)) = true := by
    have hc := h.2.1
    unfold nCode at hc
    split at hc
    · split at hc
      · assumption
      · cases hc
    · rename_i h1; exact absurd hc h1
  have hl := ptrsL_len L B p
  unfold nodOk at hok
  rw [Bool.and_eq_true, List.all_eq_true] at hok
  have hx := hok.1 ((ptrsL L B p).getD i 0) (by rw [← hv, List.getD_eq_getElem?_getD, List.getElem?_eq_getElem (by omega)]; exact List.getElem_mem _)
  unfold ptrB at hx
  simp only [Bool.or_eq_true, beq_iff_eq, Bool.and_eq_true, decide_eq_true_eq] at hx
  omega
theorem okA_lk {L : List Int} {B : Nat} : ∀ (k : Nat) (p : Int) (d q : Nat), okA L B k p → d < k → q < 8 ^ d → look L B d p q ≠ 0 → atIs L B (look L B d p q) ((k - 1 - d : Nat) : Int) = true
  | 0, p, d, q, _, h, _, _ => absurd h (Nat.not_lt_zero _)
  | k + 1, p, 0, q, h, _, hq, h0 => okA_at h h0
  | k + 1, p, d + 1, q, h, hd, hq, h0 => by
    have hpos : 0 < 8 ^ d := Nat.pow_pos (by decide)
    have hq8 : q / 8 ^ d < 8 := by rw [Nat.div_lt_iff_lt_mul hpos]; rw [Nat.pow_succ, Nat.mul_comm] at hq; exact hq
    rw [look_suc] at h0 ⊢
    have := okA_lk k _ d _ (okA_child h hq8) (by omega) (Nat.mod_lt _ hpos) h0
    rwa [show k + 1 - 1 - (d + 1) = k - 1 - d by omega]
theorem tree_rng {L : List Int} {root : Int} (hd : devOk L.length = true) (h : treeOk L root = true) : (∀ x ∈ treeM L root, 0 ≤ x ∧ x < (L.length / 64 : Nat)) ∧ (∀ x ∈ treeN L root, 2 ≤ x ∧ x < (L.length / 64 : Nat)) := by
  have hdl : L.length % 64 = 0 ∧ 4 ≤ L.length / 64 ∧ L.length / 64 ≤ 4096 := by
    unfold devOk at hd
    simpa using hd
  obtain ⟨t, tn⟩ := TreeIs.of (by omega) h
  constructor
  · intro x hx
    obtain ⟨s, hs, rfl⟩ := List.mem_iff_getElem.1 hx
    have hs5 : s < 512 := by rw [← t.len]; exact hs
    have hg : (treeM L root)[s] = (treeM L root).getD s 0 := by rw [List.getD_eq_getElem?_getD, List.getElem?_eq_getElem hs]; rfl
    rw [hg]
    refine ⟨?_, t.lt s hs5⟩
    rw [← t.map s hs5, look_last _ _ 2 root s (by simpa using hs5)]
    by_cases h0 : look L (L.length / 64) 2 root (s / 8) = 0
    · rw [h0]
      unfold ptrsL
      rw [if_pos rfl, nz_get]; exact Int.le_refl _
    · have := ptr_ge (okA_lk 3 root 2 (s / 8) t.ok (by decide) (by have : (8 : Nat) ^ 2 = 64 := rfl; omega) h0) (i := s % 8) (by omega)
      omega
  · intro x hx
    rw [tn] at hx
    obtain ⟨h0, d, q, hd3, hq, hl⟩ := nodL_mem.1 hx
    have := atIs_ne (okA_lk 3 root d q t.ok hd3 hq (by rw [hl]; exact h0))
    rw [hl] at this
    exact this
/-- A record is right. -/
def r8Ok (r : R8) : Bool := recOk r.nx r.id r.pa r.ro r.sz r.ki r.fr r.di
theorem rPar_ok {l : List Int} (h : rCode l = 0) : r8Ok (rPar l) = true := by
  unfold rPar
  rw [if_pos h]
  unfold rCode at h
  split at h
  · split at h
    · rename_i h2; exact h2
    · cases h
  · rename_i h1; exact absurd h h1
theorem r8_sz {r : R8} (h : r8Ok r = true) : 0 ≤ r.sz ∧ r.sz ≤ 512 := by
  have key : recIs r.nx r.id r.pa r.ro r.sz = true := by
    unfold r8Ok recOk at h
    split at h
    · rw [Bool.and_eq_true, Bool.and_eq_true] at h; exact h.1.1
    · split at h
      · rw [Bool.and_eq_true, Bool.and_eq_true] at h; exact h.1.1
      · cases h
  unfold recIs at key
  rw [Bool.and_eq_true] at key
  exact (inB_iff _ _ _).1 key.2
theorem fol_ok {L : List Int} {B : Nat} : ∀ (f : Nat) (a : Int) (l : List R8) (bs : List Int) (w : Nat), (∀ r ∈ l, r8Ok r = true) → (∀ x ∈ bs, 2 ≤ x ∧ x < (B : Int)) → l.length = bs.length → (∀ r ∈ (fol L B f a l bs w).1, r8Ok r = true) ∧ (∀ x ∈ (fol L B f a l bs w).2.1, 2 ≤ x ∧ x < (B : Int)) ∧ (fol L B f a l bs w).1.length = (fol L B f a l bs w).2.1.length ∧ (fol L B f a l bs w).2.1.length ≤ bs.length + f
  | 0, a, l, bs, w, h1, h2, h3 => ⟨h1, h2, h3, Nat.le_refl _⟩
  | f + 1, a, l, bs, w, h1, h2, h3 => by
    unfold fol
    split
    · exact ⟨h1, h2, h3, Nat.le_add_right _ _⟩
    split
    · exact ⟨h1, h2, h3, Nat.le_add_right _ _⟩
    rename_i ha hf
    split
    · exact ⟨h1, h2, h3, Nat.le_add_right _ _⟩
    rename_i hc
    rw [Bool.not_eq_true, Bool.or_eq_false_iff, bne_eq_false_iff_eq] at hc
    unfold folB at hf
    rw [Bool.not_eq_true, Bool.or_eq_false_iff, Bool.or_eq_false_iff, decide_eq_false_iff_not, decide_eq_false_iff_not] at hf
    have := fol_ok (L := L) (B := B) f (rPar (blkI L a.toNat)).nx (l ++ [rPar (blkI L a.toNat)]) (bs ++ [a]) (if (rPar (blkI L a.toNat)).ki == 0 then w + 1 else w) (fun r hr => by
      rcases List.mem_append.1 hr with g | g
      · exact h1 r g
      · rw [List.mem_singleton.1 g]; exact rPar_ok hc.1) (fun x hx => by
      rcases List.mem_append.1 hx with g | g
      · exact h2 x g
      · rw [List.mem_singleton.1 g]; omega) (by rw [List.length_append, List.length_append, h3]; rfl)
    refine ⟨this.1, this.2.1, this.2.2.1, ?_⟩
    have h4 := this.2.2.2
    rw [List.length_append, List.length_singleton] at h4
    omega
/-- The superblock that stands. -/
theorem pick_is {L : List Int} (h : (pickS L).2.2 = true) : ∃ i, i < 2 ∧ (pickS L).1 = sVal (blkI L i) ∧ (pickS L).2.1 = (i : Int) ∧ sCode (blkI L i) = 0 ∧ (pickS L).1.2.1 = ((L.length / 64 : Nat) : Int) := by
  have key : ∀ (st : S5 × Int × Bool) (i : Nat), i < 2 → (st.2.2 = true → ∃ i, i < 2 ∧ st.1 = sVal (blkI L i) ∧ st.2.1 = (i : Int) ∧ sCode (blkI L i) = 0 ∧ st.1.2.1 = ((L.length / 64 : Nat) : Int)) → ((pickStep L st i).2.2 = true → ∃ j, j < 2 ∧ (pickStep L st i).1 = sVal (blkI L j) ∧ (pickStep L st i).2.1 = (j : Int) ∧ sCode (blkI L j) = 0 ∧ (pickStep L st i).1.2.1 = ((L.length / 64 : Nat) : Int)) := by
    intro st i hi hs
    unfold pickStep
    split
    · rename_i hc
      rw [Bool.and_eq_true, beq_iff_eq, Bool.and_eq_true, beq_iff_eq] at hc
      exact fun _ => ⟨i, hi, rfl, rfl, hc.1, hc.2.1⟩
    · exact hs
  exact key _ 1 (by decide) (key _ 0 (by decide) (fun g => by cases g)) h
end Go.Proofs.Ytcbakhanpiemhaa
end
section
set_option linter.unusedVariables false
set_option linter.unusedSectionVars false
set_option maxRecDepth 100000
open Go Go.Am Go.RowKit
namespace Go.Proofs.Ytcbakhanpiemhaa
open Go.Proofs.Try
def bey (m : List Int) (k : Int) : Bool := (m.drop k.toNat).any (· != 0)
theorem beyondC_ok {h : Heap} {b : Int} : RunF prog 132 [.int .i64 b] h fun v h' => v = .bool (b != 0) ∧ Fr no h h' := by
  refine RunF.walk func132 rfl rfl ?_
  refine RunC.seq (RunC.region (RunO.all rfl ?_))
  exact RunC.seq (RunC.region (RunO.all rfl (RunC.ret ⟨_, rfl, rfl, Fr.refl _ _⟩)))
theorem openBeyond_ok {h : Heap} {mv : Value} {m : List Int} {k : Nat} (sl : Sl h mv 1 512 (is m)) (hm : m.length = 512) (hk : k ≤ 512) : RunF prog 106 [mv, .int .i64 (k : Int)] h fun v h' => v = .bool (bey m (k : Int)) ∧ Fr no h h' := by
  refine RunF.walk func106 rfl rfl ?_
  have sl0 := sl
  obtain ⟨A, c, rfl, _, _⟩ := sl.form
  refine RunC.seq (RunC.region (RunO.all rfl ?_))
  refine RunC.seq (RunC.region (RunO.part 2 rfl ?_))
  refine RunO.sliceSl (s := 1) (len := 512) rfl rfl rfl rfl rfl sl0 (.some _ _ _) (.none _) hk (Nat.le_refl _) rfl ?_
  intro tv st
  have hdl : (m.drop k).length = 512 - k := by rw [List.length_drop, hm]
  have st : Sl h tv 1 (m.drop k).length (is (m.drop k)) := by
    rw [hdl]
    rw [Nat.mul_one, Nat.mul_one] at st
    have e : is (m.drop k) = ((is m).drop k).take (512 - k) := by
      unfold is
      rw [← List.map_drop, List.take_of_length_le (by rw [List.length_map, hdl]; exact Nat.le_refl _)]
    rw [e]; exact st
  refine RunO.callD (containsI_ok st (u := fun j => .int .i64 ((m.drop k).getD j 0)) (cap := []) (fun j hj => ?_) (p := fun j => (m.drop k).getD j 0 != 0) (fun j hj h5 f5 => ?_) (by omega)) rfl rfl rfl ?_
  · rw [is_part hj, List.getD_eq_getElem?_getD, List.getElem?_eq_getElem hj]; rfl
  · exact beyondC_ok
  rintro _ h2 ⟨rfl, f2⟩
  rw [anyI_list (l := m.drop k) (q := (· != 0)) (fun j x hx => by rw [List.getD_eq_getElem?_getD, hx]; rfl)]
  exact RunO.all rfl (RunC.ret ⟨_, rfl, rfl, f2⟩)
/- What Look tells. -/
def lkS (L : List Int) : S5 := (pickS L).1
def lkF (L : List Int) : List R8 × List Int × Nat × Int := folOf L (lkS L).2.2.2.2
def lkR (L : List Int) : List (Int × Int) := ((lkS L).2.2.1, (lkS L).2.2.2.1) :: (lkF L).1.map fun r => (r.ro, r.sz)
def lkX (L : List Int) (p : Int × Int) : Bool := !treeOk L p.1 || bey (treeM L p.1) p.2
def lkT (L : List Int) : List (List Int × List Int) := (lkR L).map fun p => (treeM L p.1, treeN L p.1)
def clV (B : Nat) (bl : List Int) (T : List (List Int × List Int)) : Int := match (List.range B).find? (clP bl (T.map fun t => (0, t))) with
  | some i => (i : Int)
  | none => 0
def lkC (L : List Int) : Int := clV (L.length / 64) (lkF L).2.1 (lkT L)
def lkM (L : List Int) : Int × Int := match (lkR L).find? (lkX L) with
  | some p => (p.1, 6)
  | none => (lkC L, if lkC L = 0 then 0 else 6)
def lk (L : List Int) : Int × Int := if devOk L.length then (if (pickS L).2.2 then (if (lkF L).2.2.2 = 0 then lkM L else ((lkF L).2.2.2, 7)) else (0, 8)) else (0, 2)
/-- An open image in memory. -/
def LkR (lo : Nat) (h : Heap) (xb : Nat) (L : List Int) : Prop :=
  ∃ rv bv tv TL, lo ≤ xb ∧ Ow h xb (imc (lkS L) (pickS L).2.1 rv bv tv) ∧ Row lo h rv 8 (lkF L).1.length (recCs (lkF L).1) ∧ Row lo h bv 1 (lkF L).2.1.length (is (lkF L).2.1) ∧ Sl h tv 1 TL.length (tps TL) ∧ TL.map (·.2) = lkT L ∧ ∀ t ∈ TL, TrOk (L.length / 64) h t
theorem LkR.fr0 {lo : Nat} {h h' : Heap} {xb : Nat} {L : List Int} (r : LkR lo h xb L) (f : Fr no h h') : LkR lo h' xb L := by
  obtain ⟨rv, bv, tv, TL, h1, h2, h3, h4, h5, h6, h7⟩ := r
  exact ⟨rv, bv, tv, TL, h1, h2.fr f (fun g => g), h3.fr f (fun _ _ _ g => g), h4.fr f (fun _ _ _ g => g), h5.fr0 f, h6, fun t ht => (h7 t ht).fr0 f⟩
theorem clP_snd (bl : List Int) (TL : List Tr3) (j : Nat) : clP bl TL j = clP bl ((TL.map (·.2)).map fun t => (0, t)) j := by
  have e1 : isS TL j = isS ((TL.map (·.2)).map fun t => (0, t)) j := by
    unfold isS; rw [List.map_map, List.any_map]; rfl
  have e2 : isN TL j = isN ((TL.map (·.2)).map fun t => (0, t)) j := by
    unfold isN; rw [List.map_map, List.any_map]; rfl
  unfold clP
  rw [e1, e2]
/-- A tree's blocks, apart from what Look writes. -/
def TrW (B : Nat) (h : Heap) (xb : Nat) (tv : Value) (t : Tr3) : Prop :=
  ∃ iv mb nv, Ow h t.1 (wc iv B (.slice (some ⟨mb, 0, none⟩) 512 (exc 512)) nv false) ∧ Ow h mb (is t.2.1) ∧ Row 0 h nv 1 t.2.2.length (is t.2.2) ∧ t.2.1.length = 512 ∧ t.2.2.length ≤ 73 ∧ (∀ x ∈ t.2.1, 0 ≤ x ∧ x < (B : Int)) ∧ (∀ x ∈ t.2.2, 2 ≤ x ∧ x < (B : Int)) ∧
    (t.1 ≠ xb ∧ ¬ At tv t.1) ∧ (mb ≠ xb ∧ ¬ At tv mb) ∧ ∀ b, At nv b → b ≠ xb ∧ ¬ At tv b
theorem TrW.ok {B : Nat} {h : Heap} {xb : Nat} {tv : Value} {t : Tr3} (r : TrW B h xb tv t) : TrOk B h t := by
  obtain ⟨iv, mb, nv, h1, h2, h3, h4, h5, h6, h7, _⟩ := r
  exact ⟨iv, _, nv, h1, by rw [h4]; exact h2.all.sl (by rw [is_len, h4]) (by decide) (Cp.exc (Nat.le_refl _)), h3.sl (by omega), h4, by omega, h6, fun x hx => by have := h7 x hx; omega⟩
theorem TrW.step {B : Nat} {h h' : Heap} {xb : Nat} {tv tv' : Value} {t : Tr3} (r : TrW B h xb tv t) (f : Fr (fun b => b = xb ∨ At tv b) h h') (hn : ∀ b, At tv' b → h.next ≤ b) : TrW B h' xb tv' t := by
  obtain ⟨iv, mb, nv, h1, h2, h3, h4, h5, h6, h7, ⟨g1, g2⟩, ⟨g3, g4⟩, g5⟩ := r
  refine ⟨iv, mb, nv, h1.fr f (fun g => g.elim g1 g2), h2.fr f (fun g => g.elim g3 g4), h3.frm f (fun b g e => e.elim (g5 b g).1 (g5 b g).2), h4, h5, h6, h7, ⟨g1, fun g => ?_⟩, ⟨g3, fun g => ?_⟩, fun b g => ⟨(g5 b g).1, fun e => ?_⟩⟩
  · have := hn _ g; have := h1.1; omega
  · have := hn _ g; have := h2.1; omega
  · have := hn _ e; have := (h3.at g).2; omega
theorem idsG {lo s k n c kb tb : Nat} {h : Heap} {lv : Value} {cells : List Value} (r : Gr lo h lv s k cells) (h1 : ∀ b, At lv b → b ≠ kb) (h2 : tb ≠ kb) : fpOk (.wr (idsOf [lv, .slice (some ⟨tb, 0, none⟩) n c])) (.rd kb) = true := by
  have key : ∀ l : List Nat, ¬ kb ∈ l → memN kb l = false := by
    intro l
    induction l with
    | nil => intro _; rfl
    | cons x l ih =>
      intro g
      simp only [List.mem_cons, not_or] at g
      unfold memN
      rw [show Nat.beq kb x = false from by cases e : Nat.beq kb x with | false => rfl | true => exact absurd (Nat.eq_of_beq_eq_true e) g.1]
      simpa using ih g.2
  show (!memN kb _) = true
  rw [key]
  · rfl
  · rcases r.2 with ⟨rfl, _⟩ | ⟨b, _, _, rfl, _⟩
    · simp only [idsOf, List.mem_cons, List.not_mem_nil, or_false]
      omega
    · have := h1 b ⟨_, _, rfl⟩
      simp only [idsOf, List.mem_cons, List.not_mem_nil, or_false]
      omega
theorem find_first {α : Type} {p : α → Bool} : ∀ {l : List α} {i : Nat} (hi : i < l.length), (∀ j (hj : j < l.length), j < i → p l[j] = false) → p l[i] = true → l.find? p = some l[i]
  | x :: l, 0, hi, _, h => by
    have h : p x = true := h
    rw [List.find?_cons_of_pos h]; rfl
  | x :: l, i + 1, hi, ha, h => by
    have h0 : p x = false := ha 0 (Nat.zero_lt_succ _) (Nat.zero_lt_succ _)
    rw [List.find?_cons_of_neg (by rw [h0]; simp)]
    exact find_first (l := l) (i := i) (by simpa using hi) (fun j hj hji => ha (j + 1) (by simpa using hj) (by omega)) h
theorem clV_some {B : Nat} {bl : List Int} {TL : List Tr3} {i : Nat} (hi : i < B) (h : clP bl TL i = true) (hn : ∀ j, j < i → clP bl TL j = false) : clV B bl (TL.map (·.2)) = (i : Int) := by
  unfold clV
  have := find_first (p := clP bl ((TL.map (·.2)).map fun t => (0, t))) (l := List.range B) (i := i) (by rw [List.length_range]; exact hi) (fun j hj hji => by rw [List.getElem_range, ← clP_snd]; exact hn j hji) (by rw [List.getElem_range, ← clP_snd]; exact h)
  rw [this, List.getElem_range]
theorem clV_none {B : Nat} {bl : List Int} {TL : List Tr3} (hn : ∀ j, j < B → clP bl TL j = false) : clV B bl (TL.map (·.2)) = 0 := by
  unfold clV
  rw [List.find?_eq_none.2 (fun j hj => by rw [← clP_snd, hn j (List.mem_range.1 hj)]; simp)]
theorem clP_zero {bl : List Int} {TL : List Tr3} (hb : ∀ x ∈ bl, 2 ≤ x) (hn : ∀ t ∈ TL, ∀ x ∈ t.2.2, 2 ≤ x) : clP bl TL 0 = false := by
  have e1 : isS TL 0 = false := by
    unfold isS
    rw [List.any_eq_false]
    intro t _; simp
  have e2 : isN TL 0 = false := by
    unfold isN
    rw [List.any_eq_false]
    intro t ht g
    have := hn t ht _ (List.contains_iff_mem.1 g)
    omega
  unfold clP
  rw [e1, e2]; rfl
theorem Gr.ge {lo s n : Nat} {h : Heap} {v : Value} {cells : List Value} (r : Gr lo h v s n cells) : ∀ b o m c, v = .slice (some ⟨b, o, none⟩) m c → lo ≤ b := by
  intro b o m c e
  rcases r.2 with ⟨rfl, _⟩ | ⟨b', c', h1, rfl, _, _⟩
  · cases e
  · cases e; exact h1
theorem ix_at {l : List Int} {i : Nat} {x : Int} (h : l[i]? = some x) : apart prog 3 (is l) (i * 1) = some (.int .i64 x) := by
  have hi : i < l.length := (List.getElem?_eq_some_iff.1 h).1
  have hx : l[i] = x := (List.getElem?_eq_some_iff.1 h).2
  rw [is_part hi, hx]
theorem TrW.fr0 {B : Nat} {h h' : Heap} {xb : Nat} {tv : Value} {t : Tr3} (r : TrW B h xb tv t) (f : Fr no h h') : TrW B h' xb tv t := by
  obtain ⟨iv, mb, nv, h1, h2, h3, h4, h5, h6, h7, h8⟩ := r
  exact ⟨iv, mb, nv, h1.fr f (fun g => g), h2.fr f (fun g => g), h3.fr f (fun _ _ _ g => g), h4, h5, h6, h7, h8⟩
end Go.Proofs.Ytcbakhanpiemhaa
end
section
set_option linter.unusedVariables false
set_option linter.unusedSectionVars false
set_option maxRecDepth 100000
open Go Go.Am Go.RowKit
namespace Go.Proofs.Ytcbakhanpiemhaa
open Go.Proofs.Try
theorem lkS_sz {L : List Int} (h : (pickS L).2.2 = true) : 0 ≤ (lkS L).2.2.2.1 ∧ (lkS L).2.2.2.1 ≤ 512 := by
  obtain ⟨i, hi, e, _, hc, _⟩ := pick_is h
  unfold lkS
  rw [e]
  unfold sVal
  rw [if_pos hc]
  unfold sCode at hc
  split at hc
  · split at hc
    · rename_i h2
      exact ((superOk_iff _ _ _ _ _).1 h2).2.2.1
    · cases hc
  · rename_i h1; exact absurd hc h1
theorem lkR_sz {L : List Int} (h : (pickS L).2.2 = true) : ∀ p ∈ lkR L, 0 ≤ p.2 ∧ p.2 ≤ 512 := by
  intro p hp
  rcases List.mem_cons.1 hp with e | g
  · rw [e]; exact lkS_sz h
  · obtain ⟨r, hr, rfl⟩ := List.mem_map.1 g
    have := (fol_ok (L := L) (B := L.length / 64) (L.length / 64) (lkS L).2.2.2.2 [] [] 0 (fun r h => absurd h List.not_mem_nil) (fun x h => absurd h List.not_mem_nil) rfl).1 r hr
    exact r8_sz this
set_option maxHeartbeats 64000000 in
theorem openLook_ok {h : Heap} {iv : Value} {L : List Int} (sl : Sl h iv 1 L.length (us L)) (hb : Byt L) (hm : L.length ≤ 4611686018427387904) :
    RunF prog 73 [iv] h fun v h' => Fr no h h' ∧ (((lk L).2 = 0 ∧ ∃ xb, v = .tuple #[.pointer (some ⟨xb, 0, none⟩), .int .i64 0, .int .i64 0] ∧ LkR h.next h' xb L) ∨ ((lk L).2 ≠ 0 ∧ v = .tuple #[.pointer none, .int .i64 (lk L).1, .int .i64 (lk L).2])) := by
  refine RunF.walk func73 rfl rfl ?_
  have sl0 := sl
  obtain ⟨A, c, rfl, hc, hA⟩ := sl.form
  have hlk : lk L = if devOk L.length then (if (pickS L).2.2 then (if (lkF L).2.2.2 = 0 then lkM L else ((lkF L).2.2.2, 7)) else (0, 8)) else (0, 2) := rfl
  refine RunC.seq (RunC.region (RunO.all rfl ?_))
  refine RunC.seq (RunC.region (RunO.part 1 rfl ?_))
  refine RunO.callD (devCheck_ok hm) rfl rfl rfl ?_
  rintro _ _ ⟨rfl, rfl⟩
  refine RunO.all rfl ?_
  cases hd : devOk L.length with
  | false =>
    rw [hd, if_neg Bool.false_ne_true] at hlk
    rw [hlk]
    refine RunC.seq (RunC.seq (RunC.region (RunO.all rfl (RunC.cond rfl (fun _ => ?_) (fun g => by cases g)))))
    exact RunC.seq (RunC.region (RunO.all rfl (RunC.ret ⟨_, rfl, Fr.refl _ _, .inr ⟨by decide, rfl⟩⟩)))
  | true =>
  rw [hd, if_pos rfl] at hlk
  have hdl : L.length % 64 = 0 ∧ 4 ≤ L.length / 64 ∧ L.length / 64 ≤ 4096 := by
    unfold devOk at hd
    simpa using hd
  obtain ⟨B, hB⟩ : ∃ B, B = L.length / 64 := ⟨_, rfl⟩
  rw [if_pos rfl, if_pos rfl, ← hB]
  refine RunC.seq (RunC.seq (RunC.region (RunO.all rfl (RunC.cond rfl (fun g => by cases g) (fun _ => RunC.skip ?_)))))
  -- the image's struct
  refine RunC.seq (RunC.region (RunO.all (h1 := h.push ⟨imc (0, 0, 0, 0, 0) 0 (.slice none 0 0) (.slice none 0 0) (.slice none 0 0), true⟩) rfl ?_))
  have ox := Ow.push h (imc (0, 0, 0, 0, 0) 0 (.slice none 0 0) (.slice none 0 0) (.slice none 0 0))
  have f1 : Fr no h (h.push ⟨imc (0, 0, 0, 0, 0) 0 (.slice none 0 0) (.slice none 0 0) (.slice none 0 0), true⟩) := Fr.push _ _ _
  generalize h.push ⟨imc (0, 0, 0, 0, 0) 0 (.slice none 0 0) (.slice none 0 0) (.slice none 0 0), true⟩ = h1 at *
  obtain ⟨xb, hxb⟩ : ∃ q, q = h.next := ⟨_, rfl⟩
  rw [← hxb] at ox ⊢
  -- the superblock
  refine RunC.seq (RunC.region (RunO.part 3 rfl ?_))
  refine RunO.callD (superPick_ok (fun g => by obtain ⟨b, o, e, rd⟩ := hA (by omega); exact ⟨_, e, rd.fr f1 (fun g => g)⟩) hb hc hm) rfl rfl rfl ?_
  rintro _ h2 ⟨rfl, f2⟩
  have hpc : pickCode L = if (pickS L).2.2 then 0 else 8 := by unfold pickCode; rw [hd, if_pos rfl]
  replace ox := ox.fr f2 (fun g => g)
  have F2 := f1.same f2
  cases hpk : (pickS L).2.2 with
  | false =>
    rw [hpk, if_neg Bool.false_ne_true] at hpc hlk
    rw [hpc, hlk]
    refine RunO.part 7 rfl ?_
    refine RunO.store rfl rfl (store_ow (s := 5) ox rfl rfl rfl (Nat.le_of_ble_eq_true rfl)) ?_
    have ox2 : Ow (h2.put xb (some ⟨imc (0, 0, 0, 0, 0) 0 (.slice none 0 0) (.slice none 0 0) (.slice none 0 0), true⟩)) xb (imc (0, 0, 0, 0, 0) 0 (.slice none 0 0) (.slice none 0 0) (.slice none 0 0)) := Ow.put _ ox.1
    have g2 : Fr no h (h2.put xb (some ⟨imc (0, 0, 0, 0, 0) 0 (.slice none 0 0) (.slice none 0 0) (.slice none 0 0), true⟩)) := F2.trans (Fr.put (m := (· = xb)) _ (.inl rfl)) (fun b e => .inr (by omega))
    show RunO prog _ _ _ _ (h2.put xb (some ⟨imc (0, 0, 0, 0, 0) 0 (.slice none 0 0) (.slice none 0 0) (.slice none 0 0), true⟩)) _
    generalize h2.put xb (some ⟨imc (0, 0, 0, 0, 0) 0 (.slice none 0 0) (.slice none 0 0) (.slice none 0 0), true⟩) = h3 at *
    refine RunO.part 3 rfl ?_
    refine RunO.store rfl rfl (store1_ow ox2 rfl rfl rfl (Nat.le_of_ble_eq_true rfl)) ?_
    have g3 : ∀ x, Fr no h (h3.put xb x) := fun x => g2.trans (Fr.put (m := (· = xb)) _ (.inl rfl)) (fun b e => .inr (by omega))
    refine RunO.all rfl ?_
    refine RunC.seq (RunC.seq (RunC.region (RunO.all rfl (RunC.cond rfl (fun _ => ?_) (fun g => by cases g)))))
    exact RunC.seq (RunC.region (RunO.all rfl (RunC.ret ⟨_, rfl, g3 _, .inr ⟨by decide, rfl⟩⟩)))
  | true =>
  rw [hpk, if_pos rfl] at hpc hlk
  rw [hpc, if_pos rfl, if_pos rfl]
  have hsz := lkR_sz hpk
  have hlkF : lkF L = folOf L (lkS L).2.2.2.2 := rfl
  have hS : (pickS L).1 = lkS L := rfl
  rw [hS]
  obtain ⟨s, hs⟩ : ∃ s, s = lkS L := ⟨_, rfl⟩
  obtain ⟨slot, hsl⟩ : ∃ s, s = (pickS L).2.1 := ⟨_, rfl⟩
  rw [← hs] at hlkF ⊢
  rw [← hsl]
  refine RunO.part 7 rfl ?_
  refine RunO.store rfl rfl (store_ow (s := 5) ox rfl rfl rfl (Nat.le_of_ble_eq_true rfl)) ?_
  have ox2 : Ow (h2.put xb (some ⟨imc s 0 (.slice none 0 0) (.slice none 0 0) (.slice none 0 0), true⟩)) xb (imc s 0 (.slice none 0 0) (.slice none 0 0) (.slice none 0 0)) := Ow.put _ ox.1
  have F3 : Fr no h (h2.put xb (some ⟨imc s 0 (.slice none 0 0) (.slice none 0 0) (.slice none 0 0), true⟩)) := F2.trans (Fr.put (m := (· = xb)) _ (.inl rfl)) (fun b e => .inr (by omega))
  show RunO prog _ _ _ _ (h2.put xb (some ⟨imc s 0 (.slice none 0 0) (.slice none 0 0) (.slice none 0 0), true⟩)) _
  generalize h2.put xb (some ⟨imc s 0 (.slice none 0 0) (.slice none 0 0) (.slice none 0 0), true⟩) = h3 at *
  refine RunO.part 3 rfl ?_
  refine RunO.store rfl rfl (store1_ow ox2 rfl rfl rfl (Nat.le_of_ble_eq_true rfl)) ?_
  have ox3 : Ow (h3.put xb (some ⟨imc s slot (.slice none 0 0) (.slice none 0 0) (.slice none 0 0), true⟩)) xb (imc s slot (.slice none 0 0) (.slice none 0 0) (.slice none 0 0)) := Ow.put _ ox2.1
  have F4 : Fr no h (h3.put xb (some ⟨imc s slot (.slice none 0 0) (.slice none 0 0) (.slice none 0 0), true⟩)) := F3.trans (Fr.put (m := (· = xb)) _ (.inl rfl)) (fun b e => .inr (by omega))
  show RunO prog _ _ _ _ (h3.put xb (some ⟨imc s slot (.slice none 0 0) (.slice none 0 0) (.slice none 0 0), true⟩)) _
  generalize h3.put xb (some ⟨imc s slot (.slice none 0 0) (.slice none 0 0) (.slice none 0 0), true⟩) = h4 at *
  clear ox ox2 F3 F2
  refine RunO.all rfl ?_
  refine RunC.seq (RunC.seq (RunC.region (RunO.all rfl (RunC.cond rfl (fun g => by cases g) (fun _ => RunC.skip ?_)))))
  -- the records
  refine RunC.seq (RunC.region (RunO.part 6 rfl ?_))
  refine RunO.load (v := .int .i64 s.2.2.2.2) rfl (ox3.ld rfl) rfl ?_
  refine RunO.callD (openFollow_ok (a := s.2.2.2.2) (sl0.fr0 F4) hb hd) rfl rfl rfl ?_
  rintro _ h5 ⟨f5, kb, rfl, lv, bv, hkb, ok, rl, rb⟩
  have hkx : xb < h4.next := ox3.1
  replace ox3 := ox3.fr f5 (fun g => g)
  have F5 := F4.same f5
  rw [← hlkF] at ok rl rb
  -- more
  obtain ⟨lr, hlr⟩ : ∃ x, x = (lkF L).1 := ⟨_, rfl⟩
  obtain ⟨lb, hlb⟩ : ∃ x, x = (lkF L).2.1 := ⟨_, rfl⟩
  have hff := fol_ok (L := L) (B := L.length / 64) (L.length / 64) s.2.2.2.2 [] [] 0 (fun r h => absurd h List.not_mem_nil) (fun x h => absurd h List.not_mem_nil) rfl
  have hff : (∀ x ∈ lb, 2 ≤ x ∧ x < (B : Int)) ∧ lr.length = lb.length ∧ lb.length ≤ B := by
    rw [hlr, hlb, hlkF, hB]
    unfold folOf
    refine ⟨hff.2.1, hff.2.2.1, ?_⟩
    have := hff.2.2.2
    simpa using this
  obtain ⟨hlbr, hlrl, hlbl⟩ := hff
  rw [← hlr] at rl
  rw [← hlb] at rb
  have slr := rl.sl (by omega)
  obtain ⟨lA, lc, rfl, _, _⟩ := slr.form
  refine RunO.all rfl ?_
  refine RunC.seq (RunC.seq (RunC.region (RunO.part 3 rfl ?_)))
  refine RunO.load (v := .int .i64 (lkF L).2.2.2) rfl (ok.ld rfl) rfl (RunO.all rfl ?_)
  by_cases hbad : (lkF L).2.2.2 = 0
  case neg =>
    rw [if_neg hbad] at hlk
    rw [hlk, show ((lkF L).2.2.2 != 0) = true from bne_iff_ne.2 hbad]
    refine RunC.cond rfl (fun _ => ?_) (fun g => by cases g)
    refine RunC.seq (RunC.draw0 rfl (RunO.part 3 rfl ?_))
    refine RunO.load (v := .int .i64 (lkF L).2.2.2) rfl (ok.ld rfl) rfl (RunO.all rfl ?_)
    exact RunC.ret ⟨_, rfl, F5, .inr ⟨by show (7 : Int) ≠ 0; decide, rfl⟩⟩
  rw [if_pos hbad] at hlk
  rw [show ((lkF L).2.2.2 != 0) = false from by rw [hbad]; rfl]
  refine RunC.cond rfl (fun g => by cases g) (fun _ => RunC.skip ?_)
  have hkk : kb ≠ xb := by omega
  have hlx : ∀ b, At (.slice lA lr.length lc) b → b ≠ xb := fun b g => by have := (rl.at g).1; omega
  have hbx : ∀ b, At bv b → b ≠ xb := fun b g => by have := (rb.at g).1; omega
  refine RunC.seq (RunC.draw0 rfl (RunO.part 5 rfl ?_))
  refine RunO.load (v := .slice lA lr.length lc) rfl (ok.ld rfl) rfl ?_
  refine RunO.part 3 rfl ?_
  refine RunO.load (v := bv) rfl (ok.ld rfl) rfl ?_
  refine RunO.part 3 rfl ?_
  refine RunO.store rfl rfl (store1_ow ox3 rfl (rl.cell).1 (rl.cell).2 (Nat.le_of_ble_eq_true rfl)) ?_
  have ox4 : Ow (h5.put xb (some ⟨imc s slot (.slice lA lr.length lc) (.slice none 0 0) (.slice none 0 0), true⟩)) xb (imc s slot (.slice lA lr.length lc) (.slice none 0 0) (.slice none 0 0)) := Ow.put _ ox3.1
  have fp1 : Fr (· = xb) h5 (h5.put xb (some ⟨imc s slot (.slice lA lr.length lc) (.slice none 0 0) (.slice none 0 0), true⟩)) := Fr.put _ (.inl rfl)
  show RunO prog _ _ _ _ (h5.put xb (some ⟨imc s slot (.slice lA lr.length lc) (.slice none 0 0) (.slice none 0 0), true⟩)) _
  generalize h5.put xb (some ⟨imc s slot (.slice lA lr.length lc) (.slice none 0 0) (.slice none 0 0), true⟩) = h6 at *
  refine RunO.part 2 rfl ?_
  refine RunO.store rfl rfl (store1_ow ox4 rfl (rb.cell).1 (rb.cell).2 (Nat.le_of_ble_eq_true rfl)) (RunO.nil ?_)
  have ox5 : Ow (h6.put xb (some ⟨imc s slot (.slice lA lr.length lc) bv (.slice none 0 0), true⟩)) xb (imc s slot (.slice lA lr.length lc) bv (.slice none 0 0)) := Ow.put _ ox4.1
  have fp2 : Fr (· = xb) h6 (h6.put xb (some ⟨imc s slot (.slice lA lr.length lc) bv (.slice none 0 0), true⟩)) := Fr.put _ (.inl rfl)
  show RunC prog _ _ _ (h6.put xb (some ⟨imc s slot (.slice lA lr.length lc) bv (.slice none 0 0), true⟩)) _ _ _
  generalize h6.put xb (some ⟨imc s slot (.slice lA lr.length lc) bv (.slice none 0 0), true⟩) = h7 at *
  have fp := fp1.same fp2
  replace ok := ok.fr fp hkk
  replace rl := rl.frm fp (fun b g e => hlx b g e)
  replace rb := rb.frm fp (fun b g e => hbx b g e)
  have F7 : Fr no h h7 := F5.trans fp (fun b e => .inr (by have e : b = xb := e; omega))
  clear ox3 ox4 fp1 fp2 fp F5 F4 slr
  have slr := rl.sl (by omega)
  -- the roots, the sizes
  refine RunC.seq (RunC.draw0 rfl (RunO.part 5 rfl ?_))
  refine RunO.load (v := .int .i64 s.2.2.1) rfl (ox5.ld rfl) rfl ?_
  refine RunO.part 1 (h1 := h7.push ⟨is [s.2.2.1], true⟩) rfl ?_
  have or := Ow.push h7 (is [s.2.2.1])
  have f8 : Fr no h7 (h7.push ⟨is [s.2.2.1], true⟩) := Fr.push _ _ _
  generalize h7.push ⟨is [s.2.2.1], true⟩ = h8 at *
  have hxq := ox5.1
  obtain ⟨rq, hrq⟩ : ∃ q, q = h7.next := ⟨_, rfl⟩
  rw [← hrq] at or ⊢
  have hr8 := or.1
  refine RunO.part 5 rfl ?_
  refine RunO.load (v := .int .i64 s.2.2.2.1) rfl ((ox5.fr f8 (fun g => g)).ld rfl) rfl ?_
  refine RunO.part 1 (h1 := h8.push ⟨is [s.2.2.2.1], true⟩) rfl ?_
  have oz := Ow.push h8 (is [s.2.2.2.1])
  have f9 : Fr no h8 (h8.push ⟨is [s.2.2.2.1], true⟩) := Fr.push _ _ _
  replace or := or.fr f9 (fun g => g)
  generalize h8.push ⟨is [s.2.2.2.1], true⟩ = h9 at *
  obtain ⟨zq, hzq⟩ : ∃ q, q = h8.next := ⟨_, rfl⟩
  rw [← hzq] at oz ⊢
  refine RunO.all rfl ?_
  have f79 := f8.same f9
  have hR : lkR L = (s.2.2.1, s.2.2.2.1) :: lr.map fun r => (r.ro, r.sz) := by rw [hlr, hs]; rfl
  have hRl : (lkR L).length = lr.length + 1 := by rw [hR, List.length_cons, List.length_map]
  have hRg : ∀ i (hi : i < lr.length), (lkR L).take (i + 1 + 1) = (lkR L).take (i + 1) ++ [(lr[i].ro, lr[i].sz)] := fun i hi => by
    rw [List.take_succ_eq_append_getElem (by omega)]
    congr 2
    simp [hR]
  obtain ⟨RS, hRS⟩ : ∃ x, x = lkR L := ⟨_, rfl⟩
  have hR1 : RS.take 1 = [(s.2.2.1, s.2.2.2.1)] := by rw [hRS, hR]; rfl
  rw [← hRS] at hRl hRg hsz
  refine RunC.seq ?_
  refine RunC.seq (RunC.region (RunO.part 3 rfl ?_))
  refine RunO.load (v := .slice lA lr.length lc) rfl ((ok.fr f79 (fun g => g)).ld rfl) rfl (RunO.all rfl ?_)
  refine RunC.block ?_
  refine RunC.loop (fun d E h' => ∃ (i : Nat) (rov zov : Value), i + d = lr.length ∧ Gr rq h' rov 1 (i + 1) (is ((RS.take (i + 1)).map (·.1))) ∧ Gr rq h' zov 1 (i + 1) (is ((RS.take (i + 1)).map (·.2))) ∧ (∀ b, At rov b → ¬ At zov b) ∧ Fr no h7 h' ∧ rq < h'.next ∧
    Le ((upd (upd (upd (upd (upd (upd (upd (upd E0 0 (.slice A L.length c)) 2 (.pointer (some ⟨xb, 0, none⟩))) 5 (.int .i64 (B : Int))) 91 (.slice lA lr.length lc)) 92 (.int .i64 (lr.length : Int))) 7 (rov)) 8 (zov)) 93 (.int .i64 (i : Int)))) E) ?st1 (k := lr.length) ?ini1
  case ini1 =>
    refine ⟨0, .slice (some ⟨rq, 0, none⟩) 1 (exc 1), .slice (some ⟨zq, 0, none⟩) 1 (exc 1), by omega, ?_, ?_, ?_, f79, or.1, Le.cons rfl (Le.cons rfl (Le.cons rfl (Le.cons rfl (Le.cons rfl (Le.cons rfl (Le.cons rfl (Le.cons rfl (Le.nil _))))))))⟩
    · rw [hR1]; exact Gr.full or rfl (Nat.le_refl _)
    · rw [hR1]; exact Gr.full oz rfl (by omega)
    · rintro b ⟨_, _, e⟩ ⟨_, _, e2⟩
      injection e with e
      injection e with e
      injection e with e
      injection e2 with e2
      injection e2 with e2
      injection e2 with e2
      omega
  rintro d E g1 ⟨i, rov, zov, hi, gr, gz, hrz, fg, hrg, hE⟩
  refine RunC.le hE ?_
  clear hE
  refine RunC.seq (RunC.region (RunO.all rfl ?_))
  refine RunC.seq (RunC.cond rfl (fun hlt => RunC.skip ?go1) (fun hge => RunC.exit ?ex1))
  case go1 =>
    have hlt := of_decide_eq_true hlt
    have hlt : i < lr.length := by omega
    have hgi := hRg i hlt
    have hpt := recCs_part hlt
    generalize lr[i] = r at *
    refine RunC.seq (RunC.block ?_)
    refine RunC.seq (RunC.region ?_)
    refine RunO.at (s := 8) (k := i) rfl rfl (slr.fr0 fg) rfl rfl hlt hpt rfl rfl rfl ?_
    refine RunO.part 1 (h1 := g1.push ⟨rc8 ⟨0, 0, 0, 0, 0, 0, 0, 0⟩, true⟩) rfl ?_
    refine RunO.store rfl rfl (store_ow (s := 8) (Ow.push g1 (rc8 ⟨0, 0, 0, 0, 0, 0, 0, 0⟩)) rfl rfl rfl (Nat.le_refl 8)) (RunO.nil ?_)
    have e8 : (rc8 ⟨0, 0, 0, 0, 0, 0, 0, 0⟩).take 0 ++ cellsOf (.agg ⟨rc8 r⟩) ++ (rc8 ⟨0, 0, 0, 0, 0, 0, 0, 0⟩).drop (0 + 8) = rc8 r := rfl
    rw [e8]
    have on : Ow ((g1.push ⟨rc8 ⟨0, 0, 0, 0, 0, 0, 0, 0⟩, true⟩).put g1.next (some ⟨rc8 r, true⟩)) g1.next (rc8 r) := Ow.put _ (Nat.lt_succ_self _)
    have f2 : Fr no g1 ((g1.push ⟨rc8 ⟨0, 0, 0, 0, 0, 0, 0, 0⟩, true⟩).put g1.next (some ⟨rc8 r, true⟩)) := (Fr.push _ _ _).trans (Fr.put (m := (· = g1.next)) _ (.inl rfl)) (fun j hj => .inr (by omega))
    have hrx : ∀ b, At rov b → rq ≤ b ∧ b < g1.next := fun b g => gr.at g
    have hzx : ∀ b, At zov b → rq ≤ b ∧ b < g1.next := fun b g => gz.at g
    replace gr := gr.fr0 f2
    replace gz := gz.fr0 f2
    have fg2 := fg.same f2
    generalize (g1.push ⟨rc8 ⟨0, 0, 0, 0, 0, 0, 0, 0⟩, true⟩).put g1.next (some ⟨rc8 r, true⟩) = g2 at *
    obtain ⟨pb, hpb⟩ : ∃ q, q = g1.next := ⟨_, rfl⟩
    rw [← hpb] at on hrx hzx ⊢
    have hpr : ¬ At rov pb := fun g => by have := hrx pb g; omega
    have hpz : ¬ At zov pb := fun g => by have := hzx pb g; omega
    refine RunC.drawW (fun b => At rov b ∨ At zov b) (p := (4, 7)) (ps := []) rfl ?_
    refine RunW.pure rfl rfl (fun _ => rfl) rfl ?_
    refine RunW.pure rfl rfl (fun _ => rfl) rfl ?_
    refine RunW.load (v := .int .i64 r.ro) rfl rfl (on.ld rfl) rfl ?_
    refine RunW.new (ob := ⟨is [r.ro], true⟩) rfl rfl (fun _ => rfl) rfl ?_
    have ot := Ow.push g2 (is [r.ro])
    have f3 : Fr no g2 (g2.push ⟨is [r.ro], true⟩) := Fr.push _ _ _
    have gr3 := gr.fr0 f3
    have gz3 := gz.fr0 f3
    have on3 := on.fr f3 (fun g => g)
    have hpl2 := on.1
    generalize g2.push ⟨is [r.ro], true⟩ = g3 at *
    obtain ⟨tb, htb⟩ : ∃ q, q = (g2.lo g2.next).next := ⟨_, rfl⟩
    have htb2 : tb = g2.next := htb
    rw [← htb]
    rw [← htb2] at ot hpl2
    refine RunW.appendG (s := 1) (j := 1) rfl rfl rfl rfl rfl rfl rfl rfl rfl (by decide) gr3 ot.all rfl (Nat.le_refl 1) rfl (by show 2 * (_ + 1) * 8 ≤ _; omega) (by omega) (fun b g => .inl g) ?_
    intro rov2 g4 r4 f4
    have on4 := on3.fr f4 hpr
    have gz4 := gz3.frm f4 (fun b g e => hrz b e g)
    refine RunW.pure rfl rfl (fun _ => rfl) rfl ?_
    refine RunW.pure rfl rfl (fun _ => rfl) rfl ?_
    refine RunW.load (v := .int .i64 r.sz) rfl rfl (on4.ld rfl) rfl ?_
    refine RunW.new (ob := ⟨is [r.sz], true⟩) rfl rfl (fun _ => rfl) rfl ?_
    have ot2 := Ow.push g4 (is [r.sz])
    have f5 : Fr no g4 (g4.push ⟨is [r.sz], true⟩) := Fr.push _ _ _
    have r5 := r4.gr.fr0 f5
    have gz5 := gz4.fr0 f5
    have hn5 : g4.next < (g4.push ⟨is [r.sz], true⟩).next := ot2.1
    generalize g4.push ⟨is [r.sz], true⟩ = g5 at *
    refine RunW.appendG (s := 1) (j := 1) rfl rfl rfl rfl rfl rfl rfl rfl rfl (by decide) gz5 ot2.all rfl (Nat.le_refl 1) rfl (by show 2 * (_ + 1) * 8 ≤ _; omega) (by omega) (fun b g => .inr g) ?_
    intro zov2 g6 z6 f6
    have hr2 : ∀ b, At rov2 b → g3.next ≤ b ∧ b < g4.next := fun b g => r4.at g
    have hz2 : ∀ b, At zov2 b → g5.next ≤ b ∧ b < g6.next := fun b g => z6.at g
    have hzo : ∀ b, At zov b → b < g3.next := fun b g => (gz3.at g).2
    have r6 := r5.frm f6 (fun b g e => by have := hr2 b g; have := hzo b e; omega)
    have hn3 : g2.next ≤ g3.next := f3.next
    have hn4 := f4.next
    have hn6 := f6.next
    have hn2 := f2.next
    refine RunW.pure rfl rfl (fun _ => rfl) rfl ?_
    refine RunW.pure rfl rfl (fun _ => rfl) rfl ?_
    refine RunW.nil ⟨?_, fun lw F => ?_⟩
    · show cond (fpOk (.wr (idsOf [rov, .slice (some ⟨tb, 0, none⟩) 1 (exc 1)])) (.rd pb)) true false = true
      rw [idsG gr3 (fun b g e => hpr (by rw [← e]; exact g)) (by omega)]; rfl
    have f27 : Fr no h7 (g6.lo lw) := fg2.trans F (fun b g => .inr (by rcases g with g | g; have := hrx b g; omega; have := hzx b g; omega))
    refine RunC.region (RunO.all rfl ?_)
    refine ⟨d - 1, by omega, i + 1, rov2, zov2, by omega, ?_, ?_, ?_, f27, ?_, Le.cons (inc64 (by omega)) (Le.cons rfl (Le.cons rfl (Le.cons rfl (Le.cons rfl (Le.cons rfl (Le.cons rfl (Le.cons rfl (Le.nil _))))))))⟩
    · have e1 : is ((RS.take (i + 1)).map (·.1)) ++ is [r.ro] = is ((RS.take (i + 1 + 1)).map (·.1)) := by
        rw [hgi, List.map_append]; exact (List.map_append ..).symm
      have q : Gr g3.next (g6.lo lw) rov2 1 (i + 1 + 1) (is ((RS.take (i + 1)).map (·.1)) ++ is [r.ro]) := r6
      rw [e1] at q
      exact q.lo (by omega)
    · have e1 : is ((RS.take (i + 1)).map (·.2)) ++ is [r.sz] = is ((RS.take (i + 1 + 1)).map (·.2)) := by
        rw [hgi, List.map_append]; exact (List.map_append ..).symm
      have q : Gr g5.next (g6.lo lw) zov2 1 (i + 1 + 1) (is ((RS.take (i + 1)).map (·.2)) ++ is [r.sz]) := z6.gr
      rw [e1] at q
      exact q.lo (by omega)
    · intro b x y
      have := hr2 b x; have := hz2 b y; omega
    · show rq < g6.next; omega
  have hge1 := of_decide_eq_false hge
  obtain rfl : i = lr.length := by omega
  have hRt : RS.take (lr.length + 1) = RS := List.take_of_length_le (by omega)
  rw [hRt] at gr gz
  have grge := Gr.ge gr
  have gzge := Gr.ge gz
  have slro := gr.sl (by omega)
  have slzo := gz.sl (by omega)
  obtain ⟨rA, rc_, rfl, _, _⟩ := slro.form
  obtain ⟨zA, zc, rfl, _, _⟩ := slzo.form
  have ox6 := ox5.fr fg (fun g => g)
  have hxg : xb < g1.next := ox6.1
  have rl6 := rl.fr fg (fun _ _ _ g => g)
  have rb6 := rb.fr fg (fun _ _ _ g => g)
  have F8 := F7.same fg
  clear ox5 f79 or oz
  -- the trees
  refine RunC.seq ?_
  refine RunC.seq (RunC.region (RunO.all rfl ?_))
  refine RunC.block ?_
  refine RunC.loop (fun d E h' => ∃ (i : Nat) (TL : List Tr3) (tv : Value), i + d = lr.length + 1 ∧ TL.length = i ∧ TL.map (·.2) = (RS.take i).map (fun p => (treeM L p.1, treeN L p.1)) ∧ (∀ j (hj : j < RS.length), j < i → lkX L RS[j] = false) ∧ (∀ t ∈ TL, TrW B h' xb tv t) ∧
      Ow h' xb (imc s slot (.slice lA lr.length lc) bv tv) ∧ Row g1.next h' tv 1 TL.length (tps TL) ∧ Fr (· = xb) g1 h' ∧
    Le ((upd (upd (upd (upd (upd (upd (upd E0 0 (.slice A L.length c)) 2 (.pointer (some ⟨xb, 0, none⟩))) 5 (.int .i64 (B : Int))) 8 (.slice zA (lr.length + 1) zc)) 108 (.slice rA (lr.length + 1) rc_)) 109 (.int .i64 ((lr.length + 1 : Nat) : Int))) 110 (.int .i64 (i : Int)))) E) ?st2 (k := lr.length + 1) ?ini2
  case ini2 => exact ⟨0, [], _, by omega, rfl, rfl, fun j _ hj => absurd hj (Nat.not_lt_zero _), fun t ht => absurd ht List.not_mem_nil, ox6, Row.nil _ _ _, Fr.refl _ _, Le.cons rfl (Le.cons rfl (Le.cons rfl (Le.cons rfl (Le.cons rfl (Le.cons rfl (Le.cons rfl (Le.nil _)))))))⟩
  rintro d2 E g2 ⟨i, TL, tv, hi2, hTl, hTm, hX, hTW, ox, rt, fg2, hE⟩
  refine RunC.le hE ?_
  clear hE
  refine RunC.seq (RunC.region (RunO.all rfl ?_))
  refine RunC.seq (RunC.cond rfl (fun hlt => RunC.skip ?go2) (fun hge => RunC.exit ?ex2))
  case go2 =>
    have hlt := of_decide_eq_true hlt
    have hlt : i < lr.length + 1 := by omega
    have hiR : i < RS.length := by omega
    have slr2 : Sl g2 (.slice rA (lr.length + 1) rc_) 1 (lr.length + 1) (is (RS.map (·.1))) := slro.frm (fun b o c_ e g => by have g : b = xb := g; have := grge b o _ c_ e; omega) fg2
    have slz2 : Sl g2 (.slice zA (lr.length + 1) zc) 1 (lr.length + 1) (is (RS.map (·.2))) := slzo.frm (fun b o c_ e g => by have g : b = xb := g; have := gzge b o _ c_ e; omega) fg2
    have F9 : Fr no h g2 := F8.trans fg2 (fun b e => .inr (by have e : b = xb := e; omega))
    have hr1 : (RS.map (·.1))[i]? = some RS[i].1 := by rw [List.getElem?_map, List.getElem?_eq_getElem hiR]; rfl
    have hz1 : (RS.map (·.2))[i]? = some RS[i].2 := by rw [List.getElem?_map, List.getElem?_eq_getElem hiR]; rfl
    obtain ⟨hz0, hz5⟩ := hsz RS[i] (List.getElem_mem hiR)
    have hfind := fun h => find_first (p := lkX L) hiR hX h
    have hlkM : lkX L RS[i] = true → lkM L = (RS[i].1, 6) := fun h => by
      unfold lkM
      rw [← hRS, hfind h]
    have hTk : RS.take (i + 1) = RS.take i ++ [RS[i]] := List.take_succ_eq_append_getElem hiR
    have hXn : lkX L RS[i] = false → ∀ j (hj : j < RS.length), j < i + 1 → lkX L RS[j] = false := fun h j hj hji => by
      rcases Nat.lt_or_ge j i with q | q
      · exact hX j hj q
      · have e : j = i := by omega
        subst e; exact h
    generalize RS[i] = p at *
    obtain ⟨root, sz⟩ := p
    simp only at hr1 hz1 hz0 hz5 hlkM
    have hXe : lkX L (root, sz) = (!treeOk L root || bey (treeM L root) sz) := rfl
    rw [hXe] at hlkM hXn
    refine RunC.seq (RunC.block ?_)
    refine RunC.seq (RunC.region (RunO.part 1 rfl ?_))
    refine RunO.at (s := 1) (k := i) rfl rfl slr2 rfl rfl hlt (ix_at hr1) rfl rfl rfl (RunO.all rfl ?_)
    refine RunC.seq (RunC.region (RunO.part 2 rfl ?_))
    refine RunO.callD (treeGo_ok (root := root) (sl0.fr0 F9) hb hd) rfl rfl rfl ?_
    rintro _ g3 ⟨f3, ⟨hok, wb, rfl, mb, nv, w1, w2, ow, om, row, hml, hnl⟩ | ⟨hok, rfl⟩⟩
    case inr =>
      rw [hok] at hlkM
      have hlkM := hlkM rfl
      rw [hlkM] at hlk
      rw [hlk]
      refine RunO.all rfl ?_
      refine RunC.seq (RunC.seq (RunC.draw0 rfl (RunO.all rfl ?_)))
      refine RunC.cond rfl (fun _ => ?_) (fun g => by cases g)
      exact RunC.seq (RunC.region (RunO.all rfl (RunC.ret ⟨_, rfl, F9.same f3, .inr ⟨by show (6 : Int) ≠ 0; decide, rfl⟩⟩)))
    rw [hok, show (!true) = false from rfl, Bool.false_or] at hlkM hXn
    obtain ⟨hmr, hnr⟩ := tree_rng hd hok
    rw [← hB] at ow hmr hnr
    obtain ⟨k, hk⟩ := Int.eq_ofNat_of_zero_le hz0
    subst hk
    refine RunO.all rfl ?_
    refine RunC.seq (RunC.seq (RunC.draw0 rfl (RunO.part 6 rfl ?_)))
    refine RunO.loadG (v := .slice (some ⟨mb, 0, none⟩) 512 (exc 512)) rfl rfl (ow.ld rfl) rfl ?_
    refine RunO.part 2 rfl ?_
    refine RunO.atG (s := 1) (k := i) rfl (fun _ => rfl) rfl rfl (slz2.fr0 f3) rfl rfl hlt (ix_at hz1) rfl rfl rfl ?_
    refine RunO.callDG rfl (openBeyond_ok (om.all.sl (by rw [is_len, hml]) (by decide) (Cp.exc (Nat.le_refl 512))) hml (by omega)) rfl rfl rfl ?_
    rintro _ g4 ⟨rfl, f4⟩
    cases hbe : bey (treeM L root) (k : Int) with
    | true =>
      have hlkM := hlkM hbe
      rw [hlkM] at hlk
      rw [hlk]
      refine RunO.all rfl (RunC.cond rfl (fun _ => ?_) (fun g => by cases g))
      exact RunC.seq (RunC.region (RunO.all rfl (RunC.ret ⟨_, rfl, (F9.same f3).same f4, .inr ⟨by show (6 : Int) ≠ 0; decide, rfl⟩⟩)))
    | false =>
    have hXn := hXn hbe
    refine RunO.all rfl (RunC.cond rfl (fun g => by cases g) (fun _ => RunC.skip ?_))
    have hg2x := ox.1
    have htx : ∀ b, At tv b → g1.next ≤ b ∧ b < g2.next := fun b g => rt.at g
    have f34 := f3.same f4
    have tw : TrW B g4 xb tv (wb, treeM L root, treeN L root) := by
      refine ⟨_, mb, nv, ow.fr f4 (fun g => g), om.fr f4 (fun g => g), Row.lo (row.fr f4 (fun _ _ _ g => g)) (Nat.zero_le _), hml, hnl, hmr, hnr, ⟨by omega, fun g => ?_⟩, ⟨by omega, fun g => ?_⟩, fun b g => ⟨?_, fun e => ?_⟩⟩
      · have := htx _ g; omega
      · have := htx _ g; omega
      · have := (row.at g).1; omega
      · have := htx _ e; have := (row.at g).1; omega
    have hTW4 : ∀ t ∈ TL, TrW B g4 xb tv t := fun t ht => (hTW t ht).fr0 f34
    have rt4 := rt.fr f34 (fun _ _ _ g => g)
    have ox4 := ox.fr f34 (fun g => g)
    have F10 := F9.same f34
    have hn34 := f34.next
    refine RunC.region (RunO.part 4 rfl ?_)
    refine RunO.load (v := tv) rfl (ox4.ld rfl) rfl ?_
    refine RunO.part 2 (h1 := g4.push ⟨tps [(wb, treeM L root, treeN L root)], true⟩) rfl ?_
    have ot := Ow.push g4 (tps [(wb, treeM L root, treeN L root)])
    have f5 : Fr no g4 (g4.push ⟨tps [(wb, treeM L root, treeN L root)], true⟩) := Fr.push _ _ _
    have rt5 := rt4.fr f5 (fun _ _ _ g => g)
    have ox5 := ox4.fr f5 (fun g => g)
    have hTW5 : ∀ t ∈ TL ++ [(wb, treeM L root, treeN L root)], TrW B (g4.push ⟨tps [(wb, treeM L root, treeN L root)], true⟩) xb tv t := fun t ht => by
      rcases List.mem_append.1 ht with g | g
      · exact (hTW4 t g).fr0 f5
      · rw [List.mem_singleton.1 g]; exact tw.fr0 f5
    generalize g4.push ⟨tps [(wb, treeM L root, treeN L root)], true⟩ = g5 at *
    refine RunO.append2 (s := 1) (m := 1) rfl rfl rfl rfl rfl rfl rfl rfl (by decide) rt5 ot.all rfl (Nat.le_refl 1) rfl (by show 2 * (_ + 1) * 8 ≤ _; omega) (by omega) ?_
    intro tv2 g6 rt6 f6
    have ox6 := ox5.fr f6 (fun g => by have := htx xb g; omega)
    have htv2 : ∀ b, At tv2 b → g5.next ≤ b := fun b g => (rt6.at g).1
    have hn5 := f5.next
    refine RunO.part 2 rfl ?_
    refine RunO.store rfl rfl (store1_ow ox6 rfl (rt6.cell).1 (rt6.cell).2 (Nat.le_of_ble_eq_true rfl)) (RunO.nil ?_)
    have ox7 : Ow (g6.put xb (some ⟨imc s slot (.slice lA lr.length lc) bv tv2, true⟩)) xb (imc s slot (.slice lA lr.length lc) bv tv2) := Ow.put _ ox6.1
    have f7 : Fr (· = xb) g6 (g6.put xb (some ⟨imc s slot (.slice lA lr.length lc) bv tv2, true⟩)) := Fr.put _ (.inl rfl)
    show RunC prog _ _ _ (g6.put xb (some ⟨imc s slot (.slice lA lr.length lc) bv tv2, true⟩)) _ _ _
    generalize g6.put xb (some ⟨imc s slot (.slice lA lr.length lc) bv tv2, true⟩) = g7 at *
    have f67 : Fr (fun b => b = xb ∨ At tv b) g5 g7 := (f6.weak (fun b g => .inl (.inr g))).trans f7 (fun b g => .inl (.inl g))
    have rt7 := rt6.frm f7 (fun b g e => by have e : b = xb := e; have := htv2 b g; omega)
    refine RunC.region (RunO.all rfl ?_)
    refine ⟨d2 - 1, by omega, i + 1, TL ++ [(wb, treeM L root, treeN L root)], tv2, by omega, by rw [List.length_append, hTl]; rfl, ?_, hXn, fun t ht => (hTW5 t ht).step f67 htv2, ox7, ?_, ((fg2.quiet f34).quiet f5).trans f67 (fun b g => ?_), Le.cons (inc64 (by omega)) (Le.cons rfl (Le.cons rfl (Le.cons rfl (Le.cons rfl (Le.cons rfl (Le.cons rfl (Le.nil _)))))))⟩
    · rw [hTk, List.map_append, List.map_append, hTm]; rfl
    · have e1 : tps TL ++ tps [(wb, treeM L root, treeN L root)] = tps (TL ++ [(wb, treeM L root, treeN L root)]) := (List.map_append ..).symm
      rw [e1] at rt7
      rw [List.length_append]
      exact Row.lo rt7 (by have := fg2.next; omega)
    · rcases g with g | g
      · exact .inl g
      · exact .inr (htx b g).1
  have hge2 := of_decide_eq_false hge
  obtain rfl : i = lr.length + 1 := by omega
  have hfn : RS.find? (lkX L) = none := List.find?_eq_none.2 (fun p hp => by
    obtain ⟨j, hj, rfl⟩ := List.mem_iff_getElem.1 hp
    rw [hX j hj (by omega)]; simp)
  have hlkM : lkM L = (lkC L, if lkC L = 0 then 0 else 6) := by
    unfold lkM
    rw [← hRS, hfn]
  rw [hlkM] at hlk
  rw [hRt] at hTm
  have hT : TL.map (·.2) = lkT L := by rw [hTm, hRS]; rfl
  have hC : lkC L = clV B lb (TL.map (·.2)) := by rw [hT, hlb, hB]; rfl
  have F9 : Fr no h g2 := F8.trans fg2 (fun b e => .inr (by have e : b = xb := e; omega))
  have rl9 := rl6.frm fg2 (fun b g e => hlx b g e)
  have rb9 := rb6.frm fg2 (fun b g e => hbx b g e)
  -- the clash
  refine RunC.seq (RunC.region (RunO.part 2 rfl ?_))
  refine RunO.callD (openClash_ok ox (rb9.sl (by omega)) (rt.sl (by omega)) (fun t ht => (hTW t ht).ok) (fun x hx => by have := hlbr x hx; omega) (by omega) (by omega) (by omega)) rfl rfl rfl ?_
  rintro _ g3 ⟨f3, ⟨j, hj, rfl, hcl, hno⟩ | ⟨rfl, hno⟩⟩
  · have hj0 : j ≠ 0 := fun e => by
      subst e
      rw [clP_zero (fun x hx => (hlbr x hx).1) (fun t ht => by obtain ⟨_, _, _, _, _, _, _, _, _, h7, _⟩ := hTW t ht; exact fun x hx => (h7 x hx).1)] at hcl
      cases hcl
    rw [clV_some hj hcl hno] at hC
    rw [hC, if_neg (by omega)] at hlk
    rw [hlk]
    refine RunO.all rfl ?_
    refine RunC.seq (RunC.seq (RunC.region (RunO.all rfl ?_)))
    rw [show ((j : Int) != 0) = true from bne_iff_ne.2 (by omega)]
    refine RunC.cond rfl (fun _ => ?_) (fun g => by cases g)
    exact RunC.seq (RunC.region (RunO.all rfl (RunC.ret ⟨_, rfl, F9.same f3, .inr ⟨by show (6 : Int) ≠ 0; decide, rfl⟩⟩)))
  · rw [clV_none hno] at hC
    rw [hC, if_pos rfl] at hlk
    rw [hlk]
    refine RunO.all rfl ?_
    refine RunC.seq (RunC.seq (RunC.region (RunO.all rfl (RunC.cond rfl (fun g => by cases g) (fun _ => RunC.skip ?_)))))
    refine RunC.seq (RunC.region (RunO.all rfl (RunC.ret ⟨_, rfl, F9.same f3, .inl ⟨rfl, xb, rfl, ?_⟩⟩)))
    refine ⟨.slice lA lr.length lc, bv, tv, TL, by omega, ?_, ?_, ?_, (rt.sl (by omega)).fr0 f3, hT, fun t ht => ?_⟩
    · rw [← hs, ← hsl]; exact ox.fr f3 (fun g => g)
    · rw [← hlr]; exact Row.lo (rl9.fr f3 (fun _ _ _ g => g)) (by omega)
    · rw [← hlb]; exact Row.lo (rb9.fr f3 (fun _ _ _ g => g)) (by omega)
    · rw [← hB]; exact (hTW t ht).ok.fr0 f3
end Go.Proofs.Ytcbakhanpiemhaa
end
section
set_option linter.unusedVariables false
set_option linter.unusedSectionVars false
set_option maxRecDepth 100000
open Go Go.Am Go.RowKit
namespace Go.Proofs.Ytcbakhanpiemhaa
open Go.Proofs.Try
theorem eresults_cell2 {P : Program} {E : Env} {h : Heap} {a b : Tmp} {t : TypeId} {ad : Addr} {v w : Value} (h1 : E a = some (.pointer (some ad))) (h2 : aload P h t ad = some v) (h3 : E b = some w) :
    eresults P [.cell a t, .tmp b] E h = some (.tuple #[v, w]) := by
  simp only [eresults, eres, h1, h2, h3]
def recsE (L : List Int) (a : Int) : Int := if devOk L.length then (if (folOf L a).2.2.2 = 0 then 0 else 7) else 2
theorem openRecords_ok {h : Heap} {iv : Value} {L : List Int} {a : Int} (sl : Sl h iv 1 L.length (us L)) (hb : Byt L) (hm : L.length ≤ 4611686018427387904) :
    RunF prog 40 [iv, .int .i64 a] h fun v h' => Fr no h h' ∧ ((recsE L a = 0 ∧ ∃ lv bv, v = .tuple #[lv, bv, .int .i64 0] ∧ Row h.next h' lv 8 (folOf L a).1.length (recCs (folOf L a).1) ∧ Row h.next h' bv 1 (folOf L a).2.1.length (is (folOf L a).2.1)) ∨ (recsE L a ≠ 0 ∧ v = .tuple #[.slice none 0 0, .slice none 0 0, .int .i64 (recsE L a)])) := by
  refine RunF.walk func40 rfl rfl ?_
  have sl0 := sl
  obtain ⟨A, c, rfl, hc, hA⟩ := sl.form
  have hE : recsE L a = if devOk L.length then (if (folOf L a).2.2.2 = 0 then 0 else 7) else 2 := rfl
  rw [hE]
  refine RunC.seq (RunC.region (RunO.all rfl ?_))
  refine RunC.seq (RunC.region (RunO.part 1 rfl ?_))
  refine RunO.callD (devCheck_ok hm) rfl rfl rfl ?_
  rintro _ _ ⟨rfl, rfl⟩
  refine RunO.all rfl ?_
  cases hd : devOk L.length with
  | false =>
    refine RunC.seq (RunC.seq (RunC.region (RunO.all rfl (RunC.cond rfl (fun _ => ?_) (fun g => by cases g)))))
    exact RunC.seq (RunC.region (RunO.all rfl (RunC.ret ⟨_, rfl, Fr.refl _ _, .inr ⟨by rw [if_neg Bool.false_ne_true]; decide, rfl⟩⟩)))
  | true =>
  rw [if_pos rfl, if_pos rfl, if_pos rfl]
  refine RunC.seq (RunC.seq (RunC.region (RunO.all rfl (RunC.cond rfl (fun g => by cases g) (fun _ => RunC.skip ?_)))))
  refine RunC.seq (RunC.region (RunO.part 2 rfl ?_))
  refine RunO.callD (openFollow_ok (a := a) sl0 hb hd) rfl rfl rfl ?_
  rintro _ h5 ⟨f5, kb, rfl, lv, bv, hkb, ok, rl, rb⟩
  refine RunO.all rfl ?_
  refine RunC.seq (RunC.seq (RunC.region (RunO.part 3 rfl ?_)))
  refine RunO.load (v := .int .i64 (folOf L a).2.2.2) rfl (ok.ld rfl) rfl (RunO.all rfl ?_)
  by_cases hbad : (folOf L a).2.2.2 = 0
  case neg =>
    rw [if_neg hbad, show ((folOf L a).2.2.2 != 0) = true from bne_iff_ne.2 hbad]
    refine RunC.cond rfl (fun _ => ?_) (fun g => by cases g)
    exact RunC.seq (RunC.region (RunO.all rfl (RunC.ret ⟨_, rfl, f5, .inr ⟨by decide, rfl⟩⟩)))
  rw [if_pos hbad, show ((folOf L a).2.2.2 != 0) = false from by rw [hbad]; rfl]
  refine RunC.cond rfl (fun g => by cases g) (fun _ => RunC.skip ?_)
  refine RunC.seq (RunC.draw0 rfl (RunO.part 3 rfl ?_))
  refine RunO.load (v := lv) rfl (ok.ld rfl) rfl ?_
  refine RunO.part 3 rfl ?_
  refine RunO.load (v := bv) rfl (ok.ld rfl) rfl (RunO.all rfl ?_)
  exact RunC.ret ⟨_, rfl, f5, .inl ⟨rfl, lv, bv, rfl, rl, rb⟩⟩
/-- A state's cells. -/
def stc (s : S5) (slot : Int) (rv : Value) : List Value := sc5 s ++ [.int .i64 slot, rv]
theorem openOpen_ok {h : Heap} {iv : Value} {L : List Int} (sl : Sl h iv 1 L.length (us L)) (hb : Byt L) (hm : L.length ≤ 4611686018427387904) :
    RunF prog 36 [iv] h fun v h' => Fr no h h' ∧ (((lk L).2 = 0 ∧ ∃ rv, v = .tuple #[.agg ⟨stc (lkS L) (pickS L).2.1 rv⟩, .int .i64 0] ∧ Row h.next h' rv 8 (lkF L).1.length (recCs (lkF L).1)) ∨ ((lk L).2 ≠ 0 ∧ v = .tuple #[.agg ⟨stc (0, 0, 0, 0, 0) 0 (.slice none 0 0)⟩, .int .i64 (lk L).2])) := by
  refine RunF.walk func36 rfl rfl ?_
  refine RunC.seq (RunC.region (RunO.all (h1 := h.push ⟨stc (0, 0, 0, 0, 0) 0 (.slice none 0 0), true⟩) rfl ?_))
  have oq := Ow.push h (stc (0, 0, 0, 0, 0) 0 (.slice none 0 0))
  have f1 : Fr no h (h.push ⟨stc (0, 0, 0, 0, 0) 0 (.slice none 0 0), true⟩) := Fr.push _ _ _
  generalize h.push ⟨stc (0, 0, 0, 0, 0) 0 (.slice none 0 0), true⟩ = h1 at *
  obtain ⟨qb, hqb⟩ : ∃ q, q = h.next := ⟨_, rfl⟩
  rw [← hqb] at oq ⊢
  have hnx := oq.1
  refine RunC.seq (RunC.region (RunO.part 1 rfl ?_))
  refine RunO.callD (openLook_ok (sl.fr0 f1) hb hm) rfl rfl rfl ?_
  rintro _ h2 ⟨f2, ⟨h0, xb, rfl, rv, bv, tv, TL, hxb, ox, rl, rb, _⟩ | ⟨h0, rfl⟩⟩
  · replace oq := oq.fr f2 (fun g => g)
    refine RunO.all rfl ?_
    refine RunC.seq (RunC.seq (RunC.region (RunO.all rfl (RunC.cond rfl (fun g => by cases g) (fun _ => RunC.skip ?_)))))
    refine RunC.seq (RunC.region (RunO.part 3 rfl ?_))
    refine RunO.load (v := .agg ⟨stc (lkS L) (pickS L).2.1 rv⟩) rfl (ox.ld rfl) rfl ?_
    have hcs : cellsOf (.agg ⟨stc (lkS L) (pickS L).2.1 rv⟩) = stc (lkS L) (pickS L).2.1 rv := rfl
    have hcell : allCells (stc (lkS L) (pickS L).2.1 rv) = true := by
      rcases rl.2 with ⟨e, _⟩ | ⟨b, _, e, _⟩ <;> (rw [e]; rfl)
    refine RunO.store rfl rfl (store_ow (s := 7) oq rfl rfl hcell (Nat.le_of_ble_eq_true rfl)) ?_
    have e7 : (stc (0, 0, 0, 0, 0) 0 (.slice none 0 0)).take 0 ++ cellsOf (.agg ⟨stc (lkS L) (pickS L).2.1 rv⟩) ++ (stc (0, 0, 0, 0, 0) 0 (.slice none 0 0)).drop (0 + 7) = stc (lkS L) (pickS L).2.1 rv := rfl
    rw [e7]
    have oq2 : Ow (h2.put qb (some ⟨stc (lkS L) (pickS L).2.1 rv, true⟩)) qb (stc (lkS L) (pickS L).2.1 rv) := Ow.put _ oq.1
    have f3 : Fr (· = qb) h2 (h2.put qb (some ⟨stc (lkS L) (pickS L).2.1 rv, true⟩)) := Fr.put _ (.inl rfl)
    generalize h2.put qb (some ⟨stc (lkS L) (pickS L).2.1 rv, true⟩) = h3 at *
    have hn := f1.next
    have rl3 := rl.frm f3 (fun b g e => by have := (rl.at g).1; have e : b = qb := e; omega)
    refine RunO.all rfl (RunC.ret ⟨_, eresults_cell2 rfl (oq2.ld rfl) rfl, (f1.same f2).trans f3 (fun b e => .inr (by have e : b = qb := e; omega)), .inl ⟨h0, rv, rfl, Row.lo rl3 (by omega)⟩⟩)
  · replace oq := oq.fr f2 (fun g => g)
    refine RunO.all rfl ?_
    refine RunC.seq (RunC.seq (RunC.region (RunO.all rfl ?_)))
    rw [show ((lk L).2 != 0) = true from bne_iff_ne.2 h0]
    refine RunC.cond rfl (fun _ => ?_) (fun g => by cases g)
    refine RunC.seq (RunC.region (RunO.part 2 rfl ?_))
    refine RunO.store rfl rfl (store_ow (s := 7) oq rfl rfl rfl (Nat.le_of_ble_eq_true rfl)) ?_
    have oq2 : Ow (h2.put qb (some ⟨stc (0, 0, 0, 0, 0) 0 (.slice none 0 0), true⟩)) qb (stc (0, 0, 0, 0, 0) 0 (.slice none 0 0)) := Ow.put _ oq.1
    have f3 : Fr (· = qb) h2 (h2.put qb (some ⟨stc (0, 0, 0, 0, 0) 0 (.slice none 0 0), true⟩)) := Fr.put _ (.inl rfl)
    show RunO prog _ _ _ _ (h2.put qb (some ⟨stc (0, 0, 0, 0, 0) 0 (.slice none 0 0), true⟩)) _
    generalize h2.put qb (some ⟨stc (0, 0, 0, 0, 0) 0 (.slice none 0 0), true⟩) = h3 at *
    exact RunO.all rfl (RunC.ret ⟨_, eresults_cell2 rfl (oq2.ld rfl) rfl, (f1.same f2).trans f3 (fun b e => .inr (by have e : b = qb := e; omega)), .inr ⟨h0, rfl⟩⟩)
/-- Is this the whole record of an id? -/
def fdP (id : Int) (r : R8) : Bool := (r.id == id) && (r.ki == 0)
/-- A new image. -/
def newI (B : Nat) : List Int := superBlock 1 (B : Int) 0 0 0 ++ List.replicate (B * 64 - 64) 0
theorem newI_len {B : Nat} (h : 1 ≤ B) : (newI B).length = B * 64 := by unfold newI; rw [List.length_append, superBlock_len, List.length_replicate]; omega
theorem newI_byt (B : Nat) : Byt (newI B) := fun x hx => by
  rcases List.mem_append.1 hx with g | g
  · exact superBlock_byt _ _ _ _ _ x g
  · rw [List.eq_of_mem_replicate g]; omega
theorem ok_new {B : Nat} (h4 : 4 ≤ B) (hB : B ≤ 4096) : superOk 1 (B : Int) 0 0 0 = true := (superOk_iff _ _ _ _ _).2 ⟨by omega, by omega, by omega, .inl rfl, .inl rfl⟩
theorem openNew_ok {h : Heap} {B : Nat} (h4 : 4 ≤ B) (hB : B ≤ 4096) : RunF prog 35 [.int .i64 (B : Int)] h fun v h' => Fr no h h' ∧ ∃ b, h.next ≤ b ∧ v = .tuple #[.slice (some ⟨b, 0, none⟩) (B * 64) (exc (B * 64)), .int .i64 0] ∧ Ow h' b (us (newI B)) := by
  refine RunF.walk func35 rfl rfl ?_
  refine RunC.seq (RunC.region (RunO.all rfl ?_))
  refine RunC.seq (RunC.seq (RunC.region (RunO.part 3 rfl ?_)))
  rw [show decide ((B : Int) < 4) = false from decide_eq_false (by omega)]
  refine RunO.part 2 rfl ?_
  rw [show decide ((B : Int) > 4096) = false from decide_eq_false (by omega)]
  refine RunO.all rfl (RunC.cond rfl (fun g => by cases g) (fun _ => RunC.skip ?_))
  refine RunC.seq (RunC.region (RunO.part 2 rfl ?_))
  rw [fw64 (x := (B : Int) * 64) (by omega) (by omega), show (B : Int) * 64 = ((B * 64 : Nat) : Int) by omega]
  refine RunO.make (m := B * 64) rfl rfl rfl rfl rfl rfl (by show 1 * (B * 64) ≤ _; omega) (by omega) rfl ?_
  rw [reps_us]
  have oi := Ow.push h (us (List.replicate (B * 64) 0))
  have f1 : Fr no h (h.push ⟨us (List.replicate (B * 64) 0), true⟩) := Fr.push _ _ _
  generalize h.push ⟨us (List.replicate (B * 64) 0), true⟩ = h1 at *
  obtain ⟨qi, hqi⟩ : ∃ q, q = h.next := ⟨_, rfl⟩
  rw [← hqi] at oi ⊢
  refine RunO.all rfl ?_
  refine RunC.seq (RunC.region (RunO.part 2 rfl ?_))
  refine RunO.callD (superBytes_ok (g := 1) (bl := (B : Int)) (rt := 0) (sz := 0) (fi := 0)) rfl rfl rfl ?_
  rintro _ h2 ⟨f2, ⟨_, sb, hsb, rfl, os⟩ | ⟨g, _⟩⟩
  case inr => rw [ok_new h4 hB] at g; cases g
  replace oi := oi.fr f2 (fun g => g)
  refine RunO.all rfl ?_
  refine RunC.seq (RunC.region (RunO.part 2 rfl ?_))
  have hsl := superBlock_len 1 (B : Int) 0 0 0
  have sls := sl_own os hsl (Cp.exc (Nat.le_refl 64)) (by decide)
  rw [hsl] at sls
  refine RunO.copy (k := 64) rfl rfl rfl rfl oi sls (allCells_map (fun _ => rfl) _) (by omega) (by rw [us_len, List.length_replicate]; omega) rfl ?_
  intro h3 oi3 f3 hn3
  have e : (us (superBlock 1 (B : Int) 0 0 0)).take 64 ++ (us (List.replicate (B * 64) 0)).drop 64 = us (newI B) := by
    rw [List.take_of_length_le (by rw [us_len, hsl]; exact Nat.le_refl _)]
    unfold newI us
    rw [List.map_append, ← List.map_drop, List.drop_replicate]
  rw [e] at oi3
  refine RunO.all rfl ?_
  refine RunC.seq (RunC.region (RunO.all rfl (RunC.ret ⟨_, rfl, (f1.same f2).trans f3 (fun b g => .inr (by have g : b = qi := g; omega)), qi, by omega, rfl, oi3⟩)))
end Go.Proofs.Ytcbakhanpiemhaa
end
section
set_option linter.unusedVariables false
set_option linter.unusedSectionVars false
set_option maxRecDepth 100000
open Go Go.Am Go.RowKit
namespace Go.Proofs.Ytcbakhanpiemhaa
open Go.Proofs.Try
theorem pick_two (L : List Int) : pickS L = pickStep L (pickStep L ((0, 0, 0, 0, 0), 0, false) 0) 1 := rfl
theorem pick_no {L : List Int} {st : S5 × Int × Bool} {i : Nat} (h : sCode (blkI L i) ≠ 0) : pickStep L st i = st := by
  unfold pickStep
  rw [if_neg]
  rw [beq_eq_false_iff_ne.2 h]; exact Bool.false_ne_true
theorem pick_none {L : List Int} (h0 : sCode (blkI L 0) ≠ 0) (h1 : sCode (blkI L 1) ≠ 0) : (pickS L).2.2 = false := by
  rw [pick_two, pick_no h0, pick_no h1]
/-- Slot i has a superblock of this device, the other one none. -/
theorem pick_yes {L : List Int} {st : S5 × Int × Bool} {i : Nat} {g bl rt sz fi : Int} (h : blkI L i = superBlock g bl rt sz fi) (ok : superOk g bl rt sz fi = true) (hbl : bl = ((L.length / 64 : Nat) : Int)) (hst : st.2.2 = false) : pickStep L st i = ((g, bl, rt, sz, fi), (i : Int), true) := by
  obtain ⟨b1, b2⟩ := super_back ok
  unfold pickStep
  rw [h, b1, b2, hst, if_pos]
  show ((0 : Int) == 0 && (bl == _ && (!false || _))) = true
  rw [hbl]; simp
theorem pick_one0 {L : List Int} {g bl rt sz fi : Int} (h : blkI L 0 = superBlock g bl rt sz fi) (ok : superOk g bl rt sz fi = true) (hbl : bl = ((L.length / 64 : Nat) : Int)) (h1 : sCode (blkI L 1) ≠ 0) : pickS L = ((g, bl, rt, sz, fi), 0, true) := by
  rw [pick_two, pick_yes h ok hbl rfl, pick_no h1]; rfl
theorem pick_one1 {L : List Int} {g bl rt sz fi : Int} (h : blkI L 1 = superBlock g bl rt sz fi) (ok : superOk g bl rt sz fi = true) (hbl : bl = ((L.length / 64 : Nat) : Int)) (h0 : sCode (blkI L 0) ≠ 0) : pickS L = ((g, bl, rt, sz, fi), 1, true) := by
  rw [pick_two, pick_no h0, pick_yes h ok hbl rfl]; rfl
theorem fol_none (L : List Int) : folOf L 0 = ([], [], 0, 0) := fol_end ..
theorem bey_zero (k : Int) : bey (List.replicate 512 0) k = false := by
  unfold bey
  rw [List.any_eq_false]
  intro x hx
  have := List.eq_of_mem_replicate (List.mem_of_mem_drop hx)
  simp [this]
theorem tree0 (L : List Int) : treeOk L 0 = true ∧ treeM L 0 = List.replicate 512 0 ∧ treeN L 0 = [] := ⟨rfl, rfl, rfl⟩
theorem clV_no {B : Nat} {bl : List Int} {T : List (List Int × List Int)} (h : ∀ j, j < B → clP bl (T.map fun t => (0, t)) j = false) : clV B bl T = 0 := by
  unfold clV
  rw [List.find?_eq_none.2 (fun j hj => by rw [h j (List.mem_range.1 hj)]; simp)]
/-- An image whose head has no tree and that has no records opens. -/
theorem lk_empty {L : List Int} {s : S5} {slot : Int} (hd : devOk L.length = true) (hp : pickS L = (s, slot, true)) (hr : s.2.2.1 = 0) (hf : s.2.2.2.2 = 0) : lk L = (0, 0) ∧ lkF L = ([], [], 0, 0) ∧ lkS L = s := by
  have hS : lkS L = s := by unfold lkS; rw [hp]
  have hF : lkF L = ([], [], 0, 0) := by unfold lkF; rw [hS, hf]; exact fol_none L
  have hR : lkR L = [(0, s.2.2.2.1)] := by unfold lkR; rw [hF, hS, hr]; rfl
  refine ⟨?_, hF, hS⟩
  unfold lk
  rw [hd, hp, hF, if_pos rfl, if_pos rfl, if_pos rfl]
  have hX : lkX L (0, s.2.2.2.1) = false := by
    unfold lkX
    rw [(tree0 L).1, (tree0 L).2.1, bey_zero]; rfl
  unfold lkM
  rw [hR, List.find?_cons_of_neg (by rw [hX]; simp)]
  have hC : lkC L = 0 := by
    unfold lkC
    refine clV_no (fun j hj => ?_)
    unfold lkT
    rw [hR, hF]
    show clP [] [(0, List.replicate 512 0, [])] j = false
    unfold clP isN isS
    simp only [List.any_cons, List.any_nil]
    by_cases h0 : j = 0
    · subst h0; rfl
    · rw [show (List.replicate 512 (0 : Int)).contains (j : Int) = false from Bool.eq_false_iff.2 (fun g => by have := List.eq_of_mem_replicate (List.contains_iff_mem.1 g); omega)]
      simp
  show (lkC L, if lkC L = 0 then (0 : Int) else 6) = _
  rw [hC, if_pos rfl]
theorem newI_blk {B : Nat} (h : 4 ≤ B) : blkI (newI B) 0 = superBlock 1 (B : Int) 0 0 0 ∧ blkI (newI B) 1 = List.replicate 64 0 := by
  have hl := superBlock_len 1 (B : Int) 0 0 0
  unfold blkI newI
  constructor
  · rw [Nat.zero_mul, List.drop_zero, List.take_append_of_le_length (by omega), List.take_of_length_le (by omega)]
  · rw [Nat.one_mul, List.drop_append, List.drop_of_length_le (by omega), List.nil_append, hl, Nat.sub_self, List.drop_zero, List.take_replicate, Nat.min_eq_left (by omega)]
theorem dev_new {B : Nat} (h4 : 4 ≤ B) (hB : B ≤ 4096) : devOk (newI B).length = true := by
  rw [newI_len (by omega)]; exact devOk_mul h4 hB
theorem pick_new {B : Nat} (h4 : 4 ≤ B) (hB : B ≤ 4096) : pickS (newI B) = ((1, (B : Int), 0, 0, 0), 0, true) :=
  pick_one0 (newI_blk h4).1 (ok_new h4 hB) (by rw [newI_len (by omega), Nat.mul_div_cancel _ (by decide)]) (by rw [(newI_blk h4).2, sCode_zeros]; decide)
theorem lk_new {B : Nat} (h4 : 4 ≤ B) (hB : B ≤ 4096) : lk (newI B) = (0, 0) ∧ lkF (newI B) = ([], [], 0, 0) ∧ lkS (newI B) = (1, (B : Int), 0, 0, 0) := lk_empty (dev_new h4 hB) (pick_new h4 hB) rfl rfl
theorem lk_zeros {n : Nat} (hd : devOk n = true) : lk (List.replicate n 0) = (0, 8) := by
  have hd2 : devOk (List.replicate n (0 : Int)).length = true := by rw [List.length_replicate]; exact hd
  have hdl : n % 64 = 0 ∧ 4 ≤ n / 64 ∧ n / 64 ≤ 4096 := by
    unfold devOk at hd
    simpa using hd
  have hb : ∀ i, i < 2 → sCode (blkI (List.replicate n (0 : Int)) i) ≠ 0 := fun i hi => by
    have : blkI (List.replicate n (0 : Int)) i = List.replicate 64 0 := by
      unfold blkI
      rw [List.drop_replicate, List.take_replicate, Nat.min_eq_left (by omega)]
    rw [this, sCode_zeros]; decide
  unfold lk
  rw [hd2, if_pos rfl, pick_none (hb 0 (by decide)) (hb 1 (by decide))]; rfl
end Go.Proofs.Ytcbakhanpiemhaa
end
section
set_option linter.unusedVariables false
set_option linter.unusedSectionVars false
set_option maxRecDepth 100000
open Go Go.Am Go.RowKit
namespace Go.Proofs.Ytcbakhanpiemhaa
open Go.Proofs.Try
theorem stc_cells {h : Heap} {lo : Nat} {s : S5} {slot : Int} {rv : Value} {l : List R8} (r : Row lo h rv 8 l.length (recCs l)) : allCells (stc s slot rv) = true := by
  rcases r.2 with ⟨e, _⟩ | ⟨b, _, e, _⟩ <;> (rw [e]; rfl)
theorem stc_store (s : S5) (slot : Int) (rv : Value) : (stc (0, 0, 0, 0, 0) 0 (.slice none 0 0)).take 0 ++ cellsOf (.agg ⟨stc s slot rv⟩) ++ (stc (0, 0, 0, 0, 0) 0 (.slice none 0 0)).drop (0 + 7) = stc s slot rv := rfl
end Go.Proofs.Ytcbakhanpiemhaa
end
section
set_option linter.unusedVariables false
set_option linter.unusedSectionVars false
set_option maxRecDepth 100000
open Go Go.Am Go.RowKit
namespace Go.Proofs.Ytcbakhanpiemhaa
open Go.Proofs.Try
/- A chain that was followed to its end. -/
def nxt (a : Int) (l : List R8) (i : Nat) : Int := if i = 0 then a else (l.getD (i - 1) ⟨0, 0, 0, 0, 0, 0, 0, 0⟩).nx
structure FolI (L : List Int) (B : Nat) (a : Int) (l : List R8) (bs : List Int) (cur : Int) : Prop where
  len : l.length = bs.length
  blk : ∀ i (hi : i < l.length), bs.getD i 0 = nxt a l i ∧ 2 ≤ bs.getD i 0 ∧ bs.getD i 0 < (B : Int) ∧ rCode (blkI L (bs.getD i 0).toNat) = 0 ∧ l[i] = rPar (blkI L (bs.getD i 0).toNat)
  apart : ∀ i (hi : i < l.length) j (hj : j < l.length), j < i → l[j].id ≠ l[i].id ∧ l[i].ki ≠ 1
  cur : cur = nxt a l l.length
theorem nxt_app (a : Int) (l : List R8) (r : R8) {i : Nat} (h : i ≤ l.length) : nxt a (l ++ [r]) i = nxt a l i := by
  unfold nxt
  by_cases h0 : i = 0
  · rw [if_pos h0, if_pos h0]
  · rw [if_neg h0, if_neg h0, List.getD_eq_getElem?_getD, List.getD_eq_getElem?_getD, List.getElem?_append_left (by omega)]
theorem nxt_last (a : Int) (l : List R8) (r : R8) : nxt a (l ++ [r]) (l ++ [r]).length = r.nx := by
  unfold nxt
  rw [if_neg (by rw [List.length_append, List.length_singleton]; omega), List.length_append, List.length_singleton, show l.length + 1 - 1 = l.length by omega, List.getD_eq_getElem?_getD, List.getElem?_append_right (Nat.le_refl _), Nat.sub_self]; rfl
theorem FolI.snoc {L : List Int} {B : Nat} {a cur : Int} {l : List R8} {bs : List Int} {w : Nat} (v : FolI L B a l bs cur) (h2 : 2 ≤ cur) (hB : cur < (B : Int)) (hc : rCode (blkI L cur.toNat) = 0) (hm : mayR l w (rPar (blkI L cur.toNat)) = true) :
    FolI L B a (l ++ [rPar (blkI L cur.toNat)]) (bs ++ [cur]) (rPar (blkI L cur.toNat)).nx := by
  generalize hr : rPar (blkI L cur.toNat) = r at *
  refine ⟨by rw [List.length_append, List.length_append, v.len]; rfl, fun i hi => ?_, fun i hi j hj hji => ?_, (nxt_last a l r).symm⟩
  · rw [List.length_append, List.length_singleton] at hi
    by_cases e : i < l.length
    · have := v.blk i e
      have hb : (bs ++ [cur]).getD i 0 = bs.getD i 0 := by
        rw [List.getD_eq_getElem?_getD, List.getD_eq_getElem?_getD, List.getElem?_append_left (by rw [← v.len]; exact e)]
      rw [hb, nxt_app a l r (by omega), List.getElem_append_left e]
      exact this
    · have e : i = l.length := by omega
      subst e
      have hb : (bs ++ [cur]).getD l.length 0 = cur := by
        rw [List.getD_eq_getElem?_getD, List.getElem?_append_right (by rw [v.len]; exact Nat.le_refl _), v.len, Nat.sub_self]; rfl
      rw [hb, nxt_app a l r (Nat.le_refl _), ← v.cur]
      refine ⟨rfl, h2, hB, hc, ?_⟩
      rw [List.getElem_append_right (Nat.le_refl _)]
      simp [hr]
  · rw [List.length_append, List.length_singleton] at hi hj
    have hjl : j < l.length := by omega
    rw [List.getElem_append_left hjl]
    by_cases e : i < l.length
    · rw [List.getElem_append_left e]; exact v.apart i e j hjl hji
    · have e : i = l.length := by omega
      subst e
      rw [List.getElem_append_right (Nat.le_refl _)]
      simp only [Nat.sub_self, List.getElem_cons_zero]
      unfold mayR at hm
      by_cases hk : (r.ki == 1) = true
      · rw [if_pos hk] at hm
        have hm := beq_iff_eq.1 hm
        omega
      · rw [if_neg hk, Bool.and_eq_true, Bool.not_eq_true', List.any_eq_false] at hm
        have := hm.1 l[j] (List.getElem_mem hjl)
        exact ⟨by simpa using this, by simpa using hk⟩
theorem fol_inv {L : List Int} {B : Nat} {a : Int} : ∀ (f : Nat) (cur : Int) (l : List R8) (bs : List Int) (w : Nat), FolI L B a l bs cur → (fol L B f cur l bs w).2.2.2 = 0 → FolI L B a (fol L B f cur l bs w).1 (fol L B f cur l bs w).2.1 0
  | 0, cur, l, bs, w, v, h => by
    have h : cur = 0 := h
    subst h; exact v
  | f + 1, cur, l, bs, w, v, h => by
    unfold fol at h ⊢
    by_cases h0 : cur = 0
    · subst h0
      rw [if_pos rfl] at h ⊢
      exact v
    rw [if_neg h0] at h ⊢
    by_cases hf : folB B bs cur = true
    · rw [if_pos hf] at h
      exact absurd h h0
    rw [if_neg hf] at h ⊢
    by_cases hc : (rCode (blkI L cur.toNat) != 0 || !mayR l w (rPar (blkI L cur.toNat))) = true
    · rw [if_pos hc] at h
      exact absurd h h0
    rw [if_neg hc] at h ⊢
    rw [Bool.not_eq_true, Bool.or_eq_false_iff, bne_eq_false_iff_eq, Bool.not_eq_false'] at hc
    unfold folB at hf
    rw [Bool.not_eq_true, Bool.or_eq_false_iff, Bool.or_eq_false_iff, decide_eq_false_iff_not, decide_eq_false_iff_not] at hf
    exact fol_inv f _ _ _ _ (v.snoc (by omega) (by omega) hc.1 hc.2) h
theorem folOf_inv {L : List Int} {a : Int} (h : (folOf L a).2.2.2 = 0) : FolI L (L.length / 64) a (folOf L a).1 (folOf L a).2.1 0 :=
  fol_inv _ _ _ _ _ ⟨rfl, fun i hi => absurd hi (Nat.not_lt_zero _), fun i hi => absurd hi (Nat.not_lt_zero _), rfl⟩ h
/-- Each whole record is found at its place; a pending one is not found. -/
theorem FolI.find {L : List Int} {B : Nat} {a cur : Int} {l : List R8} {bs : List Int} (v : FolI L B a l bs cur) {i : Nat} (hi : i < l.length) : (l[i].ki = 0 → fdP l[i].id l[i] = true ∧ ∀ j (hj : j < l.length), j < i → fdP l[i].id l[j] = false) ∧ (l[i].ki ≠ 0 → ∀ j (hj : j < l.length), fdP l[i].id l[j] = false) := by
  constructor
  · intro hk
    refine ⟨by unfold fdP; rw [hk]; simp, fun j hj hji => ?_⟩
    have := (v.apart i hi j hj hji).1
    unfold fdP
    rw [beq_eq_false_iff_ne.2 this, Bool.false_and]
  · intro hk j hj
    unfold fdP
    rcases Nat.lt_trichotomy j i with g | g | g
    · rw [beq_eq_false_iff_ne.2 (v.apart i hi j hj g).1, Bool.false_and]
    · subst g; rw [beq_eq_false_iff_ne.2 hk, Bool.and_false]
    · rw [beq_eq_false_iff_ne.2 (fun e => (v.apart j hj i hi g).1 e.symm), Bool.false_and]
theorem rec8_ne (x y : R8) : abinop prog .neq 63 (.agg ⟨rc8 x⟩) (.agg ⟨rc8 y⟩) = some (.bool (x != y)) := by
  show abinop prog .neq 63 (.agg ⟨rc x.nx x.id x.pa x.ro x.sz x.ki x.fr x.di⟩) (.agg ⟨rc y.nx y.id y.pa y.ro y.sz y.ki y.fr y.di⟩) = _
  rw [rec_ne]
  congr 2
  have key : (x.nx == y.nx && (x.id == y.id && (x.pa == y.pa && (x.ro == y.ro && (x.sz == y.sz && (x.ki == y.ki && (x.fr == y.fr && (x.di == y.di)))))))) = (x == y) := by
    rw [Bool.eq_iff_iff]
    simp only [Bool.and_eq_true, beq_iff_eq]
    constructor
    · rintro ⟨e1, e2, e3, e4, e5, e6, e7, e8⟩
      cases x; cases y; simp_all
    · rintro rfl; simp
  rw [key]; rfl
end Go.Proofs.Ytcbakhanpiemhaa
end
section
set_option linter.unusedVariables false
set_option maxRecDepth 100000
open Go Go.Am Go.RowKit
namespace Go.Proofs.Ytcbakhanpiemhaa
open Go.Proofs.Try
def wrG (n : Nat) (x : IoT) : Prop := x.1 = 1 ∧ (∃ a : Nat, x.2.1 = (a : Int) ∧ (a + 1) * 64 ≤ n) ∧ x.2.2.1.length = 64 ∧ Byt x.2.2.1
theorem apStep_w {o : List Int} {x : IoT} {n : Nat} (h : wrG n x) {a : Nat} (ha : x.2.1 = (a : Int)) : applyStep o x = setBlk o a x.2.2.1 := by
  unfold applyStep
  rw [h.1, ha]; rfl
theorem apL_w {n : Nat} : ∀ (l : List IoT) (o : List Int), (∀ x ∈ l, wrG n x) → o.length = n → Byt o → (applyL o l).length = n ∧ Byt (applyL o l) ∧ (∀ c : Nat, (∀ x ∈ l, x.2.1 ≠ (c : Int)) → blkI (applyL o l) c = blkI o c)
  | [], o, _, h, hb => ⟨h, hb, fun _ _ => rfl⟩
  | x :: l, o, hl, h, hb => by
    have hx := hl x (List.mem_cons_self ..)
    obtain ⟨h1, ⟨a, ha, hab⟩, h3, h4⟩ := hx
    have e : applyL o (x :: l) = applyL (setBlk o a x.2.2.1) l := by
      show List.foldl _ (applyStep o x) l = _
      rw [apStep_w (n := n) ⟨h1, ⟨a, ha, hab⟩, h3, h4⟩ ha]; rfl
    obtain ⟨g1, g2, g3⟩ := apL_w l (setBlk o a x.2.2.1) (fun y hy => hl y (List.mem_cons_of_mem _ hy)) (by rw [setBlk_len (by omega) h3]; exact h) (setBlk_byt hb h4)
    rw [e]
    refine ⟨g1, g2, fun c hc => ?_⟩
    rw [g3 c (fun y hy => hc y (List.mem_cons_of_mem _ hy)), blk_set_ne (by omega) h3 ?_]
    intro e
    exact hc x (List.mem_cons_self ..) (by rw [ha, e])
theorem apL_at {n : Nat} : ∀ (l : List IoT) (o : List Int), (∀ x ∈ l, wrG n x) → o.length = n → Byt o → List.Pairwise (fun x y => x.2.1 ≠ y.2.1) l → ∀ x ∈ l, blkI (applyL o l) x.2.1.toNat = x.2.2.1
  | [], _, _, _, _, _, x, hx => by cases hx
  | y :: l, o, hl, h, hb, hp, x, hx => by
    obtain ⟨h1, ⟨a, ha, hab⟩, h3, h4⟩ := hl y (List.mem_cons_self ..)
    have e : applyL o (y :: l) = applyL (setBlk o a y.2.2.1) l := by
      show List.foldl _ (applyStep o y) l = _
      rw [apStep_w (n := n) ⟨h1, ⟨a, ha, hab⟩, h3, h4⟩ ha]; rfl
    have hl2 := fun z (hz : z ∈ l) => hl z (List.mem_cons_of_mem _ hz)
    have hlen : (setBlk o a y.2.2.1).length = n := by rw [setBlk_len (by omega) h3]; exact h
    have hbt := setBlk_byt hb h4 (i := a)
    rw [List.pairwise_cons] at hp
    rw [e]
    rcases List.mem_cons.1 hx with rfl | hx
    · rw [ha, Int.toNat_natCast, (apL_w l _ hl2 hlen hbt).2.2 a (fun z hz g => hp.1 z hz (by rw [g, ha])), blk_set_same (by omega) h3]
    · exact apL_at l _ hl2 hlen hbt hp.2 x hx
theorem stE_w {n : Nat} (hd : devOk n = true) {l : List IoT} (hl : l.length ≤ 1048576) (h : ∀ x ∈ l, wrG n x) : stepsE n l = 0 := by
  unfold stepsE
  rw [hd, if_pos rfl, decide_eq_false (by omega), if_neg Bool.false_ne_true, if_neg ?_]
  rw [Bool.not_eq_true, List.any_eq_false]
  intro x hx c
  obtain ⟨h1, ⟨a, ha, hab⟩, h3, _⟩ := h x hx
  unfold ioR at c
  rw [h1, ha, h3] at c
  rw [if_pos (by rfl), decide_eq_true (show (a : Int) ≥ 0 by omega), show decide ((a : Int) < ((n / 64 : Nat) : Int)) = true from decide_eq_true (by omega)] at c
  simp at c
end Go.Proofs.Ytcbakhanpiemhaa
end
section
set_option linter.unusedVariables false
set_option linter.unusedSectionVars false
set_option maxRecDepth 100000
open Go Go.Am Go.RowKit
namespace Go.Proofs.Ytcbakhanpiemhaa
open Go.Proofs.Try
/- A device of records, one behind the other. -/
def rcNx (at_ n i : Nat) : Int := if i + 1 < n then ((at_ + i + 1 : Nat) : Int) else 0
def rcR (at_ n id i : Nat) : R8 := ⟨rcNx at_ n i, ((id + i : Nat) : Int), 0, 0, 0, 0, 0, 0⟩
def r8B (r : R8) : List Int := recBlock r.nx r.id r.pa r.ro r.sz r.ki r.fr r.di
theorem r8B_len (r : R8) : (r8B r).length = 64 := recBlock_len ..
theorem r8B_byt (r : R8) : Byt (r8B r) := recBlock_byt _ _ _ _ _ _ _ _
theorem r8_back {r : R8} (h : r8Ok r = true) : rCode (r8B r) = 0 ∧ rPar (r8B r) = r := by
  obtain ⟨h1, h2⟩ := rec_back h
  refine ⟨h1, ?_⟩
  have e : rCells (r8B r) = rc8 r := h2
  rw [rCells_eq] at e
  generalize rPar (r8B r) = y at *
  cases r; cases y
  unfold rc8 rc at e
  simp only [List.cons.injEq, Value.int.injEq, true_and, and_true] at e
  obtain ⟨rfl, rfl, rfl, rfl, rfl, rfl, rfl, rfl⟩ := e
  rfl
theorem rcR_ok {at_ n id i : Nat} (h2 : 2 ≤ at_) (hi : 1 ≤ id) (hid : id + n ≤ 100000) (hin : i < n) (hB : at_ + n ≤ 4096) : r8Ok (rcR at_ n id i) = true := by
  have e1 : ptrB (rcNx at_ n i) = true := by
    unfold ptrB rcNx
    split
    · by_cases h0 : at_ + i + 1 = 1
      · omega
      · simp only [Bool.or_eq_true, beq_iff_eq, Bool.and_eq_true, decide_eq_true_eq]; omega
    · rfl
  have e2 : parB ((id + i : Nat) : Int) 0 = true := by
    unfold parB idB
    simp only [Bool.and_eq_true, Bool.not_eq_true', decide_eq_false_iff_not, bne_iff_ne, Bool.or_eq_true, beq_self_eq_true, true_or, and_true]
    omega
  have e3 : recIs (rcNx at_ n i) ((id + i : Nat) : Int) 0 0 0 = true := by
    unfold recIs
    rw [e1, e2]; rfl
  unfold r8Ok recOk
  rw [if_pos (show (rcR at_ n id i).ki = 0 from rfl)]
  show ((recIs (rcNx at_ n i) ((id + i : Nat) : Int) 0 0 0 && (0 : Int) == 0) && (0 : Int) == 0) = true
  rw [e3]; rfl
def rcW (at_ n id : Nat) (k : Nat) : List IoT := (List.range k).map fun i => ((1 : Int), ((at_ + i : Nat) : Int), r8B (rcR at_ n id i), ())
theorem rcW_len (at_ n id k : Nat) : (rcW at_ n id k).length = k := by unfold rcW; rw [List.length_map, List.length_range]
theorem rcW_succ (at_ n id k : Nat) : rcW at_ n id (k + 1) = rcW at_ n id k ++ [((1 : Int), ((at_ + k : Nat) : Int), r8B (rcR at_ n id k), ())] := by unfold rcW; rw [List.range_succ, List.map_append]; rfl
def rcF (at_ n : Nat) : Int := if 0 < n then (at_ : Int) else 0
def rcS (at_ n : Nat) : List Int := superBlock 1 20 0 0 (rcF at_ n)
def rcL (at_ n id : Nat) : List IoT := rcW at_ n id n ++ [((1 : Int), 0, rcS at_ n, ())]
def recI (at_ n id : Nat) : List Int := applyL (List.replicate 1280 0) (rcL at_ n id)
section
variable {at_ n id : Nat} (h2 : 2 ≤ at_) (hn : at_ + n ≤ 20) (hi : 1 ≤ id) (hid : id ≤ 90000)
include h2 hn hi hid
theorem rcS_ok : superOk 1 20 0 0 (rcF at_ n) = true := (superOk_iff _ _ _ _ _).2 ⟨by decide, by decide, by decide, .inl rfl, by unfold rcF; split <;> omega⟩
theorem rcL_wr : ∀ x ∈ rcL at_ n id, wrG 1280 x := by
  intro x hx
  unfold rcL at hx
  rcases List.mem_append.1 hx with g | g
  · unfold rcW at g
    obtain ⟨i, hin, rfl⟩ := List.mem_map.1 g
    have hin := List.mem_range.1 hin
    exact ⟨rfl, ⟨at_ + i, rfl, by omega⟩, r8B_len _, r8B_byt _⟩
  · rw [List.mem_singleton.1 g]
    exact ⟨rfl, ⟨0, rfl, by decide⟩, superBlock_len .., superBlock_byt _ _ _ _ _⟩
theorem recI_len : (recI at_ n id).length = 1280 := (apL_w _ _ (rcL_wr h2 hn hi hid) List.length_replicate (byt_zeros 1280)).1
theorem recI_byt : Byt (recI at_ n id) := (apL_w _ _ (rcL_wr h2 hn hi hid) List.length_replicate (byt_zeros 1280)).2.1
theorem recI_stp : stepsE 1280 (rcL at_ n id) = 0 := stE_w (by decide) (by unfold rcL; rw [List.length_append, rcW_len, List.length_singleton]; omega) (rcL_wr h2 hn hi hid)
theorem rcL_pair : List.Pairwise (fun x y : IoT => x.2.1 ≠ y.2.1) (rcL at_ n id) := by
  unfold rcL
  rw [List.pairwise_append]
  refine ⟨?_, List.pairwise_singleton _ _, fun x hx y hy => ?_⟩
  · unfold rcW
    rw [List.pairwise_map]
    refine List.Pairwise.imp (fun {a b} h => ?_) (List.pairwise_lt_range (n := n))
    show ((at_ + a : Nat) : Int) ≠ ((at_ + b : Nat) : Int)
    omega
  · rw [List.mem_singleton.1 hy]
    unfold rcW at hx
    obtain ⟨i, _, rfl⟩ := List.mem_map.1 hx
    show ((at_ + i : Nat) : Int) ≠ 0
    omega
theorem recI_blk {i : Nat} (hin : i < n) : blkI (recI at_ n id) (at_ + i) = r8B (rcR at_ n id i) := by
  have hm : ((1 : Int), ((at_ + i : Nat) : Int), r8B (rcR at_ n id i), ()) ∈ rcL at_ n id := List.mem_append.2 (.inl (List.mem_map.2 ⟨i, List.mem_range.2 hin, rfl⟩))
  have := apL_at _ _ (rcL_wr h2 hn hi hid) List.length_replicate (byt_zeros 1280) (rcL_pair h2 hn hi hid) _ hm
  exact this
theorem recI_blk0 : blkI (recI at_ n id) 0 = rcS at_ n := by
  have hm : ((1 : Int), (0 : Int), rcS at_ n, ()) ∈ rcL at_ n id := List.mem_append.2 (.inr (List.mem_singleton.2 rfl))
  have := apL_at _ _ (rcL_wr h2 hn hi hid) List.length_replicate (byt_zeros 1280) (rcL_pair h2 hn hi hid) _ hm
  exact this
theorem recI_zero {c : Nat} (h0 : c ≠ 0) (hc : c < at_ ∨ at_ + n ≤ c) (hc2 : c < 20) : blkI (recI at_ n id) c = List.replicate 64 0 := by
  rw [show recI at_ n id = applyL (List.replicate 1280 0) (rcL at_ n id) from rfl, (apL_w _ _ (rcL_wr h2 hn hi hid) List.length_replicate (byt_zeros 1280)).2.2 c (fun x hx => ?_), rep_blk _ _ (by omega)]
  unfold rcL at hx
  rcases List.mem_append.1 hx with g | g
  · unfold rcW at g
    obtain ⟨i, hin, rfl⟩ := List.mem_map.1 g
    have hin := List.mem_range.1 hin
    show ((at_ + i : Nat) : Int) ≠ (c : Int)
    omega
  · rw [List.mem_singleton.1 g]
    show (0 : Int) ≠ (c : Int)
    omega
end
theorem fol_succ (L : List Int) (B f : Nat) (a : Int) (l : List R8) (bs : List Int) (w : Nat) : fol L B (f + 1) a l bs w = if a = 0 then (l, bs, w, 0) else if folB B bs a then (l, bs, w, a) else
    if (rCode (blkI L a.toNat) != 0) || !mayR l w (rPar (blkI L a.toNat)) then (l, bs, w, a) else
      fol L B f (rPar (blkI L a.toNat)).nx (l ++ [rPar (blkI L a.toNat)]) (bs ++ [a]) (if (rPar (blkI L a.toNat)).ki == 0 then w + 1 else w) := rfl
/-- A chain of whole records that stand side by side is followed. -/
theorem fol_run {L : List Int} {B at_ : Nat} {rs : List R8} (hblk : ∀ i (hi : i < rs.length), rCode (blkI L (at_ + i)) = 0 ∧ rPar (blkI L (at_ + i)) = rs[i]) (hki : ∀ i (hi : i < rs.length), rs[i].ki = 0) (hnx : ∀ i (hi : i + 1 < rs.length), rs[i].nx = ((at_ + i + 1 : Nat) : Int))
    (hid : ∀ i (hi : i < rs.length) j (hj : j < rs.length), j < i → rs[j].id ≠ rs[i].id) (hat : 2 ≤ at_) (hB : at_ + rs.length ≤ B) (hw : rs.length ≤ 60) :
    ∀ k, k ≤ rs.length → ∀ F, k ≤ F → fol L B F (at_ : Int) [] [] 0 = fol L B (F - k) (nxt (at_ : Int) rs k) (rs.take k) ((List.range k).map fun (i : Nat) => ((at_ + i : Nat) : Int)) k
  | 0, _, F, _ => rfl
  | k + 1, hk, F, hF => by
    rw [fol_run hblk hki hnx hid hat hB hw k (by omega) F (by omega)]
    obtain ⟨f, hf⟩ : ∃ f, F - k = f + 1 := ⟨F - k - 1, by omega⟩
    rw [hf, show F - (k + 1) = f by omega]
    have hkl : k < rs.length := by omega
    obtain ⟨b1, b2⟩ := hblk k hkl
    have hcur : nxt (at_ : Int) rs k = ((at_ + k : Nat) : Int) := by
      unfold nxt
      by_cases h0 : k = 0
      · rw [if_pos h0, h0]; rfl
      · rw [if_neg h0, List.getD_eq_getElem?_getD, List.getElem?_eq_getElem (by omega)]
        have := hnx (k - 1) (by omega)
        rw [show at_ + (k - 1) + 1 = at_ + k by omega] at this
        exact this
    have hnext : nxt (at_ : Int) rs (k + 1) = rs[k].nx := by
      unfold nxt
      rw [if_neg (by omega), Nat.add_sub_cancel, List.getD_eq_getElem?_getD, List.getElem?_eq_getElem hkl]; rfl
    rw [hcur, hnext, fol_succ]
    have hnc : ((List.range k).map fun (i : Nat) => ((at_ + i : Nat) : Int)).contains ((at_ + k : Nat) : Int) = false := Bool.eq_false_iff.2 (fun g => by
      obtain ⟨i, hi, e⟩ := List.mem_map.1 (List.contains_iff_mem.1 g)
      have := List.mem_range.1 hi
      omega)
    rw [if_neg (by omega), if_neg (by unfold folB; rw [hnc, decide_eq_false (by omega), decide_eq_false (by omega)]; simp), Int.toNat_natCast, b1, b2, if_neg]
    · rw [hki k hkl, List.take_succ_eq_append_getElem hkl, List.range_succ, List.map_append, if_pos (by rfl), List.map_singleton]
    · rw [show ((0 : Int) != 0) = false from rfl, Bool.false_or, Bool.not_eq_true', Bool.not_eq_false]
      unfold mayR
      rw [hki k hkl, if_neg (by decide), decide_eq_true (by omega), Bool.and_true, Bool.not_eq_true', List.any_eq_false]
      intro x hx
      obtain ⟨j, hj, rfl⟩ := List.mem_iff_getElem.1 hx
      rw [List.length_take] at hj
      rw [List.getElem_take]
      have := hid k hkl j (by omega) (by omega)
      simpa using this
/-- An image of records alone, without trees. -/
theorem lk_recs {L : List Int} {s : S5} {slot : Int} {rs : List R8} {bl : List Int} {w : Nat} {bad : Int} (hd : devOk L.length = true) (hp : pickS L = (s, slot, true)) (hr : s.2.2.1 = 0) (hF : folOf L s.2.2.2.2 = (rs, bl, w, bad)) (hro : ∀ r ∈ rs, r.ro = 0) : lk L = (if bad = 0 then (0, 0) else (bad, 7)) ∧ lkF L = (rs, bl, w, bad) ∧ lkS L = s := by
  have hS : lkS L = s := by unfold lkS; rw [hp]
  have hF2 : lkF L = (rs, bl, w, bad) := by unfold lkF; rw [hS]; exact hF
  refine ⟨?_, hF2, hS⟩
  unfold lk
  rw [hd, hp, hF2, if_pos rfl, if_pos rfl]
  by_cases hb : bad = 0
  case neg => rw [if_neg hb, if_neg hb]
  rw [if_pos hb, if_pos hb]
  have hR : ∀ p ∈ lkR L, p.1 = 0 := by
    intro p hp
    unfold lkR at hp
    rcases List.mem_cons.1 hp with e | g
    · rw [e, hS]; exact hr
    · rw [hF2] at g
      obtain ⟨r, hr, rfl⟩ := List.mem_map.1 g
      exact hro r hr
  have hX : (lkR L).find? (lkX L) = none := List.find?_eq_none.2 (fun p hp => by
    unfold lkX
    rw [hR p hp, (tree0 L).1, (tree0 L).2.1, bey_zero]; simp)
  have hC : lkC L = 0 := by
    unfold lkC
    refine clV_no (fun j hj => ?_)
    have h1 : ∀ t ∈ (lkT L).map (fun t => ((0, t) : Tr3)), t.2.1 = List.replicate 512 0 ∧ t.2.2 = [] := fun t ht => by
      obtain ⟨y, hy, rfl⟩ := List.mem_map.1 ht
      unfold lkT at hy
      obtain ⟨p, hp, rfl⟩ := List.mem_map.1 hy
      rw [hR p hp]; exact ⟨rfl, rfl⟩
    have hS0 : isS ((lkT L).map fun t => ((0, t) : Tr3)) j = false := by
      unfold isS
      rw [List.any_eq_false]
      intro t ht g
      rw [(h1 t ht).1, Bool.and_eq_true, decide_eq_true_eq] at g
      have := List.eq_of_mem_replicate (List.contains_iff_mem.1 g.2)
      omega
    have hN0 : isN ((lkT L).map fun t => ((0, t) : Tr3)) j = false := by
      unfold isN
      rw [List.any_eq_false]
      intro t ht g
      rw [(h1 t ht).2] at g
      cases g
    unfold clP
    rw [hS0, hN0]; rfl
  unfold lkM
  rw [hX, hC]; rfl
end Go.Proofs.Ytcbakhanpiemhaa
end
section
set_option linter.unusedVariables false
set_option maxRecDepth 100000
open Go Go.Am Go.RowKit
namespace Go.Proofs.Ytcbakhanpiemhaa
open Go.Proofs.Try
theorem cloneI_ok {h : Heap} {v : Value} {l : List Int} (sl : Sl h v 1 l.length (is l)) (hb : 2 * l.length * 8 ≤ 281474976710656) :
    RunF prog 45 [v] h fun r h' => Osl h.next h' r 1 l.length (is l) ∧ Fr no h h' ∧ (l.length = 0 → h.next ≤ h'.next) := by
  refine RunF.walk func45 rfl rfl ?_
  refine RunC.seq (RunC.region (RunO.all rfl ?_))
  obtain ⟨hl, hm, ⟨rfl, h0⟩ | ⟨b, o, c, rfl, hc, rd⟩⟩ := sl
  · refine RunC.seq (RunC.seq (RunC.region (RunO.all rfl ?_)))
    refine RunC.cond rfl (fun _ => ?_) (fun g => by cases g)
    exact RunC.seq (RunC.region (RunO.all rfl (RunC.ret ⟨_, rfl, ⟨hl, hm, .inl ⟨rfl, h0⟩⟩, Fr.refl _ _, fun _ => Nat.le_refl _⟩)))
  · refine RunC.seq (RunC.seq (RunC.region (RunO.all rfl ?_)))
    refine RunC.cond rfl (fun g => by cases g) (fun _ => RunC.skip ?_)
    refine RunC.seq (RunC.region (RunO.part 2 (h1 := h.push ⟨[], true⟩) rfl ?_))
    have f1 : Fr no h (h.push ⟨[], true⟩) := Fr.push _ _ _
    have ow : Ow (h.push ⟨[], true⟩) h.next [] := Ow.push _ _
    by_cases hz : l.length = 0
    · have hn : l = [] := List.eq_nil_of_length_eq_zero hz
      subst hn
      have key : aappend prog (h.push ⟨[], true⟩) 22 22 (.slice (some ⟨h.next, 0, none⟩) 0 (exc 0)) (.slice (some ⟨b, o, none⟩) 0 c) = some (.slice (some ⟨h.next, 0, none⟩) 0 (exc 0), h.push ⟨[], true⟩) := by
        have hs : asrc (h.push ⟨[], true⟩) 1 (.slice (some ⟨b, o, none⟩) 0 c) = some (0, []) := ((rd.fr f1 (fun g => g)).sl (s := 1) (n := 0) rfl (Nat.zero_le _) hc).src0
        show (match asrc (h.push ⟨[], true⟩) 1 (.slice (some ⟨b, o, none⟩) 0 c) with
          | some (0, _) => some (Value.slice (some ⟨h.next, 0, none⟩) 0 (exc 0), h.push ⟨[], true⟩)
          | some (m + 1, news) => _
          | none => none) = _
        rw [hs]
      refine RunO.one rfl (v := .slice (some ⟨h.next, 0, none⟩) 0 (exc 0)) (h1 := h.push ⟨[], true⟩) (abuiltin_app key) rfl ?_
      exact RunO.all rfl (RunC.ret ⟨_, rfl, ⟨rfl, hm, .inr ⟨h.next, exc 0, Nat.le_refl _, rfl, Cp.exc (Nat.le_refl _), ow⟩⟩, f1, fun _ => Nat.le_succ _⟩)
    · have key := append_full (P := prog) (t := 22) (e := 3) (s := 1) (k := 0) (m := l.length) (c := exc 0) (c' := c) (olds := []) (news := is l) (b := ⟨h.next, 0, none⟩) (a := ⟨b, o, none⟩) rfl rfl rfl rfl rfl (Nat.le_refl 1) ow.all rfl rfl (by show 0 < 0 + l.length; omega) (rd.fr f1 (fun g => g)) (by rw [is_len, Nat.mul_one]) (by omega)
        (by show 2 * (0 + l.length) * 8 ≤ _; omega) (by omega)
      rw [Nat.zero_add, List.nil_append] at key
      refine RunO.one rfl (abuiltin_app key) rfl ?_
      refine RunO.all rfl (RunC.ret ⟨_, rfl, ⟨hl, hm, .inr ⟨_, _, Nat.le_succ _, rfl, Cp.unkc _ _, Ow.push _ _⟩⟩, f1.same (Fr.push _ _ _), fun _ => Nat.le_succ_of_le (Nat.le_succ _)⟩)
end Go.Proofs.Ytcbakhanpiemhaa
end
section
set_option linter.unusedVariables false
set_option linter.unusedSectionVars false
set_option maxRecDepth 100000
open Go Go.Am Go.RowKit
namespace Go.Proofs.Ytcbakhanpiemhaa
open Go.Proofs.Try

/-- So many more asked for, of nothing. -/
theorem grow_ok {h : Heap} {n : Nat} (hn : n ≤ 1000000) : RunF prog 129 [.slice none 0 0, .int .i64 (n : Int)] h fun v h' => Row h.next h' v 1 0 [] ∧ Fr no h h' := by
  refine RunF.walk func129 rfl rfl ?_
  refine RunC.seq (RunC.region (RunO.all rfl ?_))
  refine RunC.seq (RunC.seq (RunC.region (RunO.part 1 rfl ?_)))
  refine RunO.part 1 rfl ?_
  rw [decide_eq_false (show ¬ ((n : Int) < 0) by omega)]
  refine RunO.all rfl (RunC.cond rfl (fun g => by cases g) (fun _ => RunC.skip ?_))
  refine RunC.seq (RunC.seq (RunC.region (RunO.part 6 rfl ?_)))
  refine RunO.part 1 rfl ?_
  rw [show fwrap .i64 ((n : Int) - fwrap .i64 ((0 : Int) - ((0 : Nat) : Int))) = (n : Int) by rw [fw64 (x := (0 : Int) - ((0 : Nat) : Int)) (by decide) (by decide), fw64 (x := (n : Int) - ((0 : Int) - ((0 : Nat) : Int))) (by omega) (by omega)]; omega]
  refine RunO.all rfl ?_
  refine RunC.seq (RunC.region (RunO.part 1 rfl ?_))
  refine RunO.part 1 rfl ?_
  cases n with
  | zero =>
    refine RunO.all rfl (RunC.cond (t := false) rfl (fun g => by cases g) (fun _ => RunC.skip ?_))
    refine RunC.seq (RunC.region (RunO.all rfl ?_))
    exact RunC.ret ⟨_, rfl, Row.nil _ _ _, Fr.refl _ _⟩
  | succ m =>
    rw [decide_eq_true (show ((m + 1 : Nat) : Int) > 0 by omega)]
    refine RunO.all rfl (RunC.cond rfl (fun _ => ?_) (fun g => by cases g))
    refine RunC.region (RunO.part 5 rfl ?_)
    have key : amake prog h 22 3 (.slice none 0 0) (.int .i64 (.ofNat (m + 1))) = some (.slice (some ⟨h.next, 0, none⟩) (m + 1) (unkc 1), h.push ⟨[], true⟩) := by
      show cond (Nat.ble (Nat.mul (m + 1) 8) 281474976710656) (cond (Nat.ble (m + 1) 9223372036854775807) (some (Value.slice (some ⟨h.next, 0, none⟩) (m + 1) (unkc 1), h.push ⟨[], true⟩)) none) none = _
      rw [Nat.ble_eq_true_of_le (show Nat.mul (m + 1) 8 ≤ 281474976710656 by show (m + 1) * 8 ≤ _; omega), Nat.ble_eq_true_of_le (show m + 1 ≤ 9223372036854775807 by omega)]
      rfl
    refine RunO.one rfl (v := .slice (some ⟨h.next, 0, none⟩) (m + 1) (unkc 1)) (h1 := h.push ⟨[], true⟩) key rfl ?_
    have ow := Ow.push h []
    have f1 : Fr no h (h.push ⟨[], true⟩) := Fr.push _ _ _
    refine RunO.part 2 rfl ?_
    refine RunO.one rfl (v := .slice (some ⟨h.next, 0, none⟩) 0 (unkc 1)) (h1 := h.push ⟨[], true⟩) (by show pureR _ (aslice prog 22 (.slice (some ⟨h.next, 0, none⟩) (m + 1) (unkc 1)) none (some (.int .i64 0)) none) = _; rfl) rfl ?_
    refine RunO.all rfl ?_
    refine RunC.seq (RunC.region (RunO.all rfl ?_))
    exact RunC.ret ⟨_, rfl, ⟨rfl, .inr ⟨h.next, Nat.le_refl _, rfl, ow⟩⟩, f1⟩

/-- Rows of numbers. -/
def RwsI (h : Heap) (v : Value) (rows : List (List Int)) : Prop :=
  ∃ cs, Sl h v 1 rows.length cs ∧ ∀ (j : Nat) (x : List Int), rows[j]? = some x → ∃ w, cs[j]? = some w ∧ Sl h w 1 x.length (is x)
theorem rowI_part {cs : List Value} {j : Nat} {w : Value} (h : cs[j]? = some w) : apart prog 22 cs (j * 1) = some w := by
  show nth cs (j * 1) = _
  rw [Nat.mul_one, nth_eq]; exact h
theorem flat_take {rows : List (List Int)} {i : Nat} (h : i < rows.length) : (rows.take (i + 1)).flatten = (rows.take i).flatten ++ rows[i] := by
  rw [List.take_succ_eq_append_getElem h, List.flatten_append]; simp
set_option maxHeartbeats 4000000 in
theorem concat_ok {h : Heap} {v : Value} {rows : List (List Int)} (sl : RwsI h v rows) (hm : rows.length ≤ 1000) (ht : rows.flatten.length ≤ 1000000) :
    RunF prog 102 [v] h fun r h' => Row h.next h' r 1 rows.flatten.length (is rows.flatten) ∧ Fr no h h' := by
  refine RunF.walk func102 rfl rfl ?_
  obtain ⟨cs, s1, k1⟩ := sl
  have s10 := s1
  obtain ⟨A, c, rfl, hc, _⟩ := s1.form
  have hle : ∀ i, (rows.take i).flatten.length ≤ 1000000 := fun i => by
    have : rows.flatten.length = (rows.take i).flatten.length + (rows.drop i).flatten.length := by rw [← List.length_append, ← List.flatten_append, List.take_append_drop]
    omega
  refine RunC.seq (RunC.region (RunO.all rfl ?_))
  refine RunC.seq (RunC.region (RunO.all rfl ?_))
  refine RunC.seq (RunC.seq (RunC.region (RunO.all rfl ?_)))
  refine RunC.block ?_
  refine RunC.loop (fun d E h' => ∃ i : Nat, i + d = rows.length ∧ h = h' ∧ Le ((upd (upd (upd (upd (upd E0 3 (.int .i64 (((rows.take i).flatten.length : Nat) : Int))) 0 (.slice A rows.length c)) 9 (.slice A rows.length c)) 10 (.int .i64 (rows.length : Int))) 11 (.int .i64 (i : Int)))) E) ?st1 (k := rows.length) ?ini1
  case ini1 => exact ⟨0, by omega, rfl, Le.cons rfl (Le.cons rfl (Le.cons rfl (Le.cons rfl (Le.cons rfl (Le.nil _)))))⟩
  rintro d E _ ⟨i, hi, rfl, hE⟩
  refine RunC.le hE ?_
  clear hE
  refine RunC.seq (RunC.region (RunO.all rfl ?_))
  refine RunC.seq (RunC.cond rfl (fun hlt => RunC.skip ?go1) (fun hge => RunC.exit ?ex1))
  case go1 =>
    have hlt := of_decide_eq_true hlt
    have hlt : i < rows.length := by omega
    obtain ⟨w, ew, sw⟩ := k1 i rows[i] (List.getElem?_eq_getElem hlt)
    have hft := flat_take hlt
    have h1 := hle (i + 1)
    rw [hft, List.length_append] at h1
    obtain ⟨wA, wc, rfl, _, _⟩ := sw.form
    refine RunC.seq (RunC.block ?_)
    refine RunC.seq (RunC.region ?_)
    refine RunO.at (s := 1) (k := i) rfl rfl s10 rfl rfl hlt (rowI_part ew) rfl rfl rfl (RunO.all rfl ?_)
    refine RunC.seq (RunC.region (RunO.part 4 rfl ?_))
    rw [fw64 (x := (((rows.take i).flatten.length : Nat) : Int) + ((rows[i].length : Nat) : Int)) (by omega) (by omega), show (((rows.take i).flatten.length : Nat) : Int) + ((rows[i].length : Nat) : Int) = (((rows.take (i + 1)).flatten.length : Nat) : Int) by rw [hft, List.length_append]; omega]
    refine RunO.all rfl ?_
    refine RunC.seq (RunC.region (RunO.part 1 rfl ?_))
    refine RunO.part 1 rfl ?_
    rw [decide_eq_false (show ¬ ((((rows.take (i + 1)).flatten.length : Nat) : Int) < 0) by omega)]
    refine RunO.all rfl (RunC.cond rfl (fun g => by cases g) (fun _ => RunC.skip ?_))
    refine RunC.region (RunO.all rfl ?_)
    exact ⟨d - 1, by omega, i + 1, by omega, rfl, Le.cons (inc64 (by omega)) (Le.cons rfl (Le.cons rfl (Le.cons rfl (Le.cons rfl (Le.nil _)))))⟩
  have hge := of_decide_eq_false hge
  obtain rfl : i = rows.length := by omega
  rw [List.take_length]
  refine RunC.seq (RunC.region (RunO.part 1 rfl ?_))
  refine RunO.callD (grow_ok (n := rows.flatten.length) ht) rfl rfl rfl ?_
  rintro gv h1 ⟨rg, f1⟩
  refine RunO.all rfl ?_
  refine RunC.seq (RunC.seq (RunC.region (RunO.all rfl ?_)))
  refine RunC.block ?_
  refine RunC.loop (fun d E h' => ∃ (i : Nat) (ov : Value), i + d = rows.length ∧ Fr no h h' ∧ Row h.next h' ov 1 (rows.take i).flatten.length (is (rows.take i).flatten) ∧ Le ((upd (upd (upd (upd E0 6 (ov)) 25 (.slice A rows.length c)) 26 (.int .i64 (rows.length : Int))) 27 (.int .i64 (i : Int)))) E) ?st2 (k := rows.length) ?ini2
  case ini2 => exact ⟨0, gv, by omega, f1, rg, Le.cons rfl (Le.cons rfl (Le.cons rfl (Le.cons rfl (Le.nil _))))⟩
  clear rg f1
  rintro d E g1 ⟨i, ov, hi, fg, row, hE⟩
  refine RunC.le hE ?_
  clear hE
  refine RunC.seq (RunC.region (RunO.all rfl ?_))
  refine RunC.seq (RunC.cond rfl (fun hlt => RunC.skip ?go2) (fun hge => RunC.exit ?ex2))
  case ex2 =>
    have hge := of_decide_eq_false hge
    obtain rfl : i = rows.length := by omega
    rw [List.take_length] at row
    refine RunC.seq (RunC.region (RunO.all rfl ?_))
    exact RunC.ret ⟨_, rfl, row, fg⟩
  have hlt := of_decide_eq_true hlt
  have hlt : i < rows.length := by omega
  obtain ⟨w, ew, sw⟩ := k1 i rows[i] (List.getElem?_eq_getElem hlt)
  have hft := flat_take hlt
  have h1 := hle (i + 1)
  rw [hft, List.length_append] at h1
  refine RunC.seq (RunC.block ?_)
  refine RunC.seq (RunC.region ?_)
  refine RunO.at (s := 1) (k := i) rfl rfl (s10.fr0 fg) rfl rfl hlt (rowI_part ew) rfl rfl rfl (RunO.all rfl ?_)
  refine RunC.region (RunO.part 2 rfl ?_)
  refine RunO.appendOs (s := 1) rfl rfl rfl rfl rfl rfl rfl rfl (Nat.le_refl 1) row fg.next (sw.fr0 fg) (allCells_map (f := Value.int .i64) (fun _ => rfl) _) (by show 2 * (_ + _) * 8 ≤ _; omega) (by omega) ?_
  intro ov2 g2 row2 f2
  have hat := fun b g => (row.gr.at (b := b) g).1
  refine RunO.all rfl ?_
  refine RunC.region (RunO.all rfl ?_)
  exact ⟨d - 1, by omega, i + 1, ov2, by omega, fg.trans f2 (fun b g => .inr (hat b g)), by rw [hft, List.length_append, show is ((rows.take i).flatten ++ rows[i]) = is (rows.take i).flatten ++ is rows[i] from List.map_append]; exact row2, Le.cons (inc64 (by omega)) (Le.cons rfl (Le.cons rfl (Le.cons rfl (Le.nil _))))⟩

theorem cloneR_ok {h : Heap} {v : Value} {l : List R8} (sl : Sl h v 8 l.length (recCs l)) (hb : 2 * l.length * 64 ≤ 281474976710656) :
    RunF prog 66 [v] h fun r h' => Gr h.next h' r 8 l.length (recCs l) ∧ Fr no h h' := by
  refine RunF.walk func66 rfl rfl ?_
  refine RunC.seq (RunC.region (RunO.all rfl ?_))
  obtain ⟨hl, hm, ⟨rfl, h0⟩ | ⟨b, o, c, rfl, hc, rd⟩⟩ := sl
  · refine RunC.seq (RunC.seq (RunC.region (RunO.all rfl ?_)))
    refine RunC.cond rfl (fun _ => ?_) (fun g => by cases g)
    exact RunC.seq (RunC.region (RunO.all rfl (RunC.ret ⟨_, rfl, ⟨hl, .inl ⟨rfl, h0⟩⟩, Fr.refl _ _⟩)))
  · refine RunC.seq (RunC.seq (RunC.region (RunO.all rfl ?_)))
    refine RunC.cond rfl (fun g => by cases g) (fun _ => RunC.skip ?_)
    refine RunC.seq (RunC.region (RunO.part 2 (h1 := h.push ⟨[], true⟩) rfl ?_))
    have f1 : Fr no h (h.push ⟨[], true⟩) := Fr.push _ _ _
    have ow : Ow (h.push ⟨[], true⟩) h.next [] := Ow.push _ _
    by_cases hz : l.length = 0
    · have hn : l = [] := List.eq_nil_of_length_eq_zero hz
      subst hn
      have key : aappend prog (h.push ⟨[], true⟩) 36 36 (.slice (some ⟨h.next, 0, none⟩) 0 (exc 0)) (.slice (some ⟨b, o, none⟩) 0 c) = some (.slice (some ⟨h.next, 0, none⟩) 0 (exc 0), h.push ⟨[], true⟩) := by
        have hs : asrc (h.push ⟨[], true⟩) 8 (.slice (some ⟨b, o, none⟩) 0 c) = some (0, []) := ((rd.fr f1 (fun g => g)).sl (s := 8) (n := 0) rfl (Nat.zero_le _) hc).src0
        show (match asrc (h.push ⟨[], true⟩) 8 (.slice (some ⟨b, o, none⟩) 0 c) with
          | some (0, _) => some (Value.slice (some ⟨h.next, 0, none⟩) 0 (exc 0), h.push ⟨[], true⟩)
          | some (m + 1, news) => _
          | none => none) = _
        rw [hs]
      refine RunO.one rfl (v := .slice (some ⟨h.next, 0, none⟩) 0 (exc 0)) (h1 := h.push ⟨[], true⟩) (abuiltin_app key) rfl ?_
      exact RunO.all rfl (RunC.ret ⟨_, rfl, ⟨rfl, .inr ⟨h.next, exc 0, Nat.le_refl _, rfl, .inr rfl, ow⟩⟩, f1⟩)
    · have key := append_full (P := prog) (t := 36) (e := 63) (s := 8) (k := 0) (m := l.length) (c := exc 0) (c' := c) (olds := []) (news := recCs l) (b := ⟨h.next, 0, none⟩) (a := ⟨b, o, none⟩) rfl rfl rfl rfl rfl ((by decide : 1 ≤ 8)) ow.all rfl rfl (by show 0 < 0 + l.length; omega) (rd.fr f1 (fun g => g)) (recCs_len l) (by omega)
        (by show 2 * (0 + l.length) * 64 ≤ _; omega) (by omega)
      rw [Nat.zero_add, List.nil_append] at key
      refine RunO.one rfl (abuiltin_app key) rfl ?_
      refine RunO.all rfl (RunC.ret ⟨_, rfl, ⟨hl, .inr ⟨_, _, Nat.le_succ _, rfl, .inl rfl, Ow.push _ _⟩⟩, f1.same (Fr.push _ _ _)⟩)
theorem recCs_take : ∀ (l : List R8) (i : Nat), (recCs l).take (i * 8) = recCs (l.take i)
  | l, 0 => by rw [Nat.zero_mul]; rfl
  | [], i + 1 => by simp [recCs]
  | x :: l, i + 1 => by
    show (rc8 x ++ recCs l).take ((i + 1) * 8) = rc8 x ++ recCs (l.take i)
    rw [List.take_append, show (i + 1) * 8 - (rc8 x).length = i * 8 by show (i + 1) * 8 - 8 = _; omega, List.take_of_length_le (by show 8 ≤ _; omega), recCs_take l i]
theorem recCs_put {l : List R8} {i : Nat} (x : R8) (h : i < l.length) : (recCs l).take (0 + i * 8) ++ cellsOf (.agg ⟨rc8 x⟩) ++ (recCs l).drop (0 + i * 8 + 8) = recCs (l.set i x) := by
  rw [Nat.zero_add, recCs_take, show i * 8 + 8 = (i + 1) * 8 by omega, recCs_drop, List.set_eq_take_append_cons_drop, if_pos h, recCs_app]
  show recCs (l.take i) ++ rc8 x ++ recCs (l.drop (i + 1)) = recCs (l.take i) ++ (rc8 x ++ recCs (l.drop (i + 1)))
  rw [List.append_assoc]
set_option maxHeartbeats 4000000 in
theorem reverseR_ok {lo : Nat} {h : Heap} {v : Value} {l : List R8} (gr : Gr lo h v 8 l.length (recCs l)) (hm : l.length ≤ 1000000) :
    RunF prog 67 [v] h fun _ h' => Gr lo h' v 8 l.reverse.length (recCs l.reverse) ∧ Fr (At v) h h' := by
  refine RunF.walk func67 rfl rfl ?_
  obtain ⟨hl, ⟨rfl, h0⟩ | ⟨b, c, hb, rfl, hc, ow⟩⟩ := gr
  · have hn : l = [] := List.eq_nil_of_length_eq_zero h0
    subst hn
    refine RunC.seq (RunC.region (RunO.all rfl ?_))
    refine RunC.block ?_
    refine RunC.loop (fun d E h' => h = h' ∧ Le (upd (upd E0 2 (.int .i64 0)) 3 (.int .i64 (-1))) E) ?st0 (k := 0) ?ini0
    case ini0 => exact ⟨rfl, Le.cons rfl (Le.cons rfl (Le.nil _))⟩
    rintro d E _ ⟨rfl, hE⟩
    refine RunC.le hE ?_
    refine RunC.seq (RunC.seq (RunC.region (RunO.all rfl (RunC.cond (t := false) rfl (fun g => by cases g) (fun _ => RunC.exit ?_)))))
    exact ⟨_, rfl, ⟨rfl, .inl ⟨rfl, rfl⟩⟩, Fr.refl _ _⟩
  have hat : At (.slice (some ⟨b, 0, none⟩) l.length c) b := ⟨_, _, rfl⟩
  refine RunC.seq (RunC.region (RunO.part 3 rfl ?_))
  rw [fw64 (x := (l.length : Int) - 1) (by omega) (by omega), show (l.length : Int) - 1 = (l.length : Int) - 1 - ((0 : Nat) : Int) by omega]
  refine RunO.all rfl ?_
  refine RunC.block ?_
  refine RunC.loop (fun d E h' => ∃ (k : Nat) (M : List R8), 2 * k ≤ l.length ∧ l.length ≤ 2 * k + d ∧ Ow h' b (recCs M) ∧ Fr (At (.slice (some ⟨b, 0, none⟩) l.length c)) h h' ∧ M.length = l.length ∧ (∀ j, j < l.length → M[j]? = if j < k ∨ l.length ≤ j + k then l[l.length - 1 - j]? else l[j]?) ∧ Le ((upd (upd (upd E0 0 (.slice (some ⟨b, 0, none⟩) l.length c)) 2 (.int .i64 (k : Int))) 3 (.int .i64 ((l.length : Int) - 1 - (k : Int))))) E) ?st (k := l.length) ?ini
  case ini => exact ⟨0, l, by omega, by omega, ow, Fr.refl _ _, rfl, fun j hj => by rw [if_neg (by omega)], Le.cons rfl (Le.cons rfl (Le.cons rfl (Le.nil _)))⟩
  rintro d E g ⟨k, M, h2, h3, om, fg, hML, hM, hE⟩
  refine RunC.le hE ?_
  clear hE
  refine RunC.seq (RunC.seq (RunC.region (RunO.all rfl ?_)))
  refine RunC.cond rfl (fun hlt => RunC.skip ?go) (fun hge => RunC.exit ?ex)
  case ex =>
    have hge := of_decide_eq_false hge
    have e : M = l.reverse := by
      refine List.ext_getElem? (fun j => ?_)
      by_cases hj : j < l.length
      · rw [hM j hj, List.getElem?_reverse hj]
        by_cases hc : j < k ∨ l.length ≤ j + k
        · rw [if_pos hc]
        · rw [if_neg hc, show l.length - 1 - j = j by omega]
      · rw [List.getElem?_eq_none (by omega), List.getElem?_eq_none (by rw [List.length_reverse]; omega)]
    rw [e] at om
    exact ⟨_, rfl, ⟨recCs_len _, .inr ⟨b, c, hb, by rw [List.length_reverse], by rw [List.length_reverse]; exact hc, om⟩⟩, fg⟩
  have hlt := of_decide_eq_true hlt
  obtain ⟨q, hq⟩ : ∃ q : Nat, (l.length : Int) - 1 - (k : Int) = (q : Int) := Int.eq_ofNat_of_zero_le (by omega)
  rw [hq]
  have hkl : k < M.length := by omega
  have hql : q < M.length := by omega
  have hcm : Cp 8 M.length c := by
    rw [hML]
    rcases hc with e | e
    · rw [e]; exact Cp.unkc _ _
    · rw [e]; exact Cp.exc (Nat.le_refl _)
  have slm : Sl g (.slice (some ⟨b, 0, none⟩) l.length c) 8 M.length (recCs M) := by rw [← hML]; exact om.all.sl (recCs_len M) (by omega) hcm
  rw [hML] at slm
  have e1 := hM k (by omega)
  have e2 := hM q (by omega)
  rw [if_neg (by omega)] at e1 e2
  refine RunC.seq (RunC.block ?_)
  refine RunC.draw0 rfl (RunO.part 6 rfl ?_)
  refine RunO.at (s := 8) (k := q) rfl rfl slm rfl rfl (by omega) (recCs_part hql) rfl rfl rfl ?_
  refine RunO.part 2 rfl ?_
  refine RunO.at (s := 8) (k := k) rfl rfl slm rfl rfl (by omega) (recCs_part hkl) rfl rfl rfl ?_
  refine RunO.index (s := 8) (k := k) rfl rfl rfl rfl (show k < l.length by omega) rfl ?_
  refine RunO.store rfl rfl (store_ow (s := 8) om rfl rfl rfl (by rw [recCs_len]; omega)) ?_
  rw [recCs_put _ hkl]
  have o2 : Ow (g.put b (some ⟨recCs (M.set k M[q]), true⟩)) b (recCs (M.set k M[q])) := Ow.put _ om.1
  have f2 : Fr (At (.slice (some ⟨b, 0, none⟩) l.length c)) g (g.put b (some ⟨recCs (M.set k M[q]), true⟩)) := Fr.put _ (.inl hat)
  refine RunO.index (s := 8) (k := q) rfl rfl rfl rfl (show q < l.length by omega) rfl ?_
  refine RunO.store rfl rfl (store_ow (s := 8) o2 rfl rfl rfl (by rw [recCs_len, List.length_set]; omega)) (RunO.nil ?_)
  rw [recCs_put _ (by rw [List.length_set]; exact hql)]
  have o3 : Ow ((g.put b (some ⟨recCs (M.set k M[q]), true⟩)).put b (some ⟨recCs ((M.set k M[q]).set q M[k]), true⟩)) b (recCs ((M.set k M[q]).set q M[k])) := Ow.put _ o2.1
  have f3 : Fr (At (.slice (some ⟨b, 0, none⟩) l.length c)) (g.put b (some ⟨recCs (M.set k M[q]), true⟩)) ((g.put b (some ⟨recCs (M.set k M[q]), true⟩)).put b (some ⟨recCs ((M.set k M[q]).set q M[k]), true⟩)) := Fr.put _ (.inl hat)
  refine RunC.region (RunO.part 2 rfl ?_)
  rw [fw64 (x := (k : Int) + 1) (by omega) (by omega), show (k : Int) + 1 = ((k + 1 : Nat) : Int) by omega]
  refine RunO.part 2 rfl ?_
  rw [fw64 (x := (q : Int) - 1) (by omega) (by omega), show (q : Int) - 1 = (l.length : Int) - 1 - ((k + 1 : Nat) : Int) by omega]
  refine RunO.all rfl ?_
  refine ⟨d - 2, by omega, k + 1, (M.set k M[q]).set q M[k], by omega, by omega, o3, (fg.same f2).same f3, by rw [List.length_set, List.length_set]; exact hML, fun j hj => ?_, Le.cons rfl (Le.cons rfl (Le.cons rfl (Le.nil _)))⟩
  rw [List.getElem?_set, List.getElem?_set, List.length_set]
  by_cases hjq : q = j
  · subst hjq
    rw [if_pos rfl, if_pos hql, if_pos (by omega), show l.length - 1 - q = k by omega, ← e1, List.getElem?_eq_getElem hkl]
  · rw [if_neg hjq]
    by_cases hjk : k = j
    · subst hjk
      rw [if_pos rfl, if_pos hkl, if_pos (by omega), show l.length - 1 - k = q by omega, ← e2, List.getElem?_eq_getElem hql]
    · rw [if_neg hjk, hM j hj]
      by_cases hcd : j < k ∨ l.length ≤ j + k
      · rw [if_pos hcd, if_pos (by omega)]
      · rw [if_neg hcd, if_neg (by omega)]
end Go.Proofs.Ytcbakhanpiemhaa
end
section
set_option linter.unusedVariables false
set_option linter.unusedSectionVars false
set_option maxRecDepth 100000
open Go Go.Am Go.RowKit
namespace Go.Proofs.Ytcbakhanpiemhaa
open Go.Proofs.Try

/- Steps in a growing slice, of any data. -/
def IoW (lo : Nat) (h : Heap) (lv : Value) (l : List IoT) : Prop := ∃ acs, Row lo h lv 3 l.length acs ∧ ∀ (j : Nat) (x : IoT), l[j]? = some x → ∃ dv, (acs.drop (j * 3)).take 3 = [.int .i64 x.1, .int .i64 x.2.1, dv] ∧ Sl h dv 1 x.2.2.1.length (us x.2.2.1) ∧ Byt x.2.2.1 ∧ ∀ b o c, dv = .slice (some ⟨b, o, none⟩) x.2.2.1.length c → ¬ At lv b
theorem IoW.fr0 {lo : Nat} {h h' : Heap} {lv : Value} {l : List IoT} (r : IoW lo h lv l) (f : Fr no h h') : IoW lo h' lv l := by
  obtain ⟨acs, h1, h2⟩ := r
  refine ⟨acs, h1.fr f (fun _ _ _ g => g), fun j x hx => ?_⟩
  obtain ⟨dv, e, sd, hd⟩ := h2 j x hx
  exact ⟨dv, e, sd.fr0 f, hd⟩
theorem IoW.at {lo : Nat} {h : Heap} {lv : Value} {l : List IoT} (r : IoW lo h lv l) {b : Nat} (g : At lv b) : lo ≤ b ∧ b < h.next := by
  obtain ⟨acs, h1, _⟩ := r
  exact h1.at g
theorem IoW.nil (lo : Nat) (h : Heap) : IoW lo h (.slice none 0 0) [] := ⟨[], Row.nil lo h 3, fun j x hx => by cases hx⟩
theorem IoW.ios {lo : Nat} {h : Heap} {lv : Value} {l : List IoT} (r : IoW lo h lv l) (hl : l.length ≤ 9223372036854775807) : Ios h lv l := by
  obtain ⟨acs, h1, h2⟩ := r
  refine ⟨acs, h1.sl hl, fun j x hx => ?_⟩
  obtain ⟨dv, e, sd, hb, _⟩ := h2 j x hx
  exact ⟨dv, e, sd, hb⟩
theorem IoW.app {lo : Nat} {h h' : Heap} {lv lv' : Value} {l ys : List IoT} {acs news : List Value} (row : Row lo h lv 3 l.length acs)
    (k : ∀ (j : Nat) (x : IoT), l[j]? = some x → ∃ dv, (acs.drop (j * 3)).take 3 = [.int .i64 x.1, .int .i64 x.2.1, dv] ∧ Sl h dv 1 x.2.2.1.length (us x.2.2.1) ∧ Byt x.2.2.1 ∧ ∀ b o c, dv = .slice (some ⟨b, o, none⟩) x.2.2.1.length c → ¬ At lv b)
    (hn : news.length = ys.length * 3)
    (k2 : ∀ (j : Nat) (x : IoT), ys[j]? = some x → ∃ dv, (news.drop (j * 3)).take 3 = [.int .i64 x.1, .int .i64 x.2.1, dv] ∧ Sl h dv 1 x.2.2.1.length (us x.2.2.1) ∧ Byt x.2.2.1 ∧ ∀ b o c, dv = .slice (some ⟨b, o, none⟩) x.2.2.1.length c → ¬ At lv b)
    (row' : Row h.next h' lv' 3 (l.length + ys.length) (acs ++ news)) (f : Fr (At lv) h h') (hlo : lo ≤ h.next) : IoW lo h' lv' (l ++ ys) := by
  have hl : acs.length = l.length * 3 := row.1
  have hnew : ∀ (y : List Int) (u : Value), Sl h u 1 y.length (us y) → ∀ b o c, u = .slice (some ⟨b, o, none⟩) y.length c → ¬ At lv' b := fun y u su b o c e a => by
    have h1 := su.lt b o c e
    have h2 := (row'.at a).1
    omega
  refine ⟨_, by rw [List.length_append]; exact Row.lo row' hlo, fun j y hy => ?_⟩
  by_cases hj : j < l.length
  · rw [List.getElem?_append_left hj] at hy
    obtain ⟨u, e, su, hb, hu⟩ := k j y hy
    refine ⟨u, ?_, su.frm hu f, hb, hnew _ u su⟩
    rw [List.drop_append_of_le_length (by omega), List.take_append_of_le_length (by rw [List.length_drop]; omega)]
    exact e
  · rw [List.getElem?_append_right (by omega)] at hy
    have hj2 := (List.getElem?_eq_some_iff.1 hy).1
    obtain ⟨u, e, su, hb, hu⟩ := k2 _ y hy
    refine ⟨u, ?_, su.frm hu f, hb, hnew _ u su⟩
    rw [List.drop_append, List.drop_eq_nil_of_le (by omega), List.nil_append, show j * 3 - acs.length = (j - l.length) * 3 by rw [hl, Nat.sub_mul]]
    exact e
def placeB (a : Int) : Bool := decide (a ≥ 2) && decide (a < 4096)
theorem place_ok {h : Heap} {a : Int} : RunF prog 104 [.int .i64 a] h fun v h' => v = .bool (placeB a) ∧ Fr no h h' := by
  refine RunF.walk func104 rfl rfl ?_
  refine RunC.seq (RunC.region (RunO.all rfl ?_))
  refine RunC.seq (RunC.region (RunO.part 3 rfl ?_))
  unfold placeB
  cases decide (a ≥ 2) with
  | true => exact RunO.all rfl (RunC.ret ⟨_, rfl, rfl, Fr.refl _ _⟩)
  | false => exact RunO.all rfl (RunC.ret ⟨_, rfl, rfl, Fr.refl _ _⟩)
theorem mayRec_ok {h : Heap} {r : R8} (hr : r8Ok r = true) : RunF prog 101 [.agg ⟨rc8 r⟩] h fun v h' => v = .bool false ∧ Fr no h h' := by
  refine RunF.walk func101 rfl rfl ?_
  refine RunC.seq (RunC.region (RunO.all (h1 := h.push ⟨rc8 r, true⟩) rfl ?_))
  have oq := Ow.push h (rc8 r)
  have f1 : Fr no h (h.push ⟨rc8 r, true⟩) := Fr.push _ _ _
  generalize h.push ⟨rc8 r, true⟩ = h1 at *
  generalize h.next = p at *
  refine RunC.seq (RunC.region ?_)
  refine RunO.load (v := .agg ⟨rc8 r⟩) rfl (oq.ld rfl) rfl ?_
  refine RunO.callD (recCheck_ok (n := r.nx) (id := r.id) (pa := r.pa) (ro := r.ro) (sz := r.sz) (ki := r.ki) (fr := r.fr) (di := r.di)) rfl rfl rfl ?_
  have hr : recOk r.nx r.id r.pa r.ro r.sz r.ki r.fr r.di = true := hr
  rw [hr]
  rintro _ h2 ⟨rfl, f2⟩
  exact RunO.all rfl (RunC.ret ⟨_, rfl, rfl, f1.same f2⟩)
theorem mayPlace_ok {h : Heap} {a : Int} (ha : placeB a = true) : RunF prog 103 [.int .i64 a] h fun v h' => v = .bool false ∧ Fr no h h' := by
  refine RunF.walk func103 rfl rfl ?_
  refine RunC.seq (RunC.region (RunO.all rfl ?_))
  refine RunC.seq (RunC.region (RunO.part 1 rfl ?_))
  refine RunO.callD place_ok rfl rfl rfl ?_
  rw [ha]
  rintro _ h2 ⟨rfl, f2⟩
  exact RunO.all rfl (RunC.ret ⟨_, rfl, rfl, f2⟩)
def nx0 (x : R8) (a : Int) : R8 := ⟨a, x.id, x.pa, x.ro, x.sz, x.ki, x.fr, x.di⟩
structure MayOk (old : List R8) (bl : List Int) (n : Nat) (x : R8) (w : Bool) (free : List Int) : Prop where
  len : old.length = bl.length
  le : n ≤ old.length
  ok : ∀ r ∈ old, r8Ok r = true
  fst : w = true → r8Ok (nx0 x 0) = true
  pl : ∀ a ∈ bl, placeB a = true
  pf : ∀ a ∈ free, placeB a = true
  up : ∀ i, i + 1 < free.length → free.getD i 0 < free.getD (i + 1) 0
  lo : old.length ≤ 10000
  lf : free.length ≤ 10000
set_option maxHeartbeats 16000000 in
theorem may_ok {h : Heap} {ov bv fv : Value} {old : List R8} {bl free : List Int} {n : Nat} {x : R8} {w : Bool} (so : Sl h ov 8 old.length (recCs old)) (sb : Sl h bv 1 bl.length (is bl)) (sf : Sl h fv 1 free.length (is free)) (m : MayOk old bl n x w free) :
    RunF prog 65 [ov, bv, .int .i64 (n : Int), .agg ⟨rc8 x⟩, .bool w, fv] h fun v h' => v = .bool true ∧ Fr no h h' := by
  refine RunF.walk func65 rfl rfl ?_
  have hlo := m.lo
  have hlf := m.lf
  have hlb := m.len
  have hle := m.le
  have so0 := so
  have sb0 := sb
  have sf0 := sf
  obtain ⟨oA, oc, rfl, _, _⟩ := so.form
  obtain ⟨bA, bc, rfl, _, _⟩ := sb.form
  obtain ⟨fA, fc, rfl, _, _⟩ := sf.form
  refine RunC.seq (RunC.region (RunO.all (h1 := h.push ⟨rc8 x, true⟩) rfl ?_))
  have oq := Ow.push h (rc8 x)
  have f1 : Fr no h (h.push ⟨rc8 x, true⟩) := Fr.push _ _ _
  generalize h.push ⟨rc8 x, true⟩ = h1 at *
  obtain ⟨qb, hqb⟩ : ∃ q, q = h.next := ⟨_, rfl⟩
  rw [← hqb] at oq ⊢
  refine RunC.seq (RunC.region (RunO.part 1 rfl ?_))
  refine RunO.store rfl rfl (store1_ow oq rfl rfl rfl (Nat.le_of_ble_eq_true rfl)) (RunO.nil ?_)
  have o2 : Ow (h1.put qb (some ⟨rc8 (nx0 x 0), true⟩)) qb (rc8 (nx0 x 0)) := Ow.put _ oq.1
  have f2 : Fr no h (h1.put qb (some ⟨rc8 (nx0 x 0), true⟩)) := f1.trans (Fr.put (m := (· = qb)) _ (.inl rfl)) (fun b e => .inr (by have e : b = qb := e; omega))
  show RunC prog _ _ _ (h1.put qb (some ⟨rc8 (nx0 x 0), true⟩)) _ _ _
  generalize h1.put qb (some ⟨rc8 (nx0 x 0), true⟩) = h2 at *
  refine RunC.seqc (fun E' h' => Fr no h h' ∧ Le (upd (upd (upd (upd E0 0 (.slice oA old.length oc)) 1 (.slice bA bl.length bc)) 5 (.slice fA free.length fc)) 13 (.bool false)) E') ?r2 ?r3
  case r2 =>
    refine RunC.region (RunO.part 5 rfl ?_)
    rw [show ((old.length : Int) != (bl.length : Int)) = false from by rw [hlb]; exact bne_self_eq_false _]
    refine RunO.part 3 rfl ?_
    rw [decide_eq_false (show ¬ ((n : Int) < 0) by omega)]
    refine RunO.part 6 rfl ?_
    rw [decide_eq_false (show ¬ ((n : Int) > (old.length : Int)) by omega)]
    refine RunO.part 2 rfl ?_
    cases w with
    | false => exact RunO.all rfl ⟨f2, Le.cons rfl (Le.cons rfl (Le.cons rfl (Le.cons rfl (Le.nil _))))⟩
    | true =>
      have hr : recOk 0 x.id x.pa x.ro x.sz x.ki x.fr x.di = true := m.fst rfl
      refine RunO.part 2 rfl ?_
      refine RunO.loadG (v := .agg ⟨rc8 (nx0 x 0)⟩) rfl rfl (o2.ld rfl) rfl ?_
      refine RunO.callDG rfl (recCheck_ok (n := 0) (id := x.id) (pa := x.pa) (ro := x.ro) (sz := x.sz) (ki := x.ki) (fr := x.fr) (di := x.di)) rfl rfl rfl ?_
      rw [hr]
      rintro _ h3 ⟨rfl, f3⟩
      exact RunO.all rfl ⟨f2.same f3, Le.cons rfl (Le.cons rfl (Le.cons rfl (Le.cons rfl (Le.nil _))))⟩
  rintro E' h3 ⟨f3, hE⟩
  refine RunC.le hE ?_
  clear hE
  refine RunC.seq (RunC.region (RunO.part 3 rfl ?_))
  have key := containsRec_ok (so0.fr0 f3) (u := fun j => .agg ⟨rc8 (old.getD j ⟨0, 0, 0, 0, 0, 0, 0, 0⟩)⟩) (fun j hj => by rw [recCs_part hj, List.getD_eq_getElem?_getD, List.getElem?_eq_getElem hj]; rfl) (g := 101) (cap := []) (p := fun _ => false) (fun j hj h1 _ => mayRec_ok (m.ok _ (by rw [List.getD_eq_getElem?_getD, List.getElem?_eq_getElem hj]; exact List.getElem_mem hj))) (by omega)
  refine RunO.callDG rfl key rfl rfl rfl ?_
  rw [anyI_false (fun _ _ => rfl)]
  rintro _ h4 ⟨rfl, f4⟩
  refine RunO.all rfl ?_
  refine RunC.seq (RunC.region (RunO.part 5 (h1 := h4.push ⟨[.slice bA bl.length bc, .slice fA free.length fc], true⟩) rfl ?_))
  have ol := Ow.push h4 [.slice bA bl.length bc, .slice fA free.length fc]
  have f5 : Fr no h4 (h4.push ⟨[.slice bA bl.length bc, .slice fA free.length fc], true⟩) := Fr.push _ _ _
  generalize h4.push ⟨[.slice bA bl.length bc, .slice fA free.length fc], true⟩ = h5 at *
  generalize h4.next = lb at *
  have F5 := (f3.same f4).same f5
  have hrw : RwsI h5 (.slice (some ⟨lb, 0, none⟩) 2 (exc 2)) [bl, free] := ⟨_, ol.all.sl (s := 1) rfl (by decide) (Cp.exc (Nat.le_refl _)), fun j y hy => by
    match j, hy with
    | 0, hy => cases hy; exact ⟨_, rfl, sb0.fr0 F5⟩
    | 1, hy => cases hy; exact ⟨_, rfl, sf0.fr0 F5⟩
    | j + 2, hy => simp at hy⟩
  have hfl : [bl, free].flatten = bl ++ free := by simp
  have hcc := concat_ok hrw (by show 2 ≤ 1000; decide) (by rw [hfl, List.length_append]; omega)
  rw [hfl] at hcc
  refine RunO.callDG rfl hcc rfl rfl rfl ?_
  rintro cv h6 ⟨rc_, f6⟩
  have scv := rc_.sl (by rw [List.length_append]; omega)
  have key2 := containsI_ok scv (u := fun j => .int .i64 ((bl ++ free).getD j 0)) (fun j hj => by rw [is_part hj, List.getD_eq_getElem?_getD, List.getElem?_eq_getElem hj]; rfl) (g := 103) (cap := []) (p := fun _ => false) (fun j hj h1 _ => mayPlace_ok (by
    have hm : (bl ++ free).getD j 0 ∈ bl ++ free := by rw [List.getD_eq_getElem?_getD, List.getElem?_eq_getElem hj]; exact List.getElem_mem hj
    rcases List.mem_append.1 hm with g | g
    · exact m.pl _ g
    · exact m.pf _ g)) (by rw [List.length_append]; omega)
  refine RunO.callDG rfl key2 rfl rfl rfl ?_
  rw [anyI_false (fun _ _ => rfl)]
  rintro _ h7 ⟨rfl, f7⟩
  have F7 := (F5.same f6).same f7
  refine RunO.all rfl ?_
  refine RunC.seq (RunC.seq (RunC.region (RunO.all rfl ?_)))
  refine RunC.block ?_
  refine RunC.loop (fun d E h' => ∃ i : Nat, i + d = free.length ∧ h7 = h' ∧ Le ((upd (upd (upd (upd E0 5 (.slice fA free.length fc)) 13 (.bool false)) 53 (.int .i64 (free.length : Int))) 54 (.int .i64 (i : Int)))) E) ?st (k := free.length) ?ini
  case ini => exact ⟨0, by omega, rfl, Le.cons rfl (Le.cons rfl (Le.cons rfl (Le.cons rfl (Le.nil _))))⟩
  rintro d E _ ⟨i, hi, rfl, hE⟩
  refine RunC.le hE ?_
  clear hE
  refine RunC.seq (RunC.region (RunO.all rfl ?_))
  refine RunC.seq (RunC.cond rfl (fun hlt => RunC.skip ?go) (fun hge => RunC.exit ?ex))
  case ex =>
    refine RunC.seq (RunC.region (RunO.all rfl ?_))
    exact RunC.ret ⟨_, rfl, rfl, F7⟩
  have hlt := of_decide_eq_true hlt
  have hlt : i < free.length := by omega
  have sf7 := sf0.fr0 F7
  refine RunC.seq (RunC.block ?_)
  refine RunC.seq (RunC.region (RunO.all rfl ?_))
  refine RunC.draw0 rfl (RunO.part 3 rfl ?_)
  refine RunO.part 1 rfl ?_
  by_cases h0 : (i : Int) > 0
  · rw [decide_eq_true h0]
    refine RunO.part 4 rfl ?_
    obtain ⟨k, rfl⟩ : ∃ k, i = k + 1 := ⟨i - 1, by omega⟩
    have hup := m.up k hlt
    rw [fw64 (x := ((k + 1 : Nat) : Int) - 1) (by omega) (by omega), show ((k + 1 : Nat) : Int) - 1 = (k : Int) by omega]
    have hk : k < free.length := by omega
    rw [List.getD_eq_getElem?_getD, List.getElem?_eq_getElem hk, List.getD_eq_getElem?_getD, List.getElem?_eq_getElem hlt] at hup
    have hup : free[k] < free[k + 1] := hup
    refine RunO.atG (s := 1) (k := k) rfl (fun _ => rfl) rfl rfl sf7 rfl rfl hk (is_part hk) rfl rfl rfl ?_
    refine RunO.part 2 rfl ?_
    refine RunO.atG (s := 1) (k := k + 1) rfl (fun _ => rfl) rfl rfl sf7 rfl rfl hlt (is_part hlt) rfl rfl rfl ?_
    refine RunO.part 1 rfl ?_
    rw [decide_eq_false (show ¬ (free[k] ≥ free[k + 1]) by omega)]
    refine RunO.all rfl ?_
    refine RunC.region (RunO.all rfl ?_)
    exact ⟨d - 1, by omega, k + 1 + 1, by omega, rfl, Le.cons (inc64 (by omega)) (Le.cons rfl (Le.cons rfl (Le.cons rfl (Le.nil _))))⟩
  · rw [decide_eq_false h0]
    refine RunO.all rfl ?_
    refine RunC.region (RunO.all rfl ?_)
    exact ⟨d - 1, by omega, i + 1, by omega, rfl, Le.cons (inc64 (by omega)) (Le.cons rfl (Le.cons rfl (Le.cons rfl (Le.nil _))))⟩
end Go.Proofs.Ytcbakhanpiemhaa
end
section
set_option linter.unusedVariables false
set_option linter.unusedSectionVars false
set_option maxRecDepth 100000
open Go Go.Am Go.RowKit
namespace Go.Proofs.Ytcbakhanpiemhaa
open Go.Proofs.Try

def nxA (at0 : Int) (free : List Int) (i : Nat) : Int := if i = 0 then at0 else free.getD (i - 1) 0
def ioA (A : List R8) (free : List Int) (at0 : Int) (i : Nat) : IoT := (1, free.getD i 0, r8B (nx0 (A.getD i ⟨0, 0, 0, 0, 0, 0, 0, 0⟩) (nxA at0 free i)), ())
def wrA (A : List R8) (free : List Int) (at0 : Int) (k : Nat) : List IoT := (List.range k).map (ioA A free at0)
def anewL (old : List R8) (n : Nat) (w : Bool) (x : R8) : List R8 := (old.take (n - 1)).reverse ++ (if w then [x] else [])
def at0L (bl : List Int) (n : Nat) : Int := if n < bl.length then bl.getD n 0 else 0
theorem wrA_len (A : List R8) (free : List Int) (at0 : Int) (k : Nat) : (wrA A free at0 k).length = k := by unfold wrA; rw [List.length_map, List.length_range]
theorem wrA_succ (A : List R8) (free : List Int) (at0 : Int) (k : Nat) : wrA A free at0 (k + 1) = wrA A free at0 k ++ [ioA A free at0 k] := by unfold wrA; rw [List.range_succ, List.map_append]; rfl
theorem r8_nx {r : R8} {a b : Int} (h : r8Ok (nx0 r b) = true) (ha : ptrB a = true) : r8Ok (nx0 r a) = true := by
  have key : ∀ c, recIs c r.id r.pa r.ro r.sz = (ptrB c && recIs 0 r.id r.pa r.ro r.sz) := fun c => by
    unfold recIs
    rw [show ptrB 0 = true from rfl]
    cases ptrB c <;> rfl
  have h : recOk b r.id r.pa r.ro r.sz r.ki r.fr r.di = true := h
  show recOk a r.id r.pa r.ro r.sz r.ki r.fr r.di = true
  unfold recOk at h ⊢
  rw [key] at h
  rw [key, ha, Bool.true_and]
  split
  · rename_i g
    rw [if_pos g] at h
    simp only [Bool.and_eq_true] at h ⊢
    exact ⟨⟨h.1.1.2, h.1.2⟩, h.2⟩
  · rename_i g
    rw [if_neg g] at h
    split
    · rename_i g2
      rw [if_pos g2] at h
      simp only [Bool.and_eq_true] at h ⊢
      exact ⟨⟨h.1.1.2, h.1.2⟩, h.2⟩
    · rename_i g2
      rw [if_neg g2] at h
      cases h
theorem place_ptr {a : Int} (h : placeB a = true) : ptrB a = true := by
  unfold placeB at h
  unfold ptrB
  rw [h, Bool.or_true]
theorem getD_mem {l : List Int} {i : Nat} (h : i < l.length) : l.getD i 0 ∈ l := by rw [List.getD_eq_getElem?_getD, List.getElem?_eq_getElem h]; exact List.getElem_mem h
section
variable {old : List R8} {bl free : List Int} {n : Nat} {x : R8} {w : Bool} (m : MayOk old bl n x w free)
include m
theorem nxA_ptr {i : Nat} (hi : i ≤ free.length) : ptrB (nxA (at0L bl n) free i) = true := by
  unfold nxA
  split
  · unfold at0L
    split
    · rename_i g; exact place_ptr (m.pl _ (getD_mem g))
    · rfl
  · exact place_ptr (m.pf _ (getD_mem (by omega)))
theorem anew_ok {i : Nat} (hi : i < (anewL old n w x).length) (hf : i ≤ free.length) : r8Ok (nx0 ((anewL old n w x).getD i ⟨0, 0, 0, 0, 0, 0, 0, 0⟩) (nxA (at0L bl n) free i)) = true := by
  have hp := nxA_ptr m hf
  have hm : (anewL old n w x).getD i ⟨0, 0, 0, 0, 0, 0, 0, 0⟩ ∈ anewL old n w x := by rw [List.getD_eq_getElem?_getD, List.getElem?_eq_getElem hi]; exact List.getElem_mem hi
  generalize (anewL old n w x).getD i ⟨0, 0, 0, 0, 0, 0, 0, 0⟩ = r at *
  unfold anewL at hm
  rcases List.mem_append.1 hm with g | g
  · have g := m.ok r (List.mem_of_mem_take (List.mem_reverse.1 g))
    exact r8_nx (b := r.nx) g hp
  · cases w with
    | true =>
      rw [if_pos rfl, List.mem_singleton] at g
      rw [g]
      exact r8_nx (m.fst rfl) hp
    | false => rw [if_neg (by decide)] at g; cases g
end
set_option maxHeartbeats 32000000 in
theorem commitRecords_ok {h : Heap} {ov bv fv : Value} {old : List R8} {bl free : List Int} {n : Nat} {x : R8} {w : Bool} (so : Sl h ov 8 old.length (recCs old)) (sb : Sl h bv 1 bl.length (is bl)) (sf : Sl h fv 1 free.length (is free)) (m : MayOk old bl n x w free) (hA : (anewL old n w x).length ≤ free.length) :
    RunF prog 31 [ov, bv, .int .i64 (n : Int), .agg ⟨rc8 x⟩, .bool w, fv] h fun v h' => Fr no h h' ∧ ∃ lv rv, v = .tuple #[lv, .int .i64 (nxA (at0L bl n) free (anewL old n w x).length), rv, .int .i64 0] ∧ IoW h.next h' lv (wrA (anewL old n w x) free (at0L bl n) (anewL old n w x).length) ∧ Osl h.next h' rv 1 (free.drop (anewL old n w x).length).length (is (free.drop (anewL old n w x).length)) := by
  refine RunF.walk func31 rfl rfl ?_
  have hok := fun i hi hf => anew_ok m (i := i) hi hf
  have hlo := m.lo
  have hlf := m.lf
  have hlb := m.len
  have hle := m.le
  have so0 := so
  have sb0 := sb
  have sf0 := sf
  obtain ⟨oA, oc, rfl, _, _⟩ := so.form
  obtain ⟨bA, bc, rfl, _, _⟩ := sb.form
  obtain ⟨fA, fc, rfl, _, _⟩ := sf.form
  refine RunC.seq (RunC.region (RunO.all (h1 := h.push ⟨rc8 x, true⟩) rfl ?_))
  have oq := Ow.push h (rc8 x)
  have f1 : Fr no h (h.push ⟨rc8 x, true⟩) := Fr.push _ _ _
  generalize h.push ⟨rc8 x, true⟩ = h1 at *
  obtain ⟨qb, hqb⟩ : ∃ q, q = h.next := ⟨_, rfl⟩
  rw [← hqb] at oq ⊢
  refine RunC.seq (RunC.seq (RunC.region (RunO.part 3 rfl ?_)))
  refine RunO.load (v := .agg ⟨rc8 x⟩) rfl (oq.ld rfl) rfl ?_
  refine RunO.part 2 rfl ?_
  refine RunO.callD (may_ok (so0.fr0 f1) (sb0.fr0 f1) (sf0.fr0 f1) m) rfl rfl rfl ?_
  rintro _ h2 ⟨rfl, f2⟩
  refine RunO.all rfl (RunC.cond rfl (fun g => by cases g) (fun _ => RunC.skip ?_))
  have F2 := f1.same f2
  replace oq := oq.fr f2 (fun g => g)
  have hq1 := oq.1
  have hmx : (cond (decide ((0 : Int) > (n : Int) - 1)) (0 : Int) ((n : Int) - 1)) = ((n - 1 : Nat) : Int) := by
    by_cases g : (0 : Int) > (n : Int) - 1
    · rw [decide_eq_true g]; show (0 : Int) = _; omega
    · rw [decide_eq_false g]; show (n : Int) - 1 = _; omega
  refine RunC.seq (RunC.region (RunO.part 3 rfl ?_))
  rw [fw64 (x := (n : Int) - 1) (by omega) (by omega)]
  refine RunO.part 1 rfl ?_
  rw [hmx]
  refine RunO.sliceSl (s := 8) (len := old.length) (k := 0) (m := n - 1) rfl rfl rfl rfl rfl (so0.fr0 F2) (.none _) (.some _ _ _) (Nat.zero_le _) (by omega) rfl ?_
  intro tv st
  have hlt_ : (old.take (n - 1)).length = n - 1 := by rw [List.length_take]; omega
  have st : Sl h2 tv 8 (old.take (n - 1)).length (recCs (old.take (n - 1))) := by
    rw [Nat.zero_mul, List.drop_zero, Nat.sub_zero, recCs_take] at st
    rw [hlt_]; exact st
  refine RunO.callD (cloneR_ok st (by omega)) rfl rfl rfl ?_
  rintro av h3 ⟨ga, f3⟩
  refine RunO.all rfl ?_
  refine RunC.seq (RunC.region (RunO.part 1 rfl ?_))
  refine RunO.callD (reverseR_ok ga (by omega)) rfl rfl rfl ?_
  rintro _ h4 ⟨gv, f4⟩
  refine RunO.nil ?_
  have hat3 := fun b g => (ga.at (b := b) g).1
  have F4 : Fr no h2 h4 := f3.trans f4 (fun b g => .inr (hat3 b g))
  replace oq := oq.fr F4 (fun g => g)
  have F4' := F2.same F4
  have hn2 := F2.next
  have gv := gv.lo hn2
  have eA : anewL old n w x = (old.take (n - 1)).reverse ++ (if w then [x] else []) := rfl
  have hRl : (old.take (n - 1)).reverse.length = n - 1 := by rw [List.length_reverse, hlt_]
  obtain ⟨R, hR⟩ : ∃ R, R = (old.take (n - 1)).reverse := ⟨_, rfl⟩
  rw [← hR] at gv eA hRl
  refine RunC.seqc (fun E' h' => ∃ av, Gr h.next h' av 8 (anewL old n w x).length (recCs (anewL old n w x)) ∧ Fr no h h' ∧ Le ((upd (upd (upd (upd (upd (upd E0 1 (.slice bA bl.length bc)) 2 (.int .i64 (n : Int))) 5 (.slice fA free.length fc)) 12 (.slice none 0 0)) 13 (.int .i64 0)) 16 (av))) E') ?wi ?by1
  case wi =>
    refine RunC.seq (RunC.region (RunO.all rfl ?_))
    cases w with
    | false =>
      refine RunC.cond rfl (fun g => by cases g) (fun _ => RunC.skip ?_)
      rw [eA, if_neg (by decide), List.append_nil]
      exact ⟨av, gv, F4', Le.cons rfl (Le.cons rfl (Le.cons rfl (Le.cons rfl (Le.cons rfl (Le.cons rfl (Le.nil _))))))⟩
    | true =>
      refine RunC.cond rfl (fun _ => ?_) (fun g => by cases g)
      refine RunC.region (RunO.part 1 rfl ?_)
      refine RunO.load (v := .agg ⟨rc8 x⟩) rfl (oq.ld rfl) rfl ?_
      refine RunO.part 1 (h1 := h4.push ⟨rc8 x, true⟩) rfl ?_
      have ol := Ow.push h4 (rc8 x)
      have f5 : Fr no h4 (h4.push ⟨rc8 x, true⟩) := Fr.push _ _ _
      have gv5 := gv.fr0 f5
      generalize h4.push ⟨rc8 x, true⟩ = h5 at *
      generalize h4.next = lb at *
      refine RunO.appendG (s := 8) (j := 1) rfl rfl rfl rfl rfl rfl rfl rfl (by decide) gv5 ol.all rfl (Nat.le_refl 1) rfl (by show 2 * (_ + 1) * 64 ≤ _; omega) (by omega) ?_
      intro av2 h6 row f6
      refine RunO.all rfl ?_
      have F6 := (F4'.same f5).trans f6 (fun b g => .inr (gv5.at g).1)
      refine ⟨av2, ?_, F6, Le.cons rfl (Le.cons rfl (Le.cons rfl (Le.cons rfl (Le.cons rfl (Le.cons rfl (Le.nil _))))))⟩
      rw [eA, if_pos rfl, List.length_append, recCs_app]
      exact row.gr.lo (F4'.same f5).next
  rintro E' h5 ⟨av, gw, F5, hE⟩
  refine RunC.le hE ?_
  clear hE gv F4' F4 f4 f3 ga st f2 F2 oq f1
  have hAl : (anewL old n w x).length ≤ 10001 := by rw [eA, List.length_append, hRl]; split <;> (simp; omega)
  have hok := hok
  clear eA hRl
  generalize anewL old n w x = A at *
  have sav := gw.sl (by omega)
  have sav0 := sav
  obtain ⟨nA, nc, rfl, _, _⟩ := sav.form
  refine RunC.seq (RunC.seq (RunC.region (RunO.part 4 rfl ?_)))
  refine RunO.part 1 rfl ?_
  rw [decide_eq_false (show ¬ ((free.length : Int) < (A.length : Int)) by omega)]
  refine RunO.all rfl (RunC.cond rfl (fun g => by cases g) (fun _ => RunC.skip ?_))
  have e0 : at0L bl n = if n < bl.length then bl.getD n 0 else 0 := rfl
  generalize at0L bl n = at0 at *
  refine RunC.seqc (fun E' h' => h5 = h' ∧ Le ((upd (upd (upd (upd E0 5 (.slice fA free.length fc)) 12 (.slice none 0 0)) 13 (.int .i64 at0)) 16 (.slice nA A.length nc))) E') ?at_ ?by2
  case at_ =>
    refine RunC.seq (RunC.region (RunO.part 3 rfl ?_))
    refine RunO.part 1 rfl ?_
    by_cases hnb : (n : Int) < (bl.length : Int)
    · rw [decide_eq_true hnb]
      have hnb : n < bl.length := by omega
      refine RunO.all rfl (RunC.cond rfl (fun _ => ?_) (fun g => by cases g))
      refine RunC.region (RunO.part 2 rfl ?_)
      refine RunO.at (s := 1) (k := n) rfl rfl (sb0.fr0 F5) rfl rfl hnb (is_part hnb) rfl rfl rfl (RunO.all rfl ?_)
      have e1 : bl[n] = at0 := by rw [e0, if_pos hnb, List.getD_eq_getElem?_getD, List.getElem?_eq_getElem hnb]; rfl
      rw [e1]
      exact ⟨rfl, Le.cons rfl (Le.cons rfl (Le.cons rfl (Le.cons rfl (Le.nil _))))⟩
    · rw [decide_eq_false hnb]
      refine RunO.all rfl (RunC.cond rfl (fun g => by cases g) (fun _ => RunC.skip ?_))
      have e1 : at0 = 0 := by rw [e0, if_neg (by omega)]
      rw [e1]
      exact ⟨rfl, Le.cons rfl (Le.cons rfl (Le.cons rfl (Le.cons rfl (Le.nil _))))⟩
  rintro E' _ ⟨rfl, hE⟩
  refine RunC.le hE ?_
  clear hE
  refine RunC.seq (RunC.seq (RunC.region (RunO.all rfl ?_)))
  refine RunC.block ?_
  refine RunC.loop (fun d E h' => ∃ (i : Nat) (lv : Value), i + d = A.length ∧ Fr no h5 h' ∧ IoW h.next h' lv (wrA A free at0 i) ∧ (∀ b, At lv b → h5.next ≤ b) ∧ Le ((upd (upd (upd (upd (upd (upd (upd E0 5 (.slice fA free.length fc)) 12 (lv)) 13 (.int .i64 (nxA at0 free i))) 16 (.slice nA A.length nc)) 55 (.slice nA A.length nc)) 56 (.int .i64 (A.length : Int))) 57 (.int .i64 (i : Int)))) E) ?st (k := A.length) ?ini
  case ini => exact ⟨0, .slice none 0 0, by omega, Fr.refl _ _, IoW.nil _ _, (fun b ⟨_, _, e⟩ => by cases e), Le.cons rfl (Le.cons rfl (Le.cons rfl (Le.cons rfl (Le.cons rfl (Le.cons rfl (Le.cons rfl (Le.nil _)))))))⟩
  rintro d E g1 ⟨i, lv, hi, fg, ios, hlv, hE⟩
  refine RunC.le hE ?_
  clear hE
  have Fg := F5.same fg
  refine RunC.seq (RunC.region (RunO.all rfl ?_))
  refine RunC.seq (RunC.cond rfl (fun hlt => RunC.skip ?go) (fun hge => RunC.exit ?ex))
  case ex =>
    have hge := of_decide_eq_false hge
    obtain rfl : i = A.length := by omega
    refine RunC.seq (RunC.region (RunO.part 5 rfl ?_))
    refine RunO.sliceSl (s := 1) (len := free.length) (k := A.length) (m := free.length) rfl rfl rfl rfl rfl (sf0.fr0 Fg) (.some _ _ _) (.none _) hA (Nat.le_refl _) rfl ?_
    intro uv su
    have hdl : (free.drop A.length).length = free.length - A.length := List.length_drop
    have su : Sl g1 uv 1 (free.drop A.length).length (is (free.drop A.length)) := by
      rw [Nat.mul_one, Nat.mul_one, show (is free).drop A.length = is (free.drop A.length) by unfold is; rw [List.map_drop], List.take_of_length_le (by rw [is_len]; omega)] at su
      rw [hdl]; exact su
    refine RunO.callD (cloneI_ok su (by omega)) rfl rfl rfl ?_
    rintro rv g2 ⟨orv, f2, _⟩
    refine RunO.all rfl (RunC.ret ⟨_, rfl, Fg.same f2, lv, rv, rfl, by rw [hqb]; exact ios.fr0 f2, by rw [hqb]; exact orv.lo Fg.next⟩)
  have hlt := of_decide_eq_true hlt
  have hlt : i < A.length := by omega
  have hif : i < free.length := by omega
  have hoki := hok i hlt (by omega)
  have hws := wrA_succ A free at0 i
  have hwl := wrA_len A free at0 i
  have eio : ioA A free at0 i = (1, free.getD i 0, r8B (nx0 (A.getD i ⟨0, 0, 0, 0, 0, 0, 0, 0⟩) (nxA at0 free i)), ()) := rfl
  have hAi : A.getD i ⟨0, 0, 0, 0, 0, 0, 0, 0⟩ = A[i] := by rw [List.getD_eq_getElem?_getD, List.getElem?_eq_getElem hlt]; rfl
  have hpt := recCs_part hlt
  have hfp := is_part hif
  have hfi : free[i] = free.getD i 0 := by rw [List.getD_eq_getElem?_getD, List.getElem?_eq_getElem hif]; rfl
  have hnx : nxA at0 free (i + 1) = free.getD i 0 := by unfold nxA; rw [if_neg (by omega), Nat.add_sub_cancel]
  rw [hAi] at eio hoki
  rw [hfi] at hfp
  generalize free.getD i 0 = fi at *
  generalize nxA at0 free i = ni at *
  generalize A[i] = r at *
  refine RunC.seq (RunC.block ?_)
  refine RunC.seq (RunC.region (RunO.part 1 rfl ?_))
  refine RunO.at (s := 8) (k := i) rfl rfl (sav0.fr0 fg) rfl rfl hlt hpt rfl rfl rfl ?_
  refine RunO.part 2 (h1 := g1.push ⟨rc8 ⟨0, 0, 0, 0, 0, 0, 0, 0⟩, true⟩) rfl ?_
  refine RunO.store rfl rfl (store_ow (s := 8) (Ow.push g1 (rc8 ⟨0, 0, 0, 0, 0, 0, 0, 0⟩)) rfl rfl rfl (Nat.le_refl 8)) (RunO.nil ?_)
  have on : Ow ((g1.push ⟨rc8 ⟨0, 0, 0, 0, 0, 0, 0, 0⟩, true⟩).put g1.next (some ⟨rc8 r, true⟩)) g1.next (rc8 r) := Ow.put _ (Nat.lt_succ_self _)
  have f6 : Fr no g1 ((g1.push ⟨rc8 ⟨0, 0, 0, 0, 0, 0, 0, 0⟩, true⟩).put g1.next (some ⟨rc8 r, true⟩)) := (Fr.push _ _ _).trans (Fr.put (m := (· = g1.next)) _ (.inl rfl)) (fun j hj => .inr (by omega))
  have hlv1 := fun b g => (ios.at (b := b) g).2
  show RunC prog _ _ _ ((g1.push ⟨rc8 ⟨0, 0, 0, 0, 0, 0, 0, 0⟩, true⟩).put g1.next (some ⟨rc8 r, true⟩)) _ _ _
  generalize (g1.push ⟨rc8 ⟨0, 0, 0, 0, 0, 0, 0, 0⟩, true⟩).put g1.next (some ⟨rc8 r, true⟩) = g2 at *
  obtain ⟨pb, hpb⟩ : ∃ q, q = g1.next := ⟨_, rfl⟩
  rw [← hpb] at on hlv1 ⊢
  refine RunC.seq (RunC.region (RunO.part 2 rfl ?_))
  refine RunO.store rfl rfl (store1_ow on rfl rfl rfl (Nat.le_of_ble_eq_true rfl)) (RunO.nil ?_)
  have on2 : Ow (g2.put pb (some ⟨rc8 (nx0 r ni), true⟩)) pb (rc8 (nx0 r ni)) := Ow.put _ on.1
  have f7 : Fr no g1 (g2.put pb (some ⟨rc8 (nx0 r ni), true⟩)) := f6.trans (Fr.put (m := (· = pb)) _ (.inl rfl)) (fun b e => .inr (by have e : b = pb := e; omega))
  show RunC prog _ _ _ (g2.put pb (some ⟨rc8 (nx0 r ni), true⟩)) _ _ _
  generalize g2.put pb (some ⟨rc8 (nx0 r ni), true⟩) = g3 at *
  refine RunC.seq (RunC.region (RunO.part 2 rfl ?_))
  refine RunO.at (s := 1) (k := i) rfl rfl (sf0.fr0 (Fg.same f7)) rfl rfl hif hfp rfl rfl rfl (RunO.all rfl ?_)
  refine RunC.seq (RunC.region ?_)
  refine RunO.load (v := .agg ⟨rc8 (nx0 r ni)⟩) rfl (on2.ld rfl) rfl ?_
  refine RunO.callD (recBytes_ok (n := ni) (id := r.id) (pa := r.pa) (ro := r.ro) (sz := r.sz) (ki := r.ki) (fr := r.fr) (di := r.di)) rfl rfl rfl ?_
  rintro _ g4 ⟨f8, ⟨_, db, hdb, rfl, od⟩ | ⟨g, _⟩⟩
  case inr =>
    have g : r8Ok (nx0 r ni) = false := g
    rw [hoki] at g; cases g
  have od : Ow g4 db (us (r8B (nx0 r ni))) := od
  have hrl := r8B_len (nx0 r ni)
  have hrb := r8B_byt (nx0 r ni)
  have ios4 := (ios.fr0 f7).fr0 f8
  have hn3 := f7.next
  have hn4 := f8.next
  generalize r8B (nx0 r ni) = RB at *
  refine RunO.all rfl ?_
  refine RunC.region (RunO.part 5 (h1 := g4.push ⟨[.int .i64 1, .int .i64 fi, .slice (some ⟨db, 0, none⟩) 64 (exc 64)], true⟩) rfl ?_)
  have ot := Ow.push g4 [.int .i64 1, .int .i64 fi, .slice (some ⟨db, 0, none⟩) 64 (exc 64)]
  have f9 : Fr no g4 (g4.push ⟨[.int .i64 1, .int .i64 fi, .slice (some ⟨db, 0, none⟩) 64 (exc 64)], true⟩) := Fr.push _ _ _
  replace ios4 := ios4.fr0 f9
  replace od := od.fr f9 (fun g => g)
  have F9 := ((fg.same f7).same f8).same f9
  generalize g4.push ⟨[.int .i64 1, .int .i64 fi, .slice (some ⟨db, 0, none⟩) 64 (exc 64)], true⟩ = g5 at *
  obtain ⟨acs, row, kk⟩ := ios4
  refine RunO.appendG (s := 3) (j := 1) rfl rfl rfl rfl rfl rfl rfl rfl (by decide) row.gr ot.all rfl (Nat.le_refl 1) rfl (by show 2 * (_ + 1) * 40 ≤ _; omega) (by omega) ?_
  intro lv2 g6 row2 f10
  have hsd : Sl g5 (.slice (some ⟨db, 0, none⟩) 64 (exc 64)) 1 RB.length (us RB) := by rw [hrl]; exact od.all.sl (by rw [us_len, hrl]) (by decide) (Cp.exc (Nat.le_refl _))
  have ios2 := IoW.app (ys := [ioA A free at0 i]) row kk rfl (fun j y hy => by
    match j, hy with
    | 0, hy =>
      rw [eio] at hy
      cases hy
      exact ⟨_, rfl, hsd, hrb, fun b o c e a => by injection e with e1; injection e1 with e1; injection e1 with e1; have := hlv1 b a; omega⟩
    | j + 1, hy => simp at hy) row2 f10 (F5.same F9).next
  rw [← hws] at ios2
  refine RunO.all rfl ?_
  refine RunC.region (RunO.all rfl ?_)
  refine ⟨d - 1, by omega, i + 1, lv2, by omega, F9.trans f10 (fun b g => .inr (hlv b g)), ios2, fun b g => by have := (row2.at g).1; have := F9.next; omega, ?_⟩
  rw [hnx]
  exact Le.cons (inc64 (by omega)) (Le.cons rfl (Le.cons rfl (Le.cons rfl (Le.cons rfl (Le.cons rfl (Le.cons rfl (Le.nil _)))))))
end Go.Proofs.Ytcbakhanpiemhaa
end
section
set_option linter.unusedVariables false
set_option linter.unusedSectionVars false
set_option maxRecDepth 100000
open Go Go.Am Go.RowKit
namespace Go.Proofs.Ytcbakhanpiemhaa
open Go.Proofs.Try

theorem ready_ok {h : Heap} {s : S5} {slot : Int} {rv : Value} (hs : superOk s.1 s.2.1 s.2.2.1 s.2.2.2.1 s.2.2.2.2 = true) (hg : s.1 < 1099511627776) (hsl : slot = 0 ∨ slot = 1) :
    RunF prog 56 [.agg ⟨stc s slot rv⟩] h fun v h' => v = .bool true ∧ Fr no h h' := by
  refine RunF.walk func56 rfl rfl ?_
  refine RunC.seq (RunC.region (RunO.all (h1 := h.push ⟨stc s slot rv, true⟩) rfl ?_))
  have oq := Ow.push h (stc s slot rv)
  have f1 : Fr no h (h.push ⟨stc s slot rv, true⟩) := Fr.push _ _ _
  generalize h.push ⟨stc s slot rv, true⟩ = h1 at *
  generalize h.next = qb at *
  refine RunC.seq (RunC.region (RunO.part 1 rfl ?_))
  refine RunO.load (v := .agg ⟨sc s.1 s.2.1 s.2.2.1 s.2.2.2.1 s.2.2.2.2⟩) rfl (oq.ld rfl) rfl ?_
  refine RunO.callD (superCheck_ok (g := s.1) (bl := s.2.1) (rt := s.2.2.1) (sz := s.2.2.2.1) (fi := s.2.2.2.2)) rfl rfl rfl ?_
  rw [hs]
  rintro _ h2 ⟨rfl, f2⟩
  replace oq := oq.fr f2 (fun g => g)
  refine RunO.part 4 rfl ?_
  refine RunO.loadG (v := .int .i64 s.1) rfl rfl (oq.ld rfl) rfl ?_
  refine RunO.part 1 rfl ?_
  rw [decide_eq_true hg]
  refine RunO.part 3 rfl ?_
  refine RunO.loadG (v := .int .i64 slot) rfl rfl (oq.ld rfl) rfl ?_
  rcases hsl with rfl | rfl
  · exact RunO.all rfl (RunC.ret ⟨_, rfl, rfl, f1.same f2⟩)
  · refine RunO.part 3 rfl ?_
    refine RunO.loadG (v := .int .i64 1) rfl rfl (oq.ld rfl) rfl ?_
    exact RunO.all rfl (RunC.ret ⟨_, rfl, rfl, f1.same f2⟩)
theorem write_ok {h : Heap} {a B : Int} {A : Option Addr} {c : Nat} (h2 : 2 ≤ a) (hB : a < B) :
    RunF prog 60 [.agg ⟨[.int .i64 1, .int .i64 a, .slice A 64 c]⟩, .int .i64 B] h fun v h' => v = .bool true ∧ Fr no h h' := by
  refine RunF.walk func60 rfl rfl ?_
  refine RunC.seq (RunC.region (RunO.all (h1 := h.push ⟨[.int .i64 1, .int .i64 a, .slice A 64 c], true⟩) rfl ?_))
  have oq := Ow.push h [.int .i64 1, .int .i64 a, .slice A 64 c]
  have f1 : Fr no h (h.push ⟨[.int .i64 1, .int .i64 a, .slice A 64 c], true⟩) := Fr.push _ _ _
  generalize h.push ⟨[.int .i64 1, .int .i64 a, .slice A 64 c], true⟩ = h1 at *
  generalize h.next = qb at *
  refine RunC.seq (RunC.region (RunO.part 1 rfl ?_))
  refine RunO.load (v := .int .i64 1) rfl (oq.ld rfl) rfl ?_
  refine RunO.part 3 rfl ?_
  refine RunO.loadG (v := .int .i64 a) rfl rfl (oq.ld rfl) rfl ?_
  refine RunO.part 1 rfl ?_
  rw [decide_eq_true (show a ≥ 2 from h2)]
  refine RunO.part 3 rfl ?_
  refine RunO.loadG (v := .int .i64 a) rfl rfl (oq.ld rfl) rfl ?_
  refine RunO.part 2 rfl ?_
  rw [decide_eq_true hB]
  refine RunO.part 3 rfl ?_
  refine RunO.loadG (v := .slice A 64 c) rfl rfl (oq.ld rfl) rfl ?_
  exact RunO.all rfl (RunC.ret ⟨_, rfl, rfl, f1⟩)
theorem stepsC_ok {h : Heap} {q : Nat} {g B r z f a : Int} {A : Option Addr} {c : Nat} (oq : Ow h q (sc g B r z f)) (h2 : 2 ≤ a) (hB : a < B) :
    RunF prog 59 [.agg ⟨[.int .i64 1, .int .i64 a, .slice A 64 c]⟩, .pointer (some ⟨q, 0, none⟩)] h fun v h' => v = .bool false ∧ Fr no h h' := by
  refine RunF.walk func59 rfl rfl ?_
  refine RunC.seq (RunC.region (RunO.all (h1 := h.push ⟨[.int .i64 1, .int .i64 a, .slice A 64 c], true⟩) rfl ?_))
  have ob := Ow.push h [.int .i64 1, .int .i64 a, .slice A 64 c]
  have f1 : Fr no h (h.push ⟨[.int .i64 1, .int .i64 a, .slice A 64 c], true⟩) := Fr.push _ _ _
  replace oq := oq.fr f1 (fun g => g)
  generalize h.push ⟨[.int .i64 1, .int .i64 a, .slice A 64 c], true⟩ = h1 at *
  generalize h.next = qb at *
  refine RunC.seq (RunC.region ?_)
  refine RunO.load (v := .agg ⟨[.int .i64 1, .int .i64 a, .slice A 64 c]⟩) rfl (ob.ld rfl) rfl ?_
  refine RunO.part 1 rfl ?_
  refine RunO.load (v := .int .i64 B) rfl (oq.ld rfl) rfl ?_
  refine RunO.callD (write_ok h2 hB) rfl rfl rfl ?_
  rintro _ h3 ⟨rfl, f3⟩
  exact RunO.all rfl (RunC.ret ⟨_, rfl, rfl, f1.same f3⟩)
def cmtT (s : S5) (slot root size first : Int) : List IoT := [((2 : Int), (0 : Int), ([] : List Int), ()), ((1 : Int), 1 - slot, superBlock (s.1 + 1) s.2.1 root size first, ()), ((2 : Int), (0 : Int), ([] : List Int), ())]
set_option maxHeartbeats 32000000 in
theorem commitSteps_ok {h : Heap} {lv rv : Value} {l : List IoT} {s : S5} {slot root size first : Int} (sl : Ios h lv l) (hl : l.length ≤ 1000) (hs : superOk s.1 s.2.1 s.2.2.1 s.2.2.2.1 s.2.2.2.2 = true) (hg : s.1 < 1099511627776) (hsl : slot = 0 ∨ slot = 1)
    (hn : superOk (s.1 + 1) s.2.1 root size first = true) (hw : ∀ x ∈ l, x.1 = 1 ∧ 2 ≤ x.2.1 ∧ x.2.1 < s.2.1 ∧ x.2.2.1.length = 64) :
    RunF prog 27 [.agg ⟨stc s slot rv⟩, lv, .int .i64 root, .int .i64 size, .int .i64 first] h fun v h' => Fr no h h' ∧ ∃ ov, v = .tuple #[ov, .int .i64 0] ∧ IoW h.next h' ov (l ++ cmtT s slot root size first) := by
  refine RunF.walk func27 rfl rfl ?_
  have hgr := ((superOk_iff _ _ _ _ _).1 hs).1
  obtain ⟨acs, sa, ka⟩ := sl
  have sa0 := sa
  have hal := sa.1
  obtain ⟨lA, lc, rfl, _, _⟩ := sa.form
  have hel : ∀ j (hj : j < l.length), ∃ A c, (acs.drop (j * 3)).take 3 = [.int .i64 1, .int .i64 l[j].2.1, .slice A 64 c] ∧ Sl h (.slice A 64 c) 1 64 (us l[j].2.2.1) ∧ Byt l[j].2.2.1 := fun j hj => by
    obtain ⟨dv, e, sd, hb⟩ := ka j l[j] (List.getElem?_eq_getElem hj)
    obtain ⟨h1, h2, h3, h4⟩ := hw l[j] (List.getElem_mem hj)
    obtain ⟨A, c, rfl, _, _⟩ := sd.form
    rw [h4] at sd e
    rw [h1] at e
    exact ⟨A, c, e, sd, hb⟩
  refine RunC.seq (RunC.region (RunO.all (h1 := h.push ⟨stc s slot rv, true⟩) rfl ?_))
  have oq := Ow.push h (stc s slot rv)
  have f1 : Fr no h (h.push ⟨stc s slot rv, true⟩) := Fr.push _ _ _
  generalize h.push ⟨stc s slot rv, true⟩ = h1 at *
  obtain ⟨qb, hqb⟩ : ∃ q, q = h.next := ⟨_, rfl⟩
  rw [← hqb] at oq ⊢
  refine RunC.seq (RunC.seq (RunC.region ?_))
  refine RunO.load (v := .agg ⟨stc s slot rv⟩) rfl (oq.ld rfl) rfl ?_
  refine RunO.callD (ready_ok hs hg hsl) rfl rfl rfl ?_
  rintro _ h2 ⟨rfl, f2⟩
  refine RunO.all rfl (RunC.cond rfl (fun g => by cases g) (fun _ => RunC.skip ?_))
  replace oq := oq.fr f2 (fun g => g)
  have F2 := f1.same f2
  refine RunC.seq (RunC.region (RunO.part 2 rfl ?_))
  refine RunO.load (v := .int .i64 s.1) rfl (oq.ld rfl) rfl ?_
  refine RunO.part 1 rfl ?_
  rw [fw64 (x := s.1 + 1) (by omega) (by omega)]
  refine RunO.part 2 rfl ?_
  refine RunO.load (v := .int .i64 s.2.1) rfl (oq.ld rfl) rfl ?_
  refine RunO.part 5 (h1 := h2.push ⟨[.int .i64 0, .int .i64 0, .int .i64 0, .int .i64 0, .int .i64 0], true⟩) rfl ?_
  refine RunO.store rfl rfl (store_ow (s := 5) (Ow.push h2 [.int .i64 0, .int .i64 0, .int .i64 0, .int .i64 0, .int .i64 0]) rfl rfl rfl (Nat.le_refl 5)) (RunO.nil ?_)
  have on : Ow ((h2.push ⟨[.int .i64 0, .int .i64 0, .int .i64 0, .int .i64 0, .int .i64 0], true⟩).put h2.next (some ⟨(sc (s.1 + 1) s.2.1 root size first), true⟩)) h2.next (sc (s.1 + 1) s.2.1 root size first) := Ow.put _ (Nat.lt_succ_self _)
  have f3 : Fr no h2 ((h2.push ⟨[.int .i64 0, .int .i64 0, .int .i64 0, .int .i64 0, .int .i64 0], true⟩).put h2.next (some ⟨(sc (s.1 + 1) s.2.1 root size first), true⟩)) := (Fr.push _ _ _).trans (Fr.put (m := (· = h2.next)) _ (.inl rfl)) (fun j hj => .inr (by omega))
  show RunC prog _ _ _ ((h2.push ⟨[.int .i64 0, .int .i64 0, .int .i64 0, .int .i64 0, .int .i64 0], true⟩).put h2.next (some ⟨(sc (s.1 + 1) s.2.1 root size first), true⟩)) _ _ _
  generalize (h2.push ⟨[.int .i64 0, .int .i64 0, .int .i64 0, .int .i64 0, .int .i64 0], true⟩).put h2.next (some ⟨(sc (s.1 + 1) s.2.1 root size first), true⟩) = h3 at *
  generalize h2.next = nb at *
  replace oq := oq.fr f3 (fun g => g)
  refine RunC.seq (RunC.region ?_)
  refine RunO.load (v := .agg ⟨(sc (s.1 + 1) s.2.1 root size first)⟩) rfl (on.ld rfl) rfl ?_
  refine RunO.callD (superBytes_ok (g := s.1 + 1) (bl := s.2.1) (rt := root) (sz := size) (fi := first)) rfl rfl rfl ?_
  rintro _ h4 ⟨f4, ⟨_, sb, hsb, rfl, os⟩ | ⟨g, _⟩⟩
  case inr => rw [hn] at g; cases g
  replace oq := oq.fr f4 (fun g => g)
  replace on := on.fr f4 (fun g => g)
  have F4 := (F2.same f3).same f4
  refine RunO.all rfl ?_
  refine RunC.seq (RunC.seq (RunC.region (RunO.part 5 rfl ?_)))
  have hcs := containsIo_ok (sa0.fr0 F4) (u := fun j => .agg ⟨(acs.drop (j * 3)).take 3⟩) (fun j hj => io_part hal hj) (g := 59) (cap := [.pointer (some ⟨nb, 0, none⟩)]) (p := fun _ => false) (fun j hj h5 f5 => by
    obtain ⟨A, c, e, _, _⟩ := hel j hj
    obtain ⟨_, h2', h3', _⟩ := hw l[j] (List.getElem_mem hj)
    show RunF prog _ [.agg ⟨(acs.drop (j * 3)).take 3⟩, _] h5 _
    rw [e]
    exact stepsC_ok (on.fr f5 (fun g => g)) h2' h3') (by omega)
  refine RunO.callDG rfl hcs rfl rfl rfl ?_
  rw [anyI_false (fun _ _ => rfl)]
  rintro _ h5 ⟨rfl, f5⟩
  refine RunO.all rfl (RunC.cond rfl (fun g => by cases g) (fun _ => RunC.skip ?_))
  replace oq := oq.fr f5 (fun g => g)
  replace os := os.fr f5 (fun g => g)
  have F5 := F4.same f5
  have hsbn := os.1
  refine RunC.seq (RunC.region (RunO.all rfl ?_))
  refine RunC.seq (RunC.seq (RunC.region (RunO.all rfl ?_)))
  refine RunC.block ?_
  refine RunC.loop (fun d E h' => ∃ (i : Nat) (ov : Value), i + d = l.length ∧ Fr no h5 h' ∧ IoW h.next h' ov (l.take i) ∧ (∀ b, At ov b → h5.next ≤ b) ∧ Le ((upd (upd (upd (upd (upd (upd E0 5 (.pointer (some ⟨qb, 0, none⟩))) 13 (.slice (some ⟨sb, 0, none⟩) 64 (exc 64))) 15 (ov)) 45 (.slice lA l.length lc)) 46 (.int .i64 (l.length : Int))) 47 (.int .i64 (i : Int)))) E) ?st (k := l.length) ?ini
  case ini => exact ⟨0, .slice none 0 0, by omega, Fr.refl _ _, IoW.nil _ _, (fun b ⟨_, _, e⟩ => by cases e), Le.cons rfl (Le.cons rfl (Le.cons rfl (Le.cons rfl (Le.cons rfl (Le.cons rfl (Le.nil _))))))⟩
  rintro d E g1 ⟨i, ov, hi, fg, ios, hov, hE⟩
  refine RunC.le hE ?_
  clear hE
  have Fg := F5.same fg
  have hov1 := fun b g => (ios.at (b := b) g).2
  refine RunC.seq (RunC.region (RunO.all rfl ?_))
  refine RunC.seq (RunC.cond rfl (fun hlt => RunC.skip ?go) (fun hge => RunC.exit ?ex))
  case ex =>
    have hge := of_decide_eq_false hge
    obtain rfl : i = l.length := by omega
    rw [List.take_length] at ios
    refine RunC.seq (RunC.region (RunO.part 2 (h1 := g1.push ⟨[.int .i64 0, .int .i64 0, .slice none 0 0], true⟩) rfl ?_))
    refine RunO.store rfl rfl (store_ow (s := 3) (Ow.push g1 [.int .i64 0, .int .i64 0, .slice none 0 0]) rfl rfl rfl (Nat.le_refl 3)) (RunO.nil ?_)
    have ofl : Ow ((g1.push ⟨[.int .i64 0, .int .i64 0, .slice none 0 0], true⟩).put g1.next (some ⟨[.int .i64 2, .int .i64 0, .slice none 0 0], true⟩)) g1.next [.int .i64 2, .int .i64 0, .slice none 0 0] := Ow.put _ (Nat.lt_succ_self _)
    have f6 : Fr no g1 ((g1.push ⟨[.int .i64 0, .int .i64 0, .slice none 0 0], true⟩).put g1.next (some ⟨[.int .i64 2, .int .i64 0, .slice none 0 0], true⟩)) := (Fr.push _ _ _).trans (Fr.put (m := (· = g1.next)) _ (.inl rfl)) (fun j hj => .inr (by omega))
    show RunC prog _ _ _ ((g1.push ⟨[.int .i64 0, .int .i64 0, .slice none 0 0], true⟩).put g1.next (some ⟨[.int .i64 2, .int .i64 0, .slice none 0 0], true⟩)) _ _ _
    generalize (g1.push ⟨[.int .i64 0, .int .i64 0, .slice none 0 0], true⟩).put g1.next (some ⟨[.int .i64 2, .int .i64 0, .slice none 0 0], true⟩) = g2 at *
    generalize g1.next = fb at *
    have fg2 := fg.same f6
    have ios2 := ios.fr0 f6
    replace oq := oq.fr fg2 (fun g => g)
    replace os := os.fr fg2 (fun g => g)
    refine RunC.seq (RunC.region (RunO.part 1 rfl ?_))
    refine RunO.load (v := .agg ⟨[.int .i64 2, .int .i64 0, .slice none 0 0]⟩) rfl (ofl.ld rfl) rfl ?_
    refine RunO.part 1 rfl ?_
    refine RunO.load (v := .int .i64 slot) rfl (oq.ld rfl) rfl ?_
    refine RunO.part 1 rfl ?_
    rw [fw64 (x := 1 - slot) (by omega) (by omega)]
    refine RunO.part 2 rfl ?_
    refine RunO.load (v := .agg ⟨[.int .i64 2, .int .i64 0, .slice none 0 0]⟩) rfl (ofl.ld rfl) rfl ?_
    refine RunO.part 1 (h1 := g2.push ⟨[.int .i64 2, .int .i64 0, .slice none 0 0, .int .i64 1, .int .i64 (1 - slot), .slice (some ⟨sb, 0, none⟩) 64 (exc 64), .int .i64 2, .int .i64 0, .slice none 0 0], true⟩) rfl ?_
    have ot := Ow.push g2 [.int .i64 2, .int .i64 0, .slice none 0 0, .int .i64 1, .int .i64 (1 - slot), .slice (some ⟨sb, 0, none⟩) 64 (exc 64), .int .i64 2, .int .i64 0, .slice none 0 0]
    have f7 : Fr no g2 (g2.push ⟨[.int .i64 2, .int .i64 0, .slice none 0 0, .int .i64 1, .int .i64 (1 - slot), .slice (some ⟨sb, 0, none⟩) 64 (exc 64), .int .i64 2, .int .i64 0, .slice none 0 0], true⟩) := Fr.push _ _ _
    have ios3 := ios2.fr0 f7
    replace os := os.fr f7 (fun g => g)
    have F7 := fg2.same f7
    generalize g2.push ⟨[.int .i64 2, .int .i64 0, .slice none 0 0, .int .i64 1, .int .i64 (1 - slot), .slice (some ⟨sb, 0, none⟩) 64 (exc 64), .int .i64 2, .int .i64 0, .slice none 0 0], true⟩ = g3 at *
    obtain ⟨bcs, row, kk⟩ := ios3
    refine RunO.appendG (s := 3) (j := 3) rfl rfl rfl rfl rfl rfl rfl rfl (by decide) row.gr ot.all rfl (by decide) rfl (by show 2 * (_ + 3) * 40 ≤ _; omega) (by omega) ?_
    intro ov2 g4 row2 f8
    have hbl := superBlock_len (s.1 + 1) s.2.1 root size first
    have hbb := superBlock_byt (s.1 + 1) s.2.1 root size first
    have hbyn : Byt ([] : List Int) := fun x hx => by cases hx
    have fin := IoW.app (ys := cmtT s slot root size first) row kk rfl (fun j y hy => by
      unfold cmtT at hy
      match j, hy with
      | 0, hy => cases hy; exact ⟨_, rfl, Sl.nil _ 1, hbyn, fun b o c e => by cases e⟩
      | 1, hy =>
        cases hy
        refine ⟨_, rfl, ?_, hbb, fun b o c e a => by injection e with e1; injection e1 with e1; injection e1 with e1; have := hov b a; omega⟩
        show Sl g3 _ 1 (superBlock (s.1 + 1) s.2.1 root size first).length (us (superBlock (s.1 + 1) s.2.1 root size first))
        rw [hbl]
        exact os.all.sl (by rw [us_len, hbl]) (by decide) (Cp.exc (Nat.le_refl _))
      | 2, hy => cases hy; exact ⟨_, rfl, Sl.nil _ 1, hbyn, fun b o c e => by cases e⟩
      | j + 3, hy => simp at hy) row2 f8 (F5.same F7).next
    refine RunO.all rfl (RunC.ret ⟨_, rfl, (F5.same F7).trans f8 (fun b g => .inr (by have := hov b g; have := F5.next; omega)), ov2, rfl, by rw [hqb]; exact fin⟩)
  have hlt := of_decide_eq_true hlt
  have hlt : i < l.length := by omega
  obtain ⟨A, c, e, sd, hb⟩ := hel i hlt
  obtain ⟨w1, w2, w3, w4⟩ := hw l[i] (List.getElem_mem hlt)
  have hpt := io_part hal hlt
  rw [e] at hpt
  have htk : l.take (i + 1) = l.take i ++ [l[i]] := List.take_succ_eq_append_getElem hlt
  have htl : (l.take i).length = i := by rw [List.length_take]; omega
  refine RunC.seq (RunC.block ?_)
  refine RunC.seq (RunC.region ?_)
  refine RunO.at (s := 3) (k := i) rfl rfl (sa0.fr0 Fg) rfl rfl hlt hpt rfl rfl rfl ?_
  refine RunO.part 1 (h1 := g1.push ⟨[.int .i64 0, .int .i64 0, .slice none 0 0], true⟩) rfl ?_
  refine RunO.store rfl rfl (store_ow (s := 3) (Ow.push g1 [.int .i64 0, .int .i64 0, .slice none 0 0]) rfl rfl rfl (Nat.le_refl 3)) (RunO.nil ?_)
  have ox : Ow ((g1.push ⟨[.int .i64 0, .int .i64 0, .slice none 0 0], true⟩).put g1.next (some ⟨[.int .i64 1, .int .i64 l[i].2.1, .slice A 64 c], true⟩)) g1.next [.int .i64 1, .int .i64 l[i].2.1, .slice A 64 c] := Ow.put _ (Nat.lt_succ_self _)
  have f6 : Fr no g1 ((g1.push ⟨[.int .i64 0, .int .i64 0, .slice none 0 0], true⟩).put g1.next (some ⟨[.int .i64 1, .int .i64 l[i].2.1, .slice A 64 c], true⟩)) := (Fr.push _ _ _).trans (Fr.put (m := (· = g1.next)) _ (.inl rfl)) (fun j hj => .inr (by omega))
  show RunC prog _ _ _ ((g1.push ⟨[.int .i64 0, .int .i64 0, .slice none 0 0], true⟩).put g1.next (some ⟨[.int .i64 1, .int .i64 l[i].2.1, .slice A 64 c], true⟩)) _ _ _
  generalize (g1.push ⟨[.int .i64 0, .int .i64 0, .slice none 0 0], true⟩).put g1.next (some ⟨[.int .i64 1, .int .i64 l[i].2.1, .slice A 64 c], true⟩) = g2 at *
  have hn6 := f6.next
  generalize hxb : g1.next = xb at *
  have ios2 := ios.fr0 f6
  have fg2 := fg.same f6
  have sd2 := sd.fr0 (Fg.same f6)
  refine RunC.drawT 6 (fun b => At ov b ∨ g2.next ≤ b) rfl ?_
  refine RunQ.part 2 rfl ?_
  refine RunQ.load (v := .int .i64 l[i].2.1) rfl rfl (ox.ld rfl) rfl ?_
  refine RunQ.part 1 rfl ?_
  refine RunQ.load (v := .slice A 64 c) rfl rfl (ox.ld rfl) rfl ?_
  have sd2' : Sl (g2.lo g2.next) (.slice A 64 c) 1 l[i].2.2.1.length (us l[i].2.2.1) := by rw [w4]; exact sd2
  refine RunQ.call rfl (clone8_ok sd2' (by rw [w4]; decide)) (fun v h1 q => q.2.1) rfl rfl rfl ?_
  rintro dv g3 ⟨od, f7, _⟩
  have f7 : Fr no g2 g3 := ⟨f7.next, f7.get, fun l a b c => f7.low l b b c⟩
  have od : Osl g2.next g3 dv 1 l[i].2.2.1.length (us l[i].2.2.1) := od
  have sdv := od.sl
  have hdvb : ∀ b o c, dv = .slice (some ⟨b, o, none⟩) l[i].2.2.1.length c → g2.next ≤ b := fun b o c e => by
    rcases od.2.2 with ⟨e', _⟩ | ⟨b', c', g1', e', _⟩
    · rw [e'] at e; injection e with e1; cases e1
    · rw [e'] at e; injection e with e1; injection e1 with e1; injection e1 with e1; omega
  obtain ⟨dA, dc, rfl, _, _⟩ := sdv.form
  refine RunQ.all rfl ?_
  refine RunT.pure rfl rfl (fun _ => rfl) rfl ?_
  refine RunT.new (ob := ⟨[.int .i64 1, .int .i64 l[i].2.1, .slice dA l[i].2.2.1.length dc], true⟩) rfl rfl (fun _ => rfl) rfl ?_
  have ot := Ow.push g3 [.int .i64 1, .int .i64 l[i].2.1, .slice dA l[i].2.2.1.length dc]
  have f8 : Fr no g3 (g3.push ⟨[.int .i64 1, .int .i64 l[i].2.1, .slice dA l[i].2.2.1.length dc], true⟩) := Fr.push _ _ _
  have ios4 := (ios2.fr0 f7).fr0 f8
  have sdv4 := sdv.fr0 f8
  have F4_ := f7.same f8
  generalize g3.push ⟨[.int .i64 1, .int .i64 l[i].2.1, .slice dA l[i].2.2.1.length dc], true⟩ = g4 at *
  obtain ⟨bcs, row, kk⟩ := ios4
  refine RunT.appendG (s := 3) (j := 1) rfl rfl rfl rfl rfl rfl rfl rfl rfl (by decide) row.gr ot.all rfl (Nat.le_refl 1) rfl (by show 2 * (_ + 1) * 40 ≤ _; omega) (by omega) (fun b g => .inl g) ?_
  intro ov2 g5 row2 f9
  have hn4 := F4_.next
  have fin := IoW.app (ys := [l[i]]) row kk rfl (fun j y hy => by
    match j, hy with
    | 0, hy =>
      cases hy
      exact ⟨_, by rw [w1]; rfl, sdv4, hb, fun b o c e a => by have := hdvb b o c e; have := hov1 b a; omega⟩
    | j + 1, hy => simp at hy) row2 f9 (((F5.same fg2).same F4_).next)
  rw [← htk] at fin
  refine RunT.pure rfl rfl (fun _ => rfl) rfl ?_
  refine RunT.nil ?_
  intro lw F10
  have fin2 : IoW h.next (g5.lo lw) ov2 (l.take (i + 1)) := fin
  have hat2 : ∀ b, At ov2 b → h5.next ≤ b := fun b g => by have := (row2.at g).1; have := fg2.next; omega
  have F10 : Fr no h5 (g5.lo lw) := fg2.trans F10 (fun b g => .inr (by rcases g with g | g; exact hov b g; have := fg2.next; omega))
  generalize g5.lo lw = g6 at *
  refine RunC.region (RunO.all rfl ?_)
  exact ⟨d - 1, by omega, i + 1, ov2, by omega, F10, fin2, hat2, Le.cons (inc64 (by omega)) (Le.cons rfl (Le.cons rfl (Le.cons rfl (Le.cons rfl (Le.cons rfl (Le.nil _))))))⟩
end Go.Proofs.Ytcbakhanpiemhaa
end
section
set_option linter.unusedVariables false
set_option linter.unusedSectionVars false
set_option maxRecDepth 100000
open Go Go.Am Go.RowKit
namespace Go.Proofs.Ytcbakhanpiemhaa
open Go.Proofs.Try

theorem pick_gt {L : List Int} {st : S5 × Int × Bool} {i : Nat} {g bl rt sz fi : Int} (h : blkI L i = superBlock g bl rt sz fi) (ok : superOk g bl rt sz fi = true) (hbl : bl = ((L.length / 64 : Nat) : Int)) (hst : g > st.1.1) : pickStep L st i = ((g, bl, rt, sz, fi), (i : Int), true) := by
  obtain ⟨b1, b2⟩ := super_back ok
  unfold pickStep
  rw [h, b1, b2, if_pos]
  show ((0 : Int) == 0 && (bl == _ && (!st.2.2 || decide (g > st.1.1)))) = true
  rw [hbl, decide_eq_true hst]; simp
theorem pick_le {L : List Int} {st : S5 × Int × Bool} {i : Nat} {g bl rt sz fi : Int} (h : blkI L i = superBlock g bl rt sz fi) (ok : superOk g bl rt sz fi = true) (h2 : st.2.2 = true) (hst : ¬ g > st.1.1) : pickStep L st i = st := by
  obtain ⟨b1, b2⟩ := super_back ok
  unfold pickStep
  rw [h, b1, b2, h2, if_neg]
  show ¬ ((0 : Int) == 0 && (bl == _ && (!true || decide (g > st.1.1)))) = true
  rw [decide_eq_false hst]; simp
/-- One slot stands, the other one is none, or elder. -/
structure Two (B : Nat) (g : Int) (slot : Nat) (rt sz fi : Int) (X : List Int) : Prop where
  len : X.length = B * 64
  byt : Byt X
  cur : blkI X slot = superBlock g (B : Int) rt sz fi
  oth : sCode (blkI X (1 - slot)) ≠ 0 ∨ ∃ g' rt' sz' fi', g' < g ∧ superOk g' (B : Int) rt' sz' fi' = true ∧ blkI X (1 - slot) = superBlock g' (B : Int) rt' sz' fi'
theorem Two.pick {B : Nat} {g rt sz fi : Int} {slot : Nat} {X : List Int} (t : Two B g slot rt sz fi X) (hs : slot = 0 ∨ slot = 1) (ok : superOk g (B : Int) rt sz fi = true) : pickS X = ((g, (B : Int), rt, sz, fi), (slot : Int), true) := by
  have hbl : (B : Int) = ((X.length / 64 : Nat) : Int) := by rw [t.len, Nat.mul_div_cancel _ (by decide)]
  have hg := ((superOk_iff _ _ _ _ _).1 ok).1
  rcases hs with rfl | rfl
  · rcases t.oth with h | ⟨g', rt', sz', fi', h1, h2, h3⟩
    · exact pick_one0 t.cur ok hbl h
    · rw [pick_two, pick_yes t.cur ok hbl rfl, pick_le (i := 1) h3 h2 rfl (by show ¬ g' > g; omega)]
  · rcases t.oth with h | ⟨g', rt', sz', fi', h1, h2, h3⟩
    · exact pick_one1 t.cur ok hbl h
    · rw [pick_two, pick_yes (i := 0) h3 h2 hbl rfl, pick_gt t.cur ok hbl (by show g > g'; omega)]
theorem Two.next {B : Nat} {g rt sz fi rt' sz' fi' : Int} {slot : Nat} {X : List Int} (t : Two B g slot rt sz fi X) (hs : slot = 0 ∨ slot = 1) (hB : 4 ≤ B) (ok : superOk g (B : Int) rt sz fi = true) : Two B (g + 1) (1 - slot) rt' sz' fi' (setBlk X (1 - slot) (superBlock (g + 1) (B : Int) rt' sz' fi')) := by
  have hl := superBlock_len (g + 1) (B : Int) rt' sz' fi'
  have hi : (1 - slot + 1) * 64 ≤ X.length := by rw [t.len]; exact Nat.mul_le_mul_right 64 (by omega)
  refine ⟨by rw [setBlk_len hi hl]; exact t.len, setBlk_byt t.byt (superBlock_byt _ _ _ _ _), blk_set_same hi hl, .inr ⟨g, rt, sz, fi, by omega, ok, ?_⟩⟩
  rw [show 1 - (1 - slot) = slot by omega, blk_set_ne hi hl (by omega)]
  exact t.cur
theorem two_new {B : Nat} (h4 : 4 ≤ B) : Two B 1 0 0 0 0 (newI B) := ⟨newI_len (by omega), newI_byt B, (newI_blk h4).1, .inl (by rw [(newI_blk h4).2, sCode_zeros]; decide)⟩
/-- What a commit's steps make. -/
theorem ap_cmt {o : List Int} {W : List IoT} {s : S5} {slot : Nat} {root size first : Int} (hs : slot = 0 ∨ slot = 1) : applyL o (W ++ cmtT s (slot : Int) root size first) = setBlk (applyL o W) (1 - slot) (superBlock (s.1 + 1) s.2.1 root size first) := by
  unfold applyL cmtT
  rw [List.foldl_append]
  generalize List.foldl applyStep o W = x
  rw [List.foldl_cons, List.foldl_cons, List.foldl_cons, List.foldl_nil]
  have e1 : ∀ y : List Int, applyStep y ((2 : Int), (0 : Int), ([] : List Int), ()) = y := fun y => rfl
  rw [e1, e1]
  rcases hs with rfl | rfl <;> rfl
theorem st_cmt {n : Nat} {W : List IoT} {s : S5} {slot : Nat} {root size first : Int} (hd : devOk n = true) (hs : slot = 0 ∨ slot = 1) (hl : W.length ≤ 1000) (hw : ∀ x ∈ W, wrG n x) : stepsE n (W ++ cmtT s (slot : Int) root size first) = 0 := by
  have hdl : n % 64 = 0 ∧ 4 ≤ n / 64 ∧ n / 64 ≤ 4096 := by
    unfold devOk at hd
    simpa using hd
  refine stepsE_ok hd (by rw [List.length_append]; show W.length + 3 ≤ _; omega) (fun x hx => ?_)
  rcases List.mem_append.1 hx with g | g
  · obtain ⟨h1, ⟨a, ha, hab⟩, h3, _⟩ := hw x g
    exact .inl ⟨h1, ⟨a, ha, by omega⟩, h3⟩
  · unfold cmtT at g
    rcases List.mem_cons.1 g with rfl | g
    · exact .inr ⟨rfl, rfl, rfl⟩
    rcases List.mem_cons.1 g with rfl | g
    · refine .inl ⟨rfl, ⟨1 - slot, ?_, by omega⟩, superBlock_len ..⟩
      show 1 - (slot : Int) = _
      omega
    · rw [List.mem_singleton] at g
      rw [g]
      exact .inr ⟨rfl, rfl, rfl⟩
set_option maxHeartbeats 16000000 in
theorem wakes15_ok {h : Heap} : RunF prog 33 [] h fun v h' => v = .bool true ∧ Fr no h h' := by
  refine RunF.walk func33 rfl rfl ?_
  have h4 : 4 ≤ 8 := by decide
  have hB : 8 ≤ 4096 := by decide
  refine RunC.seq (RunC.region (RunO.all rfl ?_))
  refine RunC.seq (RunC.region ?_)
  refine RunO.callD (openNew_ok (B := 8) h4 hB) rfl rfl rfl ?_
  rintro _ h1 ⟨f1, ib, hib, rfl, oi⟩
  obtain ⟨k1, k2, k3⟩ := lk_new h4 hB
  have hpk := pick_new h4 hB
  have tw := two_new h4
  have hl := newI_len (B := 8) (by decide)
  have hby := newI_byt 8
  generalize newI 8 = L at *
  have k0 : (lk L).2 = 0 := by rw [k1]
  have sli := sl_own oi hl (Cp.exc (Nat.le_refl _)) (by decide)
  refine RunO.all rfl ?_
  refine RunC.seq (RunC.region (RunO.part 1 rfl ?_))
  refine RunO.callD (openOpen_ok sli hby (by omega)) rfl rfl rfl ?_
  rintro _ h2 ⟨f2, ⟨_, rv, rfl, rl⟩ | ⟨g, _⟩⟩
  case inr => exact absurd k0 g
  rw [k3, hpk]
  refine RunO.part 4 (h1 := h2.push ⟨(stc (0, 0, 0, 0, 0) 0 (.slice none 0 0)), true⟩) rfl ?_
  refine RunO.store rfl rfl (store_ow (s := 7) (Ow.push h2 (stc (0, 0, 0, 0, 0) 0 (.slice none 0 0))) rfl rfl (stc_cells rl) (Nat.le_of_ble_eq_true rfl)) (RunO.all rfl ?_)
  rw [stc_store]
  have os : Ow ((h2.push ⟨(stc (0, 0, 0, 0, 0) 0 (.slice none 0 0)), true⟩).put h2.next (some ⟨stc (1, ((8 : Nat) : Int), 0, 0, 0) 0 rv, true⟩)) h2.next (stc (1, ((8 : Nat) : Int), 0, 0, 0) 0 rv) := Ow.put _ (Nat.lt_succ_self _)
  have f3 : Fr no h2 ((h2.push ⟨(stc (0, 0, 0, 0, 0) 0 (.slice none 0 0)), true⟩).put h2.next (some ⟨stc (1, ((8 : Nat) : Int), 0, 0, 0) 0 rv, true⟩)) := (Fr.push _ _ _).trans (Fr.put (m := (· = h2.next)) _ (.inl rfl)) (fun j hj => .inr (by omega))
  show RunC prog _ _ _ ((h2.push ⟨(stc (0, 0, 0, 0, 0) 0 (.slice none 0 0)), true⟩).put h2.next (some ⟨stc (1, ((8 : Nat) : Int), 0, 0, 0) 0 rv, true⟩)) _ _ _
  generalize (h2.push ⟨(stc (0, 0, 0, 0, 0) 0 (.slice none 0 0)), true⟩).put h2.next (some ⟨stc (1, ((8 : Nat) : Int), 0, 0, 0) 0 rv, true⟩) = h3 at *
  generalize h2.next = sb at *
  have sli3 := (sli.fr0 f2).fr0 f3
  refine RunC.seq (RunC.region ?_)
  refine RunO.load (v := .agg ⟨stc (1, ((8 : Nat) : Int), 0, 0, 0) 0 rv⟩) rfl (os.ld rfl) rfl ?_
  have hios : Ios h3 (.slice none 0 0) [] := ⟨[], Sl.nil _ 3, fun j x hx => by cases hx⟩
  have hok2 : superOk (1 + 1) ((8 : Nat) : Int) 0 5 0 = true := by decide
  refine RunO.callD (commitSteps_ok (s := (1, ((8 : Nat) : Int), 0, 0, 0)) (slot := 0) (root := 0) (size := 5) (first := 0) hios (by decide) (by decide) (by show (1 : Int) < _; decide) (.inl rfl) hok2 (fun x hx => by cases hx)) rfl rfl rfl ?_
  rintro _ h5 ⟨f4, lv, rfl, ios⟩
  rw [List.nil_append] at ios
  have hct : (cmtT (1, ((8 : Nat) : Int), 0, 0, 0) 0 0 5 0).length = 3 := rfl
  have ios2 := ios.ios (by decide)
  obtain ⟨lA, lc, rfl⟩ : ∃ a b, lv = .slice a 3 b := by
    obtain ⟨acs, row, _⟩ := ios
    obtain ⟨a, b, e, _⟩ := (row.sl (by decide)).form
    exact ⟨a, b, e⟩
  refine RunO.all rfl ?_
  refine RunC.seq (RunC.region (RunO.part 2 rfl ?_))
  have hst := st_cmt (n := 512) (W := []) (s := (1, ((8 : Nat) : Int), 0, 0, 0)) (slot := 0) (root := 0) (size := 5) (first := 0) (by decide) (.inl rfl) (by decide) (fun x hx => by cases hx)
  have hap := ap_cmt (o := L) (W := []) (s := (1, ((8 : Nat) : Int), 0, 0, 0)) (slot := 0) (root := 0) (size := 5) (first := 0) (.inl rfl)
  rw [List.nil_append] at hst hap
  refine RunO.callD (devApply_ok (sli3.fr0 f4) (by omega) ios2 (by decide)) rfl rfl rfl ?_
  have hst : stepsE L.length (cmtT (1, ((8 : Nat) : Int), 0, 0, 0) 0 0 5 0) = 0 := by rw [hl]; exact hst
  rw [hst]
  rintro _ h6 ⟨f5, ⟨_, xq, xc, hxq, rfl, hxc, ox⟩ | ⟨hno, _⟩⟩
  case inr => exact absurd rfl hno
  have t2 := tw.next (rt' := 0) (sz' := 5) (fi' := 0) (.inl rfl) h4 (by decide)
  have hX : applyL L (cmtT (1, ((8 : Nat) : Int), 0, 0, 0) 0 0 5 0) = setBlk L (1 - 0) (superBlock (1 + 1) ((8 : Nat) : Int) 0 5 0) := hap
  rw [hX] at ox
  have hp2 := t2.pick (.inr rfl) hok2
  have hxl := t2.len
  have hxb := t2.byt
  generalize setBlk L (1 - 0) (superBlock (1 + 1) ((8 : Nat) : Int) 0 5 0) = X at *
  obtain ⟨j1, j2, j3⟩ := lk_empty (by rw [hxl]; decide) hp2 rfl rfl
  have j0 : (lk X).2 = 0 := by rw [j1]
  rw [hl]
  rw [hl, show 8 * 64 = 512 from rfl] at hxc
  have slx : Sl h6 (.slice (some ⟨xq, 0, none⟩) (8 * 64) xc) 1 X.length (us X) := sl_own ox hxl hxc (by decide)
  refine RunO.all rfl ?_
  refine RunC.seq (RunC.region (RunO.part 1 rfl ?_))
  refine RunO.callD (openOpen_ok slx hxb (by omega)) rfl rfl rfl ?_
  rintro _ h7 ⟨f6, ⟨_, wv, rfl, wl⟩ | ⟨g, _⟩⟩
  case inr => exact absurd j0 g
  rw [j3, hp2]
  refine RunO.part 4 (h1 := h7.push ⟨(stc (0, 0, 0, 0, 0) 0 (.slice none 0 0)), true⟩) rfl ?_
  refine RunO.store rfl rfl (store_ow (s := 7) (Ow.push h7 (stc (0, 0, 0, 0, 0) 0 (.slice none 0 0))) rfl rfl (stc_cells wl) (Nat.le_of_ble_eq_true rfl)) (RunO.all rfl ?_)
  rw [stc_store]
  have ot : Ow ((h7.push ⟨(stc (0, 0, 0, 0, 0) 0 (.slice none 0 0)), true⟩).put h7.next (some ⟨stc (1 + 1, ((8 : Nat) : Int), 0, 5, 0) ((1 - 0 : Nat) : Int) wv, true⟩)) h7.next (stc (1 + 1, ((8 : Nat) : Int), 0, 5, 0) ((1 - 0 : Nat) : Int) wv) := Ow.put _ (Nat.lt_succ_self _)
  have f7 : Fr no h7 ((h7.push ⟨(stc (0, 0, 0, 0, 0) 0 (.slice none 0 0)), true⟩).put h7.next (some ⟨stc (1 + 1, ((8 : Nat) : Int), 0, 5, 0) ((1 - 0 : Nat) : Int) wv, true⟩)) := (Fr.push _ _ _).trans (Fr.put (m := (· = h7.next)) _ (.inl rfl)) (fun j hj => .inr (by omega))
  show RunC prog _ _ _ ((h7.push ⟨(stc (0, 0, 0, 0, 0) 0 (.slice none 0 0)), true⟩).put h7.next (some ⟨stc (1 + 1, ((8 : Nat) : Int), 0, 5, 0) ((1 - 0 : Nat) : Int) wv, true⟩)) _ _ _
  generalize (h7.push ⟨(stc (0, 0, 0, 0, 0) 0 (.slice none 0 0)), true⟩).put h7.next (some ⟨stc (1 + 1, ((8 : Nat) : Int), 0, 5, 0) ((1 - 0 : Nat) : Int) wv, true⟩) = h8 at *
  generalize h7.next = tb at *
  refine RunC.seq (RunC.region (RunO.part 2 (h1 := h8.push ⟨[.int .i64 4, .int .i64 6], true⟩) rfl ?_))
  have of := Ow.push h8 [.int .i64 4, .int .i64 6]
  have f8 : Fr no h8 (h8.push ⟨[.int .i64 4, .int .i64 6], true⟩) := Fr.push _ _ _
  replace ot := ot.fr f8 (fun g => g)
  generalize h8.push ⟨[.int .i64 4, .int .i64 6], true⟩ = h9 at *
  generalize h8.next = fb at *
  have sf : Sl h9 (.slice (some ⟨fb, 0, none⟩) 2 (exc 2)) 1 ([4, 6] : List Int).length (is [4, 6]) := of.all.sl (s := 1) rfl (by decide) (Cp.exc (Nat.le_refl _))
  have hup : ∀ i, i + 1 < ([4, 6] : List Int).length → ([4, 6] : List Int).getD i 0 < ([4, 6] : List Int).getD (i + 1) 0 := fun i hi => by
    have hi : i + 1 < 2 := hi
    obtain rfl : i = 0 := by omega
    decide
  have hmay : MayOk [] [] 0 ⟨0, 3, 0, 0, 0, 0, 0, 0⟩ true [4, 6] := ⟨rfl, Nat.le_refl _, (fun r hr => by cases hr), (fun _ => by decide), (fun a ha => by cases ha), (by decide), hup, (by decide), (by decide)⟩
  refine RunO.callD (commitRecords_ok (old := []) (bl := []) (free := [4, 6]) (n := 0) (x := ⟨0, 3, 0, 0, 0, 0, 0, 0⟩) (w := true) (Sl.nil _ 8) (Sl.nil _ 1) sf hmay (by decide)) rfl rfl rfl ?_
  rintro _ g1 ⟨e1, mv, rv2, rfl, iom, orv⟩
  have hA : anewL [] 0 true ⟨0, 3, 0, 0, 0, 0, 0, 0⟩ = [⟨0, 3, 0, 0, 0, 0, 0, 0⟩] := rfl
  rw [hA] at iom orv ⊢
  have iml : (wrA [⟨0, 3, 0, 0, 0, 0, 0, 0⟩] [4, 6] (at0L [] 0) 1).length = 1 := wrA_len _ _ _ _
  obtain ⟨mA, mc, rfl⟩ : ∃ a b, mv = .slice a 1 b := by
    obtain ⟨acs, row, _⟩ := iom
    obtain ⟨a, b, e, _⟩ := (row.sl (by decide)).form
    exact ⟨a, b, e⟩
  have sor : Sl g1 rv2 1 ([6] : List Int).length (is [6]) := orv.sl
  replace ot := ot.fr e1 (fun g => g)
  refine RunO.all rfl ?_
  refine RunC.seq (RunC.region (RunO.part 26 rfl ?_))
  refine RunO.loadG (v := .int .i64 (1 + 1)) rfl rfl (ot.ld rfl) rfl ?_
  refine RunO.part 4 rfl ?_
  refine RunO.loadG (v := .int .i64 1) rfl rfl (ot.ld rfl) rfl ?_
  refine RunO.part 5 rfl ?_
  refine RunO.loadG (v := .int .i64 5) rfl rfl (ot.ld rfl) rfl ?_
  refine RunO.part 17 rfl ?_
  refine RunO.part 1 (h1 := g1.push ⟨[.int .i64 6], true⟩) rfl ?_
  have oz := Ow.push g1 [.int .i64 6]
  have e2 : Fr no g1 (g1.push ⟨[.int .i64 6], true⟩) := Fr.push _ _ _
  replace sor := sor.fr0 e2
  generalize g1.push ⟨[.int .i64 6], true⟩ = g2 at *
  generalize g1.next = zb at *
  have s6 : Sl g2 (.slice (some ⟨zb, 0, none⟩) 1 (exc 1)) 1 ([6] : List Int).length (is [6]) := oz.all.sl (s := 1) rfl (by decide) (Cp.exc (Nat.le_refl _))
  refine RunO.callDG rfl (keepInts_ok sor s6 (by decide)) rfl rfl rfl ?_
  rintro _ _ ⟨rfl, rfl⟩
  exact RunO.all rfl (RunC.ret ⟨_, rfl, rfl, (((((((((f1.same f2).same f3).same f4).same f5).same f6).same f7).same f8).same e1).same e2)⟩)
end Go.Proofs.Ytcbakhanpiemhaa
end
