/- CommitChain: a calculus over an abstract machine that stands beside the model, and contracts of functions by it (part 6).
Conditions: what each theorem says of its arguments. -/
import Derived.Test.YtcbakhanpiemhaaGCommitChain5
section
set_option linter.unusedVariables false
set_option linter.unusedSectionVars false
set_option maxRecDepth 100000
open Go Go.Am Go.RowKit
namespace Go.Proofs.Ytcbakhanpiemhaa
open Go.Proofs.Try
theorem reps_bo (n : Nat) : reps (cellsOf (Value.bool false)) n = bo (List.replicate n false) := by
  rw [show cellsOf (Value.bool false) = [.bool false] from rfl, reps_one]; unfold bo; rw [List.map_replicate]
theorem rep_false (n j : Nat) : (List.replicate n false).getD j false = false := by
  rw [List.getD_eq_getElem?_getD, List.getElem?_replicate]; split <;> rfl
/-- The cells of an open image. -/
def imc (s : S5) (slot : Int) (rv bv tv : Value) : List Value := sc5 s ++ [.int .i64 slot, rv, bv, tv]
set_option maxHeartbeats 32000000 in
theorem openClash_ok {h : Heap} {xb B : Nat} {s : S5} {slot : Int} {rv bv tv : Value} {bl : List Int} {TL : List Tr3} (ox : Ow h xb (imc s slot rv bv tv)) (sbl : Sl h bv 1 bl.length (is bl)) (stl : Sl h tv 1 TL.length (tps TL))
    (htr : ∀ t ∈ TL, TrOk B h t) (hbr : ∀ x ∈ bl, 0 ≤ x ∧ x < (B : Int)) (hB : B ≤ 100000) (hbl : bl.length ≤ 100000) (hTL : TL.length ≤ 100000) :
    RunF prog 107 [.pointer (some ⟨xb, 0, none⟩), .int .i64 (B : Int)] h fun v h' => Fr no h h' ∧ ((∃ i : Nat, i < B ∧ v = .int .i64 (i : Int) ∧ clP bl TL i = true ∧ ∀ j, j < i → clP bl TL j = false) ∨ (v = .int .i64 0 ∧ ∀ j, j < B → clP bl TL j = false)) := by
  refine RunF.walk func107 rfl rfl ?_
  obtain ⟨bA, bc, rfl, _, _⟩ := sbl.form
  obtain ⟨tA, tc, rfl, _, _⟩ := stl.form
  refine RunC.seq (RunC.region (RunO.all rfl ?_))
  refine RunC.seq (RunC.draw0 rfl ?_)
  refine RunO.part 1 rfl ?_
  refine RunO.make (m := B) rfl rfl rfl rfl rfl rfl (show 1 * B ≤ _ by omega) (by omega) rfl ?_
  rw [reps_bo]
  have on := Ow.push h (bo (List.replicate B false))
  have f1 : Fr no h (h.push ⟨bo (List.replicate B false), true⟩) := Fr.push _ _ _
  generalize h.push ⟨bo (List.replicate B false), true⟩ = h1 at *
  obtain ⟨nb, hnb⟩ : ∃ q, q = h.next := ⟨_, rfl⟩
  rw [← hnb] at on ⊢
  have hn1 := on.1
  refine RunO.part 1 rfl ?_
  refine RunO.make (m := B) rfl rfl rfl rfl rfl rfl (show 1 * B ≤ _ by omega) (by omega) rfl ?_
  rw [reps_bo]
  have or := Ow.push h1 (bo (List.replicate B false))
  have f2 : Fr no h1 (h1.push ⟨bo (List.replicate B false), true⟩) := Fr.push _ _ _
  replace on := on.fr f2 (fun g => g)
  generalize h1.push ⟨bo (List.replicate B false), true⟩ = h2 at *
  obtain ⟨rb, hrb⟩ : ∃ q, q = h1.next := ⟨_, rfl⟩
  rw [← hrb] at or ⊢
  have hn2 := or.1
  refine RunO.part 1 rfl ?_
  refine RunO.make (m := B) rfl rfl rfl rfl rfl rfl (show 1 * B ≤ _ by omega) (by omega) rfl ?_
  rw [reps_bo]
  have os := Ow.push h2 (bo (List.replicate B false))
  have f3 : Fr no h2 (h2.push ⟨bo (List.replicate B false), true⟩) := Fr.push _ _ _
  replace on := on.fr f3 (fun g => g)
  replace or := or.fr f3 (fun g => g)
  generalize h2.push ⟨bo (List.replicate B false), true⟩ = h3 at *
  obtain ⟨sb, hsb⟩ : ∃ q, q = h2.next := ⟨_, rfl⟩
  rw [← hsb] at os ⊢
  have hn3 := os.1
  refine RunO.part 2 (h1 := h3.push ⟨[.slice none 0 0, .slice none 0 0, .slice none 0 0], true⟩) rfl ?_
  refine RunO.store rfl rfl (store_ow (s := 3) (Ow.push h3 [.slice none 0 0, .slice none 0 0, .slice none 0 0]) rfl rfl rfl (Nat.le_refl 3)) (RunO.nil ?_)
  have e3 : [Value.slice none 0 0, .slice none 0 0, .slice none 0 0].take 0 ++ cellsOf (.agg ⟨[.slice (some ⟨nb, 0, none⟩) B (exc B), .slice (some ⟨rb, 0, none⟩) B (exc B), .slice (some ⟨sb, 0, none⟩) B (exc B)]⟩) ++ [Value.slice none 0 0, .slice none 0 0, .slice none 0 0].drop (0 + 3) = [.slice (some ⟨nb, 0, none⟩) B (exc B), .slice (some ⟨rb, 0, none⟩) B (exc B), .slice (some ⟨sb, 0, none⟩) B (exc B)] := rfl
  have op : Ow ((h3.push ⟨[.slice none 0 0, .slice none 0 0, .slice none 0 0], true⟩).put h3.next (some ⟨[.slice (some ⟨nb, 0, none⟩) B (exc B), .slice (some ⟨rb, 0, none⟩) B (exc B), .slice (some ⟨sb, 0, none⟩) B (exc B)], true⟩)) h3.next _ := Ow.put _ (Nat.lt_succ_self _)
  have f4 : Fr no h3 ((h3.push ⟨[.slice none 0 0, .slice none 0 0, .slice none 0 0], true⟩).put h3.next (some ⟨[.slice (some ⟨nb, 0, none⟩) B (exc B), .slice (some ⟨rb, 0, none⟩) B (exc B), .slice (some ⟨sb, 0, none⟩) B (exc B)], true⟩)) := (Fr.push _ _ _).trans (Fr.put (m := (· = h3.next)) _ (.inl rfl)) (fun j hj => .inr (by omega))
  replace on := on.fr f4 (fun g => g)
  replace or := or.fr f4 (fun g => g)
  replace os := os.fr f4 (fun g => g)
  show RunC prog _ _ _ ((h3.push ⟨[.slice none 0 0, .slice none 0 0, .slice none 0 0], true⟩).put h3.next (some ⟨[.slice (some ⟨nb, 0, none⟩) B (exc B), .slice (some ⟨rb, 0, none⟩) B (exc B), .slice (some ⟨sb, 0, none⟩) B (exc B)], true⟩)) _ _ _
  generalize (h3.push ⟨[.slice none 0 0, .slice none 0 0, .slice none 0 0], true⟩).put h3.next (some ⟨[.slice (some ⟨nb, 0, none⟩) B (exc B), .slice (some ⟨rb, 0, none⟩) B (exc B), .slice (some ⟨sb, 0, none⟩) B (exc B)], true⟩) = h4 at *
  obtain ⟨pb, hpb⟩ : ∃ q, q = h3.next := ⟨_, rfl⟩
  rw [← hpb] at op ⊢
  have F4 : Fr no h h4 := ((f1.same f2).same f3).same f4
  have cd : CD pb nb rb sb := ⟨by omega, by omega, by omega, by omega, by omega, by omega⟩
  have cw : CW h4 B pb nb rb sb (List.replicate B false) (List.replicate B false) (List.replicate B false) := ⟨op, on, or, os, List.length_replicate, List.length_replicate, List.length_replicate⟩
  have hge : h.next ≤ nb ∧ h.next ≤ rb ∧ h.next ≤ sb := by omega
  clear op on or os f1 f2 f3 f4
  -- the records
  refine RunC.seq ?_
  refine RunC.seq (RunC.region (RunO.part 3 rfl ?_))
  refine RunO.load (v := .slice bA bl.length bc) rfl ((ox.fr F4 (fun g => g)).ld rfl) rfl (RunO.all rfl ?_)
  refine RunC.block ?_
  refine RunC.loop (fun d E h' => ∃ (i : Nat) (R : List Bool), i + d = bl.length ∧ CW h' B pb nb rb sb (List.replicate B false) R (List.replicate B false) ∧ (∀ j, j < B → R.getD j false = (bl.take i).contains (j : Int)) ∧ Fr no h h' ∧
    Le (upd (upd (upd (upd (upd (upd E0 0 (.pointer (some ⟨xb, 0, none⟩))) 1 (.int .i64 (B : Int))) 5 (.pointer (some ⟨pb, 0, none⟩))) 25 (.slice bA bl.length bc)) 26 (.int .i64 (bl.length : Int))) 27 (.int .i64 (i : Int))) E) ?st1 (k := bl.length) ?ini1
  case ini1 => exact ⟨0, _, by omega, cw, fun j _ => by rw [rep_false]; simp, F4, Le.cons rfl (Le.cons rfl (Le.cons rfl (Le.cons rfl (Le.cons rfl (Le.cons rfl (Le.nil _))))))⟩
  rintro d E g1 ⟨i, R, hi, cw, hR, fg, hE⟩
  refine RunC.le hE ?_
  clear hE
  refine RunC.seq (RunC.region (RunO.all rfl ?_))
  refine RunC.seq (RunC.cond rfl (fun hlt => RunC.skip ?go1) (fun hge => RunC.exit ?ex1))
  case go1 =>
    have hlt := of_decide_eq_true hlt
    have hlt : i < bl.length := by omega
    obtain ⟨x0, xB⟩ := hbr bl[i] (List.getElem_mem hlt)
    obtain ⟨q, hq⟩ := Int.eq_ofNat_of_zero_le x0
    have hqB : q < B := by omega
    have hcs := fun x => cont_succ hlt x
    refine RunC.seq (RunC.block ?_)
    refine RunC.seq (RunC.region ?_)
    refine RunO.at (s := 1) (k := i) rfl rfl (sbl.fr0 fg) rfl rfl hlt (is_part hlt) rfl rfl rfl (RunO.all rfl ?_)
    rw [hq] at hcs ⊢
    refine RunC.region (RunO.part 1 rfl ?_)
    refine RunO.load (v := .slice (some ⟨rb, 0, none⟩) B (exc B)) rfl (cw.op.ld rfl) rfl ?_
    refine RunO.part 1 rfl ?_
    refine RunO.index (s := 1) (k := q) rfl rfl rfl rfl hqB rfl ?_
    refine RunO.store rfl rfl (store1_ow cw.or rfl rfl rfl (by rw [bo_len, cw.lr]; omega)) (RunO.nil ?_)
    rw [bo_set]
    refine RunC.region (RunO.all rfl ?_)
    refine ⟨d - 1, by omega, i + 1, _, by omega, cw.putR cd true, fun j hj => ?_, fg.trans (Fr.put (m := (· = rb)) _ (.inl rfl)) (fun b e => .inr (by omega)), Le.cons (inc64 (by omega)) (Le.cons rfl (Le.cons rfl (Le.cons rfl (Le.cons rfl (Le.cons rfl (Le.nil _))))))⟩
    rw [getD_setBo R (by rw [cw.lr]; omega), hcs, hR j hj]
    by_cases e : j = q
    · rw [if_pos e, decide_eq_true (by omega)]; rfl
    · rw [if_neg e, decide_eq_false (by omega)]; rfl
  have hge1 := of_decide_eq_false hge
  obtain rfl : i = bl.length := by omega
  rw [List.take_length] at hR
  -- the trees
  refine RunC.seq ?_
  refine RunC.seq (RunC.region (RunO.part 3 rfl ?_))
  refine RunO.load (v := .slice tA TL.length tc) rfl ((ox.fr fg (fun g => g)).ld rfl) rfl (RunO.all rfl ?_)
  refine RunC.block ?_
  refine RunC.loop (fun d E h' => ∃ (i : Nat) (N S : List Bool), i + d = TL.length ∧ CW h' B pb nb rb sb N R S ∧ (∀ j, j < B → N.getD j false = isN (TL.take i) j) ∧ (∀ j, j < B → S.getD j false = isS (TL.take i) j) ∧ Fr no h h' ∧
    Le (upd (upd (upd (upd (upd (upd E0 0 (.pointer (some ⟨xb, 0, none⟩))) 1 (.int .i64 (B : Int))) 5 (.pointer (some ⟨pb, 0, none⟩))) 39 (.slice tA TL.length tc)) 40 (.int .i64 (TL.length : Int))) 41 (.int .i64 (i : Int))) E) ?st2 (k := TL.length) ?ini2
  case ini2 => exact ⟨0, _, _, by omega, cw, fun j _ => by rw [rep_false]; rfl, fun j _ => by rw [rep_false]; rfl, fg, Le.cons rfl (Le.cons rfl (Le.cons rfl (Le.cons rfl (Le.cons rfl (Le.cons rfl (Le.nil _))))))⟩
  rintro d2 E g2 ⟨ti, N, S, hti, cw, hN, hS, fg2, hE⟩
  refine RunC.le hE ?_
  clear hE
  refine RunC.seq (RunC.region (RunO.all rfl ?_))
  refine RunC.seq (RunC.cond rfl (fun hlt => RunC.skip ?go2) (fun hge => RunC.exit ?ex2))
  case go2 =>
    have hlt := of_decide_eq_true hlt
    have hlt : ti < TL.length := by omega
    have hNs : ∀ j, isN (TL.take (ti + 1)) j = (isN (TL.take ti) j || TL[ti].2.2.contains (j : Int)) := fun j => any_snoc hlt _
    have hSs : ∀ j, isS (TL.take (ti + 1)) j = (isS (TL.take ti) j || (decide (j ≠ 0) && TL[ti].2.1.contains (j : Int))) := fun j => any_snoc hlt _
    have htk := htr TL[ti] (List.getElem_mem hlt)
    have htp := tps_part hlt
    generalize TL[ti] = T at *
    obtain ⟨wb, tm, tn⟩ := T
    obtain ⟨tiv, tmv, tnv, ow, slm, sln, tml, tnl, tmr, tnr⟩ := htk
    simp only at ow slm sln tml tnl tmr tnr htp hNs hSs
    obtain ⟨mA, mc, rfl, _, _⟩ := slm.form
    obtain ⟨nA, nc_, rfl, _, _⟩ := sln.form
    refine RunC.seq (RunC.block ?_)
    refine RunC.seq (RunC.region ?_)
    refine RunO.at (s := 1) (k := ti) rfl rfl (stl.fr0 fg2) rfl rfl hlt htp rfl rfl rfl (RunO.all rfl ?_)
    -- its nodes
    refine RunC.seq ?_
    refine RunC.seq (RunC.region (RunO.part 3 rfl ?_))
    refine RunO.load (v := .slice nA tn.length nc_) rfl ((ow.fr fg2 (fun g => g)).ld rfl) rfl (RunO.all rfl ?_)
    refine RunC.block ?_
    refine RunC.loop (fun d E h' => ∃ (i : Nat) (N : List Bool), i + d = tn.length ∧ CW h' B pb nb rb sb N R S ∧ (∀ j, j < B → N.getD j false = (isN (TL.take ti) j || (tn.take i).contains (j : Int))) ∧ Fr no h h' ∧
      Le ((upd (upd (upd (upd (upd (upd (upd (upd (upd (upd E0 0 (.pointer (some ⟨xb, 0, none⟩))) 1 (.int .i64 (B : Int))) 5 (.pointer (some ⟨pb, 0, none⟩))) 39 (.slice tA TL.length tc)) 40 (.int .i64 (TL.length : Int))) 41 (.int .i64 (ti : Int))) 9 (.pointer (some ⟨wb, 0, none⟩))) 48 (.slice nA tn.length nc_)) 49 (.int .i64 (tn.length : Int))) 50 (.int .i64 (i : Int)))) E) ?st3 (k := tn.length) ?ini3
    case ini3 => exact ⟨0, _, by omega, cw, fun j hj => by rw [hN j hj]; simp, fg2, Le.cons rfl (Le.cons rfl (Le.cons rfl (Le.cons rfl (Le.cons rfl (Le.cons rfl (Le.cons rfl (Le.cons rfl (Le.cons rfl (Le.cons rfl (Le.nil _))))))))))⟩
    rintro d3 E g3 ⟨i, N3, hi, cw, hN3, fg3, hE⟩
    refine RunC.le hE ?_
    clear hE
    refine RunC.seq (RunC.region (RunO.all rfl ?_))
    refine RunC.seq (RunC.cond rfl (fun hlt => RunC.skip ?go3) (fun hge => RunC.exit ?ex3))
    case go3 =>
      have hlt := of_decide_eq_true hlt
      have hlt : i < tn.length := by omega
      obtain ⟨x0, xB⟩ := tnr tn[i] (List.getElem_mem hlt)
      obtain ⟨q, hq⟩ := Int.eq_ofNat_of_zero_le x0
      have hqB : q < B := by omega
      have hcs := fun x => cont_succ hlt x
      refine RunC.seq (RunC.block ?_)
      refine RunC.seq (RunC.region ?_)
      refine RunO.at (s := 1) (k := i) rfl rfl (sln.fr0 fg3) rfl rfl hlt (is_part hlt) rfl rfl rfl (RunO.all rfl ?_)
      rw [hq] at hcs ⊢
      refine RunC.region (RunO.part 1 rfl ?_)
      refine RunO.load (v := .slice (some ⟨nb, 0, none⟩) B (exc B)) rfl (cw.op.ld rfl) rfl ?_
      refine RunO.part 1 rfl ?_
      refine RunO.index (s := 1) (k := q) rfl rfl rfl rfl hqB rfl ?_
      refine RunO.store rfl rfl (store1_ow cw.on rfl rfl rfl (by rw [bo_len, cw.ln]; omega)) (RunO.nil ?_)
      rw [bo_set]
      refine RunC.region (RunO.all rfl ?_)
      refine ⟨d3 - 1, by omega, i + 1, _, by omega, cw.putN cd true, fun j hj => ?_, fg3.trans (Fr.put (m := (· = nb)) _ (.inl rfl)) (fun b e => .inr (by omega)), Le.cons (inc64 (by omega)) (Le.cons rfl (Le.cons rfl (Le.cons rfl (Le.cons rfl (Le.cons rfl (Le.cons rfl (Le.cons rfl (Le.cons rfl (Le.cons rfl (Le.nil _))))))))))⟩
      rw [getD_setBo N3 (by rw [cw.ln]; omega), hcs, hN3 j hj]
      by_cases e : j = q
      · rw [if_pos e, decide_eq_true (by omega), Bool.true_or, Bool.or_true]
      · rw [if_neg e, decide_eq_false (by omega), Bool.false_or]
    have hge3 := of_decide_eq_false hge
    obtain rfl : i = tn.length := by omega
    rw [List.take_length] at hN3
    -- its map
    refine RunC.seq (RunC.region (RunO.part 3 rfl ?_))
    refine RunO.load (v := .slice mA tm.length mc) rfl ((ow.fr fg3 (fun g => g)).ld rfl) rfl (RunO.all rfl ?_)
    refine RunC.block ?_
    refine RunC.loop (fun d E h' => ∃ (i : Nat) (S : List Bool), i + d = tm.length ∧ CW h' B pb nb rb sb N3 R S ∧ (∀ j, j < B → S.getD j false = (isS (TL.take ti) j || (decide (j ≠ 0) && (tm.take i).contains (j : Int)))) ∧ Fr no h h' ∧
      Le ((upd (upd (upd (upd (upd (upd (upd (upd (upd (upd E0 0 (.pointer (some ⟨xb, 0, none⟩))) 1 (.int .i64 (B : Int))) 5 (.pointer (some ⟨pb, 0, none⟩))) 39 (.slice tA TL.length tc)) 40 (.int .i64 (TL.length : Int))) 41 (.int .i64 (ti : Int))) 9 (.pointer (some ⟨wb, 0, none⟩))) 62 (.slice mA tm.length mc)) 63 (.int .i64 (tm.length : Int))) 64 (.int .i64 (i : Int)))) E) ?st4 (k := tm.length) ?ini4
    case ini4 => exact ⟨0, _, by omega, cw, fun j hj => by rw [hS j hj]; simp, fg3, Le.cons rfl (Le.cons rfl (Le.cons rfl (Le.cons rfl (Le.cons rfl (Le.cons rfl (Le.cons rfl (Le.cons rfl (Le.cons rfl (Le.cons rfl (Le.nil _))))))))))⟩
    rintro d4 E g4 ⟨i, S4, hi, cw, hS4, fg4, hE⟩
    refine RunC.le hE ?_
    clear hE
    refine RunC.seq (RunC.region (RunO.all rfl ?_))
    refine RunC.seq (RunC.cond rfl (fun hlt => RunC.skip ?go4) (fun hge => RunC.exit ?ex4))
    case go4 =>
      have hlt := of_decide_eq_true hlt
      have hlt : i < tm.length := by omega
      obtain ⟨x0, xB⟩ := tmr tm[i] (List.getElem_mem hlt)
      obtain ⟨q, hq⟩ := Int.eq_ofNat_of_zero_le x0
      have hqB : q < B := by omega
      have hcs := fun x => cont_succ hlt x
      refine RunC.seq (RunC.block ?_)
      refine RunC.seq (RunC.region ?_)
      refine RunO.at (s := 1) (k := i) rfl rfl (slm.fr0 fg4) rfl rfl hlt (is_part hlt) rfl rfl rfl (RunO.all rfl ?_)
      rw [hq] at hcs ⊢
      have hfin : ∀ x : Bool, x = (S4.getD q false || decide (q ≠ 0)) → ∀ j, j < B → (S4.set q x).getD j false = (isS (TL.take ti) j || (decide (j ≠ 0) && (tm.take (i + 1)).contains (j : Int))) := fun x hx j hj => by
        rw [getD_setBo S4 (by rw [cw.ls]; omega), hcs]
        by_cases e : j = q
        · rw [if_pos e, hx, hS4 q hqB, e, decide_eq_true (p := ((q : Int)) = (q : Int)) rfl, Bool.true_or, Bool.and_true]
          cases isS (TL.take ti) q <;> cases (decide (q ≠ 0)) <;> cases ((tm.take i).contains (q : Int)) <;> rfl
        · rw [if_neg e, hS4 j hj, decide_eq_false (p := ((j : Int)) = (q : Int)) (by omega), Bool.false_or]
      have sls : Sl g4 (.slice (some ⟨sb, 0, none⟩) B (exc B)) 1 B (bo S4) := cw.os.all.sl (by rw [bo_len, cw.ls, Nat.mul_one]) (by omega) (Cp.exc (Nat.le_refl _))
      refine RunC.draw0 rfl ?_
      refine RunO.part 1 rfl ?_
      refine RunO.load (v := .slice (some ⟨sb, 0, none⟩) B (exc B)) rfl (cw.op.ld rfl) rfl ?_
      refine RunO.part 2 rfl ?_
      refine RunO.load (v := .slice (some ⟨sb, 0, none⟩) B (exc B)) rfl (cw.op.ld rfl) rfl ?_
      refine RunO.part 1 rfl ?_
      refine RunO.at (s := 1) (k := q) rfl rfl sls rfl rfl hqB (bo_part (by rw [cw.ls]; exact hqB)) rfl rfl rfl ?_
      have fput : ∀ x : Bool, Fr no h (g4.put sb (some ⟨bo (S4.set q x), true⟩)) := fun x => fg4.trans (Fr.put (m := (· = sb)) _ (.inl rfl)) (fun b e => .inr (by omega))
      have hsl : 0 + q * 1 < (bo S4).length := by rw [bo_len, cw.ls]; omega
      cases hx : S4.getD q false with
      | true =>
        refine RunO.part 4 rfl ?_
        refine RunO.index (s := 1) (k := q) rfl rfl rfl rfl hqB rfl ?_
        refine RunO.store rfl rfl (store1_ow cw.os rfl rfl rfl hsl) (RunO.nil ?_)
        rw [bo_set]
        refine RunC.region (RunO.all rfl ?_)
        exact ⟨d4 - 1, by omega, i + 1, _, by omega, cw.putS cd true, hfin true (by rw [hx]; rfl), fput true, Le.cons (inc64 (by omega)) (Le.cons rfl (Le.cons rfl (Le.cons rfl (Le.cons rfl (Le.cons rfl (Le.cons rfl (Le.cons rfl (Le.cons rfl (Le.cons rfl (Le.nil _))))))))))⟩
      | false =>
        refine RunO.part 3 rfl ?_
        rw [show ((q : Int) != 0) = decide (q ≠ 0) by rw [Bool.eq_iff_iff, bne_iff_ne, decide_eq_true_eq]; omega]
        refine RunO.part 1 rfl ?_
        refine RunO.index (s := 1) (k := q) rfl rfl rfl rfl hqB rfl ?_
        refine RunO.store rfl rfl (store1_ow cw.os rfl rfl rfl hsl) (RunO.nil ?_)
        rw [bo_set]
        refine RunC.region (RunO.all rfl ?_)
        exact ⟨d4 - 1, by omega, i + 1, _, by omega, cw.putS cd _, hfin _ (by rw [hx]; rfl), fput _, Le.cons (inc64 (by omega)) (Le.cons rfl (Le.cons rfl (Le.cons rfl (Le.cons rfl (Le.cons rfl (Le.cons rfl (Le.cons rfl (Le.cons rfl (Le.cons rfl (Le.nil _))))))))))⟩
    have hge4 := of_decide_eq_false hge
    obtain rfl : i = tm.length := by omega
    rw [List.take_length] at hS4
    refine RunC.region (RunO.all rfl ?_)
    exact ⟨d2 - 1, by omega, ti + 1, _, _, by omega, cw, fun j hj => by rw [hN3 j hj, hNs], fun j hj => by rw [hS4 j hj, hSs], fg4, Le.cons (inc64 (by omega)) (Le.cons rfl (Le.cons rfl (Le.cons rfl (Le.cons rfl (Le.cons rfl (Le.nil _))))))⟩
  have hge2 := of_decide_eq_false hge
  obtain rfl : ti = TL.length := by omega
  rw [List.take_length] at hN hS
  have hP : ∀ j, j < B → clP bl TL j = ((S.getD j false && (N.getD j false || R.getD j false)) || (N.getD j false && R.getD j false)) := fun j hj => by
    rw [hN j hj, hS j hj, hR j hj]; rfl
  -- the first one
  refine RunC.seq ?_
  refine RunC.seq (RunC.region (RunO.all rfl ?_))
  refine RunC.block ?_
  refine RunC.loop (fun d E h' => ∃ i : Nat, i + d = B ∧ (∀ j, j < i → clP bl TL j = false) ∧ h' = g2 ∧
    Le ((upd (upd (upd (upd E0 1 (.int .i64 (B : Int))) 5 (.pointer (some ⟨pb, 0, none⟩))) 83 (.int .i64 (B : Int))) 84 (.int .i64 (i : Int)))) E) ?st5 (k := B) ?ini5
  case ini5 => exact ⟨0, by omega, fun j hj => absurd hj (Nat.not_lt_zero _), rfl, Le.cons rfl (Le.cons rfl (Le.cons rfl (Le.cons rfl (Le.nil _))))⟩
  rintro d5 E g5 ⟨i, hi, hno, rfl, hE⟩
  refine RunC.le hE ?_
  clear hE
  refine RunC.seq (RunC.region (RunO.all rfl ?_))
  refine RunC.seq (RunC.cond rfl (fun hlt => RunC.skip ?go5) (fun hge => RunC.exit ?ex5))
  case go5 =>
    have hlt := of_decide_eq_true hlt
    have hlt : i < B := by omega
    have sls : Sl g5 (.slice (some ⟨sb, 0, none⟩) B (exc B)) 1 B (bo S) := cw.os.all.sl (by rw [bo_len, cw.ls, Nat.mul_one]) (by omega) (Cp.exc (Nat.le_refl _))
    have sln : Sl g5 (.slice (some ⟨nb, 0, none⟩) B (exc B)) 1 B (bo N) := cw.on.all.sl (by rw [bo_len, cw.ln, Nat.mul_one]) (by omega) (Cp.exc (Nat.le_refl _))
    have slr : Sl g5 (.slice (some ⟨rb, 0, none⟩) B (exc B)) 1 B (bo R) := cw.or.all.sl (by rw [bo_len, cw.lr, Nat.mul_one]) (by omega) (Cp.exc (Nat.le_refl _))
    have hPi := hP i hlt
    refine RunC.seq (RunC.block ?_)
    refine RunC.seq (RunC.region (RunO.all rfl ?_))
    refine RunC.seq (RunC.region (RunO.part 1 rfl ?_))
    refine RunO.load (v := .slice (some ⟨sb, 0, none⟩) B (exc B)) rfl (cw.op.ld rfl) rfl ?_
    refine RunO.part 1 rfl ?_
    refine RunO.at (s := 1) (k := i) rfl rfl sls rfl rfl hlt (bo_part (by rw [cw.ls]; exact hlt)) rfl rfl rfl ?_
    cases ha : S.getD i false with
    | true =>
      rw [ha] at hPi
      refine RunO.part 1 rfl ?_
      refine RunO.part 1 rfl ?_
      refine RunO.loadG (v := .slice (some ⟨nb, 0, none⟩) B (exc B)) rfl rfl (cw.op.ld rfl) rfl ?_
      refine RunO.part 1 rfl ?_
      refine RunO.atG (s := 1) (k := i) rfl (fun _ => rfl) rfl rfl sln rfl rfl hlt (bo_part (by rw [cw.ln]; exact hlt)) rfl rfl rfl ?_
      cases hb : N.getD i false with
      | true =>
        rw [hb] at hPi
        refine RunO.part 1 rfl ?_
        refine RunO.all rfl (RunC.cond rfl (fun _ => ?_) (fun g => by cases g))
        exact RunC.seq (RunC.region (RunO.all rfl (RunC.ret ⟨_, rfl, fg2, .inl ⟨i, hlt, rfl, hPi, hno⟩⟩)))
      | false =>
        rw [hb] at hPi
        refine RunO.part 1 rfl ?_
        refine RunO.part 1 rfl ?_
        refine RunO.loadG (v := .slice (some ⟨rb, 0, none⟩) B (exc B)) rfl rfl (cw.op.ld rfl) rfl ?_
        refine RunO.part 1 rfl ?_
        refine RunO.atG (s := 1) (k := i) rfl (fun _ => rfl) rfl rfl slr rfl rfl hlt (bo_part (by rw [cw.lr]; exact hlt)) rfl rfl rfl ?_
        cases hc : R.getD i false with
        | true =>
          rw [hc] at hPi
          refine RunO.all rfl (RunC.cond rfl (fun _ => ?_) (fun g => by cases g))
          exact RunC.seq (RunC.region (RunO.all rfl (RunC.ret ⟨_, rfl, fg2, .inl ⟨i, hlt, rfl, hPi, hno⟩⟩)))
        | false =>
          rw [hc] at hPi
          refine RunO.part 3 rfl ?_
          refine RunO.part 1 rfl ?_
          refine RunO.loadG (v := .slice (some ⟨nb, 0, none⟩) B (exc B)) rfl rfl (cw.op.ld rfl) rfl ?_
          refine RunO.part 1 rfl ?_
          refine RunO.atG (s := 1) (k := i) rfl (fun _ => rfl) rfl rfl sln rfl rfl hlt (bo_part (by rw [cw.ln]; exact hlt)) rfl rfl rfl ?_
          rw [hb]
          refine RunO.all rfl (RunC.cond rfl (fun g => by cases g) (fun _ => RunC.skip ?_))
          refine RunC.region (RunO.all rfl ?_)
          exact ⟨d5 - 1, by omega, i + 1, by omega, fun j hj => by rcases Nat.lt_or_ge j i with e | e; exact hno j e; rw [show j = i by omega]; exact hPi, rfl, Le.cons (inc64 (by omega)) (Le.cons rfl (Le.cons rfl (Le.cons rfl (Le.nil _))))⟩
    | false =>
      rw [ha] at hPi
      refine RunO.part 15 rfl ?_
      refine RunO.part 1 rfl ?_
      refine RunO.loadG (v := .slice (some ⟨nb, 0, none⟩) B (exc B)) rfl rfl (cw.op.ld rfl) rfl ?_
      refine RunO.part 1 rfl ?_
      refine RunO.atG (s := 1) (k := i) rfl (fun _ => rfl) rfl rfl sln rfl rfl hlt (bo_part (by rw [cw.ln]; exact hlt)) rfl rfl rfl ?_
      cases hb : N.getD i false with
      | true =>
        rw [hb] at hPi
        refine RunO.part 1 rfl ?_
        refine RunO.part 1 rfl ?_
        refine RunO.loadG (v := .slice (some ⟨rb, 0, none⟩) B (exc B)) rfl rfl (cw.op.ld rfl) rfl ?_
        refine RunO.part 1 rfl ?_
        refine RunO.atG (s := 1) (k := i) rfl (fun _ => rfl) rfl rfl slr rfl rfl hlt (bo_part (by rw [cw.lr]; exact hlt)) rfl rfl rfl ?_
        cases hc : R.getD i false with
        | true =>
          rw [hc] at hPi
          refine RunO.all rfl (RunC.cond rfl (fun _ => ?_) (fun g => by cases g))
          exact RunC.seq (RunC.region (RunO.all rfl (RunC.ret ⟨_, rfl, fg2, .inl ⟨i, hlt, rfl, hPi, hno⟩⟩)))
        | false =>
          rw [hc] at hPi
          refine RunO.all rfl (RunC.cond rfl (fun g => by cases g) (fun _ => RunC.skip ?_))
          refine RunC.region (RunO.all rfl ?_)
          exact ⟨d5 - 1, by omega, i + 1, by omega, fun j hj => by rcases Nat.lt_or_ge j i with e | e; exact hno j e; rw [show j = i by omega]; exact hPi, rfl, Le.cons (inc64 (by omega)) (Le.cons rfl (Le.cons rfl (Le.cons rfl (Le.nil _))))⟩
      | false =>
        rw [hb] at hPi
        refine RunO.all rfl (RunC.cond rfl (fun g => by cases g) (fun _ => RunC.skip ?_))
        refine RunC.region (RunO.all rfl ?_)
        exact ⟨d5 - 1, by omega, i + 1, by omega, fun j hj => by rcases Nat.lt_or_ge j i with e | e; exact hno j e; rw [show j = i by omega]; exact hPi, rfl, Le.cons (inc64 (by omega)) (Le.cons rfl (Le.cons rfl (Le.cons rfl (Le.nil _))))⟩
  have hge5 := of_decide_eq_false hge
  exact RunC.seq (RunC.region (RunO.all rfl (RunC.ret ⟨_, rfl, fg2, .inr ⟨rfl, fun j hj => hno j (by omega)⟩⟩)))
end Go.Proofs.Ytcbakhanpiemhaa
end
section
set_option linter.unusedVariables false
set_option linter.unusedSectionVars false
set_option maxRecDepth 100000
open Go Go.Am Go.RowKit
namespace Go.Proofs.Ytcbakhanpiemhaa
open Go.Proofs.Try
/- An open image: what the page says of the parts. -/
theorem ptr_ge {L : List Int} {B : Nat} {p lv : Int} (h : atIs L B p lv = true) {i : Nat} (hi : i < 8) : (ptrsL L B p).getD i 0 = 0 ∨ (2 ≤ (ptrsL L B p).getD i 0 ∧ (ptrsL L B p).getD i 0 < 4096) := by
  have hp := (atIs_ne h).1
  unfold atIs at h
  rw [Bool.and_eq_true, Bool.and_eq_true, beq_iff_eq] at h
  have hv : ptrsL L B p = nPs (blkI L p.toNat) := by
    unfold ptrsL atV nodV
    rw [if_neg (by omega), if_pos h.1, if_pos h.2.1]
  have hok : nodOk (nLv (blkI L p.toNat)) (nPs (blkI L p.toNat)) = true := by
    have hc := h.2.1
    unfold nCode at hc
    split at hc
    · split at hc
      · assumption
      · cases hc
    · rename_i h1; exact absurd hc h1
  have hl := ptrsL_len L B p
  unfold nodOk at hok
  rw [Bool.and_eq_true, List.all_eq_true] at hok
  have hx := hok.1 ((ptrsL L B p).getD i 0) (by rw [← hv, List.getD_eq_getElem?_getD, List.getElem?_eq_getElem (by omega)]; exact List.getElem_mem _)
  unfold ptrB at hx
  simp only [Bool.or_eq_true, beq_iff_eq, Bool.and_eq_true, decide_eq_true_eq] at hx
  omega
theorem okA_lk {L : List Int} {B : Nat} : ∀ (k : Nat) (p : Int) (d q : Nat), okA L B k p → d < k → q < 8 ^ d → look L B d p q ≠ 0 → atIs L B (look L B d p q) ((k - 1 - d : Nat) : Int) = true
  | 0, p, d, q, _, h, _, _ => absurd h (Nat.not_lt_zero _)
  | k + 1, p, 0, q, h, _, hq, h0 => okA_at h h0
  | k + 1, p, d + 1, q, h, hd, hq, h0 => by
    have hpos : 0 < 8 ^ d := Nat.pow_pos (by decide)
    have hq8 : q / 8 ^ d < 8 := by rw [Nat.div_lt_iff_lt_mul hpos]; rw [Nat.pow_succ, Nat.mul_comm] at hq; exact hq
    rw [look_suc] at h0 ⊢
    have := okA_lk k _ d _ (okA_child h hq8) (by omega) (Nat.mod_lt _ hpos) h0
    rwa [show k + 1 - 1 - (d + 1) = k - 1 - d by omega]
theorem tree_rng {L : List Int} {root : Int} (hd : devOk L.length = true) (h : treeOk L root = true) : (∀ x ∈ treeM L root, 0 ≤ x ∧ x < (L.length / 64 : Nat)) ∧ (∀ x ∈ treeN L root, 2 ≤ x ∧ x < (L.length / 64 : Nat)) := by
  have hdl : L.length % 64 = 0 ∧ 4 ≤ L.length / 64 ∧ L.length / 64 ≤ 4096 := by
    unfold devOk at hd
    simpa using hd
  obtain ⟨t, tn⟩ := TreeIs.of (by omega) h
  constructor
  · intro x hx
    obtain ⟨s, hs, rfl⟩ := List.mem_iff_getElem.1 hx
    have hs5 : s < 512 := by rw [← t.len]; exact hs
    have hg : (treeM L root)[s] = (treeM L root).getD s 0 := by rw [List.getD_eq_getElem?_getD, List.getElem?_eq_getElem hs]; rfl
    rw [hg]
    refine ⟨?_, t.lt s hs5⟩
    rw [← t.map s hs5, look_last _ _ 2 root s (by simpa using hs5)]
    by_cases h0 : look L (L.length / 64) 2 root (s / 8) = 0
    · rw [h0]
      unfold ptrsL
      rw [if_pos rfl, nz_get]; exact Int.le_refl _
    · have := ptr_ge (okA_lk 3 root 2 (s / 8) t.ok (by decide) (by have : (8 : Nat) ^ 2 = 64 := rfl; omega) h0) (i := s % 8) (by omega)
      omega
  · intro x hx
    rw [tn] at hx
    obtain ⟨h0, d, q, hd3, hq, hl⟩ := nodL_mem.1 hx
    have := atIs_ne (okA_lk 3 root d q t.ok hd3 hq (by rw [hl]; exact h0))
    rw [hl] at this
    exact this
/-- A record is right. -/
def r8Ok (r : R8) : Bool := recOk r.nx r.id r.pa r.ro r.sz r.ki r.fr r.di
theorem rPar_ok {l : List Int} (h : rCode l = 0) : r8Ok (rPar l) = true := by
  unfold rPar
  rw [if_pos h]
  unfold rCode at h
  split at h
  · split at h
    · rename_i h2; exact h2
    · cases h
  · rename_i h1; exact absurd h h1
theorem r8_sz {r : R8} (h : r8Ok r = true) : 0 ≤ r.sz ∧ r.sz ≤ 512 := by
  have key : recIs r.nx r.id r.pa r.ro r.sz = true := by
    unfold r8Ok recOk at h
    split at h
    · rw [Bool.and_eq_true, Bool.and_eq_true] at h; exact h.1.1
    · split at h
      · rw [Bool.and_eq_true, Bool.and_eq_true] at h; exact h.1.1
      · cases h
  unfold recIs at key
  rw [Bool.and_eq_true] at key
  exact (inB_iff _ _ _).1 key.2
theorem fol_ok {L : List Int} {B : Nat} : ∀ (f : Nat) (a : Int) (l : List R8) (bs : List Int) (w : Nat), (∀ r ∈ l, r8Ok r = true) → (∀ x ∈ bs, 2 ≤ x ∧ x < (B : Int)) → l.length = bs.length → (∀ r ∈ (fol L B f a l bs w).1, r8Ok r = true) ∧ (∀ x ∈ (fol L B f a l bs w).2.1, 2 ≤ x ∧ x < (B : Int)) ∧ (fol L B f a l bs w).1.length = (fol L B f a l bs w).2.1.length ∧ (fol L B f a l bs w).2.1.length ≤ bs.length + f
  | 0, a, l, bs, w, h1, h2, h3 => ⟨h1, h2, h3, Nat.le_refl _⟩
  | f + 1, a, l, bs, w, h1, h2, h3 => by
    unfold fol
    split
    · exact ⟨h1, h2, h3, Nat.le_add_right _ _⟩
    split
    · exact ⟨h1, h2, h3, Nat.le_add_right _ _⟩
    rename_i ha hf
    split
    · exact ⟨h1, h2, h3, Nat.le_add_right _ _⟩
    rename_i hc
    rw [Bool.not_eq_true, Bool.or_eq_false_iff, bne_eq_false_iff_eq] at hc
    unfold folB at hf
    rw [Bool.not_eq_true, Bool.or_eq_false_iff, Bool.or_eq_false_iff, decide_eq_false_iff_not, decide_eq_false_iff_not] at hf
    have := fol_ok (L := L) (B := B) f (rPar (blkI L a.toNat)).nx (l ++ [rPar (blkI L a.toNat)]) (bs ++ [a]) (if (rPar (blkI L a.toNat)).ki == 0 then w + 1 else w) (fun r hr => by
      rcases List.mem_append.1 hr with g | g
      · exact h1 r g
      · rw [List.mem_singleton.1 g]; exact rPar_ok hc.1) (fun x hx => by
      rcases List.mem_append.1 hx with g | g
      · exact h2 x g
      · rw [List.mem_singleton.1 g]; omega) (by rw [List.length_append, List.length_append, h3]; rfl)
    refine ⟨this.1, this.2.1, this.2.2.1, ?_⟩
    have h4 := this.2.2.2
    rw [List.length_append, List.length_singleton] at h4
    omega
/-- The superblock that stands. -/
theorem pick_is {L : List Int} (h : (pickS L).2.2 = true) : ∃ i, i < 2 ∧ (pickS L).1 = sVal (blkI L i) ∧ (pickS L).2.1 = (i : Int) ∧ sCode (blkI L i) = 0 ∧ (pickS L).1.2.1 = ((L.length / 64 : Nat) : Int) := by
  have key : ∀ (st : S5 × Int × Bool) (i : Nat), i < 2 → (st.2.2 = true → ∃ i, i < 2 ∧ st.1 = sVal (blkI L i) ∧ st.2.1 = (i : Int) ∧ sCode (blkI L i) = 0 ∧ st.1.2.1 = ((L.length / 64 : Nat) : Int)) → ((pickStep L st i).2.2 = true → ∃ j, j < 2 ∧ (pickStep L st i).1 = sVal (blkI L j) ∧ (pickStep L st i).2.1 = (j : Int) ∧ sCode (blkI L j) = 0 ∧ (pickStep L st i).1.2.1 = ((L.length / 64 : Nat) : Int)) := by
    intro st i hi hs
    unfold pickStep
    split
    · rename_i hc
      rw [Bool.and_eq_true, beq_iff_eq, Bool.and_eq_true, beq_iff_eq] at hc
      exact fun _ => ⟨i, hi, rfl, rfl, hc.1, hc.2.1⟩
    · exact hs
  exact key _ 1 (by decide) (key _ 0 (by decide) (fun g => by cases g)) h
end Go.Proofs.Ytcbakhanpiemhaa
end
section
set_option linter.unusedVariables false
set_option linter.unusedSectionVars false
set_option maxRecDepth 100000
open Go Go.Am Go.RowKit
namespace Go.Proofs.Ytcbakhanpiemhaa
open Go.Proofs.Try
def bey (m : List Int) (k : Int) : Bool := (m.drop k.toNat).any (· != 0)
theorem beyondC_ok {h : Heap} {b : Int} : RunF prog 132 [.int .i64 b] h fun v h' => v = .bool (b != 0) ∧ Fr no h h' := by
  refine RunF.walk func132 rfl rfl ?_
  refine RunC.seq (RunC.region (RunO.all rfl ?_))
  exact RunC.seq (RunC.region (RunO.all rfl (RunC.ret ⟨_, rfl, rfl, Fr.refl _ _⟩)))
theorem openBeyond_ok {h : Heap} {mv : Value} {m : List Int} {k : Nat} (sl : Sl h mv 1 512 (is m)) (hm : m.length = 512) (hk : k ≤ 512) : RunF prog 106 [mv, .int .i64 (k : Int)] h fun v h' => v = .bool (bey m (k : Int)) ∧ Fr no h h' := by
  refine RunF.walk func106 rfl rfl ?_
  have sl0 := sl
  obtain ⟨A, c, rfl, _, _⟩ := sl.form
  refine RunC.seq (RunC.region (RunO.all rfl ?_))
  refine RunC.seq (RunC.region (RunO.part 2 rfl ?_))
  refine RunO.sliceSl (s := 1) (len := 512) rfl rfl rfl rfl rfl sl0 (.some _ _ _) (.none _) hk (Nat.le_refl _) rfl ?_
  intro tv st
  have hdl : (m.drop k).length = 512 - k := by rw [List.length_drop, hm]
  have st : Sl h tv 1 (m.drop k).length (is (m.drop k)) := by
    rw [hdl]
    rw [Nat.mul_one, Nat.mul_one] at st
    have e : is (m.drop k) = ((is m).drop k).take (512 - k) := by
      unfold is
      rw [← List.map_drop, List.take_of_length_le (by rw [List.length_map, hdl]; exact Nat.le_refl _)]
    rw [e]; exact st
  refine RunO.callD (containsI_ok st (u := fun j => .int .i64 ((m.drop k).getD j 0)) (cap := []) (fun j hj => ?_) (p := fun j => (m.drop k).getD j 0 != 0) (fun j hj h5 f5 => ?_) (by omega)) rfl rfl rfl ?_
  · rw [is_part hj, List.getD_eq_getElem?_getD, List.getElem?_eq_getElem hj]; rfl
  · exact beyondC_ok
  rintro _ h2 ⟨rfl, f2⟩
  rw [anyI_list (l := m.drop k) (q := (· != 0)) (fun j x hx => by rw [List.getD_eq_getElem?_getD, hx]; rfl)]
  exact RunO.all rfl (RunC.ret ⟨_, rfl, rfl, f2⟩)
/- What Look tells. -/
def lkS (L : List Int) : S5 := (pickS L).1
def lkF (L : List Int) : List R8 × List Int × Nat × Int := folOf L (lkS L).2.2.2.2
def lkR (L : List Int) : List (Int × Int) := ((lkS L).2.2.1, (lkS L).2.2.2.1) :: (lkF L).1.map fun r => (r.ro, r.sz)
def lkX (L : List Int) (p : Int × Int) : Bool := !treeOk L p.1 || bey (treeM L p.1) p.2
def lkT (L : List Int) : List (List Int × List Int) := (lkR L).map fun p => (treeM L p.1, treeN L p.1)
def clV (B : Nat) (bl : List Int) (T : List (List Int × List Int)) : Int := match (List.range B).find? (clP bl (T.map fun t => (0, t))) with
  | some i => (i : Int)
  | none => 0
def lkC (L : List Int) : Int := clV (L.length / 64) (lkF L).2.1 (lkT L)
def lkM (L : List Int) : Int × Int := match (lkR L).find? (lkX L) with
  | some p => (p.1, 6)
  | none => (lkC L, if lkC L = 0 then 0 else 6)
def lk (L : List Int) : Int × Int := if devOk L.length then (if (pickS L).2.2 then (if (lkF L).2.2.2 = 0 then lkM L else ((lkF L).2.2.2, 7)) else (0, 8)) else (0, 2)
/-- An open image in memory. -/
def LkR (lo : Nat) (h : Heap) (xb : Nat) (L : List Int) : Prop :=
  ∃ rv bv tv TL, lo ≤ xb ∧ Ow h xb (imc (lkS L) (pickS L).2.1 rv bv tv) ∧ Row lo h rv 8 (lkF L).1.length (recCs (lkF L).1) ∧ Row lo h bv 1 (lkF L).2.1.length (is (lkF L).2.1) ∧ Sl h tv 1 TL.length (tps TL) ∧ TL.map (·.2) = lkT L ∧ ∀ t ∈ TL, TrOk (L.length / 64) h t
theorem LkR.fr0 {lo : Nat} {h h' : Heap} {xb : Nat} {L : List Int} (r : LkR lo h xb L) (f : Fr no h h') : LkR lo h' xb L := by
  obtain ⟨rv, bv, tv, TL, h1, h2, h3, h4, h5, h6, h7⟩ := r
  exact ⟨rv, bv, tv, TL, h1, h2.fr f (fun g => g), h3.fr f (fun _ _ _ g => g), h4.fr f (fun _ _ _ g => g), h5.fr0 f, h6, fun t ht => (h7 t ht).fr0 f⟩
theorem clP_snd (bl : List Int) (TL : List Tr3) (j : Nat) : clP bl TL j = clP bl ((TL.map (·.2)).map fun t => (0, t)) j := by
  have e1 : isS TL j = isS ((TL.map (·.2)).map fun t => (0, t)) j := by
    unfold isS; rw [List.map_map, List.any_map]; rfl
  have e2 : isN TL j = isN ((TL.map (·.2)).map fun t => (0, t)) j := by
    unfold isN; rw [List.map_map, List.any_map]; rfl
  unfold clP
  rw [e1, e2]
/-- A tree's blocks, apart from what Look writes. -/
def TrW (B : Nat) (h : Heap) (xb : Nat) (tv : Value) (t : Tr3) : Prop :=
  ∃ iv mb nv, Ow h t.1 (wc iv B (.slice (some ⟨mb, 0, none⟩) 512 (exc 512)) nv false) ∧ Ow h mb (is t.2.1) ∧ Row 0 h nv 1 t.2.2.length (is t.2.2) ∧ t.2.1.length = 512 ∧ t.2.2.length ≤ 73 ∧ (∀ x ∈ t.2.1, 0 ≤ x ∧ x < (B : Int)) ∧ (∀ x ∈ t.2.2, 2 ≤ x ∧ x < (B : Int)) ∧
    (t.1 ≠ xb ∧ ¬ At tv t.1) ∧ (mb ≠ xb ∧ ¬ At tv mb) ∧ ∀ b, At nv b → b ≠ xb ∧ ¬ At tv b
theorem TrW.ok {B : Nat} {h : Heap} {xb : Nat} {tv : Value} {t : Tr3} (r : TrW B h xb tv t) : TrOk B h t := by
  obtain ⟨iv, mb, nv, h1, h2, h3, h4, h5, h6, h7, _⟩ := r
  exact ⟨iv, _, nv, h1, by rw [h4]; exact h2.all.sl (by rw [is_len, h4]) (by decide) (Cp.exc (Nat.le_refl _)), h3.sl (by omega), h4, by omega, h6, fun x hx => by have := h7 x hx; omega⟩
theorem TrW.step {B : Nat} {h h' : Heap} {xb : Nat} {tv tv' : Value} {t : Tr3} (r : TrW B h xb tv t) (f : Fr (fun b => b = xb ∨ At tv b) h h') (hn : ∀ b, At tv' b → h.next ≤ b) : TrW B h' xb tv' t := by
  obtain ⟨iv, mb, nv, h1, h2, h3, h4, h5, h6, h7, ⟨g1, g2⟩, ⟨g3, g4⟩, g5⟩ := r
  refine ⟨iv, mb, nv, h1.fr f (fun g => g.elim g1 g2), h2.fr f (fun g => g.elim g3 g4), h3.frm f (fun b g e => e.elim (g5 b g).1 (g5 b g).2), h4, h5, h6, h7, ⟨g1, fun g => ?_⟩, ⟨g3, fun g => ?_⟩, fun b g => ⟨(g5 b g).1, fun e => ?_⟩⟩
  · have := hn _ g; have := h1.1; omega
  · have := hn _ g; have := h2.1; omega
  · have := hn _ e; have := (h3.at g).2; omega
theorem idsG {lo s k n c kb tb : Nat} {h : Heap} {lv : Value} {cells : List Value} (r : Gr lo h lv s k cells) (h1 : ∀ b, At lv b → b ≠ kb) (h2 : tb ≠ kb) : fpOk (.wr (idsOf [lv, .slice (some ⟨tb, 0, none⟩) n c])) (.rd kb) = true := by
  have key : ∀ l : List Nat, ¬ kb ∈ l → memN kb l = false := by
    intro l
    induction l with
    | nil => intro _; rfl
    | cons x l ih =>
      intro g
      simp only [List.mem_cons, not_or] at g
      unfold memN
      rw [show Nat.beq kb x = false from by cases e : Nat.beq kb x with | false => rfl | true => exact absurd (Nat.eq_of_beq_eq_true e) g.1]
      simpa using ih g.2
  show (!memN kb _) = true
  rw [key]
  · rfl
  · rcases r.2 with ⟨rfl, _⟩ | ⟨b, _, _, rfl, _⟩
    · simp only [idsOf, List.mem_cons, List.not_mem_nil, or_false]
      omega
    · have := h1 b ⟨_, _, rfl⟩
      simp only [idsOf, List.mem_cons, List.not_mem_nil, or_false]
      omega
theorem find_first {α : Type} {p : α → Bool} : ∀ {l : List α} {i : Nat} (hi : i < l.length), (∀ j (hj : j < l.length), j < i → p l[j] = false) → p l[i] = true → l.find? p = some l[i]
  | x :: l, 0, hi, _, h => by
    have h : p x = true := h
    rw [List.find?_cons_of_pos h]; rfl
  | x :: l, i + 1, hi, ha, h => by
    have h0 : p x = false := ha 0 (Nat.zero_lt_succ _) (Nat.zero_lt_succ _)
    rw [List.find?_cons_of_neg (by rw [h0]; simp)]
    exact find_first (l := l) (i := i) (by simpa using hi) (fun j hj hji => ha (j + 1) (by simpa using hj) (by omega)) h
theorem clV_some {B : Nat} {bl : List Int} {TL : List Tr3} {i : Nat} (hi : i < B) (h : clP bl TL i = true) (hn : ∀ j, j < i → clP bl TL j = false) : clV B bl (TL.map (·.2)) = (i : Int) := by
  unfold clV
  have := find_first (p := clP bl ((TL.map (·.2)).map fun t => (0, t))) (l := List.range B) (i := i) (by rw [List.length_range]; exact hi) (fun j hj hji => by rw [List.getElem_range, ← clP_snd]; exact hn j hji) (by rw [List.getElem_range, ← clP_snd]; exact h)
  rw [this, List.getElem_range]
theorem clV_none {B : Nat} {bl : List Int} {TL : List Tr3} (hn : ∀ j, j < B → clP bl TL j = false) : clV B bl (TL.map (·.2)) = 0 := by
  unfold clV
  rw [List.find?_eq_none.2 (fun j hj => by rw [← clP_snd, hn j (List.mem_range.1 hj)]; simp)]
theorem clP_zero {bl : List Int} {TL : List Tr3} (hb : ∀ x ∈ bl, 2 ≤ x) (hn : ∀ t ∈ TL, ∀ x ∈ t.2.2, 2 ≤ x) : clP bl TL 0 = false := by
  have e1 : isS TL 0 = false := by
    unfold isS
    rw [List.any_eq_false]
    intro t _; simp
  have e2 : isN TL 0 = false := by
    unfold isN
    rw [List.any_eq_false]
    intro t ht g
    have := hn t ht _ (List.contains_iff_mem.1 g)
    omega
  unfold clP
  rw [e1, e2]; rfl
theorem Gr.ge {lo s n : Nat} {h : Heap} {v : Value} {cells : List Value} (r : Gr lo h v s n cells) : ∀ b o m c, v = .slice (some ⟨b, o, none⟩) m c → lo ≤ b := by
  intro b o m c e
  rcases r.2 with ⟨rfl, _⟩ | ⟨b', c', h1, rfl, _, _⟩
  · cases e
  · cases e; exact h1
theorem ix_at {l : List Int} {i : Nat} {x : Int} (h : l[i]? = some x) : apart prog 3 (is l) (i * 1) = some (.int .i64 x) := by
  have hi : i < l.length := (List.getElem?_eq_some_iff.1 h).1
  have hx : l[i] = x := (List.getElem?_eq_some_iff.1 h).2
  rw [is_part hi, hx]
theorem TrW.fr0 {B : Nat} {h h' : Heap} {xb : Nat} {tv : Value} {t : Tr3} (r : TrW B h xb tv t) (f : Fr no h h') : TrW B h' xb tv t := by
  obtain ⟨iv, mb, nv, h1, h2, h3, h4, h5, h6, h7, h8⟩ := r
  exact ⟨iv, mb, nv, h1.fr f (fun g => g), h2.fr f (fun g => g), h3.fr f (fun _ _ _ g => g), h4, h5, h6, h7, h8⟩
end Go.Proofs.Ytcbakhanpiemhaa
end
section
set_option linter.unusedVariables false
set_option linter.unusedSectionVars false
set_option maxRecDepth 100000
open Go Go.Am Go.RowKit
namespace Go.Proofs.Ytcbakhanpiemhaa
open Go.Proofs.Try
theorem lkS_sz {L : List Int} (h : (pickS L).2.2 = true) : 0 ≤ (lkS L).2.2.2.1 ∧ (lkS L).2.2.2.1 ≤ 512 := by
  obtain ⟨i, hi, e, _, hc, _⟩ := pick_is h
  unfold lkS
  rw [e]
  unfold sVal
  rw [if_pos hc]
  unfold sCode at hc
  split at hc
  · split at hc
    · rename_i h2
      exact ((superOk_iff _ _ _ _ _).1 h2).2.2.1
    · cases hc
  · rename_i h1; exact absurd hc h1
theorem lkR_sz {L : List Int} (h : (pickS L).2.2 = true) : ∀ p ∈ lkR L, 0 ≤ p.2 ∧ p.2 ≤ 512 := by
  intro p hp
  rcases List.mem_cons.1 hp with e | g
  · rw [e]; exact lkS_sz h
  · obtain ⟨r, hr, rfl⟩ := List.mem_map.1 g
    have := (fol_ok (L := L) (B := L.length / 64) (L.length / 64) (lkS L).2.2.2.2 [] [] 0 (fun r h => absurd h List.not_mem_nil) (fun x h => absurd h List.not_mem_nil) rfl).1 r hr
    exact r8_sz this
set_option maxHeartbeats 64000000 in
theorem openLook_ok {h : Heap} {iv : Value} {L : List Int} (sl : Sl h iv 1 L.length (us L)) (hb : Byt L) (hm : L.length ≤ 4611686018427387904) :
    RunF prog 73 [iv] h fun v h' => Fr no h h' ∧ (((lk L).2 = 0 ∧ ∃ xb, v = .tuple #[.pointer (some ⟨xb, 0, none⟩), .int .i64 0, .int .i64 0] ∧ LkR h.next h' xb L) ∨ ((lk L).2 ≠ 0 ∧ v = .tuple #[.pointer none, .int .i64 (lk L).1, .int .i64 (lk L).2])) := by
  refine RunF.walk func73 rfl rfl ?_
  have sl0 := sl
  obtain ⟨A, c, rfl, hc, hA⟩ := sl.form
  have hlk : lk L = if devOk L.length then (if (pickS L).2.2 then (if (lkF L).2.2.2 = 0 then lkM L else ((lkF L).2.2.2, 7)) else (0, 8)) else (0, 2) := rfl
  refine RunC.seq (RunC.region (RunO.all rfl ?_))
  refine RunC.seq (RunC.region (RunO.part 1 rfl ?_))
  refine RunO.callD (devCheck_ok hm) rfl rfl rfl ?_
  rintro _ _ ⟨rfl, rfl⟩
  refine RunO.all rfl ?_
  cases hd : devOk L.length with
  | false =>
    rw [hd, if_neg Bool.false_ne_true] at hlk
    rw [hlk]
    refine RunC.seq (RunC.seq (RunC.region (RunO.all rfl (RunC.cond rfl (fun _ => ?_) (fun g => by cases g)))))
    exact RunC.seq (RunC.region (RunO.all rfl (RunC.ret ⟨_, rfl, Fr.refl _ _, .inr ⟨by decide, rfl⟩⟩)))
  | true =>
  rw [hd, if_pos rfl] at hlk
  have hdl : L.length % 64 = 0 ∧ 4 ≤ L.length / 64 ∧ L.length / 64 ≤ 4096 := by
    unfold devOk at hd
    simpa using hd
  obtain ⟨B, hB⟩ : ∃ B, B = L.length / 64 := ⟨_, rfl⟩
  rw [if_pos rfl, if_pos rfl, ← hB]
  refine RunC.seq (RunC.seq (RunC.region (RunO.all rfl (RunC.cond rfl (fun g => by cases g) (fun _ => RunC.skip ?_)))))
  -- the image's struct
  refine RunC.seq (RunC.region (RunO.all (h1 := h.push ⟨imc (0, 0, 0, 0, 0) 0 (.slice none 0 0) (.slice none 0 0) (.slice none 0 0), true⟩) rfl ?_))
  have ox := Ow.push h (imc (0, 0, 0, 0, 0) 0 (.slice none 0 0) (.slice none 0 0) (.slice none 0 0))
  have f1 : Fr no h (h.push ⟨imc (0, 0, 0, 0, 0) 0 (.slice none 0 0) (.slice none 0 0) (.slice none 0 0), true⟩) := Fr.push _ _ _
  generalize h.push ⟨imc (0, 0, 0, 0, 0) 0 (.slice none 0 0) (.slice none 0 0) (.slice none 0 0), true⟩ = h1 at *
  obtain ⟨xb, hxb⟩ : ∃ q, q = h.next := ⟨_, rfl⟩
  rw [← hxb] at ox ⊢
  -- the superblock
  refine RunC.seq (RunC.region (RunO.part 3 rfl ?_))
  refine RunO.callD (superPick_ok (fun g => by obtain ⟨b, o, e, rd⟩ := hA (by omega); exact ⟨_, e, rd.fr f1 (fun g => g)⟩) hb hc hm) rfl rfl rfl ?_
  rintro _ h2 ⟨rfl, f2⟩
  have hpc : pickCode L = if (pickS L).2.2 then 0 else 8 := by unfold pickCode; rw [hd, if_pos rfl]
  replace ox := ox.fr f2 (fun g => g)
  have F2 := f1.same f2
  cases hpk : (pickS L).2.2 with
  | false =>
    rw [hpk, if_neg Bool.false_ne_true] at hpc hlk
    rw [hpc, hlk]
    refine RunO.part 7 rfl ?_
    refine RunO.store rfl rfl (store_ow (s := 5) ox rfl rfl rfl (Nat.le_of_ble_eq_true rfl)) ?_
    have ox2 : Ow (h2.put xb (some ⟨imc (0, 0, 0, 0, 0) 0 (.slice none 0 0) (.slice none 0 0) (.slice none 0 0), true⟩)) xb (imc (0, 0, 0, 0, 0) 0 (.slice none 0 0) (.slice none 0 0) (.slice none 0 0)) := Ow.put _ ox.1
    have g2 : Fr no h (h2.put xb (some ⟨imc (0, 0, 0, 0, 0) 0 (.slice none 0 0) (.slice none 0 0) (.slice none 0 0), true⟩)) := F2.trans (Fr.put (m := (· = xb)) _ (.inl rfl)) (fun b e => .inr (by omega))
    show RunO prog _ _ _ _ (h2.put xb (some ⟨imc (0, 0, 0, 0, 0) 0 (.slice none 0 0) (.slice none 0 0) (.slice none 0 0), true⟩)) _
    generalize h2.put xb (some ⟨imc (0, 0, 0, 0, 0) 0 (.slice none 0 0) (.slice none 0 0) (.slice none 0 0), true⟩) = h3 at *
    refine RunO.part 3 rfl ?_
    refine RunO.store rfl rfl (store1_ow ox2 rfl rfl rfl (Nat.le_of_ble_eq_true rfl)) ?_
    have g3 : ∀ x, Fr no h (h3.put xb x) := fun x => g2.trans (Fr.put (m := (· = xb)) _ (.inl rfl)) (fun b e => .inr (by omega))
    refine RunO.all rfl ?_
    refine RunC.seq (RunC.seq (RunC.region (RunO.all rfl (RunC.cond rfl (fun _ => ?_) (fun g => by cases g)))))
    exact RunC.seq (RunC.region (RunO.all rfl (RunC.ret ⟨_, rfl, g3 _, .inr ⟨by decide, rfl⟩⟩)))
  | true =>
  rw [hpk, if_pos rfl] at hpc hlk
  rw [hpc, if_pos rfl, if_pos rfl]
  have hsz := lkR_sz hpk
  have hlkF : lkF L = folOf L (lkS L).2.2.2.2 := rfl
  have hS : (pickS L).1 = lkS L := rfl
  rw [hS]
  obtain ⟨s, hs⟩ : ∃ s, s = lkS L := ⟨_, rfl⟩
  obtain ⟨slot, hsl⟩ : ∃ s, s = (pickS L).2.1 := ⟨_, rfl⟩
  rw [← hs] at hlkF ⊢
  rw [← hsl]
  refine RunO.part 7 rfl ?_
  refine RunO.store rfl rfl (store_ow (s := 5) ox rfl rfl rfl (Nat.le_of_ble_eq_true rfl)) ?_
  have ox2 : Ow (h2.put xb (some ⟨imc s 0 (.slice none 0 0) (.slice none 0 0) (.slice none 0 0), true⟩)) xb (imc s 0 (.slice none 0 0) (.slice none 0 0) (.slice none 0 0)) := Ow.put _ ox.1
  have F3 : Fr no h (h2.put xb (some ⟨imc s 0 (.slice none 0 0) (.slice none 0 0) (.slice none 0 0), true⟩)) := F2.trans (Fr.put (m := (· = xb)) _ (.inl rfl)) (fun b e => .inr (by omega))
  show RunO prog _ _ _ _ (h2.put xb (some ⟨imc s 0 (.slice none 0 0) (.slice none 0 0) (.slice none 0 0), true⟩)) _
  generalize h2.put xb (some ⟨imc s 0 (.slice none 0 0) (.slice none 0 0) (.slice none 0 0), true⟩) = h3 at *
  refine RunO.part 3 rfl ?_
  refine RunO.store rfl rfl (store1_ow ox2 rfl rfl rfl (Nat.le_of_ble_eq_true rfl)) ?_
  have ox3 : Ow (h3.put xb (some ⟨imc s slot (.slice none 0 0) (.slice none 0 0) (.slice none 0 0), true⟩)) xb (imc s slot (.slice none 0 0) (.slice none 0 0) (.slice none 0 0)) := Ow.put _ ox2.1
  have F4 : Fr no h (h3.put xb (some ⟨imc s slot (.slice none 0 0) (.slice none 0 0) (.slice none 0 0), true⟩)) := F3.trans (Fr.put (m := (· = xb)) _ (.inl rfl)) (fun b e => .inr (by omega))
  show RunO prog _ _ _ _ (h3.put xb (some ⟨imc s slot (.slice none 0 0) (.slice none 0 0) (.slice none 0 0), true⟩)) _
  generalize h3.put xb (some ⟨imc s slot (.slice none 0 0) (.slice none 0 0) (.slice none 0 0), true⟩) = h4 at *
  clear ox ox2 F3 F2
  refine RunO.all rfl ?_
  refine RunC.seq (RunC.seq (RunC.region (RunO.all rfl (RunC.cond rfl (fun g => by cases g) (fun _ => RunC.skip ?_)))))
  -- the records
  refine RunC.seq (RunC.region (RunO.part 6 rfl ?_))
  refine RunO.load (v := .int .i64 s.2.2.2.2) rfl (ox3.ld rfl) rfl ?_
  refine RunO.callD (openFollow_ok (a := s.2.2.2.2) (sl0.fr0 F4) hb hd) rfl rfl rfl ?_
  rintro _ h5 ⟨f5, kb, rfl, lv, bv, hkb, ok, rl, rb⟩
  have hkx : xb < h4.next := ox3.1
  replace ox3 := ox3.fr f5 (fun g => g)
  have F5 := F4.same f5
  rw [← hlkF] at ok rl rb
  -- more
  obtain ⟨lr, hlr⟩ : ∃ x, x = (lkF L).1 := ⟨_, rfl⟩
  obtain ⟨lb, hlb⟩ : ∃ x, x = (lkF L).2.1 := ⟨_, rfl⟩
  have hff := fol_ok (L := L) (B := L.length / 64) (L.length / 64) s.2.2.2.2 [] [] 0 (fun r h => absurd h List.not_mem_nil) (fun x h => absurd h List.not_mem_nil) rfl
  have hff : (∀ x ∈ lb, 2 ≤ x ∧ x < (B : Int)) ∧ lr.length = lb.length ∧ lb.length ≤ B := by
    rw [hlr, hlb, hlkF, hB]
    unfold folOf
    refine ⟨hff.2.1, hff.2.2.1, ?_⟩
    have := hff.2.2.2
    simpa using this
  obtain ⟨hlbr, hlrl, hlbl⟩ := hff
  rw [← hlr] at rl
  rw [← hlb] at rb
  have slr := rl.sl (by omega)
  obtain ⟨lA, lc, rfl, _, _⟩ := slr.form
  refine RunO.all rfl ?_
  refine RunC.seq (RunC.seq (RunC.region (RunO.part 3 rfl ?_)))
  refine RunO.load (v := .int .i64 (lkF L).2.2.2) rfl (ok.ld rfl) rfl (RunO.all rfl ?_)
  by_cases hbad : (lkF L).2.2.2 = 0
  case neg =>
    rw [if_neg hbad] at hlk
    rw [hlk, show ((lkF L).2.2.2 != 0) = true from bne_iff_ne.2 hbad]
    refine RunC.cond rfl (fun _ => ?_) (fun g => by cases g)
    refine RunC.seq (RunC.draw0 rfl (RunO.part 3 rfl ?_))
    refine RunO.load (v := .int .i64 (lkF L).2.2.2) rfl (ok.ld rfl) rfl (RunO.all rfl ?_)
    exact RunC.ret ⟨_, rfl, F5, .inr ⟨by show (7 : Int) ≠ 0; decide, rfl⟩⟩
  rw [if_pos hbad] at hlk
  rw [show ((lkF L).2.2.2 != 0) = false from by rw [hbad]; rfl]
  refine RunC.cond rfl (fun g => by cases g) (fun _ => RunC.skip ?_)
  have hkk : kb ≠ xb := by omega
  have hlx : ∀ b, At (.slice lA lr.length lc) b → b ≠ xb := fun b g => by have := (rl.at g).1; omega
  have hbx : ∀ b, At bv b → b ≠ xb := fun b g => by have := (rb.at g).1; omega
  refine RunC.seq (RunC.draw0 rfl (RunO.part 5 rfl ?_))
  refine RunO.load (v := .slice lA lr.length lc) rfl (ok.ld rfl) rfl ?_
  refine RunO.part 3 rfl ?_
  refine RunO.load (v := bv) rfl (ok.ld rfl) rfl ?_
  refine RunO.part 3 rfl ?_
  refine RunO.store rfl rfl (store1_ow ox3 rfl (rl.cell).1 (rl.cell).2 (Nat.le_of_ble_eq_true rfl)) ?_
  have ox4 : Ow (h5.put xb (some ⟨imc s slot (.slice lA lr.length lc) (.slice none 0 0) (.slice none 0 0), true⟩)) xb (imc s slot (.slice lA lr.length lc) (.slice none 0 0) (.slice none 0 0)) := Ow.put _ ox3.1
  have fp1 : Fr (· = xb) h5 (h5.put xb (some ⟨imc s slot (.slice lA lr.length lc) (.slice none 0 0) (.slice none 0 0), true⟩)) := Fr.put _ (.inl rfl)
  show RunO prog _ _ _ _ (h5.put xb (some ⟨imc s slot (.slice lA lr.length lc) (.slice none 0 0) (.slice none 0 0), true⟩)) _
  generalize h5.put xb (some ⟨imc s slot (.slice lA lr.length lc) (.slice none 0 0) (.slice none 0 0), true⟩) = h6 at *
  refine RunO.part 2 rfl ?_
  refine RunO.store rfl rfl (store1_ow ox4 rfl (rb.cell).1 (rb.cell).2 (Nat.le_of_ble_eq_true rfl)) (RunO.nil ?_)
  have ox5 : Ow (h6.put xb (some ⟨imc s slot (.slice lA lr.length lc) bv (.slice none 0 0), true⟩)) xb (imc s slot (.slice lA lr.length lc) bv (.slice none 0 0)) := Ow.put _ ox4.1
  have fp2 : Fr (· = xb) h6 (h6.put xb (some ⟨imc s slot (.slice lA lr.length lc) bv (.slice none 0 0), true⟩)) := Fr.put _ (.inl rfl)
  show RunC prog _ _ _ (h6.put xb (some ⟨imc s slot (.slice lA lr.length lc) bv (.slice none 0 0), true⟩)) _ _ _
  generalize h6.put xb (some ⟨imc s slot (.slice lA lr.length lc) bv (.slice none 0 0), true⟩) = h7 at *
  have fp := fp1.same fp2
  replace ok := ok.fr fp hkk
  replace rl := rl.frm fp (fun b g e => hlx b g e)
  replace rb := rb.frm fp (fun b g e => hbx b g e)
  have F7 : Fr no h h7 := F5.trans fp (fun b e => .inr (by have e : b = xb := e; omega))
  clear ox3 ox4 fp1 fp2 fp F5 F4 slr
  have slr := rl.sl (by omega)
  -- the roots, the sizes
  refine RunC.seq (RunC.draw0 rfl (RunO.part 5 rfl ?_))
  refine RunO.load (v := .int .i64 s.2.2.1) rfl (ox5.ld rfl) rfl ?_
  refine RunO.part 1 (h1 := h7.push ⟨is [s.2.2.1], true⟩) rfl ?_
  have or := Ow.push h7 (is [s.2.2.1])
  have f8 : Fr no h7 (h7.push ⟨is [s.2.2.1], true⟩) := Fr.push _ _ _
  generalize h7.push ⟨is [s.2.2.1], true⟩ = h8 at *
  have hxq := ox5.1
  obtain ⟨rq, hrq⟩ : ∃ q, q = h7.next := ⟨_, rfl⟩
  rw [← hrq] at or ⊢
  have hr8 := or.1
  refine RunO.part 5 rfl ?_
  refine RunO.load (v := .int .i64 s.2.2.2.1) rfl ((ox5.fr f8 (fun g => g)).ld rfl) rfl ?_
  refine RunO.part 1 (h1 := h8.push ⟨is [s.2.2.2.1], true⟩) rfl ?_
  have oz := Ow.push h8 (is [s.2.2.2.1])
  have f9 : Fr no h8 (h8.push ⟨is [s.2.2.2.1], true⟩) := Fr.push _ _ _
  replace or := or.fr f9 (fun g => g)
  generalize h8.push ⟨is [s.2.2.2.1], true⟩ = h9 at *
  obtain ⟨zq, hzq⟩ : ∃ q, q = h8.next := ⟨_, rfl⟩
  rw [← hzq] at oz ⊢
  refine RunO.all rfl ?_
  have f79 := f8.same f9
  have hR : lkR L = (s.2.2.1, s.2.2.2.1) :: lr.map fun r => (r.ro, r.sz) := by rw [hlr, hs]; rfl
  have hRl : (lkR L).length = lr.length + 1 := by rw [hR, List.length_cons, List.length_map]
  have hRg : ∀ i (hi : i < lr.length), (lkR L).take (i + 1 + 1) = (lkR L).take (i + 1) ++ [(lr[i].ro, lr[i].sz)] := fun i hi => by
    rw [List.take_succ_eq_append_getElem (by omega)]
    congr 2
    simp [hR]
  obtain ⟨RS, hRS⟩ : ∃ x, x = lkR L := ⟨_, rfl⟩
  have hR1 : RS.take 1 = [(s.2.2.1, s.2.2.2.1)] := by rw [hRS, hR]; rfl
  rw [← hRS] at hRl hRg hsz
  refine RunC.seq ?_
  refine RunC.seq (RunC.region (RunO.part 3 rfl ?_))
  refine RunO.load (v := .slice lA lr.length lc) rfl ((ok.fr f79 (fun g => g)).ld rfl) rfl (RunO.all rfl ?_)
  refine RunC.block ?_
  refine RunC.loop (fun d E h' => ∃ (i : Nat) (rov zov : Value), i + d = lr.length ∧ Gr rq h' rov 1 (i + 1) (is ((RS.take (i + 1)).map (·.1))) ∧ Gr rq h' zov 1 (i + 1) (is ((RS.take (i + 1)).map (·.2))) ∧ (∀ b, At rov b → ¬ At zov b) ∧ Fr no h7 h' ∧ rq < h'.next ∧
    Le ((upd (upd (upd (upd (upd (upd (upd (upd E0 0 (.slice A L.length c)) 2 (.pointer (some ⟨xb, 0, none⟩))) 5 (.int .i64 (B : Int))) 91 (.slice lA lr.length lc)) 92 (.int .i64 (lr.length : Int))) 7 (rov)) 8 (zov)) 93 (.int .i64 (i : Int)))) E) ?st1 (k := lr.length) ?ini1
  case ini1 =>
    refine ⟨0, .slice (some ⟨rq, 0, none⟩) 1 (exc 1), .slice (some ⟨zq, 0, none⟩) 1 (exc 1), by omega, ?_, ?_, ?_, f79, or.1, Le.cons rfl (Le.cons rfl (Le.cons rfl (Le.cons rfl (Le.cons rfl (Le.cons rfl (Le.cons rfl (Le.cons rfl (Le.nil _))))))))⟩
    · rw [hR1]; exact Gr.full or rfl (Nat.le_refl _)
    · rw [hR1]; exact Gr.full oz rfl (by omega)
    · rintro b ⟨_, _, e⟩ ⟨_, _, e2⟩
      injection e with e
      injection e with e
      injection e with e
      injection e2 with e2
      injection e2 with e2
      injection e2 with e2
      omega
  rintro d E g1 ⟨i, rov, zov, hi, gr, gz, hrz, fg, hrg, hE⟩
  refine RunC.le hE ?_
  clear hE
  refine RunC.seq (RunC.region (RunO.all rfl ?_))
  refine RunC.seq (RunC.cond rfl (fun hlt => RunC.skip ?go1) (fun hge => RunC.exit ?ex1))
  case go1 =>
    have hlt := of_decide_eq_true hlt
    have hlt : i < lr.length := by omega
    have hgi := hRg i hlt
    have hpt := recCs_part hlt
    generalize lr[i] = r at *
    refine RunC.seq (RunC.block ?_)
    refine RunC.seq (RunC.region ?_)
    refine RunO.at (s := 8) (k := i) rfl rfl (slr.fr0 fg) rfl rfl hlt hpt rfl rfl rfl ?_
    refine RunO.part 1 (h1 := g1.push ⟨rc8 ⟨0, 0, 0, 0, 0, 0, 0, 0⟩, true⟩) rfl ?_
    refine RunO.store rfl rfl (store_ow (s := 8) (Ow.push g1 (rc8 ⟨0, 0, 0, 0, 0, 0, 0, 0⟩)) rfl rfl rfl (Nat.le_refl 8)) (RunO.nil ?_)
    have e8 : (rc8 ⟨0, 0, 0, 0, 0, 0, 0, 0⟩).take 0 ++ cellsOf (.agg ⟨rc8 r⟩) ++ (rc8 ⟨0, 0, 0, 0, 0, 0, 0, 0⟩).drop (0 + 8) = rc8 r := rfl
    rw [e8]
    have on : Ow ((g1.push ⟨rc8 ⟨0, 0, 0, 0, 0, 0, 0, 0⟩, true⟩).put g1.next (some ⟨rc8 r, true⟩)) g1.next (rc8 r) := Ow.put _ (Nat.lt_succ_self _)
    have f2 : Fr no g1 ((g1.push ⟨rc8 ⟨0, 0, 0, 0, 0, 0, 0, 0⟩, true⟩).put g1.next (some ⟨rc8 r, true⟩)) := (Fr.push _ _ _).trans (Fr.put (m := (· = g1.next)) _ (.inl rfl)) (fun j hj => .inr (by omega))
    have hrx : ∀ b, At rov b → rq ≤ b ∧ b < g1.next := fun b g => gr.at g
    have hzx : ∀ b, At zov b → rq ≤ b ∧ b < g1.next := fun b g => gz.at g
    replace gr := gr.fr0 f2
    replace gz := gz.fr0 f2
    have fg2 := fg.same f2
    generalize (g1.push ⟨rc8 ⟨0, 0, 0, 0, 0, 0, 0, 0⟩, true⟩).put g1.next (some ⟨rc8 r, true⟩) = g2 at *
    obtain ⟨pb, hpb⟩ : ∃ q, q = g1.next := ⟨_, rfl⟩
    rw [← hpb] at on hrx hzx ⊢
    have hpr : ¬ At rov pb := fun g => by have := hrx pb g; omega
    have hpz : ¬ At zov pb := fun g => by have := hzx pb g; omega
    refine RunC.drawW (fun b => At rov b ∨ At zov b) (p := (4, 7)) (ps := []) rfl ?_
    refine RunW.pure rfl rfl (fun _ => rfl) rfl ?_
    refine RunW.pure rfl rfl (fun _ => rfl) rfl ?_
    refine RunW.load (v := .int .i64 r.ro) rfl rfl (on.ld rfl) rfl ?_
    refine RunW.new (ob := ⟨is [r.ro], true⟩) rfl rfl (fun _ => rfl) rfl ?_
    have ot := Ow.push g2 (is [r.ro])
    have f3 : Fr no g2 (g2.push ⟨is [r.ro], true⟩) := Fr.push _ _ _
    have gr3 := gr.fr0 f3
    have gz3 := gz.fr0 f3
    have on3 := on.fr f3 (fun g => g)
    have hpl2 := on.1
    generalize g2.push ⟨is [r.ro], true⟩ = g3 at *
    obtain ⟨tb, htb⟩ : ∃ q, q = (g2.lo g2.next).next := ⟨_, rfl⟩
    have htb2 : tb = g2.next := htb
    rw [← htb]
    rw [← htb2] at ot hpl2
    refine RunW.appendG (s := 1) (j := 1) rfl rfl rfl rfl rfl rfl rfl rfl rfl (by decide) gr3 ot.all rfl (Nat.le_refl 1) rfl (by show 2 * (_ + 1) * 8 ≤ _; omega) (by omega) (fun b g => .inl g) ?_
    intro rov2 g4 r4 f4
    have on4 := on3.fr f4 hpr
    have gz4 := gz3.frm f4 (fun b g e => hrz b e g)
    refine RunW.pure rfl rfl (fun _ => rfl) rfl ?_
    refine RunW.pure rfl rfl (fun _ => rfl) rfl ?_
    refine RunW.load (v := .int .i64 r.sz) rfl rfl (on4.ld rfl) rfl ?_
    refine RunW.new (ob := ⟨is [r.sz], true⟩) rfl rfl (fun _ => rfl) rfl ?_
    have ot2 := Ow.push g4 (is [r.sz])
    have f5 : Fr no g4 (g4.push ⟨is [r.sz], true⟩) := Fr.push _ _ _
    have r5 := r4.gr.fr0 f5
    have gz5 := gz4.fr0 f5
    have hn5 : g4.next < (g4.push ⟨is [r.sz], true⟩).next := ot2.1
    generalize g4.push ⟨is [r.sz], true⟩ = g5 at *
    refine RunW.appendG (s := 1) (j := 1) rfl rfl rfl rfl rfl rfl rfl rfl rfl (by decide) gz5 ot2.all rfl (Nat.le_refl 1) rfl (by show 2 * (_ + 1) * 8 ≤ _; omega) (by omega) (fun b g => .inr g) ?_
    intro zov2 g6 z6 f6
    have hr2 : ∀ b, At rov2 b → g3.next ≤ b ∧ b < g4.next := fun b g => r4.at g
    have hz2 : ∀ b, At zov2 b → g5.next ≤ b ∧ b < g6.next := fun b g => z6.at g
    have hzo : ∀ b, At zov b → b < g3.next := fun b g => (gz3.at g).2
    have r6 := r5.frm f6 (fun b g e => by have := hr2 b g; have := hzo b e; omega)
    have hn3 : g2.next ≤ g3.next := f3.next
    have hn4 := f4.next
    have hn6 := f6.next
    have hn2 := f2.next
    refine RunW.pure rfl rfl (fun _ => rfl) rfl ?_
    refine RunW.pure rfl rfl (fun _ => rfl) rfl ?_
    refine RunW.nil ⟨?_, fun lw F => ?_⟩
    · show cond (fpOk (.wr (idsOf [rov, .slice (some ⟨tb, 0, none⟩) 1 (exc 1)])) (.rd pb)) true false = true
      rw [idsG gr3 (fun b g e => hpr (by rw [← e]; exact g)) (by omega)]; rfl
    have f27 : Fr no h7 (g6.lo lw) := fg2.trans F (fun b g => .inr (by rcases g with g | g; have := hrx b g; omega; have := hzx b g; omega))
    refine RunC.region (RunO.all rfl ?_)
    refine ⟨d - 1, by omega, i + 1, rov2, zov2, by omega, ?_, ?_, ?_, f27, ?_, Le.cons (inc64 (by omega)) (Le.cons rfl (Le.cons rfl (Le.cons rfl (Le.cons rfl (Le.cons rfl (Le.cons rfl (Le.cons rfl (Le.nil _))))))))⟩
    · have e1 : is ((RS.take (i + 1)).map (·.1)) ++ is [r.ro] = is ((RS.take (i + 1 + 1)).map (·.1)) := by
        rw [hgi, List.map_append]; exact (List.map_append ..).symm
      have q : Gr g3.next (g6.lo lw) rov2 1 (i + 1 + 1) (is ((RS.take (i + 1)).map (·.1)) ++ is [r.ro]) := r6
      rw [e1] at q
      exact q.lo (by omega)
    · have e1 : is ((RS.take (i + 1)).map (·.2)) ++ is [r.sz] = is ((RS.take (i + 1 + 1)).map (·.2)) := by
        rw [hgi, List.map_append]; exact (List.map_append ..).symm
      have q : Gr g5.next (g6.lo lw) zov2 1 (i + 1 + 1) (is ((RS.take (i + 1)).map (·.2)) ++ is [r.sz]) := z6.gr
      rw [e1] at q
      exact q.lo (by omega)
    · intro b x y
      have := hr2 b x; have := hz2 b y; omega
    · show rq < g6.next; omega
  have hge1 := of_decide_eq_false hge
  obtain rfl : i = lr.length := by omega
  have hRt : RS.take (lr.length + 1) = RS := List.take_of_length_le (by omega)
  rw [hRt] at gr gz
  have grge := Gr.ge gr
  have gzge := Gr.ge gz
  have slro := gr.sl (by omega)
  have slzo := gz.sl (by omega)
  obtain ⟨rA, rc_, rfl, _, _⟩ := slro.form
  obtain ⟨zA, zc, rfl, _, _⟩ := slzo.form
  have ox6 := ox5.fr fg (fun g => g)
  have hxg : xb < g1.next := ox6.1
  have rl6 := rl.fr fg (fun _ _ _ g => g)
  have rb6 := rb.fr fg (fun _ _ _ g => g)
  have F8 := F7.same fg
  clear ox5 f79 or oz
  -- the trees
  refine RunC.seq ?_
  refine RunC.seq (RunC.region (RunO.all rfl ?_))
  refine RunC.block ?_
  refine RunC.loop (fun d E h' => ∃ (i : Nat) (TL : List Tr3) (tv : Value), i + d = lr.length + 1 ∧ TL.length = i ∧ TL.map (·.2) = (RS.take i).map (fun p => (treeM L p.1, treeN L p.1)) ∧ (∀ j (hj : j < RS.length), j < i → lkX L RS[j] = false) ∧ (∀ t ∈ TL, TrW B h' xb tv t) ∧
      Ow h' xb (imc s slot (.slice lA lr.length lc) bv tv) ∧ Row g1.next h' tv 1 TL.length (tps TL) ∧ Fr (· = xb) g1 h' ∧
    Le ((upd (upd (upd (upd (upd (upd (upd E0 0 (.slice A L.length c)) 2 (.pointer (some ⟨xb, 0, none⟩))) 5 (.int .i64 (B : Int))) 8 (.slice zA (lr.length + 1) zc)) 108 (.slice rA (lr.length + 1) rc_)) 109 (.int .i64 ((lr.length + 1 : Nat) : Int))) 110 (.int .i64 (i : Int)))) E) ?st2 (k := lr.length + 1) ?ini2
  case ini2 => exact ⟨0, [], _, by omega, rfl, rfl, fun j _ hj => absurd hj (Nat.not_lt_zero _), fun t ht => absurd ht List.not_mem_nil, ox6, Row.nil _ _ _, Fr.refl _ _, Le.cons rfl (Le.cons rfl (Le.cons rfl (Le.cons rfl (Le.cons rfl (Le.cons rfl (Le.cons rfl (Le.nil _)))))))⟩
  rintro d2 E g2 ⟨i, TL, tv, hi2, hTl, hTm, hX, hTW, ox, rt, fg2, hE⟩
  refine RunC.le hE ?_
  clear hE
  refine RunC.seq (RunC.region (RunO.all rfl ?_))
  refine RunC.seq (RunC.cond rfl (fun hlt => RunC.skip ?go2) (fun hge => RunC.exit ?ex2))
  case go2 =>
    have hlt := of_decide_eq_true hlt
    have hlt : i < lr.length + 1 := by omega
    have hiR : i < RS.length := by omega
    have slr2 : Sl g2 (.slice rA (lr.length + 1) rc_) 1 (lr.length + 1) (is (RS.map (·.1))) := slro.frm (fun b o c_ e g => by have g : b = xb := g; have := grge b o _ c_ e; omega) fg2
    have slz2 : Sl g2 (.slice zA (lr.length + 1) zc) 1 (lr.length + 1) (is (RS.map (·.2))) := slzo.frm (fun b o c_ e g => by have g : b = xb := g; have := gzge b o _ c_ e; omega) fg2
    have F9 : Fr no h g2 := F8.trans fg2 (fun b e => .inr (by have e : b = xb := e; omega))
    have hr1 : (RS.map (·.1))[i]? = some RS[i].1 := by rw [List.getElem?_map, List.getElem?_eq_getElem hiR]; rfl
    have hz1 : (RS.map (·.2))[i]? = some RS[i].2 := by rw [List.getElem?_map, List.getElem?_eq_getElem hiR]; rfl
    obtain ⟨hz0, hz5⟩ := hsz RS[i] (List.getElem_mem hiR)
    have hfind := fun h => find_first (p := lkX L) hiR hX h
    have hlkM : lkX L RS[i] = true → lkM L = (RS[i].1, 6) := fun h => by
      unfold lkM
      rw [← hRS, hfind h]
    have hTk : RS.take (i + 1) = RS.take i ++ [RS[i]] := List.take_succ_eq_append_getElem hiR
    have hXn : lkX L RS[i] = false → ∀ j (hj : j < RS.length), j < i + 1 → lkX L RS[j] = false := fun h j hj hji => by
      rcases Nat.lt_or_ge j i with q | q
      · exact hX j hj q
      · have e : j = i := by omega
        subst e; exact h
    generalize RS[i] = p at *
    obtain ⟨root, sz⟩ := p
    simp only at hr1 hz1 hz0 hz5 hlkM
    have hXe : lkX L (root, sz) = (!treeOk L root || bey (treeM L root) sz) := rfl
    rw [hXe] at hlkM hXn
    refine RunC.seq (RunC.block ?_)
    refine RunC.seq (RunC.region (RunO.part 1 rfl ?_))
    refine RunO.at (s := 1) (k := i) rfl rfl slr2 rfl rfl hlt (ix_at hr1) rfl rfl rfl (RunO.all rfl ?_)
    refine RunC.seq (RunC.region (RunO.part 2 rfl ?_))
    refine RunO.callD (treeGo_ok (root := root) (sl0.fr0 F9) hb hd) rfl rfl rfl ?_
    rintro _ g3 ⟨f3, ⟨hok, wb, rfl, mb, nv, w1, w2, ow, om, row, hml, hnl⟩ | ⟨hok, rfl⟩⟩
    case inr =>
      rw [hok] at hlkM
      have hlkM := hlkM rfl
      rw [hlkM] at hlk
      rw [hlk]
      refine RunO.all rfl ?_
      refine RunC.seq (RunC.seq (RunC.draw0 rfl (RunO.all rfl ?_)))
      refine RunC.cond rfl (fun _ => ?_) (fun g => by cases g)
      exact RunC.seq (RunC.region (RunO.all rfl (RunC.ret ⟨_, rfl, F9.same f3, .inr ⟨by show (6 : Int) ≠ 0; decide, rfl⟩⟩)))
    rw [hok, show (!true) = false from rfl, Bool.false_or] at hlkM hXn
    obtain ⟨hmr, hnr⟩ := tree_rng hd hok
    rw [← hB] at ow hmr hnr
    obtain ⟨k, hk⟩ := Int.eq_ofNat_of_zero_le hz0
    subst hk
    refine RunO.all rfl ?_
    refine RunC.seq (RunC.seq (RunC.draw0 rfl (RunO.part 6 rfl ?_)))
    refine RunO.loadG (v := .slice (some ⟨mb, 0, none⟩) 512 (exc 512)) rfl rfl (ow.ld rfl) rfl ?_
    refine RunO.part 2 rfl ?_
    refine RunO.atG (s := 1) (k := i) rfl (fun _ => rfl) rfl rfl (slz2.fr0 f3) rfl rfl hlt (ix_at hz1) rfl rfl rfl ?_
    refine RunO.callDG rfl (openBeyond_ok (om.all.sl (by rw [is_len, hml]) (by decide) (Cp.exc (Nat.le_refl 512))) hml (by omega)) rfl rfl rfl ?_
    rintro _ g4 ⟨rfl, f4⟩
    cases hbe : bey (treeM L root) (k : Int) with
    | true =>
      have hlkM := hlkM hbe
      rw [hlkM] at hlk
      rw [hlk]
      refine RunO.all rfl (RunC.cond rfl (fun _ => ?_) (fun g => by cases g))
      exact RunC.seq (RunC.region (RunO.all rfl (RunC.ret ⟨_, rfl, (F9.same f3).same f4, .inr ⟨by show (6 : Int) ≠ 0; decide, rfl⟩⟩)))
    | false =>
    have hXn := hXn hbe
    refine RunO.all rfl (RunC.cond rfl (fun g => by cases g) (fun _ => RunC.skip ?_))
    have hg2x := ox.1
    have htx : ∀ b, At tv b → g1.next ≤ b ∧ b < g2.next := fun b g => rt.at g
    have f34 := f3.same f4
    have tw : TrW B g4 xb tv (wb, treeM L root, treeN L root) := by
      refine ⟨_, mb, nv, ow.fr f4 (fun g => g), om.fr f4 (fun g => g), Row.lo (row.fr f4 (fun _ _ _ g => g)) (Nat.zero_le _), hml, hnl, hmr, hnr, ⟨by omega, fun g => ?_⟩, ⟨by omega, fun g => ?_⟩, fun b g => ⟨?_, fun e => ?_⟩⟩
      · have := htx _ g; omega
      · have := htx _ g; omega
      · have := (row.at g).1; omega
      · have := htx _ e; have := (row.at g).1; omega
    have hTW4 : ∀ t ∈ TL, TrW B g4 xb tv t := fun t ht => (hTW t ht).fr0 f34
    have rt4 := rt.fr f34 (fun _ _ _ g => g)
    have ox4 := ox.fr f34 (fun g => g)
    have F10 := F9.same f34
    have hn34 := f34.next
    refine RunC.region (RunO.part 4 rfl ?_)
    refine RunO.load (v := tv) rfl (ox4.ld rfl) rfl ?_
    refine RunO.part 2 (h1 := g4.push ⟨tps [(wb, treeM L root, treeN L root)], true⟩) rfl ?_
    have ot := Ow.push g4 (tps [(wb, treeM L root, treeN L root)])
    have f5 : Fr no g4 (g4.push ⟨tps [(wb, treeM L root, treeN L root)], true⟩) := Fr.push _ _ _
    have rt5 := rt4.fr f5 (fun _ _ _ g => g)
    have ox5 := ox4.fr f5 (fun g => g)
    have hTW5 : ∀ t ∈ TL ++ [(wb, treeM L root, treeN L root)], TrW B (g4.push ⟨tps [(wb, treeM L root, treeN L root)], true⟩) xb tv t := fun t ht => by
      rcases List.mem_append.1 ht with g | g
      · exact (hTW4 t g).fr0 f5
      · rw [List.mem_singleton.1 g]; exact tw.fr0 f5
    generalize g4.push ⟨tps [(wb, treeM L root, treeN L root)], true⟩ = g5 at *
    refine RunO.append2 (s := 1) (m := 1) rfl rfl rfl rfl rfl rfl rfl rfl (by decide) rt5 ot.all rfl (Nat.le_refl 1) rfl (by show 2 * (_ + 1) * 8 ≤ _; omega) (by omega) ?_
    intro tv2 g6 rt6 f6
    have ox6 := ox5.fr f6 (fun g => by have := htx xb g; omega)
    have htv2 : ∀ b, At tv2 b → g5.next ≤ b := fun b g => (rt6.at g).1
    have hn5 := f5.next
    refine RunO.part 2 rfl ?_
    refine RunO.store rfl rfl (store1_ow ox6 rfl (rt6.cell).1 (rt6.cell).2 (Nat.le_of_ble_eq_true rfl)) (RunO.nil ?_)
    have ox7 : Ow (g6.put xb (some ⟨imc s slot (.slice lA lr.length lc) bv tv2, true⟩)) xb (imc s slot (.slice lA lr.length lc) bv tv2) := Ow.put _ ox6.1
    have f7 : Fr (· = xb) g6 (g6.put xb (some ⟨imc s slot (.slice lA lr.length lc) bv tv2, true⟩)) := Fr.put _ (.inl rfl)
    show RunC prog _ _ _ (g6.put xb (some ⟨imc s slot (.slice lA lr.length lc) bv tv2, true⟩)) _ _ _
    generalize g6.put xb (some ⟨imc s slot (.slice lA lr.length lc) bv tv2, true⟩) = g7 at *
    have f67 : Fr (fun b => b = xb ∨ At tv b) g5 g7 := (f6.weak (fun b g => .inl (.inr g))).trans f7 (fun b g => .inl (.inl g))
    have rt7 := rt6.frm f7 (fun b g e => by have e : b = xb := e; have := htv2 b g; omega)
    refine RunC.region (RunO.all rfl ?_)
    refine ⟨d2 - 1, by omega, i + 1, TL ++ [(wb, treeM L root, treeN L root)], tv2, by omega, by rw [List.length_append, hTl]; rfl, ?_, hXn, fun t ht => (hTW5 t ht).step f67 htv2, ox7, ?_, ((fg2.quiet f34).quiet f5).trans f67 (fun b g => ?_), Le.cons (inc64 (by omega)) (Le.cons rfl (Le.cons rfl (Le.cons rfl (Le.cons rfl (Le.cons rfl (Le.cons rfl (Le.nil _)))))))⟩
    · rw [hTk, List.map_append, List.map_append, hTm]; rfl
    · have e1 : tps TL ++ tps [(wb, treeM L root, treeN L root)] = tps (TL ++ [(wb, treeM L root, treeN L root)]) := (List.map_append ..).symm
      rw [e1] at rt7
      rw [List.length_append]
      exact Row.lo rt7 (by have := fg2.next; omega)
    · rcases g with g | g
      · exact .inl g
      · exact .inr (htx b g).1
  have hge2 := of_decide_eq_false hge
  obtain rfl : i = lr.length + 1 := by omega
  have hfn : RS.find? (lkX L) = none := List.find?_eq_none.2 (fun p hp => by
    obtain ⟨j, hj, rfl⟩ := List.mem_iff_getElem.1 hp
    rw [hX j hj (by omega)]; simp)
  have hlkM : lkM L = (lkC L, if lkC L = 0 then 0 else 6) := by
    unfold lkM
    rw [← hRS, hfn]
  rw [hlkM] at hlk
  rw [hRt] at hTm
  have hT : TL.map (·.2) = lkT L := by rw [hTm, hRS]; rfl
  have hC : lkC L = clV B lb (TL.map (·.2)) := by rw [hT, hlb, hB]; rfl
  have F9 : Fr no h g2 := F8.trans fg2 (fun b e => .inr (by have e : b = xb := e; omega))
  have rl9 := rl6.frm fg2 (fun b g e => hlx b g e)
  have rb9 := rb6.frm fg2 (fun b g e => hbx b g e)
  -- the clash
  refine RunC.seq (RunC.region (RunO.part 2 rfl ?_))
  refine RunO.callD (openClash_ok ox (rb9.sl (by omega)) (rt.sl (by omega)) (fun t ht => (hTW t ht).ok) (fun x hx => by have := hlbr x hx; omega) (by omega) (by omega) (by omega)) rfl rfl rfl ?_
  rintro _ g3 ⟨f3, ⟨j, hj, rfl, hcl, hno⟩ | ⟨rfl, hno⟩⟩
  · have hj0 : j ≠ 0 := fun e => by
      subst e
      rw [clP_zero (fun x hx => (hlbr x hx).1) (fun t ht => by obtain ⟨_, _, _, _, _, _, _, _, _, h7, _⟩ := hTW t ht; exact fun x hx => (h7 x hx).1)] at hcl
      cases hcl
    rw [clV_some hj hcl hno] at hC
    rw [hC, if_neg (by omega)] at hlk
    rw [hlk]
    refine RunO.all rfl ?_
    refine RunC.seq (RunC.seq (RunC.region (RunO.all rfl ?_)))
    rw [show ((j : Int) != 0) = true from bne_iff_ne.2 (by omega)]
    refine RunC.cond rfl (fun _ => ?_) (fun g => by cases g)
    exact RunC.seq (RunC.region (RunO.all rfl (RunC.ret ⟨_, rfl, F9.same f3, .inr ⟨by show (6 : Int) ≠ 0; decide, rfl⟩⟩)))
  · rw [clV_none hno] at hC
    rw [hC, if_pos rfl] at hlk
    rw [hlk]
    refine RunO.all rfl ?_
    refine RunC.seq (RunC.seq (RunC.region (RunO.all rfl (RunC.cond rfl (fun g => by cases g) (fun _ => RunC.skip ?_)))))
    refine RunC.seq (RunC.region (RunO.all rfl (RunC.ret ⟨_, rfl, F9.same f3, .inl ⟨rfl, xb, rfl, ?_⟩⟩)))
    refine ⟨.slice lA lr.length lc, bv, tv, TL, by omega, ?_, ?_, ?_, (rt.sl (by omega)).fr0 f3, hT, fun t ht => ?_⟩
    · rw [← hs, ← hsl]; exact ox.fr f3 (fun g => g)
    · rw [← hlr]; exact Row.lo (rl9.fr f3 (fun _ _ _ g => g)) (by omega)
    · rw [← hlb]; exact Row.lo (rb9.fr f3 (fun _ _ _ g => g)) (by omega)
    · rw [← hB]; exact (hTW t ht).ok.fr0 f3
end Go.Proofs.Ytcbakhanpiemhaa
end
section
set_option linter.unusedVariables false
set_option linter.unusedSectionVars false
set_option maxRecDepth 100000
open Go Go.Am Go.RowKit
namespace Go.Proofs.Ytcbakhanpiemhaa
open Go.Proofs.Try
theorem eresults_cell2 {P : Program} {E : Env} {h : Heap} {a b : Tmp} {t : TypeId} {ad : Addr} {v w : Value} (h1 : E a = some (.pointer (some ad))) (h2 : aload P h t ad = some v) (h3 : E b = some w) :
    eresults P [.cell a t, .tmp b] E h = some (.tuple #[v, w]) := by
  simp only [eresults, eres, h1, h2, h3]
def recsE (L : List Int) (a : Int) : Int := if devOk L.length then (if (folOf L a).2.2.2 = 0 then 0 else 7) else 2
theorem openRecords_ok {h : Heap} {iv : Value} {L : List Int} {a : Int} (sl : Sl h iv 1 L.length (us L)) (hb : Byt L) (hm : L.length ≤ 4611686018427387904) :
    RunF prog 40 [iv, .int .i64 a] h fun v h' => Fr no h h' ∧ ((recsE L a = 0 ∧ ∃ lv bv, v = .tuple #[lv, bv, .int .i64 0] ∧ Row h.next h' lv 8 (folOf L a).1.length (recCs (folOf L a).1) ∧ Row h.next h' bv 1 (folOf L a).2.1.length (is (folOf L a).2.1)) ∨ (recsE L a ≠ 0 ∧ v = .tuple #[.slice none 0 0, .slice none 0 0, .int .i64 (recsE L a)])) := by
  refine RunF.walk func40 rfl rfl ?_
  have sl0 := sl
  obtain ⟨A, c, rfl, hc, hA⟩ := sl.form
  have hE : recsE L a = if devOk L.length then (if (folOf L a).2.2.2 = 0 then 0 else 7) else 2 := rfl
  rw [hE]
  refine RunC.seq (RunC.region (RunO.all rfl ?_))
  refine RunC.seq (RunC.region (RunO.part 1 rfl ?_))
  refine RunO.callD (devCheck_ok hm) rfl rfl rfl ?_
  rintro _ _ ⟨rfl, rfl⟩
  refine RunO.all rfl ?_
  cases hd : devOk L.length with
  | false =>
    refine RunC.seq (RunC.seq (RunC.region (RunO.all rfl (RunC.cond rfl (fun _ => ?_) (fun g => by cases g)))))
    exact RunC.seq (RunC.region (RunO.all rfl (RunC.ret ⟨_, rfl, Fr.refl _ _, .inr ⟨by rw [if_neg Bool.false_ne_true]; decide, rfl⟩⟩)))
  | true =>
  rw [if_pos rfl, if_pos rfl, if_pos rfl]
  refine RunC.seq (RunC.seq (RunC.region (RunO.all rfl (RunC.cond rfl (fun g => by cases g) (fun _ => RunC.skip ?_)))))
  refine RunC.seq (RunC.region (RunO.part 2 rfl ?_))
  refine RunO.callD (openFollow_ok (a := a) sl0 hb hd) rfl rfl rfl ?_
  rintro _ h5 ⟨f5, kb, rfl, lv, bv, hkb, ok, rl, rb⟩
  refine RunO.all rfl ?_
  refine RunC.seq (RunC.seq (RunC.region (RunO.part 3 rfl ?_)))
  refine RunO.load (v := .int .i64 (folOf L a).2.2.2) rfl (ok.ld rfl) rfl (RunO.all rfl ?_)
  by_cases hbad : (folOf L a).2.2.2 = 0
  case neg =>
    rw [if_neg hbad, show ((folOf L a).2.2.2 != 0) = true from bne_iff_ne.2 hbad]
    refine RunC.cond rfl (fun _ => ?_) (fun g => by cases g)
    exact RunC.seq (RunC.region (RunO.all rfl (RunC.ret ⟨_, rfl, f5, .inr ⟨by decide, rfl⟩⟩)))
  rw [if_pos hbad, show ((folOf L a).2.2.2 != 0) = false from by rw [hbad]; rfl]
  refine RunC.cond rfl (fun g => by cases g) (fun _ => RunC.skip ?_)
  refine RunC.seq (RunC.draw0 rfl (RunO.part 3 rfl ?_))
  refine RunO.load (v := lv) rfl (ok.ld rfl) rfl ?_
  refine RunO.part 3 rfl ?_
  refine RunO.load (v := bv) rfl (ok.ld rfl) rfl (RunO.all rfl ?_)
  exact RunC.ret ⟨_, rfl, f5, .inl ⟨rfl, lv, bv, rfl, rl, rb⟩⟩
/-- A state's cells. -/
def stc (s : S5) (slot : Int) (rv : Value) : List Value := sc5 s ++ [.int .i64 slot, rv]
theorem openOpen_ok {h : Heap} {iv : Value} {L : List Int} (sl : Sl h iv 1 L.length (us L)) (hb : Byt L) (hm : L.length ≤ 4611686018427387904) :
    RunF prog 36 [iv] h fun v h' => Fr no h h' ∧ (((lk L).2 = 0 ∧ ∃ rv, v = .tuple #[.agg ⟨stc (lkS L) (pickS L).2.1 rv⟩, .int .i64 0] ∧ Row h.next h' rv 8 (lkF L).1.length (recCs (lkF L).1)) ∨ ((lk L).2 ≠ 0 ∧ v = .tuple #[.agg ⟨stc (0, 0, 0, 0, 0) 0 (.slice none 0 0)⟩, .int .i64 (lk L).2])) := by
  refine RunF.walk func36 rfl rfl ?_
  refine RunC.seq (RunC.region (RunO.all (h1 := h.push ⟨stc (0, 0, 0, 0, 0) 0 (.slice none 0 0), true⟩) rfl ?_))
  have oq := Ow.push h (stc (0, 0, 0, 0, 0) 0 (.slice none 0 0))
  have f1 : Fr no h (h.push ⟨stc (0, 0, 0, 0, 0) 0 (.slice none 0 0), true⟩) := Fr.push _ _ _
  generalize h.push ⟨stc (0, 0, 0, 0, 0) 0 (.slice none 0 0), true⟩ = h1 at *
  obtain ⟨qb, hqb⟩ : ∃ q, q = h.next := ⟨_, rfl⟩
  rw [← hqb] at oq ⊢
  have hnx := oq.1
  refine RunC.seq (RunC.region (RunO.part 1 rfl ?_))
  refine RunO.callD (openLook_ok (sl.fr0 f1) hb hm) rfl rfl rfl ?_
  rintro _ h2 ⟨f2, ⟨h0, xb, rfl, rv, bv, tv, TL, hxb, ox, rl, rb, _⟩ | ⟨h0, rfl⟩⟩
  · replace oq := oq.fr f2 (fun g => g)
    refine RunO.all rfl ?_
    refine RunC.seq (RunC.seq (RunC.region (RunO.all rfl (RunC.cond rfl (fun g => by cases g) (fun _ => RunC.skip ?_)))))
    refine RunC.seq (RunC.region (RunO.part 3 rfl ?_))
    refine RunO.load (v := .agg ⟨stc (lkS L) (pickS L).2.1 rv⟩) rfl (ox.ld rfl) rfl ?_
    have hcs : cellsOf (.agg ⟨stc (lkS L) (pickS L).2.1 rv⟩) = stc (lkS L) (pickS L).2.1 rv := rfl
    have hcell : allCells (stc (lkS L) (pickS L).2.1 rv) = true := by
      rcases rl.2 with ⟨e, _⟩ | ⟨b, _, e, _⟩ <;> (rw [e]; rfl)
    refine RunO.store rfl rfl (store_ow (s := 7) oq rfl rfl hcell (Nat.le_of_ble_eq_true rfl)) ?_
    have e7 : (stc (0, 0, 0, 0, 0) 0 (.slice none 0 0)).take 0 ++ cellsOf (.agg ⟨stc (lkS L) (pickS L).2.1 rv⟩) ++ (stc (0, 0, 0, 0, 0) 0 (.slice none 0 0)).drop (0 + 7) = stc (lkS L) (pickS L).2.1 rv := rfl
    rw [e7]
    have oq2 : Ow (h2.put qb (some ⟨stc (lkS L) (pickS L).2.1 rv, true⟩)) qb (stc (lkS L) (pickS L).2.1 rv) := Ow.put _ oq.1
    have f3 : Fr (· = qb) h2 (h2.put qb (some ⟨stc (lkS L) (pickS L).2.1 rv, true⟩)) := Fr.put _ (.inl rfl)
    generalize h2.put qb (some ⟨stc (lkS L) (pickS L).2.1 rv, true⟩) = h3 at *
    have hn := f1.next
    have rl3 := rl.frm f3 (fun b g e => by have := (rl.at g).1; have e : b = qb := e; omega)
    refine RunO.all rfl (RunC.ret ⟨_, eresults_cell2 rfl (oq2.ld rfl) rfl, (f1.same f2).trans f3 (fun b e => .inr (by have e : b = qb := e; omega)), .inl ⟨h0, rv, rfl, Row.lo rl3 (by omega)⟩⟩)
  · replace oq := oq.fr f2 (fun g => g)
    refine RunO.all rfl ?_
    refine RunC.seq (RunC.seq (RunC.region (RunO.all rfl ?_)))
    rw [show ((lk L).2 != 0) = true from bne_iff_ne.2 h0]
    refine RunC.cond rfl (fun _ => ?_) (fun g => by cases g)
    refine RunC.seq (RunC.region (RunO.part 2 rfl ?_))
    refine RunO.store rfl rfl (store_ow (s := 7) oq rfl rfl rfl (Nat.le_of_ble_eq_true rfl)) ?_
    have oq2 : Ow (h2.put qb (some ⟨stc (0, 0, 0, 0, 0) 0 (.slice none 0 0), true⟩)) qb (stc (0, 0, 0, 0, 0) 0 (.slice none 0 0)) := Ow.put _ oq.1
    have f3 : Fr (· = qb) h2 (h2.put qb (some ⟨stc (0, 0, 0, 0, 0) 0 (.slice none 0 0), true⟩)) := Fr.put _ (.inl rfl)
    show RunO prog _ _ _ _ (h2.put qb (some ⟨stc (0, 0, 0, 0, 0) 0 (.slice none 0 0), true⟩)) _
    generalize h2.put qb (some ⟨stc (0, 0, 0, 0, 0) 0 (.slice none 0 0), true⟩) = h3 at *
    exact RunO.all rfl (RunC.ret ⟨_, eresults_cell2 rfl (oq2.ld rfl) rfl, (f1.same f2).trans f3 (fun b e => .inr (by have e : b = qb := e; omega)), .inr ⟨h0, rfl⟩⟩)
/-- Is this the whole record of an id? -/
def fdP (id : Int) (r : R8) : Bool := (r.id == id) && (r.ki == 0)
/-- A new image. -/
def newI (B : Nat) : List Int := superBlock 1 (B : Int) 0 0 0 ++ List.replicate (B * 64 - 64) 0
theorem newI_len {B : Nat} (h : 1 ≤ B) : (newI B).length = B * 64 := by unfold newI; rw [List.length_append, superBlock_len, List.length_replicate]; omega
theorem newI_byt (B : Nat) : Byt (newI B) := fun x hx => by
  rcases List.mem_append.1 hx with g | g
  · exact superBlock_byt _ _ _ _ _ x g
  · rw [List.eq_of_mem_replicate g]; omega
theorem ok_new {B : Nat} (h4 : 4 ≤ B) (hB : B ≤ 4096) : superOk 1 (B : Int) 0 0 0 = true := (superOk_iff _ _ _ _ _).2 ⟨by omega, by omega, by omega, .inl rfl, .inl rfl⟩
theorem openNew_ok {h : Heap} {B : Nat} (h4 : 4 ≤ B) (hB : B ≤ 4096) : RunF prog 35 [.int .i64 (B : Int)] h fun v h' => Fr no h h' ∧ ∃ b, h.next ≤ b ∧ v = .tuple #[.slice (some ⟨b, 0, none⟩) (B * 64) (exc (B * 64)), .int .i64 0] ∧ Ow h' b (us (newI B)) := by
  refine RunF.walk func35 rfl rfl ?_
  refine RunC.seq (RunC.region (RunO.all rfl ?_))
  refine RunC.seq (RunC.seq (RunC.region (RunO.part 3 rfl ?_)))
  rw [show decide ((B : Int) < 4) = false from decide_eq_false (by omega)]
  refine RunO.part 2 rfl ?_
  rw [show decide ((B : Int) > 4096) = false from decide_eq_false (by omega)]
  refine RunO.all rfl (RunC.cond rfl (fun g => by cases g) (fun _ => RunC.skip ?_))
  refine RunC.seq (RunC.region (RunO.part 2 rfl ?_))
  rw [fw64 (x := (B : Int) * 64) (by omega) (by omega), show (B : Int) * 64 = ((B * 64 : Nat) : Int) by omega]
  refine RunO.make (m := B * 64) rfl rfl rfl rfl rfl rfl (by show 1 * (B * 64) ≤ _; omega) (by omega) rfl ?_
  rw [reps_us]
  have oi := Ow.push h (us (List.replicate (B * 64) 0))
  have f1 : Fr no h (h.push ⟨us (List.replicate (B * 64) 0), true⟩) := Fr.push _ _ _
  generalize h.push ⟨us (List.replicate (B * 64) 0), true⟩ = h1 at *
  obtain ⟨qi, hqi⟩ : ∃ q, q = h.next := ⟨_, rfl⟩
  rw [← hqi] at oi ⊢
  refine RunO.all rfl ?_
  refine RunC.seq (RunC.region (RunO.part 2 rfl ?_))
  refine RunO.callD (superBytes_ok (g := 1) (bl := (B : Int)) (rt := 0) (sz := 0) (fi := 0)) rfl rfl rfl ?_
  rintro _ h2 ⟨f2, ⟨_, sb, hsb, rfl, os⟩ | ⟨g, _⟩⟩
  case inr => rw [ok_new h4 hB] at g; cases g
  replace oi := oi.fr f2 (fun g => g)
  refine RunO.all rfl ?_
  refine RunC.seq (RunC.region (RunO.part 2 rfl ?_))
  have hsl := superBlock_len 1 (B : Int) 0 0 0
  have sls := sl_own os hsl (Cp.exc (Nat.le_refl 64)) (by decide)
  rw [hsl] at sls
  refine RunO.copy (k := 64) rfl rfl rfl rfl oi sls (allCells_map (fun _ => rfl) _) (by omega) (by rw [us_len, List.length_replicate]; omega) rfl ?_
  intro h3 oi3 f3 hn3
  have e : (us (superBlock 1 (B : Int) 0 0 0)).take 64 ++ (us (List.replicate (B * 64) 0)).drop 64 = us (newI B) := by
    rw [List.take_of_length_le (by rw [us_len, hsl]; exact Nat.le_refl _)]
    unfold newI us
    rw [List.map_append, ← List.map_drop, List.drop_replicate]
  rw [e] at oi3
  refine RunO.all rfl ?_
  refine RunC.seq (RunC.region (RunO.all rfl (RunC.ret ⟨_, rfl, (f1.same f2).trans f3 (fun b g => .inr (by have g : b = qi := g; omega)), qi, by omega, rfl, oi3⟩)))
end Go.Proofs.Ytcbakhanpiemhaa
end
section
set_option linter.unusedVariables false
set_option linter.unusedSectionVars false
set_option maxRecDepth 100000
open Go Go.Am Go.RowKit
namespace Go.Proofs.Ytcbakhanpiemhaa
open Go.Proofs.Try
theorem pick_two (L : List Int) : pickS L = pickStep L (pickStep L ((0, 0, 0, 0, 0), 0, false) 0) 1 := rfl
theorem pick_no {L : List Int} {st : S5 × Int × Bool} {i : Nat} (h : sCode (blkI L i) ≠ 0) : pickStep L st i = st := by
  unfold pickStep
  rw [if_neg]
  rw [beq_eq_false_iff_ne.2 h]; exact Bool.false_ne_true
theorem pick_none {L : List Int} (h0 : sCode (blkI L 0) ≠ 0) (h1 : sCode (blkI L 1) ≠ 0) : (pickS L).2.2 = false := by
  rw [pick_two, pick_no h0, pick_no h1]
/-- Slot i has a superblock of this device, the other one none. -/
theorem pick_yes {L : List Int} {st : S5 × Int × Bool} {i : Nat} {g bl rt sz fi : Int} (h : blkI L i = superBlock g bl rt sz fi) (ok : superOk g bl rt sz fi = true) (hbl : bl = ((L.length / 64 : Nat) : Int)) (hst : st.2.2 = false) : pickStep L st i = ((g, bl, rt, sz, fi), (i : Int), true) := by
  obtain ⟨b1, b2⟩ := super_back ok
  unfold pickStep
  rw [h, b1, b2, hst, if_pos]
  show ((0 : Int) == 0 && (bl == _ && (!false || _))) = true
  rw [hbl]; simp
theorem pick_one0 {L : List Int} {g bl rt sz fi : Int} (h : blkI L 0 = superBlock g bl rt sz fi) (ok : superOk g bl rt sz fi = true) (hbl : bl = ((L.length / 64 : Nat) : Int)) (h1 : sCode (blkI L 1) ≠ 0) : pickS L = ((g, bl, rt, sz, fi), 0, true) := by
  rw [pick_two, pick_yes h ok hbl rfl, pick_no h1]; rfl
theorem pick_one1 {L : List Int} {g bl rt sz fi : Int} (h : blkI L 1 = superBlock g bl rt sz fi) (ok : superOk g bl rt sz fi = true) (hbl : bl = ((L.length / 64 : Nat) : Int)) (h0 : sCode (blkI L 0) ≠ 0) : pickS L = ((g, bl, rt, sz, fi), 1, true) := by
  rw [pick_two, pick_no h0, pick_yes h ok hbl rfl]; rfl
theorem fol_none (L : List Int) : folOf L 0 = ([], [], 0, 0) := fol_end ..
theorem bey_zero (k : Int) : bey (List.replicate 512 0) k = false := by
  unfold bey
  rw [List.any_eq_false]
  intro x hx
  have := List.eq_of_mem_replicate (List.mem_of_mem_drop hx)
  simp [this]
theorem tree0 (L : List Int) : treeOk L 0 = true ∧ treeM L 0 = List.replicate 512 0 ∧ treeN L 0 = [] := ⟨rfl, rfl, rfl⟩
theorem clV_no {B : Nat} {bl : List Int} {T : List (List Int × List Int)} (h : ∀ j, j < B → clP bl (T.map fun t => (0, t)) j = false) : clV B bl T = 0 := by
  unfold clV
  rw [List.find?_eq_none.2 (fun j hj => by rw [h j (List.mem_range.1 hj)]; simp)]
/-- An image whose head has no tree and that has no records opens. -/
theorem lk_empty {L : List Int} {s : S5} {slot : Int} (hd : devOk L.length = true) (hp : pickS L = (s, slot, true)) (hr : s.2.2.1 = 0) (hf : s.2.2.2.2 = 0) : lk L = (0, 0) ∧ lkF L = ([], [], 0, 0) ∧ lkS L = s := by
  have hS : lkS L = s := by unfold lkS; rw [hp]
  have hF : lkF L = ([], [], 0, 0) := by unfold lkF; rw [hS, hf]; exact fol_none L
  have hR : lkR L = [(0, s.2.2.2.1)] := by unfold lkR; rw [hF, hS, hr]; rfl
  refine ⟨?_, hF, hS⟩
  unfold lk
  rw [hd, hp, hF, if_pos rfl, if_pos rfl, if_pos rfl]
  have hX : lkX L (0, s.2.2.2.1) = false := by
    unfold lkX
    rw [(tree0 L).1, (tree0 L).2.1, bey_zero]; rfl
  unfold lkM
  rw [hR, List.find?_cons_of_neg (by rw [hX]; simp)]
  have hC : lkC L = 0 := by
    unfold lkC
    refine clV_no (fun j hj => ?_)
    unfold lkT
    rw [hR, hF]
    show clP [] [(0, List.replicate 512 0, [])] j = false
    unfold clP isN isS
    simp only [List.any_cons, List.any_nil]
    by_cases h0 : j = 0
    · subst h0; rfl
    · rw [show (List.replicate 512 (0 : Int)).contains (j : Int) = false from Bool.eq_false_iff.2 (fun g => by have := List.eq_of_mem_replicate (List.contains_iff_mem.1 g); omega)]
      simp
  show (lkC L, if lkC L = 0 then (0 : Int) else 6) = _
  rw [hC, if_pos rfl]
theorem newI_blk {B : Nat} (h : 4 ≤ B) : blkI (newI B) 0 = superBlock 1 (B : Int) 0 0 0 ∧ blkI (newI B) 1 = List.replicate 64 0 := by
  have hl := superBlock_len 1 (B : Int) 0 0 0
  unfold blkI newI
  constructor
  · rw [Nat.zero_mul, List.drop_zero, List.take_append_of_le_length (by omega), List.take_of_length_le (by omega)]
  · rw [Nat.one_mul, List.drop_append, List.drop_of_length_le (by omega), List.nil_append, hl, Nat.sub_self, List.drop_zero, List.take_replicate, Nat.min_eq_left (by omega)]
theorem dev_new {B : Nat} (h4 : 4 ≤ B) (hB : B ≤ 4096) : devOk (newI B).length = true := by
  rw [newI_len (by omega)]; exact devOk_mul h4 hB
theorem pick_new {B : Nat} (h4 : 4 ≤ B) (hB : B ≤ 4096) : pickS (newI B) = ((1, (B : Int), 0, 0, 0), 0, true) :=
  pick_one0 (newI_blk h4).1 (ok_new h4 hB) (by rw [newI_len (by omega), Nat.mul_div_cancel _ (by decide)]) (by rw [(newI_blk h4).2, sCode_zeros]; decide)
theorem lk_new {B : Nat} (h4 : 4 ≤ B) (hB : B ≤ 4096) : lk (newI B) = (0, 0) ∧ lkF (newI B) = ([], [], 0, 0) ∧ lkS (newI B) = (1, (B : Int), 0, 0, 0) := lk_empty (dev_new h4 hB) (pick_new h4 hB) rfl rfl
theorem lk_zeros {n : Nat} (hd : devOk n = true) : lk (List.replicate n 0) = (0, 8) := by
  have hd2 : devOk (List.replicate n (0 : Int)).length = true := by rw [List.length_replicate]; exact hd
  have hdl : n % 64 = 0 ∧ 4 ≤ n / 64 ∧ n / 64 ≤ 4096 := by
    unfold devOk at hd
    simpa using hd
  have hb : ∀ i, i < 2 → sCode (blkI (List.replicate n (0 : Int)) i) ≠ 0 := fun i hi => by
    have : blkI (List.replicate n (0 : Int)) i = List.replicate 64 0 := by
      unfold blkI
      rw [List.drop_replicate, List.take_replicate, Nat.min_eq_left (by omega)]
    rw [this, sCode_zeros]; decide
  unfold lk
  rw [hd2, if_pos rfl, pick_none (hb 0 (by decide)) (hb 1 (by decide))]; rfl
end Go.Proofs.Ytcbakhanpiemhaa
end
section
set_option linter.unusedVariables false
set_option linter.unusedSectionVars false
set_option maxRecDepth 100000
open Go Go.Am Go.RowKit
namespace Go.Proofs.Ytcbakhanpiemhaa
open Go.Proofs.Try
theorem stc_cells {h : Heap} {lo : Nat} {s : S5} {slot : Int} {rv : Value} {l : List R8} (r : Row lo h rv 8 l.length (recCs l)) : allCells (stc s slot rv) = true := by
  rcases r.2 with ⟨e, _⟩ | ⟨b, _, e, _⟩ <;> (rw [e]; rfl)
theorem stc_store (s : S5) (slot : Int) (rv : Value) : (stc (0, 0, 0, 0, 0) 0 (.slice none 0 0)).take 0 ++ cellsOf (.agg ⟨stc s slot rv⟩) ++ (stc (0, 0, 0, 0, 0) 0 (.slice none 0 0)).drop (0 + 7) = stc s slot rv := rfl
end Go.Proofs.Ytcbakhanpiemhaa
end
section
set_option linter.unusedVariables false
set_option linter.unusedSectionVars false
set_option maxRecDepth 100000
open Go Go.Am Go.RowKit
namespace Go.Proofs.Ytcbakhanpiemhaa
open Go.Proofs.Try
/- A chain that was followed to its end. -/
def nxt (a : Int) (l : List R8) (i : Nat) : Int := if i = 0 then a else (l.getD (i - 1) ⟨0, 0, 0, 0, 0, 0, 0, 0⟩).nx
structure FolI (L : List Int) (B : Nat) (a : Int) (l : List R8) (bs : List Int) (cur : Int) : Prop where
  len : l.length = bs.length
  blk : ∀ i (hi : i < l.length), bs.getD i 0 = nxt a l i ∧ 2 ≤ bs.getD i 0 ∧ bs.getD i 0 < (B : Int) ∧ rCode (blkI L (bs.getD i 0).toNat) = 0 ∧ l[i] = rPar (blkI L (bs.getD i 0).toNat)
  apart : ∀ i (hi : i < l.length) j (hj : j < l.length), j < i → l[j].id ≠ l[i].id ∧ l[i].ki ≠ 1
  cur : cur = nxt a l l.length
theorem nxt_app (a : Int) (l : List R8) (r : R8) {i : Nat} (h : i ≤ l.length) : nxt a (l ++ [r]) i = nxt a l i := by
  unfold nxt
  by_cases h0 : i = 0
  · rw [if_pos h0, if_pos h0]
  · rw [if_neg h0, if_neg h0, List.getD_eq_getElem?_getD, List.getD_eq_getElem?_getD, List.getElem?_append_left (by omega)]
theorem nxt_last (a : Int) (l : List R8) (r : R8) : nxt a (l ++ [r]) (l ++ [r]).length = r.nx := by
  unfold nxt
  rw [if_neg (by rw [List.length_append, List.length_singleton]; omega), List.length_append, List.length_singleton, show l.length + 1 - 1 = l.length by omega, List.getD_eq_getElem?_getD, List.getElem?_append_right (Nat.le_refl _), Nat.sub_self]; rfl
theorem FolI.snoc {L : List Int} {B : Nat} {a cur : Int} {l : List R8} {bs : List Int} {w : Nat} (v : FolI L B a l bs cur) (h2 : 2 ≤ cur) (hB : cur < (B : Int)) (hc : rCode (blkI L cur.toNat) = 0) (hm : mayR l w (rPar (blkI L cur.toNat)) = true) :
    FolI L B a (l ++ [rPar (blkI L cur.toNat)]) (bs ++ [cur]) (rPar (blkI L cur.toNat)).nx := by
  generalize hr : rPar (blkI L cur.toNat) = r at *
  refine ⟨by rw [List.length_append, List.length_append, v.len]; rfl, fun i hi => ?_, fun i hi j hj hji => ?_, (nxt_last a l r).symm⟩
  · rw [List.length_append, List.length_singleton] at hi
    by_cases e : i < l.length
    · have := v.blk i e
      have hb : (bs ++ [cur]).getD i 0 = bs.getD i 0 := by
        rw [List.getD_eq_getElem?_getD, List.getD_eq_getElem?_getD, List.getElem?_append_left (by rw [← v.len]; exact e)]
      rw [hb, nxt_app a l r (by omega), List.getElem_append_left e]
      exact this
    · have e : i = l.length := by omega
      subst e
      have hb : (bs ++ [cur]).getD l.length 0 = cur := by
        rw [List.getD_eq_getElem?_getD, List.getElem?_append_right (by rw [v.len]; exact Nat.le_refl _), v.len, Nat.sub_self]; rfl
      rw [hb, nxt_app a l r (Nat.le_refl _), ← v.cur]
      refine ⟨rfl, h2, hB, hc, ?_⟩
      rw [List.getElem_append_right (Nat.le_refl _)]
      simp [hr]
  · rw [List.length_append, List.length_singleton] at hi hj
    have hjl : j < l.length := by omega
    rw [List.getElem_append_left hjl]
    by_cases e : i < l.length
    · rw [List.getElem_append_left e]; exact v.apart i e j hjl hji
    · have e : i = l.length := by omega
      subst e
      rw [List.getElem_append_right (Nat.le_refl _)]
      simp only [Nat.sub_self, List.getElem_cons_zero]
      unfold mayR at hm
      by_cases hk : (r.ki == 1) = true
      · rw [if_pos hk] at hm
        have hm := beq_iff_eq.1 hm
        omega
      · rw [if_neg hk, Bool.and_eq_true, Bool.not_eq_true', List.any_eq_false] at hm
        have := hm.1 l[j] (List.getElem_mem hjl)
        exact ⟨by simpa using this, by simpa using hk⟩
theorem fol_inv {L : List Int} {B : Nat} {a : Int} : ∀ (f : Nat) (cur : Int) (l : List R8) (bs : List Int) (w : Nat), FolI L B a l bs cur → (fol L B f cur l bs w).2.2.2 = 0 → FolI L B a (fol L B f cur l bs w).1 (fol L B f cur l bs w).2.1 0
  | 0, cur, l, bs, w, v, h => by
    have h : cur = 0 := h
    subst h; exact v
  | f + 1, cur, l, bs, w, v, h => by
    unfold fol at h ⊢
    by_cases h0 : cur = 0
    · subst h0
      rw [if_pos rfl] at h ⊢
      exact v
    rw [if_neg h0] at h ⊢
    by_cases hf : folB B bs cur = true
    · rw [if_pos hf] at h
      exact absurd h h0
    rw [if_neg hf] at h ⊢
    by_cases hc : (rCode (blkI L cur.toNat) != 0 || !mayR l w (rPar (blkI L cur.toNat))) = true
    · rw [if_pos hc] at h
      exact absurd h h0
    rw [if_neg hc] at h ⊢
    rw [Bool.not_eq_true, Bool.or_eq_false_iff, bne_eq_false_iff_eq, Bool.not_eq_false'] at hc
    unfold folB at hf
    rw [Bool.not_eq_true, Bool.or_eq_false_iff, Bool.or_eq_false_iff, decide_eq_false_iff_not, decide_eq_false_iff_not] at hf
    exact fol_inv f _ _ _ _ (v.snoc (by omega) (by omega) hc.1 hc.2) h
theorem folOf_inv {L : List Int} {a : Int} (h : (folOf L a).2.2.2 = 0) : FolI L (L.length / 64) a (folOf L a).1 (folOf L a).2.1 0 :=
  fol_inv _ _ _ _ _ ⟨rfl, fun i hi => absurd hi (Nat.not_lt_zero _), fun i hi => absurd hi (Nat.not_lt_zero _), rfl⟩ h
/-- Each whole record is found at its place; a pending one is not found. -/
theorem FolI.find {L : List Int} {B : Nat} {a cur : Int} {l : List R8} {bs : List Int} (v : FolI L B a l bs cur) {i : Nat} (hi : i < l.length) : (l[i].ki = 0 → fdP l[i].id l[i] = true ∧ ∀ j (hj : j < l.length), j < i → fdP l[i].id l[j] = false) ∧ (l[i].ki ≠ 0 → ∀ j (hj : j < l.length), fdP l[i].id l[j] = false) := by
  constructor
  · intro hk
    refine ⟨by unfold fdP; rw [hk]; simp, fun j hj hji => ?_⟩
    have := (v.apart i hi j hj hji).1
    unfold fdP
    rw [beq_eq_false_iff_ne.2 this, Bool.false_and]
  · intro hk j hj
    unfold fdP
    rcases Nat.lt_trichotomy j i with g | g | g
    · rw [beq_eq_false_iff_ne.2 (v.apart i hi j hj g).1, Bool.false_and]
    · subst g; rw [beq_eq_false_iff_ne.2 hk, Bool.and_false]
    · rw [beq_eq_false_iff_ne.2 (fun e => (v.apart j hj i hi g).1 e.symm), Bool.false_and]
theorem rec8_ne (x y : R8) : abinop prog .neq 63 (.agg ⟨rc8 x⟩) (.agg ⟨rc8 y⟩) = some (.bool (x != y)) := by
  show abinop prog .neq 63 (.agg ⟨rc x.nx x.id x.pa x.ro x.sz x.ki x.fr x.di⟩) (.agg ⟨rc y.nx y.id y.pa y.ro y.sz y.ki y.fr y.di⟩) = _
  rw [rec_ne]
  congr 2
  have key : (x.nx == y.nx && (x.id == y.id && (x.pa == y.pa && (x.ro == y.ro && (x.sz == y.sz && (x.ki == y.ki && (x.fr == y.fr && (x.di == y.di)))))))) = (x == y) := by
    rw [Bool.eq_iff_iff]
    simp only [Bool.and_eq_true, beq_iff_eq]
    constructor
    · rintro ⟨e1, e2, e3, e4, e5, e6, e7, e8⟩
      cases x; cases y; simp_all
    · rintro rfl; simp
  rw [key]; rfl
end Go.Proofs.Ytcbakhanpiemhaa
end
section
set_option linter.unusedVariables false
set_option maxRecDepth 100000
open Go Go.Am Go.RowKit
namespace Go.Proofs.Ytcbakhanpiemhaa
open Go.Proofs.Try
def wrG (n : Nat) (x : IoT) : Prop := x.1 = 1 ∧ (∃ a : Nat, x.2.1 = (a : Int) ∧ (a + 1) * 64 ≤ n) ∧ x.2.2.1.length = 64 ∧ Byt x.2.2.1
theorem apStep_w {o : List Int} {x : IoT} {n : Nat} (h : wrG n x) {a : Nat} (ha : x.2.1 = (a : Int)) : applyStep o x = setBlk o a x.2.2.1 := by
  unfold applyStep
  rw [h.1, ha]; rfl
theorem apL_w {n : Nat} : ∀ (l : List IoT) (o : List Int), (∀ x ∈ l, wrG n x) → o.length = n → Byt o → (applyL o l).length = n ∧ Byt (applyL o l) ∧ (∀ c : Nat, (∀ x ∈ l, x.2.1 ≠ (c : Int)) → blkI (applyL o l) c = blkI o c)
  | [], o, _, h, hb => ⟨h, hb, fun _ _ => rfl⟩
  | x :: l, o, hl, h, hb => by
    have hx := hl x (List.mem_cons_self ..)
    obtain ⟨h1, ⟨a, ha, hab⟩, h3, h4⟩ := hx
    have e : applyL o (x :: l) = applyL (setBlk o a x.2.2.1) l := by
      show List.foldl _ (applyStep o x) l = _
      rw [apStep_w (n := n) ⟨h1, ⟨a, ha, hab⟩, h3, h4⟩ ha]; rfl
    obtain ⟨g1, g2, g3⟩ := apL_w l (setBlk o a x.2.2.1) (fun y hy => hl y (List.mem_cons_of_mem _ hy)) (by rw [setBlk_len (by omega) h3]; exact h) (setBlk_byt hb h4)
    rw [e]
    refine ⟨g1, g2, fun c hc => ?_⟩
    rw [g3 c (fun y hy => hc y (List.mem_cons_of_mem _ hy)), blk_set_ne (by omega) h3 ?_]
    intro e
    exact hc x (List.mem_cons_self ..) (by rw [ha, e])
theorem apL_at {n : Nat} : ∀ (l : List IoT) (o : List Int), (∀ x ∈ l, wrG n x) → o.length = n → Byt o → List.Pairwise (fun x y => x.2.1 ≠ y.2.1) l → ∀ x ∈ l, blkI (applyL o l) x.2.1.toNat = x.2.2.1
  | [], _, _, _, _, _, x, hx => by cases hx
  | y :: l, o, hl, h, hb, hp, x, hx => by
    obtain ⟨h1, ⟨a, ha, hab⟩, h3, h4⟩ := hl y (List.mem_cons_self ..)
    have e : applyL o (y :: l) = applyL (setBlk o a y.2.2.1) l := by
      show List.foldl _ (applyStep o y) l = _
      rw [apStep_w (n := n) ⟨h1, ⟨a, ha, hab⟩, h3, h4⟩ ha]; rfl
    have hl2 := fun z (hz : z ∈ l) => hl z (List.mem_cons_of_mem _ hz)
    have hlen : (setBlk o a y.2.2.1).length = n := by rw [setBlk_len (by omega) h3]; exact h
    have hbt := setBlk_byt hb h4 (i := a)
    rw [List.pairwise_cons] at hp
    rw [e]
    rcases List.mem_cons.1 hx with rfl | hx
    · rw [ha, Int.toNat_natCast, (apL_w l _ hl2 hlen hbt).2.2 a (fun z hz g => hp.1 z hz (by rw [g, ha])), blk_set_same (by omega) h3]
    · exact apL_at l _ hl2 hlen hbt hp.2 x hx
theorem stE_w {n : Nat} (hd : devOk n = true) {l : List IoT} (hl : l.length ≤ 1048576) (h : ∀ x ∈ l, wrG n x) : stepsE n l = 0 := by
  unfold stepsE
  rw [hd, if_pos rfl, decide_eq_false (by omega), if_neg Bool.false_ne_true, if_neg ?_]
  rw [Bool.not_eq_true, List.any_eq_false]
  intro x hx c
  obtain ⟨h1, ⟨a, ha, hab⟩, h3, _⟩ := h x hx
  unfold ioR at c
  rw [h1, ha, h3] at c
  rw [if_pos (by rfl), decide_eq_true (show (a : Int) ≥ 0 by omega), show decide ((a : Int) < ((n / 64 : Nat) : Int)) = true from decide_eq_true (by omega)] at c
  simp at c
end Go.Proofs.Ytcbakhanpiemhaa
end
section
set_option linter.unusedVariables false
set_option linter.unusedSectionVars false
set_option maxRecDepth 100000
open Go Go.Am Go.RowKit
namespace Go.Proofs.Ytcbakhanpiemhaa
open Go.Proofs.Try
/- A device of records, one behind the other. -/
def rcNx (at_ n i : Nat) : Int := if i + 1 < n then ((at_ + i + 1 : Nat) : Int) else 0
def rcR (at_ n id i : Nat) : R8 := ⟨rcNx at_ n i, ((id + i : Nat) : Int), 0, 0, 0, 0, 0, 0⟩
def r8B (r : R8) : List Int := recBlock r.nx r.id r.pa r.ro r.sz r.ki r.fr r.di
theorem r8B_len (r : R8) : (r8B r).length = 64 := recBlock_len ..
theorem r8B_byt (r : R8) : Byt (r8B r) := recBlock_byt _ _ _ _ _ _ _ _
theorem r8_back {r : R8} (h : r8Ok r = true) : rCode (r8B r) = 0 ∧ rPar (r8B r) = r := by
  obtain ⟨h1, h2⟩ := rec_back h
  refine ⟨h1, ?_⟩
  have e : rCells (r8B r) = rc8 r := h2
  rw [rCells_eq] at e
  generalize rPar (r8B r) = y at *
  cases r; cases y
  unfold rc8 rc at e
  simp only [List.cons.injEq, Value.int.injEq, true_and, and_true] at e
  obtain ⟨rfl, rfl, rfl, rfl, rfl, rfl, rfl, rfl⟩ := e
  rfl
theorem rcR_ok {at_ n id i : Nat} (h2 : 2 ≤ at_) (hi : 1 ≤ id) (hid : id + n ≤ 100000) (hin : i < n) (hB : at_ + n ≤ 4096) : r8Ok (rcR at_ n id i) = true := by
  have e1 : ptrB (rcNx at_ n i) = true := by
    unfold ptrB rcNx
    split
    · by_cases h0 : at_ + i + 1 = 1
      · omega
      · simp only [Bool.or_eq_true, beq_iff_eq, Bool.and_eq_true, decide_eq_true_eq]; omega
    · rfl
  have e2 : parB ((id + i : Nat) : Int) 0 = true := by
    unfold parB idB
    simp only [Bool.and_eq_true, Bool.not_eq_true', decide_eq_false_iff_not, bne_iff_ne, Bool.or_eq_true, beq_self_eq_true, true_or, and_true]
    omega
  have e3 : recIs (rcNx at_ n i) ((id + i : Nat) : Int) 0 0 0 = true := by
    unfold recIs
    rw [e1, e2]; rfl
  unfold r8Ok recOk
  rw [if_pos (show (rcR at_ n id i).ki = 0 from rfl)]
  show ((recIs (rcNx at_ n i) ((id + i : Nat) : Int) 0 0 0 && (0 : Int) == 0) && (0 : Int) == 0) = true
  rw [e3]; rfl
def rcW (at_ n id : Nat) (k : Nat) : List IoT := (List.range k).map fun i => ((1 : Int), ((at_ + i : Nat) : Int), r8B (rcR at_ n id i), ())
theorem rcW_len (at_ n id k : Nat) : (rcW at_ n id k).length = k := by unfold rcW; rw [List.length_map, List.length_range]
theorem rcW_succ (at_ n id k : Nat) : rcW at_ n id (k + 1) = rcW at_ n id k ++ [((1 : Int), ((at_ + k : Nat) : Int), r8B (rcR at_ n id k), ())] := by unfold rcW; rw [List.range_succ, List.map_append]; rfl
def rcF (at_ n : Nat) : Int := if 0 < n then (at_ : Int) else 0
def rcS (at_ n : Nat) : List Int := superBlock 1 20 0 0 (rcF at_ n)
def rcL (at_ n id : Nat) : List IoT := rcW at_ n id n ++ [((1 : Int), 0, rcS at_ n, ())]
def recI (at_ n id : Nat) : List Int := applyL (List.replicate 1280 0) (rcL at_ n id)
section
variable {at_ n id : Nat} (h2 : 2 ≤ at_) (hn : at_ + n ≤ 20) (hi : 1 ≤ id) (hid : id ≤ 90000)
include h2 hn hi hid
theorem rcS_ok : superOk 1 20 0 0 (rcF at_ n) = true := (superOk_iff _ _ _ _ _).2 ⟨by decide, by decide, by decide, .inl rfl, by unfold rcF; split <;> omega⟩
theorem rcL_wr : ∀ x ∈ rcL at_ n id, wrG 1280 x := by
  intro x hx
  unfold rcL at hx
  rcases List.mem_append.1 hx with g | g
  · unfold rcW at g
    obtain ⟨i, hin, rfl⟩ := List.mem_map.1 g
    have hin := List.mem_range.1 hin
    exact ⟨rfl, ⟨at_ + i, rfl, by omega⟩, r8B_len _, r8B_byt _⟩
  · rw [List.mem_singleton.1 g]
    exact ⟨rfl, ⟨0, rfl, by decide⟩, superBlock_len .., superBlock_byt _ _ _ _ _⟩
theorem recI_len : (recI at_ n id).length = 1280 := (apL_w _ _ (rcL_wr h2 hn hi hid) List.length_replicate (byt_zeros 1280)).1
theorem recI_byt : Byt (recI at_ n id) := (apL_w _ _ (rcL_wr h2 hn hi hid) List.length_replicate (byt_zeros 1280)).2.1
theorem recI_stp : stepsE 1280 (rcL at_ n id) = 0 := stE_w (by decide) (by unfold rcL; rw [List.length_append, rcW_len, List.length_singleton]; omega) (rcL_wr h2 hn hi hid)
theorem rcL_pair : List.Pairwise (fun x y : IoT => x.2.1 ≠ y.2.1) (rcL at_ n id) := by
  unfold rcL
  rw [List.pairwise_append]
  refine ⟨?_, List.pairwise_singleton _ _, fun x hx y hy => ?_⟩
  · unfold rcW
    rw [List.pairwise_map]
    refine List.Pairwise.imp (fun {a b} h => ?_) (List.pairwise_lt_range (n := n))
    show ((at_ + a : Nat) : Int) ≠ ((at_ + b : Nat) : Int)
    omega
  · rw [List.mem_singleton.1 hy]
    unfold rcW at hx
    obtain ⟨i, _, rfl⟩ := List.mem_map.1 hx
    show ((at_ + i : Nat) : Int) ≠ 0
    omega
theorem recI_blk {i : Nat} (hin : i < n) : blkI (recI at_ n id) (at_ + i) = r8B (rcR at_ n id i) := by
  have hm : ((1 : Int), ((at_ + i : Nat) : Int), r8B (rcR at_ n id i), ()) ∈ rcL at_ n id := List.mem_append.2 (.inl (List.mem_map.2 ⟨i, List.mem_range.2 hin, rfl⟩))
  have := apL_at _ _ (rcL_wr h2 hn hi hid) List.length_replicate (byt_zeros 1280) (rcL_pair h2 hn hi hid) _ hm
  exact this
theorem recI_blk0 : blkI (recI at_ n id) 0 = rcS at_ n := by
  have hm : ((1 : Int), (0 : Int), rcS at_ n, ()) ∈ rcL at_ n id := List.mem_append.2 (.inr (List.mem_singleton.2 rfl))
  have := apL_at _ _ (rcL_wr h2 hn hi hid) List.length_replicate (byt_zeros 1280) (rcL_pair h2 hn hi hid) _ hm
  exact this
theorem recI_zero {c : Nat} (h0 : c ≠ 0) (hc : c < at_ ∨ at_ + n ≤ c) (hc2 : c < 20) : blkI (recI at_ n id) c = List.replicate 64 0 := by
  rw [show recI at_ n id = applyL (List.replicate 1280 0) (rcL at_ n id) from rfl, (apL_w _ _ (rcL_wr h2 hn hi hid) List.length_replicate (byt_zeros 1280)).2.2 c (fun x hx => ?_), rep_blk _ _ (by omega)]
  unfold rcL at hx
  rcases List.mem_append.1 hx with g | g
  · unfold rcW at g
    obtain ⟨i, hin, rfl⟩ := List.mem_map.1 g
    have hin := List.mem_range.1 hin
    show ((at_ + i : Nat) : Int) ≠ (c : Int)
    omega
  · rw [List.mem_singleton.1 g]
    show (0 : Int) ≠ (c : Int)
    omega
end
theorem fol_succ (L : List Int) (B f : Nat) (a : Int) (l : List R8) (bs : List Int) (w : Nat) : fol L B (f + 1) a l bs w = if a = 0 then (l, bs, w, 0) else if folB B bs a then (l, bs, w, a) else
    if (rCode (blkI L a.toNat) != 0) || !mayR l w (rPar (blkI L a.toNat)) then (l, bs, w, a) else
      fol L B f (rPar (blkI L a.toNat)).nx (l ++ [rPar (blkI L a.toNat)]) (bs ++ [a]) (if (rPar (blkI L a.toNat)).ki == 0 then w + 1 else w) := rfl
/-- A chain of whole records that stand side by side is followed. -/
theorem fol_run {L : List Int} {B at_ : Nat} {rs : List R8} (hblk : ∀ i (hi : i < rs.length), rCode (blkI L (at_ + i)) = 0 ∧ rPar (blkI L (at_ + i)) = rs[i]) (hki : ∀ i (hi : i < rs.length), rs[i].ki = 0) (hnx : ∀ i (hi : i + 1 < rs.length), rs[i].nx = ((at_ + i + 1 : Nat) : Int))
    (hid : ∀ i (hi : i < rs.length) j (hj : j < rs.length), j < i → rs[j].id ≠ rs[i].id) (hat : 2 ≤ at_) (hB : at_ + rs.length ≤ B) (hw : rs.length ≤ 60) :
    ∀ k, k ≤ rs.length → ∀ F, k ≤ F → fol L B F (at_ : Int) [] [] 0 = fol L B (F - k) (nxt (at_ : Int) rs k) (rs.take k) ((List.range k).map fun (i : Nat) => ((at_ + i : Nat) : Int)) k
  | 0, _, F, _ => rfl
  | k + 1, hk, F, hF => by
    rw [fol_run hblk hki hnx hid hat hB hw k (by omega) F (by omega)]
    obtain ⟨f, hf⟩ : ∃ f, F - k = f + 1 := ⟨F - k - 1, by omega⟩
    rw [hf, show F - (k + 1) = f by omega]
    have hkl : k < rs.length := by omega
    obtain ⟨b1, b2⟩ := hblk k hkl
    have hcur : nxt (at_ : Int) rs k = ((at_ + k : Nat) : Int) := by
      unfold nxt
      by_cases h0 : k = 0
      · rw [if_pos h0, h0]; rfl
      · rw [if_neg h0, List.getD_eq_getElem?_getD, List.getElem?_eq_getElem (by omega)]
        have := hnx (k - 1) (by omega)
        rw [show at_ + (k - 1) + 1 = at_ + k by omega] at this
        exact this
    have hnext : nxt (at_ : Int) rs (k + 1) = rs[k].nx := by
      unfold nxt
      rw [if_neg (by omega), Nat.add_sub_cancel, List.getD_eq_getElem?_getD, List.getElem?_eq_getElem hkl]; rfl
    rw [hcur, hnext, fol_succ]
    have hnc : ((List.range k).map fun (i : Nat) => ((at_ + i : Nat) : Int)).contains ((at_ + k : Nat) : Int) = false := Bool.eq_false_iff.2 (fun g => by
      obtain ⟨i, hi, e⟩ := List.mem_map.1 (List.contains_iff_mem.1 g)
      have := List.mem_range.1 hi
      omega)
    rw [if_neg (by omega), if_neg (by unfold folB; rw [hnc, decide_eq_false (by omega), decide_eq_false (by omega)]; simp), Int.toNat_natCast, b1, b2, if_neg]
    · rw [hki k hkl, List.take_succ_eq_append_getElem hkl, List.range_succ, List.map_append, if_pos (by rfl), List.map_singleton]
    · rw [show ((0 : Int) != 0) = false from rfl, Bool.false_or, Bool.not_eq_true', Bool.not_eq_false]
      unfold mayR
      rw [hki k hkl, if_neg (by decide), decide_eq_true (by omega), Bool.and_true, Bool.not_eq_true', List.any_eq_false]
      intro x hx
      obtain ⟨j, hj, rfl⟩ := List.mem_iff_getElem.1 hx
      rw [List.length_take] at hj
      rw [List.getElem_take]
      have := hid k hkl j (by omega) (by omega)
      simpa using this
/-- An image of records alone, without trees. -/
theorem lk_recs {L : List Int} {s : S5} {slot : Int} {rs : List R8} {bl : List Int} {w : Nat} {bad : Int} (hd : devOk L.length = true) (hp : pickS L = (s, slot, true)) (hr : s.2.2.1 = 0) (hF : folOf L s.2.2.2.2 = (rs, bl, w, bad)) (hro : ∀ r ∈ rs, r.ro = 0) : lk L = (if bad = 0 then (0, 0) else (bad, 7)) ∧ lkF L = (rs, bl, w, bad) ∧ lkS L = s := by
  have hS : lkS L = s := by unfold lkS; rw [hp]
  have hF2 : lkF L = (rs, bl, w, bad) := by unfold lkF; rw [hS]; exact hF
  refine ⟨?_, hF2, hS⟩
  unfold lk
  rw [hd, hp, hF2, if_pos rfl, if_pos rfl]
  by_cases hb : bad = 0
  case neg => rw [if_neg hb, if_neg hb]
  rw [if_pos hb, if_pos hb]
  have hR : ∀ p ∈ lkR L, p.1 = 0 := by
    intro p hp
    unfold lkR at hp
    rcases List.mem_cons.1 hp with e | g
    · rw [e, hS]; exact hr
    · rw [hF2] at g
      obtain ⟨r, hr, rfl⟩ := List.mem_map.1 g
      exact hro r hr
  have hX : (lkR L).find? (lkX L) = none := List.find?_eq_none.2 (fun p hp => by
    unfold lkX
    rw [hR p hp, (tree0 L).1, (tree0 L).2.1, bey_zero]; simp)
  have hC : lkC L = 0 := by
    unfold lkC
    refine clV_no (fun j hj => ?_)
    have h1 : ∀ t ∈ (lkT L).map (fun t => ((0, t) : Tr3)), t.2.1 = List.replicate 512 0 ∧ t.2.2 = [] := fun t ht => by
      obtain ⟨y, hy, rfl⟩ := List.mem_map.1 ht
      unfold lkT at hy
      obtain ⟨p, hp, rfl⟩ := List.mem_map.1 hy
      rw [hR p hp]; exact ⟨rfl, rfl⟩
    have hS0 : isS ((lkT L).map fun t => ((0, t) : Tr3)) j = false := by
      unfold isS
      rw [List.any_eq_false]
      intro t ht g
      rw [(h1 t ht).1, Bool.and_eq_true, decide_eq_true_eq] at g
      have := List.eq_of_mem_replicate (List.contains_iff_mem.1 g.2)
      omega
    have hN0 : isN ((lkT L).map fun t => ((0, t) : Tr3)) j = false := by
      unfold isN
      rw [List.any_eq_false]
      intro t ht g
      rw [(h1 t ht).2] at g
      cases g
    unfold clP
    rw [hS0, hN0]; rfl
  unfold lkM
  rw [hX, hC]; rfl
end Go.Proofs.Ytcbakhanpiemhaa
end
section
set_option linter.unusedVariables false
set_option linter.unusedSectionVars false
set_option maxRecDepth 100000
open Go Go.Am Go.RowKit
namespace Go.Proofs.Ytcbakhanpiemhaa
open Go.Proofs.Try
def IoG (h : Heap) (lv : Value) (x : IoT) (cs : List Value) : Prop :=
  ∃ b, cs = [.int .i64 x.1, .int .i64 x.2.1, .slice (some ⟨b, 0, none⟩) 64 (exc 64)] ∧ Ow h b (us x.2.2.1) ∧ x.2.2.1.length = 64 ∧ Byt x.2.2.1 ∧ ¬ At lv b
/-- Steps in a growing slice. -/
def IosG (lo : Nat) (h : Heap) (lv : Value) (l : List IoT) : Prop := ∃ acs, Gr lo h lv 3 l.length acs ∧ ∀ (j : Nat) (x : IoT), l[j]? = some x → IoG h lv x ((acs.drop (j * 3)).take 3)
theorem IoG.fr0 {h h' : Heap} {lv : Value} {x : IoT} {cs : List Value} (r : IoG h lv x cs) (f : Fr no h h') : IoG h' lv x cs := by
  obtain ⟨b, h1, h2, h3⟩ := r
  exact ⟨b, h1, h2.fr f (fun g => g), h3⟩
theorem IosG.fr0 {lo : Nat} {h h' : Heap} {lv : Value} {l : List IoT} (r : IosG lo h lv l) (f : Fr no h h') : IosG lo h' lv l := by
  obtain ⟨acs, h1, h2⟩ := r
  exact ⟨acs, h1.fr0 f, fun j x hx => (h2 j x hx).fr0 f⟩
theorem IosG.ios {lo : Nat} {h : Heap} {lv : Value} {l : List IoT} (r : IosG lo h lv l) (hl : l.length ≤ 9223372036854775807) : Ios h lv l := by
  obtain ⟨acs, h1, h2⟩ := r
  refine ⟨acs, h1.sl hl, fun j x hx => ?_⟩
  obtain ⟨b, e, ow, hln, hby, _⟩ := h2 j x hx
  exact ⟨_, e, by rw [hln]; exact ow.all.sl (by rw [us_len, hln]) (by decide) (Cp.exc (Nat.le_refl _)), hby⟩
theorem IosG.snoc {lo : Nat} {h h' : Heap} {lv lv' : Value} {l : List IoT} {acs : List Value} {x : IoT} {b : Nat} (g : Gr lo h lv 3 l.length acs) (k : ∀ (j : Nat) (x : IoT), l[j]? = some x → IoG h lv x ((acs.drop (j * 3)).take 3))
    (ow : Ow h b (us x.2.2.1)) (hln : x.2.2.1.length = 64) (hby : Byt x.2.2.1) (hb : ¬ At lv b) (row : Row h.next h' lv' 3 (l.length + 1) (acs ++ [.int .i64 x.1, .int .i64 x.2.1, .slice (some ⟨b, 0, none⟩) 64 (exc 64)])) (f : Fr (At lv) h h') (hlo : lo ≤ h.next) : IosG lo h' lv' (l ++ [x]) := by
  have hacs := g.1
  refine ⟨_, by rw [List.length_append]; exact (row.gr).lo hlo, fun j y hy => ?_⟩
  have hnew : ∀ c, c < h.next → ¬ At lv' c := fun c hc a => by have := (row.at a).1; omega
  by_cases hj : j < l.length
  · rw [List.getElem?_append_left hj] at hy
    obtain ⟨c, e, oc, h1, h2, h3⟩ := k j y hy
    refine ⟨c, ?_, oc.fr f h3, h1, h2, hnew c oc.1⟩
    rw [List.drop_append_of_le_length (by omega), List.take_append_of_le_length (by rw [List.length_drop]; omega)]
    exact e
  · have hj2 : j = l.length := by
      have := (List.getElem?_eq_some_iff.1 hy).1
      rw [List.length_append, List.length_singleton] at this
      omega
    subst hj2
    rw [List.getElem?_append_right (Nat.le_refl _), Nat.sub_self] at hy
    cases hy
    refine ⟨b, ?_, ow.fr f hb, hln, hby, hnew b ow.1⟩
    rw [← hacs, List.drop_append_of_le_length (Nat.le_refl _), List.drop_length, List.nil_append]; rfl
set_option maxHeartbeats 16000000 in
theorem lawRecords_ok {h : Heap} {at_ n id : Nat} (h2 : 2 ≤ at_) (hn : at_ + n ≤ 20) (hi : 1 ≤ id) (hid : id ≤ 90000) :
    RunF prog 39 [.int .i64 20, .int .i64 (at_ : Int), .int .i64 (n : Int), .int .i64 (id : Int)] h fun v h' => Fr no h h' ∧ ∃ b c, h.next ≤ b ∧ v = .slice (some ⟨b, 0, none⟩) 1280 c ∧ Cp 1 1280 c ∧ Ow h' b (us (recI at_ n id)) := by
  refine RunF.walk func39 rfl rfl ?_
  refine RunC.seq (RunC.region (RunO.all rfl ?_))
  refine RunC.seq (RunC.region (RunO.part 2 rfl ?_))
  refine RunO.make (m := 1280) rfl rfl rfl rfl rfl rfl (Nat.le_of_ble_eq_true rfl) (by decide) rfl ?_
  rw [reps_us]
  have oi := Ow.push h (us (List.replicate 1280 0))
  have f1 : Fr no h (h.push ⟨us (List.replicate 1280 0), true⟩) := Fr.push _ _ _
  generalize h.push ⟨us (List.replicate 1280 0), true⟩ = h1 at *
  obtain ⟨qi, hqi⟩ : ∃ q, q = h.next := ⟨_, rfl⟩
  rw [← hqi] at oi ⊢
  have hq1 := oi.1
  refine RunO.all rfl ?_
  refine RunC.seq (RunC.region (RunO.all (h1 := h1.push ⟨[], true⟩) rfl ?_))
  have oe := Ow.push h1 []
  have f2 : Fr no h1 (h1.push ⟨[], true⟩) := Fr.push _ _ _
  replace oi := oi.fr f2 (fun g => g)
  have F2 := f1.same f2
  generalize h1.push ⟨[], true⟩ = h2_ at *
  obtain ⟨eb, heb⟩ : ∃ q, q = h1.next := ⟨_, rfl⟩
  rw [← heb] at oe ⊢
  have he2 := oe.1
  refine RunC.seq (RunC.seq (RunC.region (RunO.all rfl ?_)))
  refine RunC.block ?_
  refine RunC.loop (fun d E h' => ∃ (i : Nat) (lv : Value), i + d = n ∧ IosG eb h' lv (rcW at_ n id i) ∧ Ow h' qi (us (List.replicate 1280 0)) ∧ Fr no h h' ∧ eb < h'.next ∧ Le ((upd (upd (upd (upd (upd (upd (upd E0 0 (.int .i64 20)) 1 (.int .i64 (at_ : Int))) 2 (.int .i64 (n : Int))) 3 (.int .i64 (id : Int))) 9 (.slice (some ⟨qi, 0, none⟩) 1280 (exc 1280))) 10 (lv)) 11 (.int .i64 (i : Int)))) E) ?st (k := n) ?ini
  case ini =>
    refine ⟨0, .slice (some ⟨eb, 0, none⟩) 0 (exc 0), by omega, ⟨[], Gr.full oe rfl (Nat.le_refl _), fun j x hx => by cases hx⟩, oi, F2, he2, Le.cons rfl (Le.cons rfl (Le.cons rfl (Le.cons rfl (Le.cons rfl (Le.cons rfl (Le.cons rfl (Le.nil _)))))))⟩
  rintro d E g1 ⟨i, lv, hi_, ios, oi, fg, heg, hE⟩
  refine RunC.le hE ?_
  clear hE
  refine RunC.seq (RunC.seq (RunC.region (RunO.all rfl ?_)))
  refine RunC.cond rfl (fun hlt => RunC.skip ?go) (fun hge => RunC.exit ?ex)
  case go =>
    have hlt := of_decide_eq_true hlt
    have hlt : i < n := by omega
    have hlv1 : ∀ b, At lv b → b < g1.next := fun b g => by
      obtain ⟨acs, gr, _⟩ := ios
      exact (gr.at g).2
    refine RunC.seq (RunC.block ?_)
    refine RunC.seq (RunC.region (RunO.part 3 rfl ?_))
    rw [fw64 (x := (id : Int) + (i : Int)) (by omega) (by omega), show (id : Int) + (i : Int) = ((id + i : Nat) : Int) by omega]
    refine RunO.part 2 (h1 := g1.push ⟨rc8 ⟨0, 0, 0, 0, 0, 0, 0, 0⟩, true⟩) rfl ?_
    refine RunO.store rfl rfl (store_ow (s := 8) (Ow.push g1 (rc8 ⟨0, 0, 0, 0, 0, 0, 0, 0⟩)) rfl rfl rfl (Nat.le_refl 8)) (RunO.nil ?_)
    have e8 : (rc8 ⟨0, 0, 0, 0, 0, 0, 0, 0⟩).take 0 ++ cellsOf (.agg ⟨rc8 ⟨0, ((id + i : Nat) : Int), 0, 0, 0, 0, 0, 0⟩⟩) ++ (rc8 ⟨0, 0, 0, 0, 0, 0, 0, 0⟩).drop (0 + 8) = rc8 ⟨0, ((id + i : Nat) : Int), 0, 0, 0, 0, 0, 0⟩ := rfl
    have on : Ow ((g1.push ⟨rc8 ⟨0, 0, 0, 0, 0, 0, 0, 0⟩, true⟩).put g1.next (some ⟨rc8 ⟨0, ((id + i : Nat) : Int), 0, 0, 0, 0, 0, 0⟩, true⟩)) g1.next (rc8 ⟨0, ((id + i : Nat) : Int), 0, 0, 0, 0, 0, 0⟩) := Ow.put _ (Nat.lt_succ_self _)
    have f3 : Fr no g1 ((g1.push ⟨rc8 ⟨0, 0, 0, 0, 0, 0, 0, 0⟩, true⟩).put g1.next (some ⟨rc8 ⟨0, ((id + i : Nat) : Int), 0, 0, 0, 0, 0, 0⟩, true⟩)) := (Fr.push _ _ _).trans (Fr.put (m := (· = g1.next)) _ (.inl rfl)) (fun j hj => .inr (by omega))
    have hig := oi.1
    show RunC prog _ _ _ ((g1.push ⟨rc8 ⟨0, 0, 0, 0, 0, 0, 0, 0⟩, true⟩).put g1.next (some ⟨rc8 ⟨0, ((id + i : Nat) : Int), 0, 0, 0, 0, 0, 0⟩, true⟩)) _ _ _
    generalize (g1.push ⟨rc8 ⟨0, 0, 0, 0, 0, 0, 0, 0⟩, true⟩).put g1.next (some ⟨rc8 ⟨0, ((id + i : Nat) : Int), 0, 0, 0, 0, 0, 0⟩, true⟩) = g2 at *
    obtain ⟨pb, hpb⟩ : ∃ q, q = g1.next := ⟨_, rfl⟩
    rw [← hpb] at on ⊢
    refine RunC.seqc (fun E' h' => Ow h' pb (rc8 (rcR at_ n id i)) ∧ Fr (· = pb) g2 h' ∧ Le ((upd (upd (upd (upd (upd (upd (upd (upd E0 0 (.int .i64 20)) 1 (.int .i64 (at_ : Int))) 2 (.int .i64 (n : Int))) 3 (.int .i64 (id : Int))) 9 (.slice (some ⟨qi, 0, none⟩) 1280 (exc 1280))) 10 (lv)) 11 (.int .i64 (i : Int))) 12 (.pointer (some ⟨pb, 0, none⟩)))) E') ?nx ?by_
    case nx =>
      refine RunC.seq (RunC.region (RunO.part 3 rfl ?_))
      rw [fw64 (x := (n : Int) - 1) (by omega) (by omega)]
      refine RunO.all rfl ?_
      by_cases hl : i + 1 < n
      · rw [show decide ((i : Int) < (n : Int) - 1) = true from decide_eq_true (by omega)]
        refine RunC.cond rfl (fun _ => ?_) (fun g => by cases g)
        refine RunC.region (RunO.part 3 rfl ?_)
        rw [fw64 (x := (at_ : Int) + (i : Int)) (by omega) (by omega)]
        refine RunO.part 1 rfl ?_
        rw [fw64 (x := (at_ : Int) + (i : Int) + 1) (by omega) (by omega), show (at_ : Int) + (i : Int) + 1 = ((at_ + i + 1 : Nat) : Int) by omega]
        refine RunO.part 1 rfl ?_
        refine RunO.store rfl rfl (store1_ow on rfl rfl rfl (Nat.le_of_ble_eq_true rfl)) (RunO.nil ?_)
        have e : rcR at_ n id i = ⟨((at_ + i + 1 : Nat) : Int), ((id + i : Nat) : Int), 0, 0, 0, 0, 0, 0⟩ := by unfold rcR rcNx; rw [if_pos hl]
        rw [e]
        exact ⟨Ow.put _ on.1, Fr.put _ (.inl rfl), Le.cons rfl (Le.cons rfl (Le.cons rfl (Le.cons rfl (Le.cons rfl (Le.cons rfl (Le.cons rfl (Le.cons rfl (Le.nil _))))))))⟩
      · rw [show decide ((i : Int) < (n : Int) - 1) = false from decide_eq_false (by omega)]
        refine RunC.cond rfl (fun g => by cases g) (fun _ => RunC.skip ?_)
        have e : rcR at_ n id i = ⟨0, ((id + i : Nat) : Int), 0, 0, 0, 0, 0, 0⟩ := by unfold rcR rcNx; rw [if_neg hl]
        rw [e]
        exact ⟨on, Fr.refl _ _, Le.cons rfl (Le.cons rfl (Le.cons rfl (Le.cons rfl (Le.cons rfl (Le.cons rfl (Le.cons rfl (Le.cons rfl (Le.nil _))))))))⟩
    rintro E' g3 ⟨on, f4, hE⟩
    refine RunC.le hE ?_
    clear hE
    have hrok := rcR_ok (at_ := at_) (n := n) (id := id) (i := i) h2 hi (by omega) hlt (by omega)
    have F13 : Fr no g1 g3 := f3.trans f4 (fun b e => .inr (by have e : b = pb := e; omega))
    replace ios := ios.fr0 F13
    replace oi := oi.fr F13 (fun g => g)
    have fg3 := fg.same F13
    refine RunC.seq (RunC.region ?_)
    refine RunO.load (v := .agg ⟨rc8 (rcR at_ n id i)⟩) rfl (on.ld rfl) rfl ?_
    refine RunO.callD (recBytes_ok (n := (rcR at_ n id i).nx) (id := (rcR at_ n id i).id) (pa := 0) (ro := 0) (sz := 0) (ki := 0) (fr := 0) (di := 0)) rfl rfl rfl ?_
    rintro _ g4 ⟨f5, ⟨_, db, hdb, rfl, od⟩ | ⟨g, _⟩⟩
    case inr =>
      have g : r8Ok (rcR at_ n id i) = false := g
      rw [hrok] at g; cases g
    have od : Ow g4 db (us (r8B (rcR at_ n id i))) := od
    replace ios := ios.fr0 f5
    replace oi := oi.fr f5 (fun g => g)
    have fg4 := fg3.same f5
    have hrl := r8B_len (rcR at_ n id i)
    have hrb := r8B_byt (rcR at_ n id i)
    have hws := rcW_succ at_ n id i
    have hwl := rcW_len at_ n id i
    generalize r8B (rcR at_ n id i) = RB at *
    refine RunO.all rfl ?_
    refine RunC.region (RunO.part 4 rfl ?_)
    rw [fw64 (x := (at_ : Int) + (i : Int)) (by omega) (by omega), show (at_ : Int) + (i : Int) = ((at_ + i : Nat) : Int) by omega]
    refine RunO.part 3 (h1 := g4.push ⟨[.int .i64 1, .int .i64 ((at_ + i : Nat) : Int), .slice (some ⟨db, 0, none⟩) 64 (exc 64)], true⟩) rfl ?_
    have ot := Ow.push g4 [.int .i64 1, .int .i64 ((at_ + i : Nat) : Int), .slice (some ⟨db, 0, none⟩) 64 (exc 64)]
    have f6 : Fr no g4 (g4.push ⟨[.int .i64 1, .int .i64 ((at_ + i : Nat) : Int), .slice (some ⟨db, 0, none⟩) 64 (exc 64)], true⟩) := Fr.push _ _ _
    have hlv : ∀ b, At lv b → eb ≤ b ∧ b < g3.next := fun b g => by
      obtain ⟨acs, gr, _⟩ := ios
      have h1 := gr.at g
      refine ⟨h1.1, ?_⟩
      have := hlv1 b g
      have := F13.next
      omega
    replace ios := ios.fr0 f6
    replace oi := oi.fr f6 (fun g => g)
    replace od := od.fr f6 (fun g => g)
    have fg6 := fg4.same f6
    have hn6 := f6.next
    have hn5 := f5.next
    have hn13 := F13.next
    generalize g4.push ⟨[.int .i64 1, .int .i64 ((at_ + i : Nat) : Int), .slice (some ⟨db, 0, none⟩) 64 (exc 64)], true⟩ = g5 at *
    obtain ⟨acs, gr, hk⟩ := ios
    have hacl := gr.1
    refine RunO.appendG (s := 3) (j := 1) rfl rfl rfl rfl rfl rfl rfl rfl (by decide) gr ot.all rfl (Nat.le_refl 1) rfl (by show 2 * (_ + 1) * 40 ≤ _; omega) (by omega) ?_
    intro lv2 g6 row f7
    have ios2 := IosG.snoc (x := ((1 : Int), ((at_ + i : Nat) : Int), RB, ())) gr hk od hrl hrb (fun g => by have := hlv db g; omega) row f7 (show eb ≤ g5.next by omega)
    rw [← hws] at ios2
    have oi2 := oi.fr f7 (fun g => by have := hlv qi g; omega)
    have hn7 := f7.next
    refine RunO.all rfl ?_
    refine RunC.region (RunO.all rfl ?_)
    exact ⟨d - 1, by omega, i + 1, lv2, by omega, ios2, oi2, fg6.trans f7 (fun b g => .inr (by have := (hlv b g).1; omega)), by omega, Le.cons (inc64 (by omega)) (Le.cons rfl (Le.cons rfl (Le.cons rfl (Le.cons rfl (Le.cons rfl (Le.cons rfl (Le.nil _)))))))⟩
  have hge := of_decide_eq_false hge
  obtain rfl : i = n := by omega
  -- the superblock
  refine RunC.seq (RunC.region (RunO.part 3 (h1 := g1.push ⟨sc 0 0 0 0 0, true⟩) rfl ?_))
  refine RunO.store rfl rfl (store_ow (s := 5) (Ow.push g1 (sc 0 0 0 0 0)) rfl rfl rfl (by decide)) (RunO.nil ?_)
  have os : Ow ((g1.push ⟨sc 0 0 0 0 0, true⟩).put g1.next (some ⟨sc 1 20 0 0 0, true⟩)) g1.next (sc 1 20 0 0 0) := Ow.put _ (Nat.lt_succ_self _)
  have f3 : Fr no g1 ((g1.push ⟨sc 0 0 0 0 0, true⟩).put g1.next (some ⟨sc 1 20 0 0 0, true⟩)) := (Fr.push _ _ _).trans (Fr.put (m := (· = g1.next)) _ (.inl rfl)) (fun j hj => .inr (by omega))
  have hlv1 : ∀ b, At lv b → b < g1.next := fun b g => by
    obtain ⟨acs, gr, _⟩ := ios
    exact (gr.at g).2
  have hlve : ∀ b, At lv b → eb ≤ b := fun b g => by
    obtain ⟨acs, gr, _⟩ := ios
    exact (gr.at g).1
  show RunC prog _ _ _ ((g1.push ⟨sc 0 0 0 0 0, true⟩).put g1.next (some ⟨sc 1 20 0 0 0, true⟩)) _ _ _
  generalize (g1.push ⟨sc 0 0 0 0 0, true⟩).put g1.next (some ⟨sc 1 20 0 0 0, true⟩) = g2 at *
  obtain ⟨sb, hsb⟩ : ∃ q, q = g1.next := ⟨_, rfl⟩
  rw [← hsb] at os ⊢
  refine RunC.seqc (fun E' h' => Ow h' sb (sc 1 20 0 0 (rcF at_ i)) ∧ Fr (· = sb) g2 h' ∧ Le ((upd (upd (upd (upd (upd (upd (upd E0 0 (.int .i64 20)) 1 (.int .i64 (at_ : Int))) 2 (.int .i64 (i : Int))) 3 (.int .i64 (id : Int))) 9 (.slice (some ⟨qi, 0, none⟩) 1280 (exc 1280))) 10 (lv)) 15 (.pointer (some ⟨sb, 0, none⟩)))) E') ?fs ?sb_
  case fs =>
    refine RunC.seq (RunC.region (RunO.all rfl ?_))
    by_cases h0 : 0 < i
    · rw [show decide ((i : Int) > 0) = true from decide_eq_true (by omega)]
      refine RunC.cond rfl (fun _ => ?_) (fun g => by cases g)
      refine RunC.region (RunO.part 2 rfl ?_)
      refine RunO.store rfl rfl (store1_ow os rfl rfl rfl (Nat.le_of_ble_eq_true rfl)) (RunO.nil ?_)
      have e : rcF at_ i = (at_ : Int) := by unfold rcF; rw [if_pos h0]
      rw [e]
      exact ⟨Ow.put _ os.1, Fr.put _ (.inl rfl), Le.cons rfl (Le.cons rfl (Le.cons rfl (Le.cons rfl (Le.cons rfl (Le.cons rfl (Le.cons rfl (Le.nil _)))))))⟩
    · rw [show decide ((i : Int) > 0) = false from decide_eq_false (by omega)]
      refine RunC.cond rfl (fun g => by cases g) (fun _ => RunC.skip ?_)
      have e : rcF at_ i = 0 := by unfold rcF; rw [if_neg h0]
      rw [e]
      exact ⟨os, Fr.refl _ _, Le.cons rfl (Le.cons rfl (Le.cons rfl (Le.cons rfl (Le.cons rfl (Le.cons rfl (Le.cons rfl (Le.nil _)))))))⟩
  rintro E' g3 ⟨os, f4, hE⟩
  refine RunC.le hE ?_
  clear hE
  have F13 : Fr no g1 g3 := f3.trans f4 (fun b e => .inr (by have e : b = sb := e; omega))
  replace ios := ios.fr0 F13
  replace oi := oi.fr F13 (fun g => g)
  have fg3 := fg.same F13
  have hsok := rcS_ok h2 hn hi hid
  refine RunC.seq (RunC.region ?_)
  refine RunO.load (v := .agg ⟨sc 1 20 0 0 (rcF at_ i)⟩) rfl (os.ld rfl) rfl ?_
  refine RunO.callD (superBytes_ok (g := 1) (bl := 20) (rt := 0) (sz := 0) (fi := rcF at_ i)) rfl rfl rfl ?_
  rintro _ g4 ⟨f5, ⟨_, db, hdb, rfl, od⟩ | ⟨g, _⟩⟩
  case inr => rw [hsok] at g; cases g
  replace ios := ios.fr0 f5
  replace oi := oi.fr f5 (fun g => g)
  have fg4 := fg3.same f5
  have od : Ow g4 db (us (rcS at_ i)) := od
  have hstp := recI_stp h2 hn hi hid
  have hsl : (rcS at_ i).length = 64 := superBlock_len ..
  have hsbt : Byt (rcS at_ i) := superBlock_byt _ _ _ _ _
  have hrL : rcL at_ i id = rcW at_ i id i ++ [((1 : Int), 0, rcS at_ i, ())] := rfl
  have hrI : recI at_ i id = applyL (List.replicate 1280 0) (rcL at_ i id) := rfl
  have hwl := rcW_len at_ i id i
  rw [hrI]
  rw [hrL] at hstp ⊢
  generalize rcS at_ i = SB at *
  generalize rcW at_ i id i = W at *
  refine RunO.all rfl ?_
  refine RunC.seq (RunC.region (RunO.part 3 rfl ?_))
  refine RunO.part 2 (h1 := g4.push ⟨[.int .i64 1, .int .i64 0, .slice (some ⟨db, 0, none⟩) 64 (exc 64)], true⟩) rfl ?_
  have ot := Ow.push g4 [.int .i64 1, .int .i64 0, .slice (some ⟨db, 0, none⟩) 64 (exc 64)]
  have f6 : Fr no g4 (g4.push ⟨[.int .i64 1, .int .i64 0, .slice (some ⟨db, 0, none⟩) 64 (exc 64)], true⟩) := Fr.push _ _ _
  replace ios := ios.fr0 f6
  replace oi := oi.fr f6 (fun g => g)
  replace od := od.fr f6 (fun g => g)
  have fg6 := fg4.same f6
  have hn6 := f6.next
  have hn5 := f5.next
  have hn13 := F13.next
  generalize g4.push ⟨[.int .i64 1, .int .i64 0, .slice (some ⟨db, 0, none⟩) 64 (exc 64)], true⟩ = g5 at *
  obtain ⟨acs, gr, hk⟩ := ios
  refine RunO.appendG (s := 3) (j := 1) rfl rfl rfl rfl rfl rfl rfl rfl (by decide) gr ot.all rfl (Nat.le_refl 1) rfl (by show 2 * (_ + 1) * 40 ≤ _; omega) (by omega) ?_
  intro lv2 g6 row f7
  have ios2 := IosG.snoc (x := ((1 : Int), 0, SB, ())) gr hk od hsl hsbt (fun g => by have := hlv1 db g; omega) row f7 (show eb ≤ g5.next by omega)
  have oi2 := oi.fr f7 (fun g => by have := hlve qi g; omega)
  have fg7 : Fr no h g6 := fg6.trans f7 (fun b g => .inr (by have := hlve b g; omega))
  have si := sl_own oi2 (List.length_replicate (n := 1280) (a := (0 : Int))) (Cp.exc (Nat.le_refl _)) (by decide)
  have il := ios2.ios (by rw [List.length_append, hwl, List.length_singleton]; omega)
  refine RunO.callD (devApply_ok si (by rw [List.length_replicate]; decide) il (by rw [List.length_append, hwl, List.length_singleton]; omega)) rfl rfl rfl ?_
  rw [List.length_replicate, hstp]
  rintro _ g7 ⟨f8, ⟨_, xb, xc, hxb, rfl, hxc, ox⟩ | ⟨g, _⟩⟩
  case inr => exact absurd rfl g
  refine RunO.all rfl ?_
  refine RunC.seq (RunC.seq (RunC.region (RunO.all rfl (RunC.cond rfl (fun g => by cases g) (fun _ => RunC.skip ?_)))))
  have hnx := fg7.next
  exact RunC.seq (RunC.region (RunO.all rfl (RunC.ret ⟨_, rfl, fg7.same f8, xb, xc, by omega, rfl, hxc, ox⟩)))
end Go.Proofs.Ytcbakhanpiemhaa
end
section
set_option linter.unusedVariables false
set_option linter.unusedSectionVars false
set_option maxRecDepth 100000
open Go Go.Am Go.RowKit
namespace Go.Proofs.Ytcbakhanpiemhaa
open Go.Proofs.Try
def rcS3 (at_ n : Nat) : List Int := superBlock 1 30 0 0 (rcF at_ n)
def rcL3 (at_ n id : Nat) : List IoT := rcW at_ n id n ++ [((1 : Int), 0, rcS3 at_ n, ())]
def recJ (at_ n id : Nat) : List Int := applyL (List.replicate 1920 0) (rcL3 at_ n id)
section
variable {at_ n id : Nat} (h2 : 2 ≤ at_) (hn : at_ + n ≤ 30) (hi : 1 ≤ id) (hid : id ≤ 90000)
include h2 hn hi hid
theorem rcS3_ok : superOk 1 30 0 0 (rcF at_ n) = true := (superOk_iff _ _ _ _ _).2 ⟨by decide, by decide, by decide, .inl rfl, by unfold rcF; split <;> omega⟩
theorem rcL3_wr : ∀ x ∈ rcL3 at_ n id, wrG 1920 x := by
  intro x hx
  unfold rcL3 at hx
  rcases List.mem_append.1 hx with g | g
  · unfold rcW at g
    obtain ⟨i, hin, rfl⟩ := List.mem_map.1 g
    have hin := List.mem_range.1 hin
    exact ⟨rfl, ⟨at_ + i, rfl, by omega⟩, r8B_len _, r8B_byt _⟩
  · rw [List.mem_singleton.1 g]
    exact ⟨rfl, ⟨0, rfl, by decide⟩, superBlock_len .., superBlock_byt _ _ _ _ _⟩
theorem recJ_len : (recJ at_ n id).length = 1920 := (apL_w _ _ (rcL3_wr h2 hn hi hid) List.length_replicate (byt_zeros 1920)).1
theorem recJ_byt : Byt (recJ at_ n id) := (apL_w _ _ (rcL3_wr h2 hn hi hid) List.length_replicate (byt_zeros 1920)).2.1
theorem recJ_stp : stepsE 1920 (rcL3 at_ n id) = 0 := stE_w (by decide) (by unfold rcL3; rw [List.length_append, rcW_len, List.length_singleton]; omega) (rcL3_wr h2 hn hi hid)
theorem rcL3_pair : List.Pairwise (fun x y : IoT => x.2.1 ≠ y.2.1) (rcL3 at_ n id) := by
  unfold rcL3
  rw [List.pairwise_append]
  refine ⟨?_, List.pairwise_singleton _ _, fun x hx y hy => ?_⟩
  · unfold rcW
    rw [List.pairwise_map]
    refine List.Pairwise.imp (fun {a b} h => ?_) (List.pairwise_lt_range (n := n))
    show ((at_ + a : Nat) : Int) ≠ ((at_ + b : Nat) : Int)
    omega
  · rw [List.mem_singleton.1 hy]
    unfold rcW at hx
    obtain ⟨i, _, rfl⟩ := List.mem_map.1 hx
    show ((at_ + i : Nat) : Int) ≠ 0
    omega
theorem recJ_blk {i : Nat} (hin : i < n) : blkI (recJ at_ n id) (at_ + i) = r8B (rcR at_ n id i) := by
  have hm : ((1 : Int), ((at_ + i : Nat) : Int), r8B (rcR at_ n id i), ()) ∈ rcL3 at_ n id := List.mem_append.2 (.inl (List.mem_map.2 ⟨i, List.mem_range.2 hin, rfl⟩))
  have := apL_at _ _ (rcL3_wr h2 hn hi hid) List.length_replicate (byt_zeros 1920) (rcL3_pair h2 hn hi hid) _ hm
  exact this
theorem recJ_blk0 : blkI (recJ at_ n id) 0 = rcS3 at_ n := by
  have hm : ((1 : Int), (0 : Int), rcS3 at_ n, ()) ∈ rcL3 at_ n id := List.mem_append.2 (.inr (List.mem_singleton.2 rfl))
  have := apL_at _ _ (rcL3_wr h2 hn hi hid) List.length_replicate (byt_zeros 1920) (rcL3_pair h2 hn hi hid) _ hm
  exact this
theorem recJ_zero {c : Nat} (h0 : c ≠ 0) (hc : c < at_ ∨ at_ + n ≤ c) (hc2 : c < 30) : blkI (recJ at_ n id) c = List.replicate 64 0 := by
  rw [show recJ at_ n id = applyL (List.replicate 1920 0) (rcL3 at_ n id) from rfl, (apL_w _ _ (rcL3_wr h2 hn hi hid) List.length_replicate (byt_zeros 1920)).2.2 c (fun x hx => ?_), rep_blk _ _ (by omega)]
  unfold rcL3 at hx
  rcases List.mem_append.1 hx with g | g
  · unfold rcW at g
    obtain ⟨i, hin, rfl⟩ := List.mem_map.1 g
    have hin := List.mem_range.1 hin
    show ((at_ + i : Nat) : Int) ≠ (c : Int)
    omega
  · rw [List.mem_singleton.1 g]
    show (0 : Int) ≠ (c : Int)
    omega
end
set_option maxHeartbeats 16000000 in
theorem lawRecords3_ok {h : Heap} {at_ n id : Nat} (h2 : 2 ≤ at_) (hn : at_ + n ≤ 30) (hi : 1 ≤ id) (hid : id ≤ 90000) :
    RunF prog 39 [.int .i64 30, .int .i64 (at_ : Int), .int .i64 (n : Int), .int .i64 (id : Int)] h fun v h' => Fr no h h' ∧ ∃ b c, h.next ≤ b ∧ v = .slice (some ⟨b, 0, none⟩) 1920 c ∧ Cp 1 1920 c ∧ Ow h' b (us (recJ at_ n id)) := by
  refine RunF.walk func39 rfl rfl ?_
  refine RunC.seq (RunC.region (RunO.all rfl ?_))
  refine RunC.seq (RunC.region (RunO.part 2 rfl ?_))
  refine RunO.make (m := 1920) rfl rfl rfl rfl rfl rfl (Nat.le_of_ble_eq_true rfl) (by decide) rfl ?_
  rw [reps_us]
  have oi := Ow.push h (us (List.replicate 1920 0))
  have f1 : Fr no h (h.push ⟨us (List.replicate 1920 0), true⟩) := Fr.push _ _ _
  generalize h.push ⟨us (List.replicate 1920 0), true⟩ = h1 at *
  obtain ⟨qi, hqi⟩ : ∃ q, q = h.next := ⟨_, rfl⟩
  rw [← hqi] at oi ⊢
  have hq1 := oi.1
  refine RunO.all rfl ?_
  refine RunC.seq (RunC.region (RunO.all (h1 := h1.push ⟨[], true⟩) rfl ?_))
  have oe := Ow.push h1 []
  have f2 : Fr no h1 (h1.push ⟨[], true⟩) := Fr.push _ _ _
  replace oi := oi.fr f2 (fun g => g)
  have F2 := f1.same f2
  generalize h1.push ⟨[], true⟩ = h2_ at *
  obtain ⟨eb, heb⟩ : ∃ q, q = h1.next := ⟨_, rfl⟩
  rw [← heb] at oe ⊢
  have he2 := oe.1
  refine RunC.seq (RunC.seq (RunC.region (RunO.all rfl ?_)))
  refine RunC.block ?_
  refine RunC.loop (fun d E h' => ∃ (i : Nat) (lv : Value), i + d = n ∧ IosG eb h' lv (rcW at_ n id i) ∧ Ow h' qi (us (List.replicate 1920 0)) ∧ Fr no h h' ∧ eb < h'.next ∧ Le ((upd (upd (upd (upd (upd (upd (upd E0 0 (.int .i64 30)) 1 (.int .i64 (at_ : Int))) 2 (.int .i64 (n : Int))) 3 (.int .i64 (id : Int))) 9 (.slice (some ⟨qi, 0, none⟩) 1920 (exc 1920))) 10 (lv)) 11 (.int .i64 (i : Int)))) E) ?st (k := n) ?ini
  case ini =>
    refine ⟨0, .slice (some ⟨eb, 0, none⟩) 0 (exc 0), by omega, ⟨[], Gr.full oe rfl (Nat.le_refl _), fun j x hx => by cases hx⟩, oi, F2, he2, Le.cons rfl (Le.cons rfl (Le.cons rfl (Le.cons rfl (Le.cons rfl (Le.cons rfl (Le.cons rfl (Le.nil _)))))))⟩
  rintro d E g1 ⟨i, lv, hi_, ios, oi, fg, heg, hE⟩
  refine RunC.le hE ?_
  clear hE
  refine RunC.seq (RunC.seq (RunC.region (RunO.all rfl ?_)))
  refine RunC.cond rfl (fun hlt => RunC.skip ?go) (fun hge => RunC.exit ?ex)
  case go =>
    have hlt := of_decide_eq_true hlt
    have hlt : i < n := by omega
    have hlv1 : ∀ b, At lv b → b < g1.next := fun b g => by
      obtain ⟨acs, gr, _⟩ := ios
      exact (gr.at g).2
    refine RunC.seq (RunC.block ?_)
    refine RunC.seq (RunC.region (RunO.part 3 rfl ?_))
    rw [fw64 (x := (id : Int) + (i : Int)) (by omega) (by omega), show (id : Int) + (i : Int) = ((id + i : Nat) : Int) by omega]
    refine RunO.part 2 (h1 := g1.push ⟨rc8 ⟨0, 0, 0, 0, 0, 0, 0, 0⟩, true⟩) rfl ?_
    refine RunO.store rfl rfl (store_ow (s := 8) (Ow.push g1 (rc8 ⟨0, 0, 0, 0, 0, 0, 0, 0⟩)) rfl rfl rfl (Nat.le_refl 8)) (RunO.nil ?_)
    have e8 : (rc8 ⟨0, 0, 0, 0, 0, 0, 0, 0⟩).take 0 ++ cellsOf (.agg ⟨rc8 ⟨0, ((id + i : Nat) : Int), 0, 0, 0, 0, 0, 0⟩⟩) ++ (rc8 ⟨0, 0, 0, 0, 0, 0, 0, 0⟩).drop (0 + 8) = rc8 ⟨0, ((id + i : Nat) : Int), 0, 0, 0, 0, 0, 0⟩ := rfl
    have on : Ow ((g1.push ⟨rc8 ⟨0, 0, 0, 0, 0, 0, 0, 0⟩, true⟩).put g1.next (some ⟨rc8 ⟨0, ((id + i : Nat) : Int), 0, 0, 0, 0, 0, 0⟩, true⟩)) g1.next (rc8 ⟨0, ((id + i : Nat) : Int), 0, 0, 0, 0, 0, 0⟩) := Ow.put _ (Nat.lt_succ_self _)
    have f3 : Fr no g1 ((g1.push ⟨rc8 ⟨0, 0, 0, 0, 0, 0, 0, 0⟩, true⟩).put g1.next (some ⟨rc8 ⟨0, ((id + i : Nat) : Int), 0, 0, 0, 0, 0, 0⟩, true⟩)) := (Fr.push _ _ _).trans (Fr.put (m := (· = g1.next)) _ (.inl rfl)) (fun j hj => .inr (by omega))
    have hig := oi.1
    show RunC prog _ _ _ ((g1.push ⟨rc8 ⟨0, 0, 0, 0, 0, 0, 0, 0⟩, true⟩).put g1.next (some ⟨rc8 ⟨0, ((id + i : Nat) : Int), 0, 0, 0, 0, 0, 0⟩, true⟩)) _ _ _
    generalize (g1.push ⟨rc8 ⟨0, 0, 0, 0, 0, 0, 0, 0⟩, true⟩).put g1.next (some ⟨rc8 ⟨0, ((id + i : Nat) : Int), 0, 0, 0, 0, 0, 0⟩, true⟩) = g2 at *
    obtain ⟨pb, hpb⟩ : ∃ q, q = g1.next := ⟨_, rfl⟩
    rw [← hpb] at on ⊢
    refine RunC.seqc (fun E' h' => Ow h' pb (rc8 (rcR at_ n id i)) ∧ Fr (· = pb) g2 h' ∧ Le ((upd (upd (upd (upd (upd (upd (upd (upd E0 0 (.int .i64 30)) 1 (.int .i64 (at_ : Int))) 2 (.int .i64 (n : Int))) 3 (.int .i64 (id : Int))) 9 (.slice (some ⟨qi, 0, none⟩) 1920 (exc 1920))) 10 (lv)) 11 (.int .i64 (i : Int))) 12 (.pointer (some ⟨pb, 0, none⟩)))) E') ?nx ?by_
    case nx =>
      refine RunC.seq (RunC.region (RunO.part 3 rfl ?_))
      rw [fw64 (x := (n : Int) - 1) (by omega) (by omega)]
      refine RunO.all rfl ?_
      by_cases hl : i + 1 < n
      · rw [show decide ((i : Int) < (n : Int) - 1) = true from decide_eq_true (by omega)]
        refine RunC.cond rfl (fun _ => ?_) (fun g => by cases g)
        refine RunC.region (RunO.part 3 rfl ?_)
        rw [fw64 (x := (at_ : Int) + (i : Int)) (by omega) (by omega)]
        refine RunO.part 1 rfl ?_
        rw [fw64 (x := (at_ : Int) + (i : Int) + 1) (by omega) (by omega), show (at_ : Int) + (i : Int) + 1 = ((at_ + i + 1 : Nat) : Int) by omega]
        refine RunO.part 1 rfl ?_
        refine RunO.store rfl rfl (store1_ow on rfl rfl rfl (Nat.le_of_ble_eq_true rfl)) (RunO.nil ?_)
        have e : rcR at_ n id i = ⟨((at_ + i + 1 : Nat) : Int), ((id + i : Nat) : Int), 0, 0, 0, 0, 0, 0⟩ := by unfold rcR rcNx; rw [if_pos hl]
        rw [e]
        exact ⟨Ow.put _ on.1, Fr.put _ (.inl rfl), Le.cons rfl (Le.cons rfl (Le.cons rfl (Le.cons rfl (Le.cons rfl (Le.cons rfl (Le.cons rfl (Le.cons rfl (Le.nil _))))))))⟩
      · rw [show decide ((i : Int) < (n : Int) - 1) = false from decide_eq_false (by omega)]
        refine RunC.cond rfl (fun g => by cases g) (fun _ => RunC.skip ?_)
        have e : rcR at_ n id i = ⟨0, ((id + i : Nat) : Int), 0, 0, 0, 0, 0, 0⟩ := by unfold rcR rcNx; rw [if_neg hl]
        rw [e]
        exact ⟨on, Fr.refl _ _, Le.cons rfl (Le.cons rfl (Le.cons rfl (Le.cons rfl (Le.cons rfl (Le.cons rfl (Le.cons rfl (Le.cons rfl (Le.nil _))))))))⟩
    rintro E' g3 ⟨on, f4, hE⟩
    refine RunC.le hE ?_
    clear hE
    have hrok := rcR_ok (at_ := at_) (n := n) (id := id) (i := i) h2 hi (by omega) hlt (by omega)
    have F13 : Fr no g1 g3 := f3.trans f4 (fun b e => .inr (by have e : b = pb := e; omega))
    replace ios := ios.fr0 F13
    replace oi := oi.fr F13 (fun g => g)
    have fg3 := fg.same F13
    refine RunC.seq (RunC.region ?_)
    refine RunO.load (v := .agg ⟨rc8 (rcR at_ n id i)⟩) rfl (on.ld rfl) rfl ?_
    refine RunO.callD (recBytes_ok (n := (rcR at_ n id i).nx) (id := (rcR at_ n id i).id) (pa := 0) (ro := 0) (sz := 0) (ki := 0) (fr := 0) (di := 0)) rfl rfl rfl ?_
    rintro _ g4 ⟨f5, ⟨_, db, hdb, rfl, od⟩ | ⟨g, _⟩⟩
    case inr =>
      have g : r8Ok (rcR at_ n id i) = false := g
      rw [hrok] at g; cases g
    have od : Ow g4 db (us (r8B (rcR at_ n id i))) := od
    replace ios := ios.fr0 f5
    replace oi := oi.fr f5 (fun g => g)
    have fg4 := fg3.same f5
    have hrl := r8B_len (rcR at_ n id i)
    have hrb := r8B_byt (rcR at_ n id i)
    have hws := rcW_succ at_ n id i
    have hwl := rcW_len at_ n id i
    generalize r8B (rcR at_ n id i) = RB at *
    refine RunO.all rfl ?_
    refine RunC.region (RunO.part 4 rfl ?_)
    rw [fw64 (x := (at_ : Int) + (i : Int)) (by omega) (by omega), show (at_ : Int) + (i : Int) = ((at_ + i : Nat) : Int) by omega]
    refine RunO.part 3 (h1 := g4.push ⟨[.int .i64 1, .int .i64 ((at_ + i : Nat) : Int), .slice (some ⟨db, 0, none⟩) 64 (exc 64)], true⟩) rfl ?_
    have ot := Ow.push g4 [.int .i64 1, .int .i64 ((at_ + i : Nat) : Int), .slice (some ⟨db, 0, none⟩) 64 (exc 64)]
    have f6 : Fr no g4 (g4.push ⟨[.int .i64 1, .int .i64 ((at_ + i : Nat) : Int), .slice (some ⟨db, 0, none⟩) 64 (exc 64)], true⟩) := Fr.push _ _ _
    have hlv : ∀ b, At lv b → eb ≤ b ∧ b < g3.next := fun b g => by
      obtain ⟨acs, gr, _⟩ := ios
      have h1 := gr.at g
      refine ⟨h1.1, ?_⟩
      have := hlv1 b g
      have := F13.next
      omega
    replace ios := ios.fr0 f6
    replace oi := oi.fr f6 (fun g => g)
    replace od := od.fr f6 (fun g => g)
    have fg6 := fg4.same f6
    have hn6 := f6.next
    have hn5 := f5.next
    have hn13 := F13.next
    generalize g4.push ⟨[.int .i64 1, .int .i64 ((at_ + i : Nat) : Int), .slice (some ⟨db, 0, none⟩) 64 (exc 64)], true⟩ = g5 at *
    obtain ⟨acs, gr, hk⟩ := ios
    have hacl := gr.1
    refine RunO.appendG (s := 3) (j := 1) rfl rfl rfl rfl rfl rfl rfl rfl (by decide) gr ot.all rfl (Nat.le_refl 1) rfl (by show 2 * (_ + 1) * 40 ≤ _; omega) (by omega) ?_
    intro lv2 g6 row f7
    have ios2 := IosG.snoc (x := ((1 : Int), ((at_ + i : Nat) : Int), RB, ())) gr hk od hrl hrb (fun g => by have := hlv db g; omega) row f7 (show eb ≤ g5.next by omega)
    rw [← hws] at ios2
    have oi2 := oi.fr f7 (fun g => by have := hlv qi g; omega)
    have hn7 := f7.next
    refine RunO.all rfl ?_
    refine RunC.region (RunO.all rfl ?_)
    exact ⟨d - 1, by omega, i + 1, lv2, by omega, ios2, oi2, fg6.trans f7 (fun b g => .inr (by have := (hlv b g).1; omega)), by omega, Le.cons (inc64 (by omega)) (Le.cons rfl (Le.cons rfl (Le.cons rfl (Le.cons rfl (Le.cons rfl (Le.cons rfl (Le.nil _)))))))⟩
  have hge := of_decide_eq_false hge
  obtain rfl : i = n := by omega
  -- the superblock
  refine RunC.seq (RunC.region (RunO.part 3 (h1 := g1.push ⟨sc 0 0 0 0 0, true⟩) rfl ?_))
  refine RunO.store rfl rfl (store_ow (s := 5) (Ow.push g1 (sc 0 0 0 0 0)) rfl rfl rfl (by decide)) (RunO.nil ?_)
  have os : Ow ((g1.push ⟨sc 0 0 0 0 0, true⟩).put g1.next (some ⟨sc 1 30 0 0 0, true⟩)) g1.next (sc 1 30 0 0 0) := Ow.put _ (Nat.lt_succ_self _)
  have f3 : Fr no g1 ((g1.push ⟨sc 0 0 0 0 0, true⟩).put g1.next (some ⟨sc 1 30 0 0 0, true⟩)) := (Fr.push _ _ _).trans (Fr.put (m := (· = g1.next)) _ (.inl rfl)) (fun j hj => .inr (by omega))
  have hlv1 : ∀ b, At lv b → b < g1.next := fun b g => by
    obtain ⟨acs, gr, _⟩ := ios
    exact (gr.at g).2
  have hlve : ∀ b, At lv b → eb ≤ b := fun b g => by
    obtain ⟨acs, gr, _⟩ := ios
    exact (gr.at g).1
  show RunC prog _ _ _ ((g1.push ⟨sc 0 0 0 0 0, true⟩).put g1.next (some ⟨sc 1 30 0 0 0, true⟩)) _ _ _
  generalize (g1.push ⟨sc 0 0 0 0 0, true⟩).put g1.next (some ⟨sc 1 30 0 0 0, true⟩) = g2 at *
  obtain ⟨sb, hsb⟩ : ∃ q, q = g1.next := ⟨_, rfl⟩
  rw [← hsb] at os ⊢
  refine RunC.seqc (fun E' h' => Ow h' sb (sc 1 30 0 0 (rcF at_ i)) ∧ Fr (· = sb) g2 h' ∧ Le ((upd (upd (upd (upd (upd (upd (upd E0 0 (.int .i64 30)) 1 (.int .i64 (at_ : Int))) 2 (.int .i64 (i : Int))) 3 (.int .i64 (id : Int))) 9 (.slice (some ⟨qi, 0, none⟩) 1920 (exc 1920))) 10 (lv)) 15 (.pointer (some ⟨sb, 0, none⟩)))) E') ?fs ?sb_
  case fs =>
    refine RunC.seq (RunC.region (RunO.all rfl ?_))
    by_cases h0 : 0 < i
    · rw [show decide ((i : Int) > 0) = true from decide_eq_true (by omega)]
      refine RunC.cond rfl (fun _ => ?_) (fun g => by cases g)
      refine RunC.region (RunO.part 2 rfl ?_)
      refine RunO.store rfl rfl (store1_ow os rfl rfl rfl (Nat.le_of_ble_eq_true rfl)) (RunO.nil ?_)
      have e : rcF at_ i = (at_ : Int) := by unfold rcF; rw [if_pos h0]
      rw [e]
      exact ⟨Ow.put _ os.1, Fr.put _ (.inl rfl), Le.cons rfl (Le.cons rfl (Le.cons rfl (Le.cons rfl (Le.cons rfl (Le.cons rfl (Le.cons rfl (Le.nil _)))))))⟩
    · rw [show decide ((i : Int) > 0) = false from decide_eq_false (by omega)]
      refine RunC.cond rfl (fun g => by cases g) (fun _ => RunC.skip ?_)
      have e : rcF at_ i = 0 := by unfold rcF; rw [if_neg h0]
      rw [e]
      exact ⟨os, Fr.refl _ _, Le.cons rfl (Le.cons rfl (Le.cons rfl (Le.cons rfl (Le.cons rfl (Le.cons rfl (Le.cons rfl (Le.nil _)))))))⟩
  rintro E' g3 ⟨os, f4, hE⟩
  refine RunC.le hE ?_
  clear hE
  have F13 : Fr no g1 g3 := f3.trans f4 (fun b e => .inr (by have e : b = sb := e; omega))
  replace ios := ios.fr0 F13
  replace oi := oi.fr F13 (fun g => g)
  have fg3 := fg.same F13
  have hsok := rcS3_ok h2 hn hi hid
  refine RunC.seq (RunC.region ?_)
  refine RunO.load (v := .agg ⟨sc 1 30 0 0 (rcF at_ i)⟩) rfl (os.ld rfl) rfl ?_
  refine RunO.callD (superBytes_ok (g := 1) (bl := 30) (rt := 0) (sz := 0) (fi := rcF at_ i)) rfl rfl rfl ?_
  rintro _ g4 ⟨f5, ⟨_, db, hdb, rfl, od⟩ | ⟨g, _⟩⟩
  case inr => rw [hsok] at g; cases g
  replace ios := ios.fr0 f5
  replace oi := oi.fr f5 (fun g => g)
  have fg4 := fg3.same f5
  have od : Ow g4 db (us (rcS3 at_ i)) := od
  have hstp := recJ_stp h2 hn hi hid
  have hsl : (rcS3 at_ i).length = 64 := superBlock_len ..
  have hsbt : Byt (rcS3 at_ i) := superBlock_byt _ _ _ _ _
  have hrL : rcL3 at_ i id = rcW at_ i id i ++ [((1 : Int), 0, rcS3 at_ i, ())] := rfl
  have hrI : recJ at_ i id = applyL (List.replicate 1920 0) (rcL3 at_ i id) := rfl
  have hwl := rcW_len at_ i id i
  rw [hrI]
  rw [hrL] at hstp ⊢
  generalize rcS3 at_ i = SB at *
  generalize rcW at_ i id i = W at *
  refine RunO.all rfl ?_
  refine RunC.seq (RunC.region (RunO.part 3 rfl ?_))
  refine RunO.part 2 (h1 := g4.push ⟨[.int .i64 1, .int .i64 0, .slice (some ⟨db, 0, none⟩) 64 (exc 64)], true⟩) rfl ?_
  have ot := Ow.push g4 [.int .i64 1, .int .i64 0, .slice (some ⟨db, 0, none⟩) 64 (exc 64)]
  have f6 : Fr no g4 (g4.push ⟨[.int .i64 1, .int .i64 0, .slice (some ⟨db, 0, none⟩) 64 (exc 64)], true⟩) := Fr.push _ _ _
  replace ios := ios.fr0 f6
  replace oi := oi.fr f6 (fun g => g)
  replace od := od.fr f6 (fun g => g)
  have fg6 := fg4.same f6
  have hn6 := f6.next
  have hn5 := f5.next
  have hn13 := F13.next
  generalize g4.push ⟨[.int .i64 1, .int .i64 0, .slice (some ⟨db, 0, none⟩) 64 (exc 64)], true⟩ = g5 at *
  obtain ⟨acs, gr, hk⟩ := ios
  refine RunO.appendG (s := 3) (j := 1) rfl rfl rfl rfl rfl rfl rfl rfl (by decide) gr ot.all rfl (Nat.le_refl 1) rfl (by show 2 * (_ + 1) * 40 ≤ _; omega) (by omega) ?_
  intro lv2 g6 row f7
  have ios2 := IosG.snoc (x := ((1 : Int), 0, SB, ())) gr hk od hsl hsbt (fun g => by have := hlv1 db g; omega) row f7 (show eb ≤ g5.next by omega)
  have oi2 := oi.fr f7 (fun g => by have := hlve qi g; omega)
  have fg7 : Fr no h g6 := fg6.trans f7 (fun b g => .inr (by have := hlve b g; omega))
  have si := sl_own oi2 (List.length_replicate (n := 1920) (a := (0 : Int))) (Cp.exc (Nat.le_refl _)) (by decide)
  have il := ios2.ios (by rw [List.length_append, hwl, List.length_singleton]; omega)
  refine RunO.callD (devApply_ok si (by rw [List.length_replicate]; decide) il (by rw [List.length_append, hwl, List.length_singleton]; omega)) rfl rfl rfl ?_
  rw [List.length_replicate, hstp]
  rintro _ g7 ⟨f8, ⟨_, xb, xc, hxb, rfl, hxc, ox⟩ | ⟨g, _⟩⟩
  case inr => exact absurd rfl g
  refine RunO.all rfl ?_
  refine RunC.seq (RunC.seq (RunC.region (RunO.all rfl (RunC.cond rfl (fun g => by cases g) (fun _ => RunC.skip ?_)))))
  have hnx := fg7.next
  exact RunC.seq (RunC.region (RunO.all rfl (RunC.ret ⟨_, rfl, fg7.same f8, xb, xc, by omega, rfl, hxc, ox⟩)))
end Go.Proofs.Ytcbakhanpiemhaa
end
section
set_option linter.unusedVariables false
set_option linter.unusedSectionVars false
set_option maxRecDepth 100000
open Go Go.Am Go.RowKit
namespace Go.Proofs.Ytcbakhanpiemhaa
open Go.Proofs.Try
/- How often each block is reached. -/
def bmp (c : List Int) (p : Int) : List Int := if p = 0 then c else c.set p.toNat (c.getD p.toNat 0 + 1)
def wPs (L : List Int) (a : Int) : List Int := (nodV (blkI L a.toNat)).2
def nodeB (L : List Int) (st : List Int × List Bool) (a : Int) : List Int × List Bool := if st.2.getD a.toNat false then st else ((wPs L a).foldl bmp st.1, st.2.set a.toNat true)
def treeB (L : List Int) (st : List Int × List Bool) (x : Int × List Int) : List Int × List Bool := x.2.foldl (nodeB L) (bmp st.1 x.1, st.2)
def c0L (B : Nat) (bl : List Int) : List Int := bl.foldl (fun c a => c.set a.toNat 1) (((List.replicate B 0).set 0 1).set 1 1)
def wRs (L : List Int) : List (Int × List Int) := (lkR L).map fun p => (p.1, treeN L p.1)
def cntL (L : List Int) : List Int := ((wRs L).foldl (treeB L) (c0L (L.length / 64) (lkF L).2.1, List.replicate (L.length / 64) false)).1
/-- So long, in bounds. -/
def CB (B : Nat) (k : Int) (c : List Int) : Prop := c.length = B ∧ ∀ x ∈ c, 0 ≤ x ∧ x ≤ k
theorem CB.get {B : Nat} {k : Int} {c : List Int} (h : CB B k c) (hk : 0 ≤ k) (j : Nat) : 0 ≤ c.getD j 0 ∧ c.getD j 0 ≤ k := by
  rw [List.getD_eq_getElem?_getD]
  cases e : c[j]? with
  | none => exact ⟨Int.le_refl _, hk⟩
  | some x => exact h.2 x (List.mem_of_getElem? e)
theorem CB.set {B : Nat} {k : Int} {c : List Int} (h : CB B k c) {j : Nat} {v : Int} (hv : 0 ≤ v ∧ v ≤ k) : CB B k (c.set j v) := by
  refine ⟨by rw [List.length_set]; exact h.1, fun x hx => ?_⟩
  rcases List.mem_or_eq_of_mem_set hx with g | g
  · exact h.2 x g
  · rw [g]; exact hv
theorem CB.le {B : Nat} {k k' : Int} {c : List Int} (h : CB B k c) (hk : k ≤ k') : CB B k' c := ⟨h.1, fun x hx => by have := h.2 x hx; omega⟩
theorem CB.bmp {B : Nat} {k : Int} {c : List Int} (h : CB B k c) (hk : 0 ≤ k) (p : Int) : CB B (k + 1) (bmp c p) := by
  unfold Go.Proofs.Ytcbakhanpiemhaa.bmp
  split
  · exact h.le (by omega)
  · have := h.get hk p.toNat
    exact (h.le (by omega)).set (by omega)
theorem wPs_len (L : List Int) (a : Int) : (wPs L a).length = 8 := nodV_len _
theorem wPs_ptrs {L : List Int} {B : Nat} {a : Int} (h : 2 ≤ a) (hB : a < (B : Int)) : wPs L a = ptrsL L B a := by
  unfold wPs ptrsL atV
  rw [if_neg (by omega), if_pos (atIn_iff.2 ⟨h, hB⟩)]
/-- A node's pointers lead to blocks of the device. -/
theorem tree_ptr {L : List Int} {root : Int} (hd : devOk L.length = true) (h : treeOk L root = true) {x : Int} (hx : x ∈ treeN L root) : ∀ p ∈ wPs L x, p = 0 ∨ (2 ≤ p ∧ p < (L.length / 64 : Nat)) := by
  have hdl : L.length % 64 = 0 ∧ 4 ≤ L.length / 64 ∧ L.length / 64 ≤ 4096 := by
    unfold devOk at hd
    simpa using hd
  have hr := (tree_rng hd h).2 x hx
  obtain ⟨hm, hn⟩ := tree_rng hd h
  obtain ⟨t, tn⟩ := TreeIs.of (by omega) h
  rw [wPs_ptrs hr.1 hr.2]
  intro p hp
  obtain ⟨i, hi, rfl⟩ := List.mem_iff_getElem.1 hp
  have hl := ptrsL_len L (L.length / 64) x
  have hi8 : i < 8 := by omega
  have hg : (ptrsL L (L.length / 64) x)[i] = (ptrsL L (L.length / 64) x).getD i 0 := by rw [List.getD_eq_getElem?_getD, List.getElem?_eq_getElem hi]; rfl
  rw [hg]
  rw [tn] at hx
  obtain ⟨h0, d, q, hd3, hq, hlk⟩ := nodL_mem.1 hx
  have hq8 : q * 8 + i < 8 ^ (d + 1) := by rw [Nat.pow_succ]; omega
  have hlast := look_last L (L.length / 64) d root (q * 8 + i) hq8
  rw [show (q * 8 + i) / 8 = q by omega, show (q * 8 + i) % 8 = i by omega, hlk] at hlast
  rw [← hlast]
  by_cases hz : look L (L.length / 64) (d + 1) root (q * 8 + i) = 0
  · exact .inl hz
  right
  have hge := ptr_ge (L := L) (B := L.length / 64) (p := x) (lv := ((3 - 1 - d : Nat) : Int)) (by rw [← hlk]; exact okA_lk 3 root d q t.ok hd3 hq (by rw [hlk]; exact h0)) hi8
  rw [← hlast] at hge
  refine ⟨by omega, ?_⟩
  by_cases hd2 : d + 1 < 3
  · exact (hn _ (by rw [tn]; exact nodL_mem.2 ⟨hz, d + 1, q * 8 + i, hd2, hq8, rfl⟩)).2
  · have e : d + 1 = 3 := by omega
    rw [e] at hq8 ⊢
    have h512 : q * 8 + i < 512 := by simpa using hq8
    rw [t.map _ h512]
    exact t.lt _ h512
theorem root_rng {L : List Int} {root : Int} (hd : devOk L.length = true) (h : treeOk L root = true) : root = 0 ∨ (2 ≤ root ∧ root < (L.length / 64 : Nat)) := by
  have hdl : L.length % 64 = 0 ∧ 4 ≤ L.length / 64 ∧ L.length / 64 ≤ 4096 := by
    unfold devOk at hd
    simpa using hd
  by_cases h0 : root = 0
  · exact .inl h0
  right
  obtain ⟨t, tn⟩ := TreeIs.of (by omega) h
  exact (tree_rng hd h).2 root (by rw [tn]; exact nodL_mem.2 ⟨h0, 0, 0, by decide, by decide, rfl⟩)
/-- In an image that opens all trees are ones. -/
theorem lk_trees {L : List Int} (h : (lk L).2 = 0) : devOk L.length = true ∧ (pickS L).2.2 = true ∧ (lkF L).2.2.2 = 0 ∧ (∀ p ∈ lkR L, treeOk L p.1 = true) ∧ (∀ p ∈ lkR L, bey (treeM L p.1) p.2 = false) ∧ lkC L = 0 := by
  unfold lk at h
  split at h
  · rename_i h1
    split at h
    · rename_i h2
      split at h
      · rename_i h3
        unfold lkM at h
        split at h
        · cases h
        · rename_i hn
          have hall := List.find?_eq_none.1 hn
          refine ⟨h1, h2, h3, fun p hp => ?_, fun p hp => ?_, ?_⟩
          · have := hall p hp
            unfold lkX at this
            rw [Bool.not_eq_true, Bool.or_eq_false_iff, Bool.not_eq_false'] at this
            exact this.1
          · have := hall p hp
            unfold lkX at this
            rw [Bool.not_eq_true, Bool.or_eq_false_iff] at this
            exact this.2
          · apply Classical.byContradiction
            intro g
            simp only at h
            rw [if_neg g] at h
            cases h
      · cases h
    · cases h
  · cases h
end Go.Proofs.Ytcbakhanpiemhaa
end
section
set_option linter.unusedVariables false
set_option linter.unusedSectionVars false
set_option maxRecDepth 100000
open Go Go.Am Go.RowKit
namespace Go.Proofs.Ytcbakhanpiemhaa
open Go.Proofs.Try
theorem is_set (l : List Int) (i : Nat) (x : Int) : (is l).set (0 + i * 1) (.int .i64 x) = is (l.set i x) := by unfold is; rw [List.map_set, Nat.zero_add, Nat.mul_one]
theorem ig_at {l : List Int} {i : Nat} (h : i < l.length) : apart prog 3 (is l) (i * 1) = some (.int .i64 (l.getD i 0)) := by
  rw [is_part h, List.getD_eq_getElem?_getD, List.getElem?_eq_getElem h]; rfl
theorem ig_at0 {l : List Int} {i : Nat} (h : i < l.length) : apart prog 3 (is l) (0 + i * 1) = some (.int .i64 (l.getD i 0)) := by rw [Nat.zero_add]; exact ig_at h
theorem bo_at0 {l : List Bool} {i : Nat} (h : i < l.length) : apart prog 4 (bo l) (0 + i * 1) = some (.bool (l.getD i false)) := by rw [Nat.zero_add]; exact bo_part h
theorem bmp_nat {c : List Int} {q : Nat} (h : (q : Int) ≠ 0) : bmp c (q : Int) = c.set q (c.getD q 0 + 1) := by
  unfold bmp; rw [if_neg h, Int.toNat_natCast]
theorem bmps_CB {B : Nat} : ∀ (l : List Int) (c : List Int) (k : Int), 0 ≤ k → CB B k c → CB B (k + l.length) (l.foldl bmp c)
  | [], c, k, h0, h => by simpa using h
  | p :: l, c, k, h0, h => by
    rw [List.foldl_cons, List.length_cons]
    exact (bmps_CB l _ (k + 1) (by omega) (h.bmp h0 p)).le (by omega)
theorem fold_snoc {α β : Type} (f : β → α → β) (b : β) {l : List α} {i : Nat} (h : i < l.length) : (l.take (i + 1)).foldl f b = f ((l.take i).foldl f b) l[i] := by
  rw [List.take_succ_eq_append_getElem h, List.foldl_append]; rfl
theorem c0_len (B : Nat) : ∀ (bl : List Int) (c : List Int), (bl.foldl (fun c a => c.set a.toNat 1) c).length = c.length
  | [], c => rfl
  | a :: bl, c => by rw [List.foldl_cons, c0_len B bl, List.length_set]
theorem c0_CB {B : Nat} : ∀ (bl : List Int) (c : List Int), CB B 1 c → CB B 1 (bl.foldl (fun c a => c.set a.toNat 1) c)
  | [], c, h => h
  | a :: bl, c, h => by rw [List.foldl_cons]; exact c0_CB bl _ (h.set (by decide))
set_option maxHeartbeats 64000000 in
theorem walkOf_ok {h : Heap} {iv : Value} {L : List Int} {xb lo : Nat} (sl : Sl h iv 1 L.length (us L)) (hb : Byt L) (hz : (lk L).2 = 0) (lr_ : LkR lo h xb L) :
    RunF prog 85 [iv, .pointer (some ⟨xb, 0, none⟩)] h fun v h' => Fr no h h' ∧ CB (L.length / 64) 5000000000 (cntL L) ∧ ∃ b, h.next ≤ b ∧ v = .slice (some ⟨b, 0, none⟩) (L.length / 64) (exc (L.length / 64)) ∧ Ow h' b (is (cntL L)) := by
  obtain ⟨hd, hp, hbad, htr, _, _⟩ := lk_trees hz
  have hdl : L.length % 64 = 0 ∧ 4 ≤ L.length / 64 ∧ L.length / 64 ≤ 4096 := by
    unfold devOk at hd
    simpa using hd
  have hm : L.length ≤ 4611686018427387904 := by omega
  obtain ⟨rv, bv, tv, TL, hxb, ox, rl, rb, st', hTm, hTok⟩ := lr_
  have hrr := fun p (hp : p ∈ lkR L) => root_rng hd (htr p hp)
  have htp := fun p (hp : p ∈ lkR L) x (hx : x ∈ treeN L p.1) => tree_ptr hd (htr p hp) hx
  have htn := fun p (hp : p ∈ lkR L) => (tree_rng hd (htr p hp)).2
  have hff := fol_ok (L := L) (B := L.length / 64) (L.length / 64) (lkS L).2.2.2.2 [] [] 0 (fun r h => absurd h List.not_mem_nil) (fun x h => absurd h List.not_mem_nil) rfl
  have hff : (∀ x ∈ (lkF L).2.1, 2 ≤ x ∧ x < (L.length / 64 : Nat)) ∧ (lkF L).1.length = (lkF L).2.1.length ∧ (lkF L).2.1.length ≤ L.length / 64 := by
    refine ⟨hff.2.1, hff.2.2.1, ?_⟩
    have := hff.2.2.2
    unfold lkF folOf
    simpa using this
  obtain ⟨hlbr, hlrl, hlbl⟩ := hff
  have hR : lkR L = ((lkS L).2.2.1, (lkS L).2.2.2.1) :: (lkF L).1.map fun r => (r.ro, r.sz) := rfl
  have hcnt : cntL L = ((wRs L).foldl (treeB L) (c0L (L.length / 64) (lkF L).2.1, List.replicate (L.length / 64) false)).1 := rfl
  have hwR : wRs L = (lkR L).map fun p => (p.1, treeN L p.1) := rfl
  have hTn : TL.map (fun t => t.2.2) = (lkR L).map fun p => treeN L p.1 := by
    have := congrArg (List.map Prod.snd) hTm
    rw [List.map_map] at this
    unfold lkT at this
    rw [List.map_map] at this
    exact this
  have hTl : TL.length = (lkR L).length := by
    have := congrArg List.length hTn
    rwa [List.length_map, List.length_map] at this
  generalize (pickS L).2.1 = slot at *
  generalize lkS L = s at *
  generalize hlr : (lkF L).1 = lr at *
  generalize hlb : (lkF L).2.1 = lb at *
  obtain ⟨RS, hRS⟩ : ∃ RS, RS = lkR L := ⟨_, rfl⟩
  rw [← hRS] at hR hwR hTn hTl hrr htp htn
  have hRl : RS.length = lr.length + 1 := by rw [hR, List.length_cons, List.length_map]
  refine RunF.walk func85 rfl rfl ?_
  have sl0 := sl
  obtain ⟨ab, ao, c, rfl, hc, rdI⟩ := sl.nz (by omega)
  obtain ⟨bA, bc, rfl, _, _⟩ := (rb.sl (by omega)).form
  obtain ⟨lA, lc, rfl, _, _⟩ := (rl.sl (by omega)).form
  have slb := rb.sl (by omega)
  have slr := rl.sl (by omega)
  obtain ⟨tA, tc, rfl, _, _⟩ := st'.form
  obtain ⟨B, hB⟩ : ∃ B, B = L.length / 64 := ⟨_, rfl⟩
  rw [← hB] at hdl hlbr hlbl hrr htp htn hTok hcnt ⊢
  refine RunC.seq (RunC.region (RunO.all rfl ?_))
  refine RunC.seq (RunC.region (RunO.part 1 rfl ?_))
  refine RunO.callD (devCheck_ok hm) rfl rfl rfl ?_
  rintro _ _ ⟨rfl, rfl⟩
  rw [hd, if_pos rfl, if_pos rfl, ← hB]
  refine RunO.all rfl ?_
  refine RunC.seq (RunC.region (RunO.part 1 rfl ?_))
  refine RunO.make (m := B) rfl rfl rfl rfl rfl rfl (show 8 * B ≤ _ by omega) (by omega) rfl ?_
  rw [reps_is]
  have oo := Ow.push h (is (List.replicate B 0))
  have f1 : Fr no h (h.push ⟨is (List.replicate B 0), true⟩) := Fr.push _ _ _
  generalize h.push ⟨is (List.replicate B 0), true⟩ = h1 at *
  obtain ⟨ob, hob⟩ : ∃ q, q = h.next := ⟨_, rfl⟩
  rw [← hob] at oo ⊢
  refine RunO.all rfl ?_
  -- the slots
  refine RunC.seq ?_
  refine RunC.seq (RunC.region (RunO.all rfl ?_))
  refine RunC.block ?_
  refine RunC.loop (fun d E h' => ∃ i : Nat, i + d = 2 ∧ Ow h' ob (is ((List.range i).foldl (fun c j => c.set j 1) (List.replicate B 0))) ∧ Fr (· = ob) h1 h' ∧ Le ((upd (upd (upd (upd (upd E0 0 (.slice (some ⟨ab, ao, none⟩) L.length c)) 1 (.pointer (some ⟨xb, 0, none⟩))) 5 (.int .i64 (B : Int))) 7 (.slice (some ⟨ob, 0, none⟩) B (exc B))) 30 (.int .i64 (i : Int)))) E) ?st1 (k := 2) ?ini1
  case ini1 => exact ⟨0, rfl, oo, Fr.refl _ _, Le.cons rfl (Le.cons rfl (Le.cons rfl (Le.cons rfl (Le.cons rfl (Le.nil _)))))⟩
  rintro d E g1 ⟨i, hi, oo, fg, hE⟩
  refine RunC.le hE ?_
  clear hE
  have hcl : ((List.range i).foldl (fun c j => c.set j 1) (List.replicate B (0 : Int))).length = B := by
    have key : ∀ (l : List Nat) (c : List Int), (l.foldl (fun c j => c.set j 1) c).length = c.length := by
      intro l
      induction l with
      | nil => intro c; rfl
      | cons x l ih => intro c; rw [List.foldl_cons, ih, List.length_set]
    rw [key, List.length_replicate]
  refine RunC.seq (RunC.region (RunO.all rfl ?_))
  refine RunC.seq (RunC.cond rfl (fun hlt => RunC.skip ?go1) (fun hge => RunC.exit ?ex1))
  case go1 =>
    have hlt := of_decide_eq_true hlt
    have hsucc : (List.range (i + 1)).foldl (fun c j => c.set j 1) (List.replicate B (0 : Int)) = ((List.range i).foldl (fun c j => c.set j 1) (List.replicate B 0)).set i 1 := by
      rw [List.range_succ, List.foldl_append]; rfl
    refine RunC.seq (RunC.block ?_)
    refine RunC.seq (RunC.region (RunO.all rfl ?_))
    refine RunC.region (RunO.part 2 rfl ?_)
    refine RunO.index (s := 1) (k := i) rfl rfl rfl rfl (by omega) rfl ?_
    refine RunO.store rfl rfl (store1_ow oo rfl rfl rfl (by rw [is_len, hcl]; omega)) (RunO.nil ?_)
    rw [is_set, ← hsucc]
    refine RunC.region (RunO.all rfl ?_)
    exact ⟨d - 1, by omega, i + 1, by omega, Ow.put _ oo.1, fg.trans (Fr.put (m := (· = ob)) _ (.inl rfl)) (fun _ g => .inl g), Le.cons (inc64 (by omega)) (Le.cons rfl (Le.cons rfl (Le.cons rfl (Le.cons rfl (Le.nil _)))))⟩
  have hge1 := of_decide_eq_false hge
  obtain rfl : i = 2 := by omega
  change Ow g1 ob (is (((List.replicate B 0).set 0 1).set 1 1)) at oo
  have hc0 : CB B 1 (((List.replicate B (0 : Int)).set 0 1).set 1 1) := CB.set (CB.set ⟨List.length_replicate, fun x hx => by rw [List.eq_of_mem_replicate hx]; decide⟩ (by decide)) (by decide)
  have F1 : Fr no h g1 := f1.trans fg (fun b e => .inr (by have e : b = ob := e; omega))
  -- the records
  refine RunC.seq ?_
  refine RunC.seq (RunC.region (RunO.part 3 rfl ?_))
  refine RunO.load (v := .slice bA lb.length bc) rfl ((ox.fr F1 (fun g => g)).ld rfl) rfl (RunO.all rfl ?_)
  refine RunC.block ?_
  refine RunC.loop (fun d E h' => ∃ i : Nat, i + d = lb.length ∧ Ow h' ob (is ((lb.take i).foldl (fun c a => c.set a.toNat 1) (((List.replicate B (0 : Int)).set 0 1).set 1 1))) ∧ Fr no h h' ∧ Le ((upd (upd (upd (upd (upd (upd (upd E0 0 (.slice (some ⟨ab, ao, none⟩) L.length c)) 1 (.pointer (some ⟨xb, 0, none⟩))) 5 (.int .i64 (B : Int))) 7 (.slice (some ⟨ob, 0, none⟩) B (exc B))) 40 (.slice bA lb.length bc)) 41 (.int .i64 (lb.length : Int))) 42 (.int .i64 (i : Int)))) E) ?st2 (k := lb.length) ?ini2
  case ini2 => exact ⟨0, by omega, oo, F1, Le.cons rfl (Le.cons rfl (Le.cons rfl (Le.cons rfl (Le.cons rfl (Le.cons rfl (Le.cons rfl (Le.nil _)))))))⟩
  rintro d E g2 ⟨i, hi, oo, fg2, hE⟩
  refine RunC.le hE ?_
  clear hE
  refine RunC.seq (RunC.region (RunO.all rfl ?_))
  refine RunC.seq (RunC.cond rfl (fun hlt => RunC.skip ?go2) (fun hge => RunC.exit ?ex2))
  case go2 =>
    have hlt := of_decide_eq_true hlt
    have hlt : i < lb.length := by omega
    obtain ⟨x2, xB⟩ := hlbr lb[i] (List.getElem_mem hlt)
    have hsn := fold_snoc (fun (c : List Int) a => c.set a.toNat 1) (((List.replicate B (0 : Int)).set 0 1).set 1 1) hlt
    have hpt := is_part hlt
    obtain ⟨q, hq⟩ := Int.eq_ofNat_of_zero_le (show 0 ≤ lb[i] by omega)
    rw [hq] at hsn hpt
    rw [Int.toNat_natCast] at hsn
    have hqB : q < B := by omega
    have hcl := c0_len B (lb.take i) (((List.replicate B (0 : Int)).set 0 1).set 1 1)
    rw [hc0.1] at hcl
    refine RunC.seq (RunC.block ?_)
    refine RunC.seq (RunC.region ?_)
    refine RunO.at (s := 1) (k := i) rfl rfl (slb.fr0 fg2) rfl rfl hlt hpt rfl rfl rfl (RunO.all rfl ?_)
    refine RunC.region (RunO.part 2 rfl ?_)
    refine RunO.index (s := 1) (k := q) rfl rfl rfl rfl hqB rfl ?_
    refine RunO.store rfl rfl (store1_ow oo rfl rfl rfl (by rw [is_len, hcl]; omega)) (RunO.nil ?_)
    rw [is_set, ← hsn]
    refine RunC.region (RunO.all rfl ?_)
    exact ⟨d - 1, by omega, i + 1, by omega, Ow.put _ oo.1, fg2.trans (Fr.put (m := (· = ob)) _ (.inl rfl)) (fun b e => .inr (by have e : b = ob := e; omega)), Le.cons (inc64 (by omega)) (Le.cons rfl (Le.cons rfl (Le.cons rfl (Le.cons rfl (Le.cons rfl (Le.cons rfl (Le.nil _)))))))⟩
  have hge2 := of_decide_eq_false hge
  obtain rfl : i = lb.length := by omega
  rw [List.take_length] at oo
  change Ow g2 ob (is (c0L B lb)) at oo
  have hc1 : CB B 1 (c0L B lb) := c0_CB lb _ hc0
  have hog := oo.1
  -- the roots
  refine RunC.seq (RunC.region (RunO.part 5 rfl ?_))
  refine RunO.load (v := .int .i64 s.2.2.1) rfl ((ox.fr fg2 (fun g => g)).ld rfl) rfl ?_
  refine RunO.part 1 (h1 := g2.push ⟨is [s.2.2.1], true⟩) rfl ?_
  have or := Ow.push g2 (is [s.2.2.1])
  have f3 : Fr no g2 (g2.push ⟨is [s.2.2.1], true⟩) := Fr.push _ _ _
  generalize g2.push ⟨is [s.2.2.1], true⟩ = g3 at *
  obtain ⟨rq, hrq⟩ : ∃ q, q = g2.next := ⟨_, rfl⟩
  rw [← hrq] at or ⊢
  have hR1 : (RS.take 1).map (·.1) = [s.2.2.1] := by rw [hR]; rfl
  refine RunO.all rfl ?_
  refine RunC.seq ?_
  refine RunC.seq (RunC.region (RunO.part 4 rfl ?_))
  refine RunO.load (v := .slice lA lr.length lc) rfl (((ox.fr fg2 (fun g => g)).fr f3 (fun g => g)).ld rfl) rfl (RunO.all rfl ?_)
  refine RunC.block ?_
  refine RunC.loop (fun d E h' => ∃ (i : Nat) (rov : Value), i + d = lr.length ∧ Gr rq h' rov 1 (i + 1) (is ((RS.take (i + 1)).map (·.1))) ∧ Fr no g2 h' ∧ rq < h'.next ∧ Le ((upd (upd (upd (upd (upd (upd (upd (upd E0 0 (.slice (some ⟨ab, ao, none⟩) L.length c)) 1 (.pointer (some ⟨xb, 0, none⟩))) 5 (.int .i64 (B : Int))) 7 (.slice (some ⟨ob, 0, none⟩) B (exc B))) 61 (.slice lA lr.length lc)) 62 (.int .i64 (lr.length : Int))) 11 (rov)) 63 (.int .i64 (i : Int)))) E) ?st3 (k := lr.length) ?ini3
  case ini3 =>
    refine ⟨0, .slice (some ⟨rq, 0, none⟩) 1 (exc 1), by omega, ?_, f3, or.1, Le.cons rfl (Le.cons rfl (Le.cons rfl (Le.cons rfl (Le.cons rfl (Le.cons rfl (Le.cons rfl (Le.cons rfl (Le.nil _))))))))⟩
    rw [hR1]; exact Gr.full or rfl (Nat.le_refl _)
  rintro d E g4 ⟨i, rov, hi, gr, fg4, hrg, hE⟩
  refine RunC.le hE ?_
  clear hE
  refine RunC.seq (RunC.region (RunO.all rfl ?_))
  refine RunC.seq (RunC.cond rfl (fun hlt => RunC.skip ?go3) (fun hge => RunC.exit ?ex3))
  case go3 =>
    have hlt := of_decide_eq_true hlt
    have hlt : i < lr.length := by omega
    have hRg : RS.take (i + 1 + 1) = RS.take (i + 1) ++ [(lr[i].ro, lr[i].sz)] := by
      rw [List.take_succ_eq_append_getElem (by omega)]
      congr 2
      simp [hR]
    have hpt := recCs_part hlt
    generalize lr[i] = r at *
    refine RunC.seq (RunC.block ?_)
    refine RunC.seq (RunC.region ?_)
    refine RunO.at (s := 8) (k := i) rfl rfl ((slr.fr0 fg2).fr0 fg4) rfl rfl hlt hpt rfl rfl rfl ?_
    refine RunO.part 1 (h1 := g4.push ⟨rc8 ⟨0, 0, 0, 0, 0, 0, 0, 0⟩, true⟩) rfl ?_
    refine RunO.store rfl rfl (store_ow (s := 8) (Ow.push g4 (rc8 ⟨0, 0, 0, 0, 0, 0, 0, 0⟩)) rfl rfl rfl (Nat.le_refl 8)) (RunO.nil ?_)
    have e8 : (rc8 ⟨0, 0, 0, 0, 0, 0, 0, 0⟩).take 0 ++ cellsOf (.agg ⟨rc8 r⟩) ++ (rc8 ⟨0, 0, 0, 0, 0, 0, 0, 0⟩).drop (0 + 8) = rc8 r := rfl
    rw [e8]
    have on : Ow ((g4.push ⟨rc8 ⟨0, 0, 0, 0, 0, 0, 0, 0⟩, true⟩).put g4.next (some ⟨rc8 r, true⟩)) g4.next (rc8 r) := Ow.put _ (Nat.lt_succ_self _)
    have f5 : Fr no g4 ((g4.push ⟨rc8 ⟨0, 0, 0, 0, 0, 0, 0, 0⟩, true⟩).put g4.next (some ⟨rc8 r, true⟩)) := (Fr.push _ _ _).trans (Fr.put (m := (· = g4.next)) _ (.inl rfl)) (fun j hj => .inr (by omega))
    have hrx : ∀ b, At rov b → rq ≤ b := fun b g => (gr.at g).1
    replace gr := gr.fr0 f5
    have fg5 := fg4.same f5
    have hn5 := f5.next
    generalize (g4.push ⟨rc8 ⟨0, 0, 0, 0, 0, 0, 0, 0⟩, true⟩).put g4.next (some ⟨rc8 r, true⟩) = g5 at *
    generalize g4.next = pb at *
    refine RunC.region (RunO.part 2 rfl ?_)
    refine RunO.load (v := .int .i64 r.ro) rfl (on.ld rfl) rfl ?_
    refine RunO.part 1 (h1 := g5.push ⟨is [r.ro], true⟩) rfl ?_
    have ot := Ow.push g5 (is [r.ro])
    have f6 : Fr no g5 (g5.push ⟨is [r.ro], true⟩) := Fr.push _ _ _
    replace gr := gr.fr0 f6
    have fg6 := fg5.same f6
    have hn56 := f6.next
    generalize g5.push ⟨is [r.ro], true⟩ = g6 at *
    refine RunO.appendG (s := 1) (j := 1) rfl rfl rfl rfl rfl rfl rfl rfl (by decide) gr ot.all rfl (Nat.le_refl 1) rfl (by show 2 * (_ + 1) * 8 ≤ _; omega) (by omega) ?_
    intro rov2 g7 row f7
    have fg7 : Fr no g2 g7 := fg6.trans f7 (fun b g => .inr (by have := hrx b g; omega))
    have hn6 := fg6.next
    have hn7 := f7.next
    have e1 : is ((RS.take (i + 1)).map (·.1)) ++ is [r.ro] = is ((RS.take (i + 1 + 1)).map (·.1)) := by
      rw [hRg, List.map_append]; exact (List.map_append ..).symm
    rw [e1] at row
    have hrow : rq < g7.next := by have := ot.1; omega
    refine RunO.all rfl ?_
    refine RunC.region (RunO.all rfl ?_)
    exact ⟨d - 1, by omega, i + 1, rov2, by omega, row.gr.lo (by omega), fg7, hrow, Le.cons (inc64 (by omega)) (Le.cons rfl (Le.cons rfl (Le.cons rfl (Le.cons rfl (Le.cons rfl (Le.cons rfl (Le.cons rfl (Le.nil _))))))))⟩
  have hge3 := of_decide_eq_false hge
  obtain rfl : i = lr.length := by omega
  rw [show RS.take (lr.length + 1) = RS from List.take_of_length_le (by omega), ← hRl] at gr
  have oo4 := oo.fr fg4 (fun g => g)
  have F4 : Fr no h g4 := fg2.same fg4
  have slro := gr.sl (by omega)
  have grge := Gr.ge gr
  obtain ⟨rA, rc_, rfl, _, _⟩ := slro.form
  -- met
  refine RunC.seq (RunC.region (RunO.part 1 rfl ?_))
  refine RunO.make (m := B) rfl rfl rfl rfl rfl rfl (show 1 * B ≤ _ by omega) (by omega) rfl ?_
  rw [reps_bo]
  have om := Ow.push g4 (bo (List.replicate B false))
  have f5 : Fr no g4 (g4.push ⟨bo (List.replicate B false), true⟩) := Fr.push _ _ _
  replace oo4 := oo4.fr f5 (fun g => g)
  replace slro := slro.fr0 f5
  have F5 := F4.same f5
  have hnx4 : ob < g4.next := by have := fg4.next; omega
  have hnr4 : ∀ b o c, Value.slice rA RS.length rc_ = .slice (some ⟨b, o, none⟩) RS.length c → b < g4.next := fun b o c e => by
    have := gr.sl (by omega)
    exact this.lt b o c e
  generalize g4.push ⟨bo (List.replicate B false), true⟩ = g5 at *
  obtain ⟨mb, hmb⟩ : ∃ q, q = g4.next := ⟨_, rfl⟩
  rw [← hmb] at om ⊢
  refine RunO.all rfl ?_
  have hst0 : ((wRs L).take 0).foldl (treeB L) (c0L B lb, List.replicate B false) = (c0L B lb, List.replicate B false) := rfl
  have hwl : (wRs L).length = RS.length := by rw [hwR, List.length_map]
  have hRB : RS.length ≤ 4097 := by omega
  have hob4 : ob ≠ mb := by omega
  have hobm : ∀ b, b = ob ∨ b = mb → no b ∨ h.next ≤ b := by
    rintro b (rfl | rfl)
    · exact .inr (by omega)
    · exact .inr (by have := F4.next; omega)
  have hnr : ∀ b o c, Value.slice rA RS.length rc_ = .slice (some ⟨b, o, none⟩) RS.length c → ¬ (b = ob ∨ b = mb) := by
    intro b o c e
    have h1 := hnr4 b o c e
    have h2 := grge b o _ c e
    omega
  refine RunC.seq ?_
  refine RunC.seq (RunC.region (RunO.all rfl ?_))
  refine RunC.block ?_
  refine RunC.loop (fun d E h' => ∃ (i : Nat) (st : List Int × List Bool), i + d = RS.length ∧ st = ((wRs L).take i).foldl (treeB L) (c0L B lb, List.replicate B false) ∧ Ow h' ob (is st.1) ∧ Ow h' mb (bo st.2) ∧ CB B (1 + 900000 * (i : Nat)) st.1 ∧ st.2.length = B ∧ Fr (fun b => b = ob ∨ b = mb) g5 h' ∧ Le ((upd (upd (upd (upd (upd (upd (upd (upd E0 0 (.slice (some ⟨ab, ao, none⟩) L.length c)) 1 (.pointer (some ⟨xb, 0, none⟩))) 5 (.int .i64 (B : Int))) 7 (.slice (some ⟨ob, 0, none⟩) B (exc B))) 14 (.slice (some ⟨mb, 0, none⟩) B (exc B))) 75 (.slice rA RS.length rc_)) 76 (.int .i64 (RS.length : Int))) 77 (.int .i64 (i : Int)))) E) ?st4 (k := RS.length) ?ini4
  case ini4 => exact ⟨0, _, by omega, rfl, oo4, om, hc1, List.length_replicate, Fr.refl _ _, Le.cons rfl (Le.cons rfl (Le.cons rfl (Le.cons rfl (Le.cons rfl (Le.cons rfl (Le.cons rfl (Le.cons rfl (Le.nil _))))))))⟩
  rintro d E g6 ⟨i, st, hi, hst, oo, om, hcb, hml, fg6, hE⟩
  refine RunC.le hE ?_
  clear hE
  refine RunC.seq (RunC.region (RunO.all rfl ?_))
  refine RunC.seq (RunC.cond rfl (fun hlt => RunC.skip ?go4) (fun hge => RunC.exit ?ex4))
  case go4 =>
    have hlt := of_decide_eq_true hlt
    have hlt : i < RS.length := by omega
    have hsn := fold_snoc (treeB L) (c0L B lb, List.replicate B false) (l := wRs L) (i := i) (by omega)
    rw [← hst] at hsn
    have hri := hrr RS[i] (List.getElem_mem hlt)
    have hpi := htp RS[i] (List.getElem_mem hlt)
    have hni := htn RS[i] (List.getElem_mem hlt)
    have hpt := is_part (l := RS.map (·.1)) (i := i) (by rw [List.length_map]; exact hlt)
    rw [List.getElem_map] at hpt
    have hTi : i < TL.length := by omega
    have htl : TL[i].2.2 = treeN L RS[i].1 := by
      have e : (TL.map fun t => t.2.2)[i]? = (RS.map fun p => treeN L p.1)[i]? := by rw [hTn]
      rw [List.getElem?_map, List.getElem?_map, List.getElem?_eq_getElem hTi, List.getElem?_eq_getElem hlt] at e
      exact Option.some.inj e
    obtain ⟨iv', mv, nv, owt, _, sln, _, hnl, _, _⟩ := hTok TL[i] (List.getElem_mem hTi)
    rw [htl] at sln hnl
    have hwi : (wRs L)[i]'(by omega) = (RS[i].1, treeN L RS[i].1) := by
      have e : (wRs L)[i]? = (RS.map fun p => (p.1, treeN L p.1))[i]? := by rw [hwR]
      rw [List.getElem?_map, List.getElem?_eq_getElem hlt, List.getElem?_eq_getElem (by omega)] at e
      exact Option.some.inj e
    rw [hwi] at hsn
    have htps := tps_part hTi
    obtain ⟨wb, hwb⟩ : ∃ q, q = TL[i].1 := ⟨_, rfl⟩
    rw [← hwb] at owt htps
    generalize RS[i].1 = r0 at *
    generalize treeN L r0 = tn at *
    obtain ⟨q, rfl⟩ := Int.eq_ofNat_of_zero_le (show 0 ≤ r0 by omega)
    have hqB : q < B := by omega
    have hF6 : Fr no h g6 := F5.trans fg6 hobm
    have slr6 := slro.frm hnr fg6
    refine RunC.seq (RunC.block ?_)
    refine RunC.seq (RunC.region (RunO.part 1 rfl ?_))
    refine RunO.at (s := 1) (k := i) rfl rfl slr6 rfl rfl hlt hpt rfl rfl rfl (RunO.all rfl ?_)
    refine RunC.seqc (fun E' h' => Ow h' ob (is (bmp st.1 (q : Int))) ∧ Ow h' mb (bo st.2) ∧ Fr (fun b => b = ob ∨ b = mb) g5 h' ∧ Le ((upd (upd (upd (upd (upd (upd (upd (upd (upd E0 0 (.slice (some ⟨ab, ao, none⟩) L.length c)) 1 (.pointer (some ⟨xb, 0, none⟩))) 5 (.int .i64 (B : Int))) 7 (.slice (some ⟨ob, 0, none⟩) B (exc B))) 14 (.slice (some ⟨mb, 0, none⟩) B (exc B))) 75 (.slice rA RS.length rc_)) 76 (.int .i64 (RS.length : Int))) 77 (.int .i64 (i : Int))) 15 (.int .i64 (i : Int)))) E') ?_ ?_
    · refine RunC.seq (RunC.region (RunO.all rfl ?_))
      by_cases hq0 : (q : Int) = 0
      · refine RunC.cond (t := false) (by show some (Value.bool (!decide ((q : Int) = 0))) = _; rw [decide_eq_true hq0]; rfl) (fun g => by cases g) (fun _ => RunC.skip ?_)
        refine ⟨?_, om, fg6, Le.cons rfl (Le.cons rfl (Le.cons rfl (Le.cons rfl (Le.cons rfl (Le.cons rfl (Le.cons rfl (Le.cons rfl (Le.cons rfl (Le.nil _)))))))))⟩
        unfold bmp; rw [if_pos hq0]; exact oo
      · refine RunC.cond (t := true) (by show some (Value.bool (!decide ((q : Int) = 0))) = _; rw [decide_eq_false hq0]; rfl) (fun _ => ?_) (fun g => by cases g)
        have hgq := hcb.get (by omega) q
        refine RunC.region (RunO.part 2 rfl ?_)
        refine RunO.index (s := 1) (k := q) rfl rfl rfl rfl hqB rfl ?_
        refine RunO.load (v := .int .i64 (st.1.getD q 0)) rfl (oo.ld (ig_at0 (by rw [hcb.1]; exact hqB))) rfl ?_
        refine RunO.part 1 rfl ?_
        rw [fw64 (by omega) (by omega)]
        refine RunO.index (s := 1) (k := q) rfl rfl rfl rfl hqB rfl ?_
        refine RunO.store rfl rfl (store1_ow oo rfl rfl rfl (by rw [is_len, hcb.1]; omega)) (RunO.nil ?_)
        rw [is_set, ← bmp_nat hq0]
        refine ⟨Ow.put _ oo.1, om.fr (Fr.put (m := (· = ob)) _ (.inl rfl)) (fun e => hob4 e.symm), fg6.trans (Fr.put (m := (· = ob)) _ (.inl rfl)) (fun b e => .inl (.inl e)), Le.cons rfl (Le.cons rfl (Le.cons rfl (Le.cons rfl (Le.cons rfl (Le.cons rfl (Le.cons rfl (Le.cons rfl (Le.cons rfl (Le.nil _)))))))))⟩
    rintro E g7 ⟨oo7, om7, fg7, hE⟩
    refine RunC.le hE ?_
    clear hE
    have hF7 : Fr no h g7 := F5.trans fg7 hobm
    obtain ⟨nA, nc_, rfl, _, _⟩ := sln.form
    refine RunC.seq (RunC.region (RunO.part 3 rfl ?_))
    refine RunO.load (v := .slice tA TL.length tc) rfl ((ox.fr hF7 (fun g => g)).ld rfl) rfl ?_
    refine RunO.part 1 rfl ?_
    refine RunO.at (s := 1) (k := i) rfl rfl (st'.fr0 hF7) rfl rfl hTi htps rfl rfl rfl ?_
    refine RunO.part 2 rfl ?_
    refine RunO.load (v := .slice nA tn.length nc_) rfl ((owt.fr hF7 (fun g => g)).ld rfl) rfl (RunO.all rfl ?_)
    have hcb7 : CB B (1 + 900000 * (i : Nat) + 1) (bmp st.1 (q : Int)) := hcb.bmp (by omega) _
    clear oo om fg6
    refine RunC.block ?_
    refine RunC.loop (fun d E h' => ∃ (j : Nat) (su : List Int × List Bool), j + d = tn.length ∧ su = (tn.take j).foldl (nodeB L) (bmp st.1 (q : Int), st.2) ∧ Ow h' ob (is su.1) ∧ Ow h' mb (bo su.2) ∧ CB B (1 + 900000 * (i : Nat) + 1 + 8 * (j : Nat)) su.1 ∧ su.2.length = B ∧ Fr (fun b => b = ob ∨ b = mb) g5 h' ∧ Le ((upd (upd (upd (upd (upd (upd (upd (upd (upd (upd (upd E0 0 (.slice (some ⟨ab, ao, none⟩) L.length c)) 1 (.pointer (some ⟨xb, 0, none⟩))) 5 (.int .i64 (B : Int))) 7 (.slice (some ⟨ob, 0, none⟩) B (exc B))) 14 (.slice (some ⟨mb, 0, none⟩) B (exc B))) 75 (.slice rA RS.length rc_)) 76 (.int .i64 (RS.length : Int))) 77 (.int .i64 (i : Int))) 99 (.slice nA tn.length nc_)) 100 (.int .i64 (tn.length : Int))) 101 (.int .i64 (j : Int)))) E) ?st5 (k := tn.length) ?ini5
    case ini5 => exact ⟨0, _, by omega, rfl, oo7, om7, hcb7, hml, fg7, Le.cons rfl (Le.cons rfl (Le.cons rfl (Le.cons rfl (Le.cons rfl (Le.cons rfl (Le.cons rfl (Le.cons rfl (Le.cons rfl (Le.cons rfl (Le.cons rfl (Le.nil _)))))))))))⟩
    rintro d2 E g8 ⟨j, su, hj, hsu, oo, om, hcb8, hml8, fg8, hE⟩
    refine RunC.le hE ?_
    clear hE
    refine RunC.seq (RunC.region (RunO.all rfl ?_))
    refine RunC.seq (RunC.cond rfl (fun hlt => RunC.skip ?go5) (fun hge => RunC.exit ?ex5))
    case ex5 =>
      have hge := of_decide_eq_false hge
      obtain rfl : j = tn.length := by omega
      rw [List.take_length] at hsu
      refine RunC.region (RunO.all rfl ?_)
      refine ⟨d - 1, by omega, i + 1, su, by omega, ?_, oo, om, hcb8.le (by omega), hml8, fg8, Le.cons (inc64 (by omega)) (Le.cons rfl (Le.cons rfl (Le.cons rfl (Le.cons rfl (Le.cons rfl (Le.cons rfl (Le.cons rfl (Le.nil _))))))))⟩
      rw [hsn]; exact hsu
    have hjl := of_decide_eq_true hlt
    have hjl : j < tn.length := by omega
    have hsn2 := fold_snoc (nodeB L) (bmp st.1 (q : Int), st.2) (l := tn) hjl
    rw [← hsu] at hsn2
    have hpx := hpi tn[j] (List.getElem_mem hjl)
    have hxB := hni tn[j] (List.getElem_mem hjl)
    have hpt2 := is_part hjl
    generalize tn[j] = x at *
    obtain ⟨y, rfl⟩ := Int.eq_ofNat_of_zero_le (show 0 ≤ x by omega)
    have hyB : y < B := by omega
    have hF8 : Fr no h g8 := F5.trans fg8 hobm
    refine RunC.seq (RunC.block ?_)
    refine RunC.seq (RunC.region ?_)
    refine RunO.at (s := 1) (k := j) rfl rfl (sln.fr0 hF8) rfl rfl hjl hpt2 rfl rfl rfl (RunO.all rfl ?_)
    refine RunC.seq (RunC.seq (RunC.region (RunO.part 2 rfl ?_)))
    refine RunO.index (s := 1) (k := y) rfl rfl rfl rfl hyB rfl ?_
    refine RunO.load (v := .bool (su.2.getD y false)) rfl (om.ld (bo_at0 (by rw [hml8]; exact hyB))) rfl (RunO.all rfl ?_)
    cases hmt : su.2.getD y false with
    | true =>
      refine RunC.cond rfl (fun _ => RunC.exit ?_) (fun g => by cases g)
      refine RunC.region (RunO.all rfl ?_)
      refine ⟨d2 - 1, by omega, j + 1, su, by omega, ?_, oo, om, hcb8.le (by omega), hml8, fg8, Le.cons (inc64 (by omega)) (Le.cons rfl (Le.cons rfl (Le.cons rfl (Le.cons rfl (Le.cons rfl (Le.cons rfl (Le.cons rfl (Le.cons rfl (Le.cons rfl (Le.cons rfl (Le.nil _)))))))))))⟩
      rw [hsn2]; unfold nodeB; rw [Int.toNat_natCast, hmt]; rfl
    | false =>
    refine RunC.cond rfl (fun g => by cases g) (fun _ => RunC.skip ?_)
    have hnb : nodeB L su (y : Int) = ((wPs L (y : Int)).foldl bmp su.1, su.2.set y true) := by
      unfold nodeB; rw [Int.toNat_natCast, hmt]; rfl
    rw [hnb] at hsn2
    refine RunC.seq (RunC.region (RunO.part 2 rfl ?_))
    refine RunO.index (s := 1) (k := y) rfl rfl rfl rfl hyB rfl ?_
    refine RunO.store rfl rfl (store1_ow om rfl rfl rfl (by rw [bo_len, hml8]; omega)) (RunO.nil ?_)
    rw [bo_set]
    have om9 : Ow (g8.put mb (some ⟨bo (su.2.set y true), true⟩)) mb (bo (su.2.set y true)) := Ow.put _ om.1
    have fm : Fr (· = mb) g8 (g8.put mb (some ⟨bo (su.2.set y true), true⟩)) := Fr.put (m := (· = mb)) _ (.inl rfl)
    have oo9 := oo.fr fm hob4
    have fg9 : Fr (fun b => b = ob ∨ b = mb) g5 (g8.put mb (some ⟨bo (su.2.set y true), true⟩)) := fg8.trans fm (fun b e => .inl (.inr e))
    generalize g8.put mb (some ⟨bo (su.2.set y true), true⟩) = g9 at *
    have hF9 : Fr no h g9 := F5.trans fg9 hobm
    clear oo om fg8 fm
    have haL : (y + 1) * 64 ≤ L.length := by
      have : y + 1 ≤ B := by omega
      omega
    refine RunC.seq (RunC.region (RunO.part 2 rfl ?_))
    refine RunO.callD (devOf_ok (o := ao) haL hm hc) rfl rfl rfl ?_
    rintro _ _ ⟨⟨c', hc', rfl⟩, rfl⟩
    have hbl := blkI_len haL
    have hparse := nodParse_ok (h := g9) (A := some ⟨ab, ao + y * 64, none⟩) (c := c') (l := blkI L y) (fun _ => ⟨_, rfl, rdBlk (rdI.fr hF9 (fun g => g)) haL⟩) (byt_blk hb y) (by rw [hbl]; exact hc')
    rw [hbl, nodV_cells] at hparse
    refine RunO.callD hparse rfl rfl rfl ?_
    rintro v h2 ⟨rfl, f2⟩
    have hps : (nodV (blkI L y)).2 = wPs L (y : Int) := by unfold wPs; rw [Int.toNat_natCast]
    rw [hps]
    have hlen := wPs_len L (y : Int)
    generalize (nodV (blkI L y)).1 = nl at *
    have hpw : (wPs L (y : Int)).foldl bmp su.1 = ((wPs L (y : Int)).take 8).foldl bmp su.1 := by rw [List.take_of_length_le (by omega)]
    generalize wPs L (y : Int) = ps at *
    refine RunO.part 4 (h1 := h2.push ⟨nc 0 nZero, true⟩) rfl ?_
    have hcl : (cellsOf (.agg ⟨nc nl ps⟩)).length = 9 := by show (nc nl ps).length = 9; simp [nc, is_len, hlen]
    have hac : allCells (cellsOf (.agg ⟨nc nl ps⟩)) = true := by show allCells (.int .i64 nl :: is ps) = true; exact allCells_map (f := Value.int .i64) (fun _ => rfl) ps
    refine RunO.store rfl rfl (store_ow (s := 9) (Ow.push h2 (nc 0 nZero)) rfl hcl hac (Nat.le_refl 9)) (RunO.all rfl ?_)
    have e9 : (nc 0 nZero).take 0 ++ cellsOf (.agg ⟨nc nl ps⟩) ++ (nc 0 nZero).drop (0 + 9) = nc nl ps := by
      show [] ++ nc nl ps ++ [] = _; simp
    rw [e9]
    have on : Ow ((h2.push ⟨nc 0 nZero, true⟩).put h2.next (some ⟨nc nl ps, true⟩)) h2.next (nc nl ps) := Ow.put _ (Nat.lt_succ_self _)
    have f4 : Fr no h2 ((h2.push ⟨nc 0 nZero, true⟩).put h2.next (some ⟨nc nl ps, true⟩)) := (Fr.push _ _ _).trans (Fr.put (m := (· = h2.next)) _ (.inl rfl)) (fun j hj => .inr (by omega))
    have oo10 := (oo9.fr f2 (fun g => g)).fr f4 (fun g => g)
    have om10 := (om9.fr f2 (fun g => g)).fr f4 (fun g => g)
    have fg10 := (fg9.quiet f2).quiet f4
    generalize (h2.push ⟨nc 0 nZero, true⟩).put h2.next (some ⟨nc nl ps, true⟩) = ga at *
    generalize h2.next = nb at *
    refine RunC.seq (RunC.region (RunO.part 1 rfl ?_))
    refine RunO.load (v := .agg ⟨is ps⟩) rfl (nc_ptrs hlen on) rfl (RunO.all rfl ?_)
    clear on oo9 om9 fg9
    refine RunC.block ?_
    refine RunC.loop (fun d E h' => ∃ k : Nat, k + d = 8 ∧ Ow h' ob (is ((ps.take k).foldl bmp su.1)) ∧ Ow h' mb (bo (su.2.set y true)) ∧ CB B (1 + 900000 * (i : Nat) + 1 + 8 * (j : Nat) + k) ((ps.take k).foldl bmp su.1) ∧ Fr (fun b => b = ob ∨ b = mb) g5 h' ∧ Le ((upd (upd (upd (upd (upd (upd (upd (upd (upd (upd (upd (upd (upd E0 0 (.slice (some ⟨ab, ao, none⟩) L.length c)) 1 (.pointer (some ⟨xb, 0, none⟩))) 5 (.int .i64 (B : Int))) 7 (.slice (some ⟨ob, 0, none⟩) B (exc B))) 14 (.slice (some ⟨mb, 0, none⟩) B (exc B))) 75 (.slice rA RS.length rc_)) 76 (.int .i64 (RS.length : Int))) 77 (.int .i64 (i : Int))) 99 (.slice nA tn.length nc_)) 100 (.int .i64 (tn.length : Int))) 101 (.int .i64 (j : Int))) 120 (.agg ⟨is ps⟩)) 121 (.int .i64 (k : Int)))) E) ?st6 (k := 8) ?ini6
    case ini6 => exact ⟨0, by omega, oo10, om10, hcb8.le (by omega), fg10, Le.cons rfl (Le.cons rfl (Le.cons rfl (Le.cons rfl (Le.cons rfl (Le.cons rfl (Le.cons rfl (Le.cons rfl (Le.cons rfl (Le.cons rfl (Le.cons rfl (Le.cons rfl (Le.cons rfl (Le.nil _)))))))))))))⟩
    rintro d3 E gb ⟨k, hk, oo, om, hcbk, fgb, hE⟩
    refine RunC.le hE ?_
    clear hE
    refine RunC.seq (RunC.region (RunO.all rfl ?_))
    refine RunC.seq (RunC.cond rfl (fun hlt => RunC.skip ?go6) (fun hge => RunC.exit ?ex6))
    case ex6 =>
      have hge := of_decide_eq_false hge
      obtain rfl : k = 8 := by omega
      rw [← hpw] at oo hcbk
      refine RunC.region (RunO.all rfl ?_)
      refine ⟨d2 - 1, by omega, j + 1, _, by omega, hsn2.symm, oo, om, hcbk.le (by omega), by show (su.2.set y true).length = B; rw [List.length_set]; exact hml8, fgb, Le.cons (inc64 (by omega)) (Le.cons rfl (Le.cons rfl (Le.cons rfl (Le.cons rfl (Le.cons rfl (Le.cons rfl (Le.cons rfl (Le.cons rfl (Le.cons rfl (Le.cons rfl (Le.nil _)))))))))))⟩
    have hkl := of_decide_eq_true hlt
    have hk8 : k < 8 := by omega
    have hkl : k < ps.length := by omega
    have hsn3 := fold_snoc bmp su.1 (l := ps) hkl
    have hpp := hpx ps[k] (List.getElem_mem hkl)
    have hpt3 := is_part hkl
    generalize ps[k] = p at *
    obtain ⟨z, rfl⟩ := Int.eq_ofNat_of_zero_le (show 0 ≤ p by omega)
    have hzB : z < B := by omega
    refine RunC.seq (RunC.block ?_)
    refine RunC.seq (RunC.region ?_)
    refine RunO.indexV (s := 1) (k := k) rfl rfl rfl rfl hk8 hpt3 rfl (RunO.all rfl ?_)
    refine RunC.seq (RunC.region (RunO.all rfl ?_))
    have hcbn : CB B (1 + 900000 * (i : Nat) + 1 + 8 * (j : Nat) + (k + 1 : Nat)) ((ps.take (k + 1)).foldl bmp su.1) := by
      rw [hsn3]; exact (hcbk.bmp (by omega) _).le (by omega)
    by_cases hz0 : (z : Int) = 0
    · refine RunC.cond (t := false) (by show some (Value.bool (!decide ((z : Int) = 0))) = _; rw [decide_eq_true hz0]; rfl) (fun g => by cases g) (fun _ => RunC.skip ?_)
      refine RunC.region (RunO.all rfl ?_)
      refine ⟨d3 - 1, by omega, k + 1, by omega, ?_, om, hcbn, fgb, Le.cons (inc64 (by omega)) (Le.cons rfl (Le.cons rfl (Le.cons rfl (Le.cons rfl (Le.cons rfl (Le.cons rfl (Le.cons rfl (Le.cons rfl (Le.cons rfl (Le.cons rfl (Le.cons rfl (Le.cons rfl (Le.nil _)))))))))))))⟩
      rw [hsn3]; unfold bmp; rw [if_pos hz0]; exact oo
    · refine RunC.cond (t := true) (by show some (Value.bool (!decide ((z : Int) = 0))) = _; rw [decide_eq_false hz0]; rfl) (fun _ => ?_) (fun g => by cases g)
      generalize hcc : (ps.take k).foldl bmp su.1 = cc at *
      have hgz := hcbk.get (by omega) z
      refine RunC.region (RunO.part 2 rfl ?_)
      refine RunO.index (s := 1) (k := z) rfl rfl rfl rfl hzB rfl ?_
      refine RunO.load (v := .int .i64 (cc.getD z 0)) rfl (oo.ld (ig_at0 (by rw [hcbk.1]; exact hzB))) rfl ?_
      refine RunO.part 1 rfl ?_
      rw [fw64 (by omega) (by omega)]
      refine RunO.index (s := 1) (k := z) rfl rfl rfl rfl hzB rfl ?_
      refine RunO.store rfl rfl (store1_ow oo rfl rfl rfl (by rw [is_len, hcbk.1]; omega)) (RunO.nil ?_)
      rw [is_set, ← bmp_nat hz0, ← hsn3]
      refine RunC.region (RunO.all rfl ?_)
      exact ⟨d3 - 1, by omega, k + 1, by omega, Ow.put _ oo.1, om.fr (Fr.put (m := (· = ob)) _ (.inl rfl)) (fun e => hob4 e.symm), hcbn, fgb.trans (Fr.put (m := (· = ob)) _ (.inl rfl)) (fun b e => .inl (.inl e)), Le.cons (inc64 (by omega)) (Le.cons rfl (Le.cons rfl (Le.cons rfl (Le.cons rfl (Le.cons rfl (Le.cons rfl (Le.cons rfl (Le.cons rfl (Le.cons rfl (Le.cons rfl (Le.cons rfl (Le.cons rfl (Le.nil _)))))))))))))⟩
  have hge4 := of_decide_eq_false hge
  obtain rfl : i = RS.length := by omega
  rw [← hwl, List.take_length] at hst
  refine RunC.seq (RunC.region (RunO.all rfl ?_))
  refine RunC.ret ⟨_, rfl, F5.trans fg6 hobm, ?_, ob, by omega, rfl, ?_⟩
  · rw [hcnt, ← hst]; exact hcb.le (by omega)
  · rw [hcnt, ← hst]; exact oo
end Go.Proofs.Ytcbakhanpiemhaa
end
section
set_option linter.unusedVariables false
set_option linter.unusedSectionVars false
set_option maxRecDepth 100000
open Go Go.Am Go.RowKit
namespace Go.Proofs.Ytcbakhanpiemhaa
open Go.Proofs.Try
/-- The numbers below n with p, in order. -/
def idxs (p : Nat → Bool) (n : Nat) : List Int := ((List.range n).filter p).map fun (j : Nat) => (j : Int)
def cntI (p : Nat → Bool) (n : Nat) : Nat := ((List.range n).filter p).length
def posP (c : List Int) (j : Nat) : Bool := decide (c.getD j 0 > 0)
def shP (c : List Int) (j : Nat) : Bool := decide ((j : Int) ≥ 2) && decide (c.getD j 0 > 1)
theorem idxs_len (p : Nat → Bool) (n : Nat) : (idxs p n).length = cntI p n := List.length_map _
theorem cntI_le (p : Nat → Bool) (n : Nat) : cntI p n ≤ n := by
  unfold cntI
  have := List.length_filter_le p (List.range n)
  rwa [List.length_range] at this
theorem idxs_yes {p : Nat → Bool} {n : Nat} (h : p n = true) : idxs p (n + 1) = idxs p n ++ [(n : Int)] := by
  unfold idxs
  rw [List.range_succ, List.filter_append, List.map_append, List.filter_cons_of_pos h]; rfl
theorem idxs_no {p : Nat → Bool} {n : Nat} (h : p n = false) : idxs p (n + 1) = idxs p n := by
  unfold idxs
  rw [List.range_succ, List.filter_append, List.map_append, List.filter_cons_of_neg (by rw [h]; decide)]
  exact List.append_nil _
theorem cntI_yes {p : Nat → Bool} {n : Nat} (h : p n = true) : cntI p (n + 1) = cntI p n + 1 := by
  rw [← idxs_len, ← idxs_len, idxs_yes h, List.length_append]; rfl
theorem cntI_no {p : Nat → Bool} {n : Nat} (h : p n = false) : cntI p (n + 1) = cntI p n := by
  rw [← idxs_len, ← idxs_len, idxs_no h]
theorem idxs_mem {p : Nat → Bool} {n : Nat} {x : Int} : x ∈ idxs p n ↔ ∃ j : Nat, j < n ∧ p j = true ∧ x = (j : Int) := by
  unfold idxs
  rw [List.mem_map]
  constructor
  · rintro ⟨j, hj, rfl⟩
    rw [List.mem_filter, List.mem_range] at hj
    exact ⟨j, hj.1, hj.2, rfl⟩
  · rintro ⟨j, h1, h2, rfl⟩
    exact ⟨j, List.mem_filter.2 ⟨List.mem_range.2 h1, h2⟩, rfl⟩
theorem lk_nn (L : List Int) (h : (lk L).2 ≠ 0) : (decide ((lk L).2 = 0)) = false := decide_eq_false h
section
variable {h : Heap} {iv : Value} {L : List Int} (sl : Sl h iv 1 L.length (us L)) (hb : Byt L) (hm : L.length ≤ 4611686018427387904)
include sl hb hm
set_option maxHeartbeats 4000000 in
theorem walkCounts_ok : RunF prog 47 [iv] h fun v h' => Fr no h h' ∧ (((lk L).2 = 0 ∧ CB (L.length / 64) 5000000000 (cntL L) ∧ ∃ b, h.next ≤ b ∧ v = .tuple #[.slice (some ⟨b, 0, none⟩) (L.length / 64) (exc (L.length / 64)), .int .i64 0] ∧ Ow h' b (is (cntL L))) ∨ ((lk L).2 ≠ 0 ∧ v = .tuple #[.slice none 0 0, .int .i64 (lk L).2])) := by
  refine RunF.walk func47 rfl rfl ?_
  refine RunC.seq (RunC.region (RunO.all rfl ?_))
  refine RunC.seq (RunC.region (RunO.part 1 rfl ?_))
  refine RunO.callD (openLook_ok sl hb hm) rfl rfl rfl ?_
  rintro _ h1 ⟨f1, ⟨g, xb, rfl, lr⟩ | ⟨g, rfl⟩⟩
  · refine RunO.all rfl ?_
    refine RunC.seq (RunC.seq (RunC.region (RunO.all rfl (RunC.cond rfl (fun g => by cases g) (fun _ => RunC.skip ?_)))))
    refine RunC.seq (RunC.region (RunO.part 2 rfl ?_))
    refine RunO.callD (walkOf_ok (sl.fr0 f1) hb g lr) rfl rfl rfl ?_
    rintro _ h2 ⟨f2, cb, b, hbn, rfl, ow⟩
    refine RunO.all rfl ?_
    exact RunC.ret ⟨_, rfl, f1.same f2, .inl ⟨g, cb, b, by have := f1.next; omega, rfl, ow⟩⟩
  · refine RunO.all rfl ?_
    refine RunC.seq (RunC.seq (RunC.region (RunO.all rfl (RunC.cond (t := true) (by show some (Value.bool (!decide ((lk L).2 = 0))) = _; rw [decide_eq_false g]; rfl) (fun _ => ?_) (fun g => by cases g)))))
    refine RunC.seq (RunC.region (RunO.all rfl ?_))
    exact RunC.ret ⟨_, rfl, f1, .inr ⟨g, rfl⟩⟩
/-- How many are reached. -/
def usedL (L : List Int) : Nat := if (lk L).2 = 0 then cntI (posP (cntL L)) (L.length / 64) else 0
def sharedL (L : List Int) : List Int := if (lk L).2 = 0 then idxs (shP (cntL L)) (L.length / 64) else []
set_option maxHeartbeats 4000000 in
theorem walkUsed_ok : RunF prog 25 [iv] h fun v h' => v = .tuple #[.int .i64 ((usedL L : Nat) : Int), .int .i64 (lk L).2] ∧ Fr no h h' := by
  refine RunF.walk func25 rfl rfl ?_
  have hdv : (lk L).2 = 0 → L.length % 64 = 0 ∧ 4 ≤ L.length / 64 ∧ L.length / 64 ≤ 4096 := fun g => by
    have hd := (lk_trees g).1
    unfold devOk at hd
    simpa using hd
  obtain ⟨B, hB⟩ : ∃ B, B = L.length / 64 := ⟨_, rfl⟩
  refine RunC.seq (RunC.region (RunO.all rfl ?_))
  refine RunC.seq (RunC.region (RunO.part 1 rfl ?_))
  refine RunO.callD (walkCounts_ok sl hb hm) rfl rfl rfl ?_
  rintro _ h1 ⟨f1, ⟨g, cb, b, hbn, rfl, ow⟩ | ⟨g, rfl⟩⟩
  case inr =>
    refine RunO.all rfl ?_
    refine RunC.seq (RunC.seq (RunC.region (RunO.all rfl (RunC.cond (t := true) (by show some (Value.bool (!decide ((lk L).2 = 0))) = _; rw [decide_eq_false g]; rfl) (fun _ => ?_) (fun g => by cases g)))))
    refine RunC.seq (RunC.region (RunO.all rfl ?_))
    refine RunC.ret ⟨_, rfl, ?_, f1⟩
    unfold usedL; rw [if_neg g]; rfl
  obtain ⟨h64, hB4, hB9⟩ := hdv g
  have hul : usedL L = cntI (posP (cntL L)) B := by unfold usedL; rw [if_pos g, hB]
  rw [hul, g]
  rw [← hB] at cb hB4 hB9 ⊢
  have slc : Sl h1 (.slice (some ⟨b, 0, none⟩) B (exc B)) 1 B (is (cntL L)) := by have := sl_owI ow cb.1 (Cp.exc (Nat.le_refl _)) (by omega); rwa [cb.1] at this
  refine RunO.all rfl ?_
  refine RunC.seq (RunC.seq (RunC.region (RunO.all rfl (RunC.cond rfl (fun g => by cases g) (fun _ => RunC.skip ?_)))))
  refine RunC.seq (RunC.region (RunO.all rfl ?_))
  refine RunC.seq ?_
  refine RunC.seq (RunC.region (RunO.all rfl ?_))
  refine RunC.block ?_
  refine RunC.loop (fun d E h' => ∃ i : Nat, i + d = B ∧ h' = h1 ∧ Le ((upd (upd (upd (upd E0 17 (.slice (some ⟨b, 0, none⟩) B (exc B))) 18 (.int .i64 (B : Int))) 6 (.int .i64 ((cntI (posP (cntL L)) i : Nat) : Int))) 19 (.int .i64 (i : Int)))) E) ?st1 (k := B) ?ini1
  case ini1 => exact ⟨0, by omega, rfl, Le.cons rfl (Le.cons rfl (Le.cons rfl (Le.cons rfl (Le.nil _))))⟩
  rintro d E g1 ⟨i, hi, hgg, hE⟩
  subst hgg
  refine RunC.le hE ?_
  clear hE
  refine RunC.seq (RunC.region (RunO.all rfl ?_))
  refine RunC.seq (RunC.cond rfl (fun hlt => RunC.skip ?go1) (fun hge => RunC.exit ?ex1))
  case ex1 =>
    have hge := of_decide_eq_false hge
    obtain rfl : i = B := by omega
    refine RunC.seq (RunC.region (RunO.all rfl ?_))
    exact RunC.ret ⟨_, rfl, rfl, f1⟩
  have hlt := of_decide_eq_true hlt
  have hlt : i < B := by omega
  have hci := cntI_le (posP (cntL L)) i
  refine RunC.seq (RunC.block ?_)
  refine RunC.seq (RunC.region ?_)
  refine RunO.at (s := 1) (m := B) (k := i) rfl rfl slc rfl rfl hlt (ig_at (by rw [cb.1]; exact hlt)) rfl rfl rfl (RunO.all rfl ?_)
  refine RunC.seq (RunC.region (RunO.all rfl ?_))
  cases hp : posP (cntL L) i with
  | true =>
    refine RunC.cond (t := true) (congrArg (fun x => some (Value.bool x)) hp) (fun _ => ?_) (fun g => by cases g)
    refine RunC.region (RunO.all rfl ?_)
    refine RunC.region (RunO.all rfl ?_)
    refine ⟨d - 1, by omega, i + 1, by omega, rfl, Le.cons (inc64 (by omega)) (Le.cons ?_ (Le.cons rfl (Le.cons rfl (Le.nil _))))⟩
    rw [cntI_yes hp]; exact inc64 (by omega)
  | false =>
    refine RunC.cond (t := false) (congrArg (fun x => some (Value.bool x)) hp) (fun g => by cases g) (fun _ => RunC.skip ?_)
    refine RunC.region (RunO.all rfl ?_)
    refine ⟨d - 1, by omega, i + 1, by omega, rfl, Le.cons (inc64 (by omega)) (Le.cons ?_ (Le.cons rfl (Le.cons rfl (Le.nil _))))⟩
    rw [cntI_no hp]; rfl
end
end Go.Proofs.Ytcbakhanpiemhaa
end
section
set_option linter.unusedVariables false
set_option linter.unusedSectionVars false
set_option maxRecDepth 100000
open Go Go.Am Go.RowKit
namespace Go.Proofs.Ytcbakhanpiemhaa
open Go.Proofs.Try
/- With no trees only the slots and the records are reached. -/
theorem treeN_zero (L : List Int) : treeN L 0 = [] := rfl
theorem cnt_zeros (L : List Int) : ∀ (l : List (Int × Int)) (st : List Int × List Bool), (∀ p ∈ l, p.1 = 0) → (l.map fun p => (p.1, treeN L p.1)).foldl (treeB L) st = st
  | [], st, h => rfl
  | p :: l, st, h => by
    have h0 := h p (List.mem_cons_self ..)
    rw [List.map_cons, List.foldl_cons, h0]
    have : treeB L st (0, treeN L 0) = st := rfl
    rw [this]
    exact cnt_zeros L l st (fun q hq => h q (List.mem_cons_of_mem _ hq))
theorem cnt_zero {L : List Int} (h : ∀ p ∈ lkR L, p.1 = 0) : cntL L = c0L (L.length / 64) (lkF L).2.1 := by
  unfold cntL wRs
  rw [cnt_zeros L _ _ h]
theorem cnt_one {L : List Int} {root size : Int} (h : lkR L = [(root, size)]) : cntL L = ((treeN L root).foldl (nodeB L) (bmp (c0L (L.length / 64) (lkF L).2.1) root, List.replicate (L.length / 64) false)).1 := by
  unfold cntL wRs
  rw [h]; rfl
theorem cnt_new {B : Nat} (h4 : 4 ≤ B) (hB : B ≤ 4096) : cntL (newI B) = c0L B [] := by
  obtain ⟨_, hF, hS⟩ := lk_new h4 hB
  rw [cnt_zero, hF, newI_len (by omega), Nat.mul_div_cancel _ (by decide)]
  intro p hp
  unfold lkR at hp
  rw [hF, hS] at hp
  have hp : p ∈ [((0 : Int), (0 : Int))] := hp
  rw [List.mem_singleton] at hp
  rw [hp]
end Go.Proofs.Ytcbakhanpiemhaa
end
section
set_option linter.unusedVariables false
set_option maxRecDepth 100000
open Go Go.Am Go.RowKit
namespace Go.Proofs.Ytcbakhanpiemhaa
open Go.Proofs.Try
theorem cloneI_ok {h : Heap} {v : Value} {l : List Int} (sl : Sl h v 1 l.length (is l)) (hb : 2 * l.length * 8 ≤ 281474976710656) :
    RunF prog 45 [v] h fun r h' => Osl h.next h' r 1 l.length (is l) ∧ Fr no h h' ∧ (l.length = 0 → h.next ≤ h'.next) := by
  refine RunF.walk func45 rfl rfl ?_
  refine RunC.seq (RunC.region (RunO.all rfl ?_))
  obtain ⟨hl, hm, ⟨rfl, h0⟩ | ⟨b, o, c, rfl, hc, rd⟩⟩ := sl
  · refine RunC.seq (RunC.seq (RunC.region (RunO.all rfl ?_)))
    refine RunC.cond rfl (fun _ => ?_) (fun g => by cases g)
    exact RunC.seq (RunC.region (RunO.all rfl (RunC.ret ⟨_, rfl, ⟨hl, hm, .inl ⟨rfl, h0⟩⟩, Fr.refl _ _, fun _ => Nat.le_refl _⟩)))
  · refine RunC.seq (RunC.seq (RunC.region (RunO.all rfl ?_)))
    refine RunC.cond rfl (fun g => by cases g) (fun _ => RunC.skip ?_)
    refine RunC.seq (RunC.region (RunO.part 2 (h1 := h.push ⟨[], true⟩) rfl ?_))
    have f1 : Fr no h (h.push ⟨[], true⟩) := Fr.push _ _ _
    have ow : Ow (h.push ⟨[], true⟩) h.next [] := Ow.push _ _
    by_cases hz : l.length = 0
    · have hn : l = [] := List.eq_nil_of_length_eq_zero hz
      subst hn
      have key : aappend prog (h.push ⟨[], true⟩) 22 22 (.slice (some ⟨h.next, 0, none⟩) 0 (exc 0)) (.slice (some ⟨b, o, none⟩) 0 c) = some (.slice (some ⟨h.next, 0, none⟩) 0 (exc 0), h.push ⟨[], true⟩) := by
        have hs : asrc (h.push ⟨[], true⟩) 1 (.slice (some ⟨b, o, none⟩) 0 c) = some (0, []) := ((rd.fr f1 (fun g => g)).sl (s := 1) (n := 0) rfl (Nat.zero_le _) hc).src0
        show (match asrc (h.push ⟨[], true⟩) 1 (.slice (some ⟨b, o, none⟩) 0 c) with
          | some (0, _) => some (Value.slice (some ⟨h.next, 0, none⟩) 0 (exc 0), h.push ⟨[], true⟩)
          | some (m + 1, news) => _
          | none => none) = _
        rw [hs]
      refine RunO.one rfl (v := .slice (some ⟨h.next, 0, none⟩) 0 (exc 0)) (h1 := h.push ⟨[], true⟩) (abuiltin_app key) rfl ?_
      exact RunO.all rfl (RunC.ret ⟨_, rfl, ⟨rfl, hm, .inr ⟨h.next, exc 0, Nat.le_refl _, rfl, Cp.exc (Nat.le_refl _), ow⟩⟩, f1, fun _ => Nat.le_succ _⟩)
    · have key := append_full (P := prog) (t := 22) (e := 3) (s := 1) (k := 0) (m := l.length) (c := exc 0) (c' := c) (olds := []) (news := is l) (b := ⟨h.next, 0, none⟩) (a := ⟨b, o, none⟩) rfl rfl rfl rfl rfl (Nat.le_refl 1) ow.all rfl rfl (by show 0 < 0 + l.length; omega) (rd.fr f1 (fun g => g)) (by rw [is_len, Nat.mul_one]) (by omega)
        (by show 2 * (0 + l.length) * 8 ≤ _; omega) (by omega)
      rw [Nat.zero_add, List.nil_append] at key
      refine RunO.one rfl (abuiltin_app key) rfl ?_
      refine RunO.all rfl (RunC.ret ⟨_, rfl, ⟨hl, hm, .inr ⟨_, _, Nat.le_succ _, rfl, Cp.unkc _ _, Ow.push _ _⟩⟩, f1.same (Fr.push _ _ _), fun _ => Nat.le_succ_of_le (Nat.le_succ _)⟩)
end Go.Proofs.Ytcbakhanpiemhaa
end
