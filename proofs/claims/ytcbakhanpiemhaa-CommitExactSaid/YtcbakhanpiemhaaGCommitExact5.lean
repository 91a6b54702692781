/- CommitExact: a calculus over an abstract machine that stands beside the model, and contracts of functions by it (part 5).
Conditions: what each theorem says of its arguments. -/
import Derived.Test.YtcbakhanpiemhaaGCommitExact4
section
set_option linter.unusedVariables false
set_option linter.unusedSectionVars false
set_option maxRecDepth 100000
open Go Go.Am Go.RowKit
namespace Go.Proofs.Ytcbakhanpiemhaa
open Go.Proofs.Try
theorem reps_bo (n : Nat) : reps (cellsOf (Value.bool false)) n = bo (List.replicate n false) := by
  rw [show cellsOf (Value.bool false) = [.bool false] from rfl, reps_one]; unfold bo; rw [List.map_replicate]
theorem rep_false (n j : Nat) : (List.replicate n false).getD j false = false := by
  rw [List.getD_eq_getElem?_getD, List.getElem?_replicate]; split <;> rfl
/-- The cells of an open image. -/
def imc (s : S5) (slot : Int) (rv bv tv : Value) : List Value := sc5 s ++ [.int .i64 slot, rv, bv, tv]
set_option maxHeartbeats 32000000 in
theorem openClash_ok {h : Heap} {xb B : Nat} {s : S5} {slot : Int} {rv bv tv : Value} {bl : List Int} {TL : List Tr3} (ox : Ow h xb (imc s slot rv bv tv)) (sbl : Sl h bv 1 bl.length (is bl)) (stl : Sl h tv 1 TL.length (tps TL))
    (htr : ∀ t ∈ TL, TrOk B h t) (hbr : ∀ x ∈ bl, 0 ≤ x ∧ x < (B : Int)) (hB : B ≤ 100000) (hbl : bl.length ≤ 100000) (hTL : TL.length ≤ 100000) :
    RunF prog 107 [.pointer (some ⟨xb, 0, none⟩), .int .i64 (B : Int)] h fun v h' => Fr no h h' ∧ ((∃ i : Nat, i < B ∧ v = .int .i64 (i : Int) ∧ clP bl TL i = true ∧ ∀ j, j < i → clP bl TL j = false) ∨ (v = .int .i64 0 ∧ ∀ j, j < B → clP bl TL j = false)) := by
  refine RunF.walk func107 rfl rfl ?_
  obtain ⟨bA, bc, rfl, _, _⟩ := sbl.form
  obtain ⟨tA, tc, rfl, _, _⟩ := stl.form
  refine RunC.seq (RunC.region (RunO.all rfl ?_))
  refine RunC.seq (RunC.draw0 rfl ?_)
  refine RunO.part 1 rfl ?_
  refine RunO.make (m := B) rfl rfl rfl rfl rfl rfl (show 1 * B ≤ _ by omega) (by omega) rfl ?_
  rw [reps_bo]
  have on := Ow.push h (bo (List.replicate B false))
  have f1 : Fr no h (h.push ⟨bo (List.replicate B false), true⟩) := Fr.push _ _ _
  generalize h.push ⟨bo (List.replicate B false), true⟩ = h1 at *
  obtain ⟨nb, hnb⟩ : ∃ q, q = h.next := ⟨_, rfl⟩
  rw [← hnb] at on ⊢
  have hn1 := on.1
  refine RunO.part 1 rfl ?_
  refine RunO.make (m := B) rfl rfl rfl rfl rfl rfl (show 1 * B ≤ _ by omega) (by omega) rfl ?_
  rw [reps_bo]
  have or := Ow.push h1 (bo (List.replicate B false))
  have f2 : Fr no h1 (h1.push ⟨bo (List.replicate B false), true⟩) := Fr.push _ _ _
  replace on := on.fr f2 (fun g => g)
  generalize h1.push ⟨bo (List.replicate B false), true⟩ = h2 at *
  obtain ⟨rb, hrb⟩ : ∃ q, q = h1.next := ⟨_, rfl⟩
  rw [← hrb] at or ⊢
  have hn2 := or.1
  refine RunO.part 1 rfl ?_
  refine RunO.make (m := B) rfl rfl rfl rfl rfl rfl (show 1 * B ≤ _ by omega) (by omega) rfl ?_
  rw [reps_bo]
  have os := Ow.push h2 (bo (List.replicate B false))
  have f3 : Fr no h2 (h2.push ⟨bo (List.replicate B false), true⟩) := Fr.push _ _ _
  replace on := on.fr f3 (fun g => g)
  replace or := or.fr f3 (fun g => g)
  generalize h2.push ⟨bo (List.replicate B false), true⟩ = h3 at *
  obtain ⟨sb, hsb⟩ : ∃ q, q = h2.next := ⟨_, rfl⟩
  rw [← hsb] at os ⊢
  have hn3 := os.1
  refine RunO.part 2 (h1 := h3.push ⟨[.slice none 0 0, .slice none 0 0, .slice none 0 0], true⟩) rfl ?_
  refine RunO.store rfl rfl (store_ow (s := 3) (Ow.push h3 [.slice none 0 0, .slice none 0 0, .slice none 0 0]) rfl rfl rfl (Nat.le_refl 3)) (RunO.nil ?_)
  have e3 : [Value.slice none 0 0, .slice none 0 0, .slice none 0 0].take 0 ++ cellsOf (.agg ⟨[.slice (some ⟨nb, 0, none⟩) B (exc B), .slice (some ⟨rb, 0, none⟩) B (exc B), .slice (some ⟨sb, 0, none⟩) B (exc B)]⟩) ++ [Value.slice none 0 0, .slice none 0 0, .slice none 0 0].drop (0 + 3) = [.slice (some ⟨nb, 0, none⟩) B (exc B), .slice (some ⟨rb, 0, none⟩) B (exc B), .slice (some ⟨sb, 0, none⟩) B (exc B)] := rfl
  have op : Ow ((h3.push ⟨[.slice none 0 0, .slice none 0 0, .slice none 0 0], true⟩).put h3.next (some ⟨[.slice (some ⟨nb, 0, none⟩) B (exc B), .slice (some ⟨rb, 0, none⟩) B (exc B), .slice (some ⟨sb, 0, none⟩) B (exc B)], true⟩)) h3.next _ := Ow.put _ (Nat.lt_succ_self _)
  have f4 : Fr no h3 ((h3.push ⟨[.slice none 0 0, .slice none 0 0, .slice none 0 0], true⟩).put h3.next (some ⟨[.slice (some ⟨nb, 0, none⟩) B (exc B), .slice (some ⟨rb, 0, none⟩) B (exc B), .slice (some ⟨sb, 0, none⟩) B (exc B)], true⟩)) := (Fr.push _ _ _).trans (Fr.put (m := (· = h3.next)) _ (.inl rfl)) (fun j hj => .inr (by omega))
  replace on := on.fr f4 (fun g => g)
  replace or := or.fr f4 (fun g => g)
  replace os := os.fr f4 (fun g => g)
  show RunC prog _ _ _ ((h3.push ⟨[.slice none 0 0, .slice none 0 0, .slice none 0 0], true⟩).put h3.next (some ⟨[.slice (some ⟨nb, 0, none⟩) B (exc B), .slice (some ⟨rb, 0, none⟩) B (exc B), .slice (some ⟨sb, 0, none⟩) B (exc B)], true⟩)) _ _ _
  generalize (h3.push ⟨[.slice none 0 0, .slice none 0 0, .slice none 0 0], true⟩).put h3.next (some ⟨[.slice (some ⟨nb, 0, none⟩) B (exc B), .slice (some ⟨rb, 0, none⟩) B (exc B), .slice (some ⟨sb, 0, none⟩) B (exc B)], true⟩) = h4 at *
  obtain ⟨pb, hpb⟩ : ∃ q, q = h3.next := ⟨_, rfl⟩
  rw [← hpb] at op ⊢
  have F4 : Fr no h h4 := ((f1.same f2).same f3).same f4
  have cd : CD pb nb rb sb := ⟨by omega, by omega, by omega, by omega, by omega, by omega⟩
  have cw : CW h4 B pb nb rb sb (List.replicate B false) (List.replicate B false) (List.replicate B false) := ⟨op, on, or, os, List.length_replicate, List.length_replicate, List.length_replicate⟩
  have hge : h.next ≤ nb ∧ h.next ≤ rb ∧ h.next ≤ sb := by omega
  clear op on or os f1 f2 f3 f4
  -- the records
  refine RunC.seq ?_
  refine RunC.seq (RunC.region (RunO.part 3 rfl ?_))
  refine RunO.load (v := .slice bA bl.length bc) rfl ((ox.fr F4 (fun g => g)).ld rfl) rfl (RunO.all rfl ?_)
  refine RunC.block ?_
  refine RunC.loop (fun d E h' => ∃ (i : Nat) (R : List Bool), i + d = bl.length ∧ CW h' B pb nb rb sb (List.replicate B false) R (List.replicate B false) ∧ (∀ j, j < B → R.getD j false = (bl.take i).contains (j : Int)) ∧ Fr no h h' ∧
    Le (upd (upd (upd (upd (upd (upd E0 0 (.pointer (some ⟨xb, 0, none⟩))) 1 (.int .i64 (B : Int))) 5 (.pointer (some ⟨pb, 0, none⟩))) 25 (.slice bA bl.length bc)) 26 (.int .i64 (bl.length : Int))) 27 (.int .i64 (i : Int))) E) ?st1 (k := bl.length) ?ini1
  case ini1 => exact ⟨0, _, by omega, cw, fun j _ => by rw [rep_false]; simp, F4, Le.cons rfl (Le.cons rfl (Le.cons rfl (Le.cons rfl (Le.cons rfl (Le.cons rfl (Le.nil _))))))⟩
  rintro d E g1 ⟨i, R, hi, cw, hR, fg, hE⟩
  refine RunC.le hE ?_
  clear hE
  refine RunC.seq (RunC.region (RunO.all rfl ?_))
  refine RunC.seq (RunC.cond rfl (fun hlt => RunC.skip ?go1) (fun hge => RunC.exit ?ex1))
  case go1 =>
    have hlt := of_decide_eq_true hlt
    have hlt : i < bl.length := by omega
    obtain ⟨x0, xB⟩ := hbr bl[i] (List.getElem_mem hlt)
    obtain ⟨q, hq⟩ := Int.eq_ofNat_of_zero_le x0
    have hqB : q < B := by omega
    have hcs := fun x => cont_succ hlt x
    refine RunC.seq (RunC.block ?_)
    refine RunC.seq (RunC.region ?_)
    refine RunO.at (s := 1) (k := i) rfl rfl (sbl.fr0 fg) rfl rfl hlt (is_part hlt) rfl rfl rfl (RunO.all rfl ?_)
    rw [hq] at hcs ⊢
    refine RunC.region (RunO.part 1 rfl ?_)
    refine RunO.load (v := .slice (some ⟨rb, 0, none⟩) B (exc B)) rfl (cw.op.ld rfl) rfl ?_
    refine RunO.part 1 rfl ?_
    refine RunO.index (s := 1) (k := q) rfl rfl rfl rfl hqB rfl ?_
    refine RunO.store rfl rfl (store1_ow cw.or rfl rfl rfl (by rw [bo_len, cw.lr]; omega)) (RunO.nil ?_)
    rw [bo_set]
    refine RunC.region (RunO.all rfl ?_)
    refine ⟨d - 1, by omega, i + 1, _, by omega, cw.putR cd true, fun j hj => ?_, fg.trans (Fr.put (m := (· = rb)) _ (.inl rfl)) (fun b e => .inr (by omega)), Le.cons (inc64 (by omega)) (Le.cons rfl (Le.cons rfl (Le.cons rfl (Le.cons rfl (Le.cons rfl (Le.nil _))))))⟩
    rw [getD_setBo R (by rw [cw.lr]; omega), hcs, hR j hj]
    by_cases e : j = q
    · rw [if_pos e, decide_eq_true (by omega)]; rfl
    · rw [if_neg e, decide_eq_false (by omega)]; rfl
  have hge1 := of_decide_eq_false hge
  obtain rfl : i = bl.length := by omega
  rw [List.take_length] at hR
  -- the trees
  refine RunC.seq ?_
  refine RunC.seq (RunC.region (RunO.part 3 rfl ?_))
  refine RunO.load (v := .slice tA TL.length tc) rfl ((ox.fr fg (fun g => g)).ld rfl) rfl (RunO.all rfl ?_)
  refine RunC.block ?_
  refine RunC.loop (fun d E h' => ∃ (i : Nat) (N S : List Bool), i + d = TL.length ∧ CW h' B pb nb rb sb N R S ∧ (∀ j, j < B → N.getD j false = isN (TL.take i) j) ∧ (∀ j, j < B → S.getD j false = isS (TL.take i) j) ∧ Fr no h h' ∧
    Le (upd (upd (upd (upd (upd (upd E0 0 (.pointer (some ⟨xb, 0, none⟩))) 1 (.int .i64 (B : Int))) 5 (.pointer (some ⟨pb, 0, none⟩))) 39 (.slice tA TL.length tc)) 40 (.int .i64 (TL.length : Int))) 41 (.int .i64 (i : Int))) E) ?st2 (k := TL.length) ?ini2
  case ini2 => exact ⟨0, _, _, by omega, cw, fun j _ => by rw [rep_false]; rfl, fun j _ => by rw [rep_false]; rfl, fg, Le.cons rfl (Le.cons rfl (Le.cons rfl (Le.cons rfl (Le.cons rfl (Le.cons rfl (Le.nil _))))))⟩
  rintro d2 E g2 ⟨ti, N, S, hti, cw, hN, hS, fg2, hE⟩
  refine RunC.le hE ?_
  clear hE
  refine RunC.seq (RunC.region (RunO.all rfl ?_))
  refine RunC.seq (RunC.cond rfl (fun hlt => RunC.skip ?go2) (fun hge => RunC.exit ?ex2))
  case go2 =>
    have hlt := of_decide_eq_true hlt
    have hlt : ti < TL.length := by omega
    have hNs : ∀ j, isN (TL.take (ti + 1)) j = (isN (TL.take ti) j || TL[ti].2.2.contains (j : Int)) := fun j => any_snoc hlt _
    have hSs : ∀ j, isS (TL.take (ti + 1)) j = (isS (TL.take ti) j || (decide (j ≠ 0) && TL[ti].2.1.contains (j : Int))) := fun j => any_snoc hlt _
    have htk := htr TL[ti] (List.getElem_mem hlt)
    have htp := tps_part hlt
    generalize TL[ti] = T at *
    obtain ⟨wb, tm, tn⟩ := T
    obtain ⟨tiv, tmv, tnv, ow, slm, sln, tml, tnl, tmr, tnr⟩ := htk
    simp only at ow slm sln tml tnl tmr tnr htp hNs hSs
    obtain ⟨mA, mc, rfl, _, _⟩ := slm.form
    obtain ⟨nA, nc_, rfl, _, _⟩ := sln.form
    refine RunC.seq (RunC.block ?_)
    refine RunC.seq (RunC.region ?_)
    refine RunO.at (s := 1) (k := ti) rfl rfl (stl.fr0 fg2) rfl rfl hlt htp rfl rfl rfl (RunO.all rfl ?_)
    -- its nodes
    refine RunC.seq ?_
    refine RunC.seq (RunC.region (RunO.part 3 rfl ?_))
    refine RunO.load (v := .slice nA tn.length nc_) rfl ((ow.fr fg2 (fun g => g)).ld rfl) rfl (RunO.all rfl ?_)
    refine RunC.block ?_
    refine RunC.loop (fun d E h' => ∃ (i : Nat) (N : List Bool), i + d = tn.length ∧ CW h' B pb nb rb sb N R S ∧ (∀ j, j < B → N.getD j false = (isN (TL.take ti) j || (tn.take i).contains (j : Int))) ∧ Fr no h h' ∧
      Le ((upd (upd (upd (upd (upd (upd (upd (upd (upd (upd E0 0 (.pointer (some ⟨xb, 0, none⟩))) 1 (.int .i64 (B : Int))) 5 (.pointer (some ⟨pb, 0, none⟩))) 39 (.slice tA TL.length tc)) 40 (.int .i64 (TL.length : Int))) 41 (.int .i64 (ti : Int))) 9 (.pointer (some ⟨wb, 0, none⟩))) 48 (.slice nA tn.length nc_)) 49 (.int .i64 (tn.length : Int))) 50 (.int .i64 (i : Int)))) E) ?st3 (k := tn.length) ?ini3
    case ini3 => exact ⟨0, _, by omega, cw, fun j hj => by rw [hN j hj]; simp, fg2, Le.cons rfl (Le.cons rfl (Le.cons rfl (Le.cons rfl (Le.cons rfl (Le.cons rfl (Le.cons rfl (Le.cons rfl (Le.cons rfl (Le.cons rfl (Le.nil _))))))))))⟩
    rintro d3 E g3 ⟨i, N3, hi, cw, hN3, fg3, hE⟩
    refine RunC.le hE ?_
    clear hE
    refine RunC.seq (RunC.region (RunO.all rfl ?_))
    refine RunC.seq (RunC.cond rfl (fun hlt => RunC.skip ?go3) (fun hge => RunC.exit ?ex3))
    case go3 =>
      have hlt := of_decide_eq_true hlt
      have hlt : i < tn.length := by omega
      obtain ⟨x0, xB⟩ := tnr tn[i] (List.getElem_mem hlt)
      obtain ⟨q, hq⟩ := Int.eq_ofNat_of_zero_le x0
      have hqB : q < B := by omega
      have hcs := fun x => cont_succ hlt x
      refine RunC.seq (RunC.block ?_)
      refine RunC.seq (RunC.region ?_)
      refine RunO.at (s := 1) (k := i) rfl rfl (sln.fr0 fg3) rfl rfl hlt (is_part hlt) rfl rfl rfl (RunO.all rfl ?_)
      rw [hq] at hcs ⊢
      refine RunC.region (RunO.part 1 rfl ?_)
      refine RunO.load (v := .slice (some ⟨nb, 0, none⟩) B (exc B)) rfl (cw.op.ld rfl) rfl ?_
      refine RunO.part 1 rfl ?_
      refine RunO.index (s := 1) (k := q) rfl rfl rfl rfl hqB rfl ?_
      refine RunO.store rfl rfl (store1_ow cw.on rfl rfl rfl (by rw [bo_len, cw.ln]; omega)) (RunO.nil ?_)
      rw [bo_set]
      refine RunC.region (RunO.all rfl ?_)
      refine ⟨d3 - 1, by omega, i + 1, _, by omega, cw.putN cd true, fun j hj => ?_, fg3.trans (Fr.put (m := (· = nb)) _ (.inl rfl)) (fun b e => .inr (by omega)), Le.cons (inc64 (by omega)) (Le.cons rfl (Le.cons rfl (Le.cons rfl (Le.cons rfl (Le.cons rfl (Le.cons rfl (Le.cons rfl (Le.cons rfl (Le.cons rfl (Le.nil _))))))))))⟩
      rw [getD_setBo N3 (by rw [cw.ln]; omega), hcs, hN3 j hj]
      by_cases e : j = q
      · rw [if_pos e, decide_eq_true (by omega), Bool.true_or, Bool.or_true]
      · rw [if_neg e, decide_eq_false (by omega), Bool.false_or]
    have hge3 := of_decide_eq_false hge
    obtain rfl : i = tn.length := by omega
    rw [List.take_length] at hN3
    -- its map
    refine RunC.seq (RunC.region (RunO.part 3 rfl ?_))
    refine RunO.load (v := .slice mA tm.length mc) rfl ((ow.fr fg3 (fun g => g)).ld rfl) rfl (RunO.all rfl ?_)
    refine RunC.block ?_
    refine RunC.loop (fun d E h' => ∃ (i : Nat) (S : List Bool), i + d = tm.length ∧ CW h' B pb nb rb sb N3 R S ∧ (∀ j, j < B → S.getD j false = (isS (TL.take ti) j || (decide (j ≠ 0) && (tm.take i).contains (j : Int)))) ∧ Fr no h h' ∧
      Le ((upd (upd (upd (upd (upd (upd (upd (upd (upd (upd E0 0 (.pointer (some ⟨xb, 0, none⟩))) 1 (.int .i64 (B : Int))) 5 (.pointer (some ⟨pb, 0, none⟩))) 39 (.slice tA TL.length tc)) 40 (.int .i64 (TL.length : Int))) 41 (.int .i64 (ti : Int))) 9 (.pointer (some ⟨wb, 0, none⟩))) 62 (.slice mA tm.length mc)) 63 (.int .i64 (tm.length : Int))) 64 (.int .i64 (i : Int)))) E) ?st4 (k := tm.length) ?ini4
    case ini4 => exact ⟨0, _, by omega, cw, fun j hj => by rw [hS j hj]; simp, fg3, Le.cons rfl (Le.cons rfl (Le.cons rfl (Le.cons rfl (Le.cons rfl (Le.cons rfl (Le.cons rfl (Le.cons rfl (Le.cons rfl (Le.cons rfl (Le.nil _))))))))))⟩
    rintro d4 E g4 ⟨i, S4, hi, cw, hS4, fg4, hE⟩
    refine RunC.le hE ?_
    clear hE
    refine RunC.seq (RunC.region (RunO.all rfl ?_))
    refine RunC.seq (RunC.cond rfl (fun hlt => RunC.skip ?go4) (fun hge => RunC.exit ?ex4))
    case go4 =>
      have hlt := of_decide_eq_true hlt
      have hlt : i < tm.length := by omega
      obtain ⟨x0, xB⟩ := tmr tm[i] (List.getElem_mem hlt)
      obtain ⟨q, hq⟩ := Int.eq_ofNat_of_zero_le x0
      have hqB : q < B := by omega
      have hcs := fun x => cont_succ hlt x
      refine RunC.seq (RunC.block ?_)
      refine RunC.seq (RunC.region ?_)
      refine RunO.at (s := 1) (k := i) rfl rfl (slm.fr0 fg4) rfl rfl hlt (is_part hlt) rfl rfl rfl (RunO.all rfl ?_)
      rw [hq] at hcs ⊢
      have hfin : ∀ x : Bool, x = (S4.getD q false || decide (q ≠ 0)) → ∀ j, j < B → (S4.set q x).getD j false = (isS (TL.take ti) j || (decide (j ≠ 0) && (tm.take (i + 1)).contains (j : Int))) := fun x hx j hj => by
        rw [getD_setBo S4 (by rw [cw.ls]; omega), hcs]
        by_cases e : j = q
        · rw [if_pos e, hx, hS4 q hqB, e, decide_eq_true (p := ((q : Int)) = (q : Int)) rfl, Bool.true_or, Bool.and_true]
          cases isS (TL.take ti) q <;> cases (decide (q ≠ 0)) <;> cases ((tm.take i).contains (q : Int)) <;> rfl
        · rw [if_neg e, hS4 j hj, decide_eq_false (p := ((j : Int)) = (q : Int)) (by omega), Bool.false_or]
      have sls : Sl g4 (.slice (some ⟨sb, 0, none⟩) B (exc B)) 1 B (bo S4) := cw.os.all.sl (by rw [bo_len, cw.ls, Nat.mul_one]) (by omega) (Cp.exc (Nat.le_refl _))
      refine RunC.draw0 rfl ?_
      refine RunO.part 1 rfl ?_
      refine RunO.load (v := .slice (some ⟨sb, 0, none⟩) B (exc B)) rfl (cw.op.ld rfl) rfl ?_
      refine RunO.part 2 rfl ?_
      refine RunO.load (v := .slice (some ⟨sb, 0, none⟩) B (exc B)) rfl (cw.op.ld rfl) rfl ?_
      refine RunO.part 1 rfl ?_
      refine RunO.at (s := 1) (k := q) rfl rfl sls rfl rfl hqB (bo_part (by rw [cw.ls]; exact hqB)) rfl rfl rfl ?_
      have fput : ∀ x : Bool, Fr no h (g4.put sb (some ⟨bo (S4.set q x), true⟩)) := fun x => fg4.trans (Fr.put (m := (· = sb)) _ (.inl rfl)) (fun b e => .inr (by omega))
      have hsl : 0 + q * 1 < (bo S4).length := by rw [bo_len, cw.ls]; omega
      cases hx : S4.getD q false with
      | true =>
        refine RunO.part 4 rfl ?_
        refine RunO.index (s := 1) (k := q) rfl rfl rfl rfl hqB rfl ?_
        refine RunO.store rfl rfl (store1_ow cw.os rfl rfl rfl hsl) (RunO.nil ?_)
        rw [bo_set]
        refine RunC.region (RunO.all rfl ?_)
        exact ⟨d4 - 1, by omega, i + 1, _, by omega, cw.putS cd true, hfin true (by rw [hx]; rfl), fput true, Le.cons (inc64 (by omega)) (Le.cons rfl (Le.cons rfl (Le.cons rfl (Le.cons rfl (Le.cons rfl (Le.cons rfl (Le.cons rfl (Le.cons rfl (Le.cons rfl (Le.nil _))))))))))⟩
      | false =>
        refine RunO.part 3 rfl ?_
        rw [show ((q : Int) != 0) = decide (q ≠ 0) by rw [Bool.eq_iff_iff, bne_iff_ne, decide_eq_true_eq]; omega]
        refine RunO.part 1 rfl ?_
        refine RunO.index (s := 1) (k := q) rfl rfl rfl rfl hqB rfl ?_
        refine RunO.store rfl rfl (store1_ow cw.os rfl rfl rfl hsl) (RunO.nil ?_)
        rw [bo_set]
        refine RunC.region (RunO.all rfl ?_)
        exact ⟨d4 - 1, by omega, i + 1, _, by omega, cw.putS cd _, hfin _ (by rw [hx]; rfl), fput _, Le.cons (inc64 (by omega)) (Le.cons rfl (Le.cons rfl (Le.cons rfl (Le.cons rfl (Le.cons rfl (Le.cons rfl (Le.cons rfl (Le.cons rfl (Le.cons rfl (Le.nil _))))))))))⟩
    have hge4 := of_decide_eq_false hge
    obtain rfl : i = tm.length := by omega
    rw [List.take_length] at hS4
    refine RunC.region (RunO.all rfl ?_)
    exact ⟨d2 - 1, by omega, ti + 1, _, _, by omega, cw, fun j hj => by rw [hN3 j hj, hNs], fun j hj => by rw [hS4 j hj, hSs], fg4, Le.cons (inc64 (by omega)) (Le.cons rfl (Le.cons rfl (Le.cons rfl (Le.cons rfl (Le.cons rfl (Le.nil _))))))⟩
  have hge2 := of_decide_eq_false hge
  obtain rfl : ti = TL.length := by omega
  rw [List.take_length] at hN hS
  have hP : ∀ j, j < B → clP bl TL j = ((S.getD j false && (N.getD j false || R.getD j false)) || (N.getD j false && R.getD j false)) := fun j hj => by
    rw [hN j hj, hS j hj, hR j hj]; rfl
  -- the first one
  refine RunC.seq ?_
  refine RunC.seq (RunC.region (RunO.all rfl ?_))
  refine RunC.block ?_
  refine RunC.loop (fun d E h' => ∃ i : Nat, i + d = B ∧ (∀ j, j < i → clP bl TL j = false) ∧ h' = g2 ∧
    Le ((upd (upd (upd (upd E0 1 (.int .i64 (B : Int))) 5 (.pointer (some ⟨pb, 0, none⟩))) 83 (.int .i64 (B : Int))) 84 (.int .i64 (i : Int)))) E) ?st5 (k := B) ?ini5
  case ini5 => exact ⟨0, by omega, fun j hj => absurd hj (Nat.not_lt_zero _), rfl, Le.cons rfl (Le.cons rfl (Le.cons rfl (Le.cons rfl (Le.nil _))))⟩
  rintro d5 E g5 ⟨i, hi, hno, rfl, hE⟩
  refine RunC.le hE ?_
  clear hE
  refine RunC.seq (RunC.region (RunO.all rfl ?_))
  refine RunC.seq (RunC.cond rfl (fun hlt => RunC.skip ?go5) (fun hge => RunC.exit ?ex5))
  case go5 =>
    have hlt := of_decide_eq_true hlt
    have hlt : i < B := by omega
    have sls : Sl g5 (.slice (some ⟨sb, 0, none⟩) B (exc B)) 1 B (bo S) := cw.os.all.sl (by rw [bo_len, cw.ls, Nat.mul_one]) (by omega) (Cp.exc (Nat.le_refl _))
    have sln : Sl g5 (.slice (some ⟨nb, 0, none⟩) B (exc B)) 1 B (bo N) := cw.on.all.sl (by rw [bo_len, cw.ln, Nat.mul_one]) (by omega) (Cp.exc (Nat.le_refl _))
    have slr : Sl g5 (.slice (some ⟨rb, 0, none⟩) B (exc B)) 1 B (bo R) := cw.or.all.sl (by rw [bo_len, cw.lr, Nat.mul_one]) (by omega) (Cp.exc (Nat.le_refl _))
    have hPi := hP i hlt
    refine RunC.seq (RunC.block ?_)
    refine RunC.seq (RunC.region (RunO.all rfl ?_))
    refine RunC.seq (RunC.region (RunO.part 1 rfl ?_))
    refine RunO.load (v := .slice (some ⟨sb, 0, none⟩) B (exc B)) rfl (cw.op.ld rfl) rfl ?_
    refine RunO.part 1 rfl ?_
    refine RunO.at (s := 1) (k := i) rfl rfl sls rfl rfl hlt (bo_part (by rw [cw.ls]; exact hlt)) rfl rfl rfl ?_
    cases ha : S.getD i false with
    | true =>
      rw [ha] at hPi
      refine RunO.part 1 rfl ?_
      refine RunO.part 1 rfl ?_
      refine RunO.loadG (v := .slice (some ⟨nb, 0, none⟩) B (exc B)) rfl rfl (cw.op.ld rfl) rfl ?_
      refine RunO.part 1 rfl ?_
      refine RunO.atG (s := 1) (k := i) rfl (fun _ => rfl) rfl rfl sln rfl rfl hlt (bo_part (by rw [cw.ln]; exact hlt)) rfl rfl rfl ?_
      cases hb : N.getD i false with
      | true =>
        rw [hb] at hPi
        refine RunO.part 1 rfl ?_
        refine RunO.all rfl (RunC.cond rfl (fun _ => ?_) (fun g => by cases g))
        exact RunC.seq (RunC.region (RunO.all rfl (RunC.ret ⟨_, rfl, fg2, .inl ⟨i, hlt, rfl, hPi, hno⟩⟩)))
      | false =>
        rw [hb] at hPi
        refine RunO.part 1 rfl ?_
        refine RunO.part 1 rfl ?_
        refine RunO.loadG (v := .slice (some ⟨rb, 0, none⟩) B (exc B)) rfl rfl (cw.op.ld rfl) rfl ?_
        refine RunO.part 1 rfl ?_
        refine RunO.atG (s := 1) (k := i) rfl (fun _ => rfl) rfl rfl slr rfl rfl hlt (bo_part (by rw [cw.lr]; exact hlt)) rfl rfl rfl ?_
        cases hc : R.getD i false with
        | true =>
          rw [hc] at hPi
          refine RunO.all rfl (RunC.cond rfl (fun _ => ?_) (fun g => by cases g))
          exact RunC.seq (RunC.region (RunO.all rfl (RunC.ret ⟨_, rfl, fg2, .inl ⟨i, hlt, rfl, hPi, hno⟩⟩)))
        | false =>
          rw [hc] at hPi
          refine RunO.part 3 rfl ?_
          refine RunO.part 1 rfl ?_
          refine RunO.loadG (v := .slice (some ⟨nb, 0, none⟩) B (exc B)) rfl rfl (cw.op.ld rfl) rfl ?_
          refine RunO.part 1 rfl ?_
          refine RunO.atG (s := 1) (k := i) rfl (fun _ => rfl) rfl rfl sln rfl rfl hlt (bo_part (by rw [cw.ln]; exact hlt)) rfl rfl rfl ?_
          rw [hb]
          refine RunO.all rfl (RunC.cond rfl (fun g => by cases g) (fun _ => RunC.skip ?_))
          refine RunC.region (RunO.all rfl ?_)
          exact ⟨d5 - 1, by omega, i + 1, by omega, fun j hj => by rcases Nat.lt_or_ge j i with e | e; exact hno j e; rw [show j = i by omega]; exact hPi, rfl, Le.cons (inc64 (by omega)) (Le.cons rfl (Le.cons rfl (Le.cons rfl (Le.nil _))))⟩
    | false =>
      rw [ha] at hPi
      refine RunO.part 15 rfl ?_
      refine RunO.part 1 rfl ?_
      refine RunO.loadG (v := .slice (some ⟨nb, 0, none⟩) B (exc B)) rfl rfl (cw.op.ld rfl) rfl ?_
      refine RunO.part 1 rfl ?_
      refine RunO.atG (s := 1) (k := i) rfl (fun _ => rfl) rfl rfl sln rfl rfl hlt (bo_part (by rw [cw.ln]; exact hlt)) rfl rfl rfl ?_
      cases hb : N.getD i false with
      | true =>
        rw [hb] at hPi
        refine RunO.part 1 rfl ?_
        refine RunO.part 1 rfl ?_
        refine RunO.loadG (v := .slice (some ⟨rb, 0, none⟩) B (exc B)) rfl rfl (cw.op.ld rfl) rfl ?_
        refine RunO.part 1 rfl ?_
        refine RunO.atG (s := 1) (k := i) rfl (fun _ => rfl) rfl rfl slr rfl rfl hlt (bo_part (by rw [cw.lr]; exact hlt)) rfl rfl rfl ?_
        cases hc : R.getD i false with
        | true =>
          rw [hc] at hPi
          refine RunO.all rfl (RunC.cond rfl (fun _ => ?_) (fun g => by cases g))
          exact RunC.seq (RunC.region (RunO.all rfl (RunC.ret ⟨_, rfl, fg2, .inl ⟨i, hlt, rfl, hPi, hno⟩⟩)))
        | false =>
          rw [hc] at hPi
          refine RunO.all rfl (RunC.cond rfl (fun g => by cases g) (fun _ => RunC.skip ?_))
          refine RunC.region (RunO.all rfl ?_)
          exact ⟨d5 - 1, by omega, i + 1, by omega, fun j hj => by rcases Nat.lt_or_ge j i with e | e; exact hno j e; rw [show j = i by omega]; exact hPi, rfl, Le.cons (inc64 (by omega)) (Le.cons rfl (Le.cons rfl (Le.cons rfl (Le.nil _))))⟩
      | false =>
        rw [hb] at hPi
        refine RunO.all rfl (RunC.cond rfl (fun g => by cases g) (fun _ => RunC.skip ?_))
        refine RunC.region (RunO.all rfl ?_)
        exact ⟨d5 - 1, by omega, i + 1, by omega, fun j hj => by rcases Nat.lt_or_ge j i with e | e; exact hno j e; rw [show j = i by omega]; exact hPi, rfl, Le.cons (inc64 (by omega)) (Le.cons rfl (Le.cons rfl (Le.cons rfl (Le.nil _))))⟩
  have hge5 := of_decide_eq_false hge
  exact RunC.seq (RunC.region (RunO.all rfl (RunC.ret ⟨_, rfl, fg2, .inr ⟨rfl, fun j hj => hno j (by omega)⟩⟩)))
end Go.Proofs.Ytcbakhanpiemhaa
end
section
set_option linter.unusedVariables false
set_option maxRecDepth 100000
open Go Go.Am Go.RowKit
namespace Go.Proofs.Ytcbakhanpiemhaa
open Go.Proofs.Try
/-- Why there is no tree. -/
def treeE (L : List Int) (root : Int) : Int := if devOk L.length then (if treeOk L root then 0 else 6) else 2
def secOk (s : Int) : Bool := !(decide (s < 0) || decide (s ≥ 512))
/-- Why a sector has no block. -/
def sectorE (L : List Int) (root s : Int) : Int := if treeE L root = 0 then (if secOk s then 0 else 3) else treeE L root
def sectorV (L : List Int) (root s : Int) : Int := if treeE L root = 0 then (if secOk s then (treeM L root).getD s.toNat 0 else 0) else 0
def offMap (B b : Int) : Bool := b != 0 && (decide (b < 2) || decide (b ≥ B))
/-- Why a map is none. -/
def mapE (m : List Int) (B : Int) : Int := if m.length = 512 then (if m.any (offMap B) then 1 else 0) else 2
end Go.Proofs.Ytcbakhanpiemhaa
end
section
set_option linter.unusedVariables false
set_option maxRecDepth 100000
open Go Go.Am
namespace Go.Proofs.Ytcbakhanpiemhaa
open Go.Proofs.Try
theorem indexIo_ok {h : Heap} {v : Value} {n : Nat} {acs : List Value} (sl : Sl h v 3 n acs) {u : Nat → Value} (hu : ∀ j, j < n → apart prog 79 acs (j * 3) = some (u j)) {g : FuncId} {cap : List Value} {p : Nat → Bool}
    (hg : ∀ j, j < n → ∀ h1, Fr no h h1 → RunF prog g (u j :: cap) h1 (fun v h2 => v = .bool (p j) ∧ Fr no h1 h2)) (hm : n ≤ 4611686018427387904) :
    RunF prog 97 [v, .func (.func g) #[] ⟨cap⟩] h fun r h' => Fr no h h' ∧ ((∃ i : Nat, i < n ∧ r = .int .i64 (i : Int) ∧ p i = true ∧ ∀ j, j < i → p j = false) ∨ (r = .int .i64 (-1) ∧ ∀ j, j < n → p j = false)) := by
  refine RunF.walk func97 rfl rfl ?_
  obtain ⟨A, c, rfl, hc, _⟩ := sl.form
  refine RunC.seq (RunC.region (RunO.all rfl ?_))
  refine RunC.seq (RunC.seq (RunC.region (RunO.all rfl ?_)))
  refine RunC.block ?_
  let I : Nat → Env → Heap → Prop := fun k E h' => ∃ i : Nat, i + k = n ∧ (∀ j, j < i → p j = false) ∧ Fr no h h' ∧ Le (upd (upd (upd (upd E0 0 (.slice A n c)) 1 (.func (.func g) #[] ⟨cap⟩)) 7 (.int .i64 n)) 8 (.int .i64 i)) E
  refine RunC.loop I ?_ (k := n) ?_
  · rintro k E h' ⟨i, hi, hp, hf, hE⟩
    refine RunC.le hE ?_
    clear hE
    refine RunC.seq (RunC.region (RunO.all rfl ?_))
    refine RunC.seq (RunC.cond rfl (fun hlt => ?_) (fun hge => ?_))
    · have hlt := of_decide_eq_true hlt
      have h1 : i < n := by omega
      refine RunC.skip ?_
      refine RunC.seq (RunC.block ?_)
      refine RunC.seq (RunC.region (RunO.all rfl ?_))
      refine RunC.seq (RunC.region (RunO.part 3 rfl ?_))
      refine RunO.at (s := 3) rfl rfl (sl.fr0 hf) rfl rfl h1 (hu i h1) rfl rfl rfl ?_
      refine RunO.call rfl rfl ?_
      refine RunF.mono (hg i h1 _ hf) ?_
      rintro _ h2 ⟨rfl, f2⟩
      refine ⟨_, rfl, RunO.all rfl ?_⟩
      refine RunC.cond rfl (fun ht => ?_) (fun hn => ?_)
      · refine RunC.seq (RunC.region (RunO.all rfl (RunC.ret ⟨_, rfl, hf.quiet f2, .inl ⟨i, h1, rfl, ht, hp⟩⟩)))
      · refine RunC.skip (RunC.region (RunO.all rfl ?_))
        refine ⟨k - 1, by omega, i + 1, by omega, fun j hj => ?_, hf.quiet f2, Le.cons (inc64 (by omega)) (Le.cons rfl (Le.cons rfl (Le.cons rfl (Le.nil _))))⟩
        rcases Nat.lt_or_ge j i with q | q
        · exact hp j q
        · rw [show j = i by omega]; exact hn
    · have hge := of_decide_eq_false hge
      refine RunC.exit ?_
      exact RunC.seq (RunC.region (RunO.all rfl (RunC.ret ⟨_, rfl, hf, .inr ⟨rfl, fun j hj => hp j (by omega)⟩⟩)))
  · exact ⟨0, by omega, fun j hj => absurd hj (Nat.not_lt_zero _), Fr.refl _ _, Le.cons rfl (Le.cons rfl (Le.cons rfl (Le.cons rfl (Le.nil _))))⟩
theorem containsIo_ok {h : Heap} {v : Value} {n : Nat} {acs : List Value} (sl : Sl h v 3 n acs) {u : Nat → Value} (hu : ∀ j, j < n → apart prog 79 acs (j * 3) = some (u j)) {g : FuncId} {cap : List Value} {p : Nat → Bool}
    (hg : ∀ j, j < n → ∀ h1, Fr no h h1 → RunF prog g (u j :: cap) h1 (fun v h2 => v = .bool (p j) ∧ Fr no h1 h2)) (hm : n ≤ 4611686018427387904) :
    RunF prog 58 [v, .func (.func g) #[] ⟨cap⟩] h fun r h' => r = .bool (anyI p n) ∧ Fr no h h' := by
  refine RunF.walk func58 rfl rfl ?_
  refine RunC.seq (RunC.region (RunO.all rfl ?_))
  refine RunC.seq (RunC.region (RunO.part 2 rfl ?_))
  refine RunO.callD (indexIo_ok sl hu hg hm) rfl rfl rfl ?_
  rintro _ h2 ⟨f2, ⟨i, hi, rfl, hp, _⟩ | ⟨rfl, hp⟩⟩
  · refine RunO.all rfl (RunC.ret ⟨_, rfl, ?_, f2⟩)
    rw [anyI_true hi hp]
    exact congrArg Value.bool (decide_eq_true (Int.natCast_nonneg i))
  · refine RunO.all rfl (RunC.ret ⟨_, rfl, ?_, f2⟩)
    rw [anyI_false hp]; rfl
end Go.Proofs.Ytcbakhanpiemhaa
end
section
set_option linter.unusedVariables false
set_option maxRecDepth 100000
open Go Go.Am
namespace Go.Proofs.Ytcbakhanpiemhaa
open Go.Proofs.Try
abbrev IoT := Int × Int × List Int × Unit
/-- A device step's cells. -/
def IoK (h : Heap) (x : IoT) (cs : List Value) : Prop := ∃ dv, cs = [.int .i64 x.1, .int .i64 x.2.1, dv] ∧ Sl h dv 1 x.2.2.1.length (us x.2.2.1) ∧ Byt x.2.2.1
/-- A slice of device steps. -/
def Ios (h : Heap) (v : Value) (l : List IoT) : Prop := ∃ acs, Sl h v 3 l.length acs ∧ ∀ (j : Nat) (x : IoT), l[j]? = some x → IoK h x ((acs.drop (j * 3)).take 3)
theorem IoK.ex {h h' : Heap} {x : IoT} {cs : List Value} (k : IoK h x cs) (e : Ex h h') : IoK h' x cs := by
  obtain ⟨dv, h1, h2, h3⟩ := k
  exact ⟨dv, h1, h2.ex e, h3⟩
theorem Ios.ex {h h' : Heap} {v : Value} {l : List IoT} (k : Ios h v l) (e : Ex h h') : Ios h' v l := by
  obtain ⟨acs, h1, h2⟩ := k
  exact ⟨acs, h1.ex e, fun j x hx => (h2 j x hx).ex e⟩
theorem clone8_ok {h : Heap} {v : Value} {l : List Int} (sl : Sl h v 1 l.length (us l)) (hb : 2 * l.length ≤ 281474976710656) :
    RunF prog 61 [v] h fun r h' => Osl h.next h' r 1 l.length (us l) ∧ Fr no h h' ∧ (l.length = 0 → h.next ≤ h'.next) := by
  refine RunF.walk func61 rfl rfl ?_
  refine RunC.seq (RunC.region (RunO.all rfl ?_))
  obtain ⟨hl, hm, ⟨rfl, h0⟩ | ⟨b, o, c, rfl, hc, rd⟩⟩ := sl
  · refine RunC.seq (RunC.seq (RunC.region (RunO.all rfl ?_)))
    refine RunC.cond rfl (fun _ => ?_) (fun g => by cases g)
    exact RunC.seq (RunC.region (RunO.all rfl (RunC.ret ⟨_, rfl, ⟨hl, hm, .inl ⟨rfl, h0⟩⟩, Fr.refl _ _, fun _ => Nat.le_refl _⟩)))
  · refine RunC.seq (RunC.seq (RunC.region (RunO.all rfl ?_)))
    refine RunC.cond rfl (fun g => by cases g) (fun _ => RunC.skip ?_)
    refine RunC.seq (RunC.region (RunO.part 2 (h1 := h.push ⟨[], true⟩) rfl ?_))
    have f1 : Fr no h (h.push ⟨[], true⟩) := Fr.push _ _ _
    have ow : Ow (h.push ⟨[], true⟩) h.next [] := Ow.push _ _
    by_cases hz : l.length = 0
    · have hn : l = [] := List.eq_nil_of_length_eq_zero hz
      subst hn
      have key : aappend prog (h.push ⟨[], true⟩) 23 23 (.slice (some ⟨h.next, 0, none⟩) 0 (exc 0)) (.slice (some ⟨b, o, none⟩) 0 c) = some (.slice (some ⟨h.next, 0, none⟩) 0 (exc 0), h.push ⟨[], true⟩) := by
        have hs : asrc (h.push ⟨[], true⟩) 1 (.slice (some ⟨b, o, none⟩) 0 c) = some (0, []) := ((rd.fr f1 (fun g => g)).sl (s := 1) (n := 0) rfl (Nat.zero_le _) hc).src0
        show (match asrc (h.push ⟨[], true⟩) 1 (.slice (some ⟨b, o, none⟩) 0 c) with
          | some (0, _) => some (Value.slice (some ⟨h.next, 0, none⟩) 0 (exc 0), h.push ⟨[], true⟩)
          | some (m + 1, news) => _
          | none => none) = _
        rw [hs]
      refine RunO.one rfl (v := .slice (some ⟨h.next, 0, none⟩) 0 (exc 0)) (h1 := h.push ⟨[], true⟩) (abuiltin_app key) rfl ?_
      exact RunO.all rfl (RunC.ret ⟨_, rfl, ⟨rfl, hm, .inr ⟨h.next, exc 0, Nat.le_refl _, rfl, Cp.exc (Nat.le_refl _), ow⟩⟩, f1, fun _ => Nat.le_succ _⟩)
    · have key := append_full (P := prog) (t := 23) (e := 5) (s := 1) (k := 0) (m := l.length) (c := exc 0) (c' := c) (olds := []) (news := us l) (b := ⟨h.next, 0, none⟩) (a := ⟨b, o, none⟩) rfl rfl rfl rfl rfl (Nat.le_refl 1) ow.all rfl rfl (by show 0 < 0 + l.length; omega) (rd.fr f1 (fun g => g)) (by rw [us_len, Nat.mul_one]) (by omega)
        (by show 2 * (0 + l.length) * 1 ≤ _; omega) (by omega)
      rw [Nat.zero_add, List.nil_append] at key
      refine RunO.one rfl (abuiltin_app key) rfl ?_
      refine RunO.all rfl (RunC.ret ⟨_, rfl, ⟨hl, hm, .inr ⟨_, _, Nat.le_succ _, rfl, Cp.unkc _ _, Ow.push _ _⟩⟩, f1.same (Fr.push _ _ _), fun _ => Nat.le_succ_of_le (Nat.le_succ _)⟩)
/-- Is a step right? -/
def ioR (k a : Int) (n : Nat) (b : Int) : Bool := if (k == 1) = true then decide (a ≥ 0) && (decide (a < b) && ((n : Int) == 64)) else if (k == 2) = true then a == 0 && ((n : Int) == 0) else false
theorem devRight_ok {h : Heap} {k a b : Int} {A : Option Addr} {n c : Nat} : RunF prog 109 [.agg ⟨[.int .i64 k, .int .i64 a, .slice A n c]⟩, .int .i64 b] h fun v h' => v = .bool (ioR k a n b) ∧ Fr no h h' := by
  refine RunF.walk func109 rfl rfl ?_
  refine RunC.seq (RunC.region (RunO.all (h1 := h.push ⟨[.int .i64 k, .int .i64 a, .slice A n c], true⟩) rfl ?_))
  have ow : Ow (h.push ⟨[.int .i64 k, .int .i64 a, .slice A n c], true⟩) h.next [.int .i64 k, .int .i64 a, .slice A n c] := Ow.push _ _
  have f1 : Fr no h (h.push ⟨[.int .i64 k, .int .i64 a, .slice A n c], true⟩) := Fr.push _ _ _
  generalize h.push ⟨[.int .i64 k, .int .i64 a, .slice A n c], true⟩ = h1 at *
  generalize h.next = p at *
  refine RunC.seq (RunC.seq (RunC.region (RunO.part 1 rfl ?_)))
  refine RunO.load (v := .int .i64 k) rfl (ow.all.cell1 (k := 0) rfl rfl) rfl (RunO.nil ?_)
  refine RunC.block ?_
  refine RunC.seq (RunC.region (RunO.all rfl ?_))
  unfold ioR
  cases (k == 1) with
  | true =>
    refine RunC.cond rfl (fun _ => ?_) (fun g => by cases g)
    refine RunC.seq (RunC.region (RunO.part 1 rfl ?_))
    refine RunO.load (v := .int .i64 a) rfl (ow.all.cell1 (k := 1) rfl rfl) rfl ?_
    refine RunO.part 2 rfl ?_
    cases decide (a ≥ 0) with
    | false => exact RunO.all rfl (RunC.ret ⟨_, rfl, rfl, f1⟩)
    | true =>
      refine RunO.part 1 rfl ?_
      refine RunO.loadG (v := .int .i64 a) rfl rfl (ow.all.cell1 (k := 1) rfl rfl) rfl ?_
      refine RunO.part 4 rfl ?_
      cases decide (a < b) with
      | false => exact RunO.all rfl (RunC.ret ⟨_, rfl, rfl, f1⟩)
      | true =>
        refine RunO.part 1 rfl ?_
        refine RunO.loadG (v := .slice A n c) rfl rfl (ow.all.cell1 (k := 2) rfl rfl) rfl ?_
        exact RunO.all rfl (RunC.ret ⟨_, rfl, rfl, f1⟩)
  | false =>
    refine RunC.cond rfl (fun g => by cases g) (fun _ => ?_)
    refine RunC.seq (RunC.region (RunO.all rfl ?_))
    cases (k == 2) with
    | false =>
      refine RunC.cond rfl (fun g => by cases g) (fun _ => RunC.skip ?_)
      exact RunC.seq (RunC.region (RunO.all rfl (RunC.ret ⟨_, rfl, rfl, f1⟩)))
    | true =>
      refine RunC.cond rfl (fun _ => ?_) (fun g => by cases g)
      refine RunC.seq (RunC.region (RunO.part 1 rfl ?_))
      refine RunO.load (v := .int .i64 a) rfl (ow.all.cell1 (k := 1) rfl rfl) rfl ?_
      refine RunO.part 2 rfl ?_
      cases (a == 0) with
      | false => exact RunO.all rfl (RunC.ret ⟨_, rfl, rfl, f1⟩)
      | true =>
        refine RunO.part 1 rfl ?_
        refine RunO.loadG (v := .slice A n c) rfl rfl (ow.all.cell1 (k := 2) rfl rfl) rfl ?_
        exact RunO.all rfl (RunC.ret ⟨_, rfl, rfl, f1⟩)
theorem devRightC_ok {h : Heap} {k a b : Int} {A : Option Addr} {n c q : Nat} (rd : Rd h ⟨q, 0, none⟩ [.int .i64 b]) : RunF prog 108 [.agg ⟨[.int .i64 k, .int .i64 a, .slice A n c]⟩, .pointer (some ⟨q, 0, none⟩)] h fun v h' => v = .bool (!ioR k a n b) ∧ Fr no h h' := by
  refine RunF.walk func108 rfl rfl ?_
  refine RunC.seq (RunC.region (RunO.all (h1 := h.push ⟨[.int .i64 k, .int .i64 a, .slice A n c], true⟩) rfl ?_))
  have ow : Ow (h.push ⟨[.int .i64 k, .int .i64 a, .slice A n c], true⟩) h.next [.int .i64 k, .int .i64 a, .slice A n c] := Ow.push _ _
  have f1 : Fr no h (h.push ⟨[.int .i64 k, .int .i64 a, .slice A n c], true⟩) := Fr.push _ _ _
  have rd1 := rd.fr f1 (fun g => g)
  generalize h.push ⟨[.int .i64 k, .int .i64 a, .slice A n c], true⟩ = h1 at *
  generalize h.next = p at *
  refine RunC.seq (RunC.region ?_)
  refine RunO.load (v := .agg ⟨[.int .i64 k, .int .i64 a, .slice A n c]⟩) rfl (ow.all.part (k := 0) rfl) rfl ?_
  refine RunO.load (v := .int .i64 b) rfl (rd1.cell1 (k := 0) rfl rfl) rfl ?_
  refine RunO.callD devRight_ok rfl rfl rfl ?_
  rintro _ h2 ⟨rfl, f2⟩
  exact RunO.all rfl (RunC.ret ⟨_, rfl, rfl, f1.same f2⟩)
/-- Why steps are not a device's. -/
def stepsE (n : Nat) (l : List IoT) : Int := if devOk n then (if decide ((l.length : Int) > 1048576) then 2 else if l.any (fun x => !ioR x.1 x.2.1 x.2.2.1.length (n / 64 : Nat)) then 1 else 0) else 2
theorem io_part {acs : List Value} {n j : Nat} (hl : acs.length = n * 3) (hj : j < n) : apart prog 79 acs (j * 3) = some (.agg ⟨(acs.drop (j * 3)).take 3⟩) := by
  show (match takeN 3 (dropN (j * 3) acs) with | some l => some (Value.agg ⟨l⟩) | none => none) = _
  rw [takeN_eq, dropN_eq, if_pos (by rw [List.length_drop]; omega)]
theorem devSteps_ok {h : Heap} {A : Option Addr} {c n : Nat} {v : Value} {l : List IoT} (il : Ios h v l) (hm : n ≤ 4611686018427387904) (hm2 : l.length ≤ 4611686018427387904) :
    RunF prog 74 [.slice A n c, v] h fun r h' => r = .int .i64 (stepsE n l) ∧ Fr no h h' := by
  obtain ⟨acs, sl, hk⟩ := il
  refine RunF.walk func74 rfl rfl ?_
  refine RunC.seq (RunC.region (RunO.all rfl ?_))
  refine RunC.seq (RunC.region (RunO.part 1 rfl ?_))
  refine RunO.callD (devCheck_ok hm) rfl rfl rfl ?_
  rintro _ _ ⟨rfl, rfl⟩
  have hsE : stepsE n l = if devOk n then (if decide ((l.length : Int) > 1048576) then 2 else if l.any (fun x => !ioR x.1 x.2.1 x.2.2.1.length (n / 64 : Nat)) then 1 else 0) else 2 := rfl
  rw [hsE]
  refine RunO.part 4 (h1 := h.push ⟨[.int .i64 0], true⟩) rfl ?_
  refine RunO.store rfl rfl (store1_ow (Ow.push h [.int .i64 0]) rfl rfl rfl (Nat.le_refl 1)) ?_
  change RunO _ _ _ _ _ ((h.push ⟨[.int .i64 0], true⟩).put h.next (some ⟨[.int .i64 (if devOk n then (n / 64 : Nat) else (0 : Nat))], true⟩)) _
  have ow : Ow ((h.push ⟨[.int .i64 0], true⟩).put h.next (some ⟨[.int .i64 (if devOk n then (n / 64 : Nat) else (0 : Nat))], true⟩)) h.next [.int .i64 (if devOk n then (n / 64 : Nat) else (0 : Nat))] := Ow.put _ (Nat.lt_succ_self _)
  have f1 : Fr no h ((h.push ⟨[.int .i64 0], true⟩).put h.next (some ⟨[.int .i64 (if devOk n then (n / 64 : Nat) else (0 : Nat))], true⟩)) := (Fr.push _ _ _).trans (Fr.put (m := (· = h.next)) _ (.inl rfl)) (fun j hj => .inr (by omega))
  generalize (h.push ⟨[.int .i64 0], true⟩).put h.next (some ⟨[.int .i64 (if devOk n then (n / 64 : Nat) else (0 : Nat))], true⟩) = h1 at *
  generalize h.next = p at *
  have sl1 := sl.fr0 f1
  refine RunO.all rfl ?_
  cases hd0 : devOk n with
  | false =>
    refine RunC.seq (RunC.block ?_)
    refine RunC.seq (RunC.region (RunO.all rfl (RunC.cond rfl (fun _ => ?_) (fun g => by cases g))))
    exact RunC.seq (RunC.region (RunO.all rfl (RunC.ret ⟨_, rfl, rfl, f1⟩)))
  | true =>
  rw [hd0, if_pos rfl] at ow
  refine RunC.seq (RunC.block ?_)
  refine RunC.seq (RunC.region (RunO.all rfl (RunC.cond rfl (fun g => by cases g) (fun _ => ?_))))
  obtain ⟨B, d, rfl, hd, _⟩ := sl.form
  refine RunC.seq (RunC.region (RunO.all rfl ?_))
  cases decide ((l.length : Int) > 1048576) with
  | true =>
    refine RunC.cond rfl (fun _ => ?_) (fun g => by cases g)
    exact RunC.seq (RunC.region (RunO.all rfl (RunC.ret ⟨_, rfl, rfl, f1⟩)))
  | false =>
    refine RunC.cond rfl (fun g => by cases g) (fun _ => ?_)
    refine RunC.seq (RunC.region (RunO.part 2 rfl ?_))
    refine RunO.callD (containsIo_ok sl1 (u := fun j => .agg ⟨(acs.drop (j * 3)).take 3⟩) (fun j hj => io_part sl.1 hj) (p := fun j => match l[j]? with | some x => !ioR x.1 x.2.1 x.2.2.1.length (n / 64 : Nat) | none => false) (fun j hj h2 f2 => ?_) hm2) rfl rfl rfl ?_
    · obtain ⟨dv, e1, e2, _⟩ := hk j _ (List.getElem?_eq_getElem hj)
      rw [e1]
      obtain ⟨D, dc, rfl, _, _⟩ := e2.form
      have := devRightC_ok (h := h2) (k := (l[j]).1) (a := (l[j]).2.1) (b := (n / 64 : Nat)) (A := D) (n := (l[j]).2.2.1.length) (c := dc) (q := p) ((ow.fr f2 (fun g => g)).all)
      simp only [List.getElem?_eq_getElem hj]
      exact this
    rintro _ h2 ⟨rfl, f2⟩
    rw [anyI_list (q := fun x : IoT => !ioR x.1 x.2.1 x.2.2.1.length (n / 64 : Nat)) (fun j x hx => by simp only [hx])]
    refine RunO.all rfl ?_
    cases l.any (fun x => !ioR x.1 x.2.1 x.2.2.1.length (n / 64 : Nat)) with
    | true =>
      refine RunC.cond rfl (fun _ => ?_) (fun g => by cases g)
      exact RunC.seq (RunC.region (RunO.all rfl (RunC.ret ⟨_, rfl, rfl, f1.same f2⟩)))
    | false =>
      refine RunC.cond rfl (fun g => by cases g) (fun _ => RunC.skip ?_)
      exact RunC.seq (RunC.region (RunO.all rfl (RunC.ret ⟨_, rfl, rfl, f1.same f2⟩)))
end Go.Proofs.Ytcbakhanpiemhaa
end
section
set_option linter.unusedVariables false
set_option maxRecDepth 100000
open Go Go.Am
namespace Go.Proofs.Ytcbakhanpiemhaa
open Go.Proofs.Try
/-- A block written over. -/
def setBlk (o : List Int) (i : Nat) (d : List Int) : List Int := o.take (i * 64) ++ d ++ o.drop (i * 64 + 64)
theorem setBlk_len {o d : List Int} {i : Nat} (hi : (i + 1) * 64 ≤ o.length) (hd : d.length = 64) : (setBlk o i d).length = o.length := by
  unfold setBlk
  rw [List.length_append, List.length_append, List.length_take, List.length_drop, hd]; omega
def applyStep (o : List Int) (x : IoT) : List Int := if (x.1 == 1) = true then setBlk o x.2.1.toNat x.2.2.1 else o
def applyL (o : List Int) (l : List IoT) : List Int := l.foldl applyStep o
/-- A step that is right. -/
def ioOk (n : Nat) (x : IoT) : Prop := x.1 = 1 ∧ (∃ a : Nat, x.2.1 = (a : Int) ∧ a < n / 64) ∧ x.2.2.1.length = 64 ∨ x.1 = 2 ∧ x.2.1 = 0 ∧ x.2.2.1 = []
theorem ioR_iff {n : Nat} {x : IoT} : ioR x.1 x.2.1 x.2.2.1.length (n / 64 : Nat) = true ↔ ioOk n x := by
  unfold ioR ioOk
  by_cases h1 : x.1 = 1
  · rw [if_pos (beq_iff_eq.2 h1)]
    simp only [Bool.and_eq_true, decide_eq_true_eq, beq_iff_eq]
    constructor
    · rintro ⟨h2, h3, h4⟩
      exact .inl ⟨h1, ⟨x.2.1.toNat, by omega, by omega⟩, by omega⟩
    · rintro (⟨_, ⟨a, h2, h3⟩, h4⟩ | ⟨h2, _⟩)
      · exact ⟨by omega, by omega, by omega⟩
      · omega
  · rw [if_neg (fun g => h1 (beq_iff_eq.1 g))]
    by_cases h2 : x.1 = 2
    · rw [if_pos (beq_iff_eq.2 h2)]
      simp only [Bool.and_eq_true, beq_iff_eq]
      constructor
      · rintro ⟨h3, h4⟩
        exact .inr ⟨h2, h3, List.eq_nil_of_length_eq_zero (by omega)⟩
      · rintro (⟨h3, _⟩ | ⟨_, h3, h4⟩)
        · omega
        · exact ⟨h3, by rw [h4]; rfl⟩
    · rw [if_neg (fun g => h2 (beq_iff_eq.1 g))]
      constructor
      · intro g; cases g
      · rintro (⟨h3, _⟩ | ⟨h3, _⟩)
        · exact absurd h3 h1
        · exact absurd h3 h2
theorem stepsE_zero {n : Nat} {l : List IoT} (h : stepsE n l = 0) : devOk n = true ∧ l.length ≤ 1048576 ∧ ∀ x ∈ l, ioOk n x := by
  unfold stepsE at h
  split at h
  · rename_i h1
    split at h
    · cases h
    · rename_i h2
      split at h
      · cases h
      · rename_i h3
        refine ⟨h1, ?_, fun x hx => ?_⟩
        · have := of_decide_eq_false (Bool.eq_false_iff.2 h2); omega
        · refine ioR_iff.1 ?_
          cases e : ioR x.1 x.2.1 x.2.2.1.length (n / 64 : Nat) with
          | true => rfl
          | false => exact absurd (List.any_eq_true.2 ⟨x, hx, by rw [e]; rfl⟩) h3
  · cases h
theorem applyStep_len {n : Nat} {o : List Int} {x : IoT} (hn : o.length = n) (hx : ioOk n x) : (applyStep o x).length = n := by
  unfold applyStep
  split
  · rename_i h1
    rcases hx with ⟨_, ⟨a, e, ha⟩, hd⟩ | ⟨h2, _⟩
    · rw [e, Int.toNat_natCast, setBlk_len (by omega) hd, hn]
    · rw [h2] at h1; cases h1
  · exact hn
theorem foldl_take {α β : Type} (f : β → α → β) (b : β) {l : List α} {i : Nat} (hi : i < l.length) : (l.take (i + 1)).foldl f b = f ((l.take i).foldl f b) l[i] := by
  rw [List.take_succ_eq_append_getElem hi, List.foldl_append]; rfl
theorem us_set {o d : List Int} {i : Nat} (hd : d.length = 64) : (us o).take (i * 64) ++ (us d).take 64 ++ (us o).drop (i * 64 + 64) = us (setBlk o i d) := by
  rw [List.take_of_length_le (l := us d) (by rw [us_len, hd]; exact Nat.le_refl _)]
  unfold us setBlk
  rw [List.map_append, List.map_append, List.map_take, List.map_drop]
set_option maxHeartbeats 4000000 in
theorem devApply_ok {h : Heap} {iv v : Value} {L : List Int} {l : List IoT} (si : Sl h iv 1 L.length (us L)) (hL : 2 * L.length ≤ 281474976710656) (il : Ios h v l) (hm2 : l.length ≤ 4611686018427387904) :
    RunF prog 37 [iv, v] h fun r h' => Fr no h h' ∧ ((stepsE L.length l = 0 ∧ ∃ b c, h.next ≤ b ∧ r = .tuple #[.slice (some ⟨b, 0, none⟩) L.length c, .int .i64 0] ∧ Cp 1 L.length c ∧ Ow h' b (us (applyL L l))) ∨ (stepsE L.length l ≠ 0 ∧ r = .tuple #[.slice none 0 0, .int .i64 (stepsE L.length l)])) := by
  refine RunF.walk func37 rfl rfl ?_
  obtain ⟨A, c, rfl, hc, hA⟩ := si.form
  refine RunC.seq (RunC.region (RunO.all rfl ?_))
  refine RunC.seq (RunC.region (RunO.part 2 rfl ?_))
  refine RunO.callD (devSteps_ok il (by omega) hm2) rfl rfl rfl ?_
  rintro _ h1 ⟨rfl, f1⟩
  refine RunO.all rfl ?_
  refine RunC.seq (RunC.seq (RunC.region (RunO.all rfl ?_)))
  by_cases he : stepsE L.length l = 0
  case neg =>
    rw [show (stepsE L.length l != 0) = true from bne_iff_ne.2 he]
    refine RunC.cond rfl (fun _ => ?_) (fun g => by cases g)
    exact RunC.seq (RunC.region (RunO.all rfl (RunC.ret ⟨_, rfl, f1, .inr ⟨he, rfl⟩⟩)))
  rw [he]
  obtain ⟨hdev, hl20, hall⟩ := stepsE_zero he
  have hlen : 256 ≤ L.length := by
    unfold devOk at hdev
    simp at hdev
    omega
  refine RunC.cond rfl (fun g => by cases g) (fun _ => RunC.skip ?_)
  refine RunC.seq (RunC.region (RunO.part 1 rfl ?_))
  refine RunO.callD (clone8_ok (si.fr0 f1) hL) rfl rfl rfl ?_
  rintro w h2 ⟨os, f2, _⟩
  obtain ⟨_, _, ⟨_, h0⟩ | ⟨ob, oc, hob, rfl, hoc, ow⟩⟩ := os
  · omega
  refine RunO.all rfl ?_
  have f12 := f1.same f2
  obtain ⟨acs, sl, hk⟩ := il
  obtain ⟨B, d, rfl, hd, _⟩ := sl.form
  refine RunC.seq (RunC.seq (RunC.region (RunO.all rfl ?_)))
  refine RunC.block ?_
  have hob1 : h.next ≤ ob := Nat.le_trans f1.next hob
  let I : Nat → Env → Heap → Prop := fun k E h' => ∃ i : Nat, i + k = l.length ∧ Fr no h h' ∧ Ow h' ob (us ((l.take i).foldl applyStep L)) ∧ ((l.take i).foldl applyStep L).length = L.length ∧ Le (upd (upd (upd (upd E0 7 (.slice (some ⟨ob, 0, none⟩) L.length oc)) 18 (.slice B l.length d)) 19 (.int .i64 l.length)) 20 (.int .i64 i)) E
  refine RunC.loop I ?_ (k := l.length) ?_
  · rintro k E h' ⟨i, hi, hf, ow', hol, hE⟩
    refine RunC.le hE ?_
    clear hE
    refine RunC.seq (RunC.region (RunO.all rfl ?_))
    refine RunC.seq (RunC.cond rfl (fun hlt => ?_) (fun hge => ?_))
    · have hlt := of_decide_eq_true hlt
      have h1 : i < l.length := by omega
      have hx := hk i _ (List.getElem?_eq_getElem h1)
      have hok := hall _ (List.getElem_mem h1)
      have hstep := foldl_take applyStep L h1
      have hsl := applyStep_len hol hok
      rw [← hstep] at hsl
      obtain ⟨cur1, hc1⟩ : ∃ z, z = (l.take (i + 1)).foldl applyStep L := ⟨_, rfl⟩
      rw [← hc1] at hstep hsl
      generalize (l.take i).foldl applyStep L = cur at *
      have hpart := io_part (acs := acs) sl.1 h1
      obtain ⟨dv, e1, e2, _⟩ := hx
      rw [e1] at hpart
      generalize l[i] = x at *
      obtain ⟨kd, a, dl, u⟩ := x
      simp only at e1 e2 hpart
      refine RunC.skip ?_
      refine RunC.seq (RunC.block ?_)
      obtain ⟨D, dc, rfl, hdc, _⟩ := e2.form
      refine RunC.seq (RunC.region ?_)
      refine RunO.at (s := 3) rfl rfl (sl.fr0 hf) rfl rfl h1 hpart rfl rfl rfl ?_
      refine RunO.part 1 (h1 := h'.push ⟨[.int .i64 0, .int .i64 0, .slice none 0 0], true⟩) rfl ?_
      refine RunO.store rfl rfl (store_ow (s := 3) (Ow.push h' [.int .i64 0, .int .i64 0, .slice none 0 0]) rfl rfl rfl (Nat.le_of_ble_eq_true rfl)) (RunO.nil ?_)
      change RunC _ _ _ _ ((h'.push ⟨[.int .i64 0, .int .i64 0, .slice none 0 0], true⟩).put h'.next (some ⟨[.int .i64 kd, .int .i64 a, .slice D dl.length dc], true⟩)) _ _ _
      have ox : Ow ((h'.push ⟨[.int .i64 0, .int .i64 0, .slice none 0 0], true⟩).put h'.next (some ⟨[.int .i64 kd, .int .i64 a, .slice D dl.length dc], true⟩)) h'.next [.int .i64 kd, .int .i64 a, .slice D dl.length dc] := Ow.put _ (Nat.lt_succ_self _)
      have f4 : Fr no h' ((h'.push ⟨[.int .i64 0, .int .i64 0, .slice none 0 0], true⟩).put h'.next (some ⟨[.int .i64 kd, .int .i64 a, .slice D dl.length dc], true⟩)) := (Fr.push _ _ _).trans (Fr.put (m := (· = h'.next)) _ (.inl rfl)) (fun j hj => .inr (by omega))
      have ow4 := ow'.fr f4 (fun g => g)
      have hf4 := hf.same f4
      have hne : h'.next ≠ ob := by have := ow'.1; omega
      have sd4 := e2.fr0 hf4
      generalize (h'.push ⟨[.int .i64 0, .int .i64 0, .slice none 0 0], true⟩).put h'.next (some ⟨[.int .i64 kd, .int .i64 a, .slice D dl.length dc], true⟩) = h4 at *
      generalize h'.next = p at *
      refine RunC.seq (RunC.region (RunO.part 1 rfl ?_))
      refine RunO.load (v := .int .i64 kd) rfl (ox.all.cell1 (k := 0) rfl rfl) rfl (RunO.all rfl ?_)
      cases hkd : (kd == 1) with
      | false =>
        refine RunC.cond rfl (fun g => by cases g) (fun _ => RunC.skip ?_)
        refine RunC.region (RunO.all rfl ?_)
        have hst : cur1 = cur := by rw [hstep]; unfold applyStep; rw [if_neg (by simp only [hkd]; exact Bool.false_ne_true)]
        rw [← hst] at ow4
        exact ⟨k - 1, by omega, i + 1, by omega, hf4, hc1 ▸ ow4, hc1 ▸ hsl, Le.cons (inc64 (by omega)) (Le.cons rfl (Le.cons rfl (Le.cons rfl (Le.nil _))))⟩
      | true =>
        refine RunC.cond rfl (fun _ => ?_) (fun g => by cases g)
        have hst : cur1 = setBlk cur a.toNat dl := by rw [hstep]; unfold applyStep; rw [if_pos hkd]
        rcases hok with ⟨_, ⟨an, ea, ha⟩, hdl⟩ | ⟨h2, _⟩
        case inr => rw [show kd = 2 from h2] at hkd; cases hkd
        simp only at ea hdl
        subst ea
        rw [Int.toNat_natCast] at hst
        have hal : (an + 1) * 64 ≤ L.length := by omega
        refine RunC.draw (l0 := min (min h4.low h4.next) ob) (Nat.le_trans (Nat.min_le_left _ _) (Nat.min_le_left _ _)) rfl ?_
        have hn : min (min h4.low h4.next) ob ≤ h4.next := Nat.le_trans (Nat.min_le_left _ _) (Nat.min_le_right h4.low h4.next)
        refine RunD.pure hn rfl rfl (fun _ => rfl) rfl ?_
        refine RunD.pure hn rfl rfl (fun _ => rfl) rfl ?_
        refine RunD.load (v := .int .i64 an) hn rfl (ox.all.cell1 (k := 1) rfl rfl) rfl ?_
        have hof := devOf_ok (h := h4.lo h4.next) (b := ob) (o := 0) (c := oc) (i := an) (l := L) hal (by omega) hoc
        refine RunD.callD hof rfl rfl rfl ?_
        rintro _ _ ⟨⟨c', hc', rfl⟩, rfl⟩
        refine ⟨hn, ?_⟩
        refine RunD.pure hn rfl rfl (fun _ => rfl) rfl ?_
        refine RunD.load (v := .slice D dl.length dc) hn rfl (ox.all.cell1 (k := 2) rfl rfl) rfl ?_
        obtain ⟨h5, hcp, ow5, f5, hn5⟩ := copy_sl (P := prog) (t := 23) (h := h4.lo h4.next) (b := ob) (o := 0 + an * 64) (dn := 64) (dc := c') (k := 64) rfl rfl ow4 sd4 (allCells_map (fun _ => rfl) dl) (by rw [hdl]; rfl) (by rw [us_len, hol]; omega)
        rw [Nat.zero_add, us_set hdl, ← hst] at ow5
        rw [Nat.zero_add] at hcp
        have hl5 : min (min h4.low h4.next) ob ≤ h5.low := f5.low _ (Nat.le_trans (Nat.min_le_left _ _) (Nat.min_le_right _ _)) (Nat.le_trans (Nat.min_le_left _ _) (Nat.min_le_right _ _)) (fun j hj => hj ▸ Nat.min_le_right _ _)
        refine RunD.one (v := goInt (64 : Nat)) (f := .wr _) (h1 := h5) rfl (by rw [Nat.zero_add]; exact hcp) (fun _ => rfl) hl5 rfl ?_
        refine RunD.nil ⟨?_, fun lw hlw => ?_⟩
        · rw [show Nat.ble h4.next (h4.lo h4.next).low = true from Nat.ble_eq_true_of_le (Nat.le_refl _)]; rfl
        have f6 : Fr no h (h5.lo lw) := (hf4.fg0.trans f5.fg (fun j e => .inr (e ▸ hob1))).close (fun q a b _ => by
          have := hf4.low q a b (fun _ g => g.elim)
          have := hf4.next
          omega)
        refine RunC.region (RunO.all rfl ?_)
        exact ⟨k - 1, by omega, i + 1, by omega, f6, hc1 ▸ ow5, hc1 ▸ hsl, Le.cons (inc64 (by omega)) (Le.cons rfl (Le.cons rfl (Le.cons rfl (Le.nil _))))⟩
    · have hge := of_decide_eq_false hge
      refine RunC.exit ?_
      have hi2 : i = l.length := by omega
      subst hi2
      rw [List.take_length] at ow'
      exact RunC.seq (RunC.region (RunO.all rfl (RunC.ret ⟨_, rfl, hf, .inl ⟨rfl, ob, oc, hob1, rfl, hoc, ow'⟩⟩)))
  · exact ⟨0, by omega, f12, ow, rfl, Le.cons rfl (Le.cons rfl (Le.cons rfl (Le.cons rfl (Le.nil _))))⟩
end Go.Proofs.Ytcbakhanpiemhaa
end
section
set_option linter.unusedVariables false
set_option maxRecDepth 100000
open Go Go.Am Go.RowKit
namespace Go.Proofs.Ytcbakhanpiemhaa
open Go.Proofs.Try
theorem blk_get (l : List Int) (i j : Nat) : (blkI l i)[j]? = if j < 64 then l[i * 64 + j]? else none := by
  unfold blkI
  rw [List.getElem?_take, List.getElem?_drop]
theorem setBlk_get {o d : List Int} {i k : Nat} (hi : (i + 1) * 64 ≤ o.length) (hd : d.length = 64) : (setBlk o i d)[k]? = if i * 64 ≤ k ∧ k < i * 64 + 64 then d[k - i * 64]? else o[k]? := by
  unfold setBlk
  have h1 : (o.take (i * 64)).length = i * 64 := by rw [List.length_take]; omega
  by_cases c1 : k < i * 64
  · rw [if_neg (by omega), List.append_assoc, List.getElem?_append_left (by omega), List.getElem?_take, if_pos c1]
  · by_cases c2 : k < i * 64 + 64
    · rw [if_pos (by omega), List.append_assoc, List.getElem?_append_right (by omega), h1, List.getElem?_append_left (by omega)]
    · rw [if_neg (by omega), List.append_assoc, List.getElem?_append_right (by omega), h1, List.getElem?_append_right (by omega), hd, List.getElem?_drop]
      congr 1; omega
theorem blk_set_same {o d : List Int} {i : Nat} (hi : (i + 1) * 64 ≤ o.length) (hd : d.length = 64) : blkI (setBlk o i d) i = d := by
  apply List.ext_getElem?
  intro j
  rw [blk_get, setBlk_get hi hd]
  by_cases c : j < 64
  · rw [if_pos c, if_pos (by omega)]; congr 1; omega
  · rw [if_neg c, List.getElem?_eq_none (by omega)]
theorem blk_set_ne {o d : List Int} {i j : Nat} (hi : (i + 1) * 64 ≤ o.length) (hd : d.length = 64) (hne : j ≠ i) : blkI (setBlk o i d) j = blkI o j := by
  apply List.ext_getElem?
  intro k
  rw [blk_get, blk_get]
  by_cases c : k < 64
  · rw [if_pos c, if_pos c, setBlk_get hi hd, if_neg]
    rcases Nat.lt_or_gt_of_ne hne with g | g <;> omega
  · rw [if_neg c, if_neg c]
theorem setBlk_byt {o d : List Int} {i : Nat} (ho : Byt o) (hd : Byt d) : Byt (setBlk o i d) := by
  intro x hx
  unfold setBlk at hx
  rcases List.mem_append.1 hx with hx | hx
  · rcases List.mem_append.1 hx with hx | hx
    · exact ho x (List.mem_of_mem_take hx)
    · exact hd x hx
  · exact ho x (List.mem_of_mem_drop hx)
/-- A node of one pointer. -/
def oneP (k : Nat) (p : Int) : List Int := nZero.set k p
/-- A device with a tree of one sector, so many nodes of it written: its bytes, what the next one leads to. -/
def chainI (B at_ sec : Nat) (data : Int) : Nat → List Int × Int
  | 0 => (List.replicate (B * 64) 0, data)
  | i + 1 => (setBlk (chainI B at_ sec data i).1 (at_ + i) (nodBlock i (oneP (sec / 8 ^ i % 8) (chainI B at_ sec data i).2)), ((at_ + i : Nat) : Int))
def chain (B at_ sec : Nat) (data : Int) : List Int := (chainI B at_ sec data 3).1
end Go.Proofs.Ytcbakhanpiemhaa
end
section
set_option linter.unusedVariables false
set_option maxRecDepth 100000
open Go Go.Am Go.RowKit
namespace Go.Proofs.Ytcbakhanpiemhaa
open Go.Proofs.Try
theorem devOk_iff {n : Nat} : devOk n = true ↔ n % 64 = 0 ∧ 4 ≤ n / 64 ∧ n / 64 ≤ 4096 := by
  unfold devOk
  simp
theorem devOk_mul {B : Nat} (h4 : 4 ≤ B) (hB : B ≤ 4096) : devOk (B * 64) = true := devOk_iff.2 ⟨by omega, by omega, by omega⟩
theorem stepsE_ok {n : Nat} {l : List IoT} (h1 : devOk n = true) (h2 : l.length ≤ 1048576) (h3 : ∀ x ∈ l, ioOk n x) : stepsE n l = 0 := by
  unfold stepsE
  rw [if_pos h1, if_neg (by rw [decide_eq_true_eq]; omega), if_neg]
  intro g
  obtain ⟨x, hx, hr⟩ := List.any_eq_true.1 g
  rw [ioR_iff.2 (h3 x hx)] at hr
  cases hr
theorem us_zeros (n : Nat) : us (List.replicate n 0) = List.replicate n (Value.int .u8 0) := by unfold us; rw [List.map_replicate]
theorem reps_us (n : Nat) : reps (cellsOf (Value.int .u8 0)) n = us (List.replicate n 0) := by rw [us_zeros]; exact reps_one _ _
end Go.Proofs.Ytcbakhanpiemhaa
end
section
open Go Go.Am Go.RowKit
namespace Go.Proofs.Ytcbakhanpiemhaa
open Go.Proofs.Try
theorem mixed : prog.follows .mixedOrders = true := by kernel_rfl
theorem routines : noRoutine prog = true := by kernel_rfl
end Go.Proofs.Ytcbakhanpiemhaa
end
section
set_option linter.unusedVariables false
set_option maxRecDepth 100000
open Go Go.Am Go.RowKit
namespace Go.Proofs.Ytcbakhanpiemhaa
open Go.Proofs.Try
theorem sl_own {h : Heap} {b c n : Nat} {l : List Int} (ow : Ow h b (us l)) (hl : l.length = n) (hc : Cp 1 n c) (hn : n ≤ 9223372036854775807) : Sl h (.slice (some ⟨b, 0, none⟩) n c) 1 l.length (us l) := by
  subst hl
  exact ow.all.sl (by rw [us_len, Nat.mul_one]) hn hc
end Go.Proofs.Ytcbakhanpiemhaa
end
section
set_option linter.unusedVariables false
set_option maxRecDepth 100000
open Go Go.Am
namespace Go.Proofs.Ytcbakhanpiemhaa
open Go.Proofs.Try
theorem refIn_ok {h : Heap} {a lo hi : Int} : RunF prog 71 [.int .i64 a, .int .i64 lo, .int .i64 hi] h fun v h' => v = .bool (inB a lo hi) ∧ h = h' := by
  refine RunF.walk func71 rfl rfl ?_
  refine RunC.seq (RunC.region (RunO.all rfl ?_))
  refine RunC.seq (RunC.region (RunO.part 4 rfl ?_))
  unfold inB
  cases decide (a ≥ lo) with
  | true => exact RunO.all rfl (RunC.ret ⟨_, rfl, by simp, rfl⟩)
  | false => exact RunO.all rfl (RunC.ret ⟨_, rfl, by simp, rfl⟩)
theorem refLink_ok {h : Heap} {a b : Int} : RunF prog 69 [.int .i64 a, .int .i64 b] h fun v h' => v = .bool (a == 0 || inB a 2 (fwrap .i64 (b - 1))) ∧ h = h' := by
  refine RunF.walk func69 rfl rfl ?_
  refine RunC.seq (RunC.region (RunO.all rfl ?_))
  refine RunC.seq (RunC.region (RunO.part 3 rfl ?_))
  cases (a == 0) with
  | true => exact RunO.all rfl (RunC.ret ⟨_, rfl, rfl, rfl⟩)
  | false =>
    refine RunO.part 3 rfl ?_
    refine RunO.callDG rfl refIn_ok rfl rfl rfl ?_
    rintro _ _ ⟨rfl, rfl⟩
    exact RunO.all rfl (RunC.ret ⟨_, rfl, rfl, rfl⟩)
def leNum (l : List Int) : Int × Bool := if leN l > 4611686018427387903 then (0, false) else (leN l, true)
end Go.Proofs.Ytcbakhanpiemhaa
end
section
set_option linter.unusedVariables false
set_option maxRecDepth 100000
open Go Go.Am Go.RowKit
namespace Go.Proofs.Ytcbakhanpiemhaa
open Go.Proofs.Try
end Go.Proofs.Ytcbakhanpiemhaa
end
section
set_option linter.unusedVariables false
set_option maxRecDepth 100000
open Go Go.Am Go.RowKit
namespace Go.Proofs.Ytcbakhanpiemhaa
open Go.Proofs.Try
end Go.Proofs.Ytcbakhanpiemhaa
end
section
set_option linter.unusedVariables false
set_option maxRecDepth 100000
open Go Go.Am Go.RowKit
namespace Go.Proofs.Ytcbakhanpiemhaa
open Go.Proofs.Try
/-- What a tree that is one says of its map. -/
theorem tree_spec {L : List Int} {root : Int} (hr : root ≠ 0) (h : treeOk L root = true) : TSpec L (L.length / 64) 2 root 0 (List.replicate 512 0, [], false) (treeM L root, treeN L root, false) := by
  unfold treeOk at h
  rw [show (root == 0) = false from beq_eq_false_iff_ne.2 hr, Bool.false_or, Bool.and_eq_true, Bool.not_eq_true', Bool.not_eq_true'] at h
  have hm : treeM L root = (treeW L root).1 := by unfold treeM; rw [show (root == 0) = false from beq_eq_false_iff_ne.2 hr]; rfl
  have hn : treeN L root = (treeW L root).2.1 := by unfold treeN; rw [show (root == 0) = false from beq_eq_false_iff_ne.2 hr]; rfl
  have := tgo_spec L (L.length / 64) 2 root 0 (List.replicate 512 0, [], false) (by decide) List.length_replicate rfl (fun s _ _ => by
    rw [List.getD_eq_getElem?_getD, List.getElem?_replicate]; split <;> rfl) h.1
  change TSpec L (L.length / 64) 2 root 0 (List.replicate 512 0, [], false) (treeW L root) at this
  rw [hm, hn]
  generalize treeW L root = w at *
  obtain ⟨a, b, c⟩ := w
  have hc : c = false := h.1
  subst hc
  exact this
theorem tree_at {L : List Int} {root : Int} (hr : root ≠ 0) (h : treeOk L root = true) {s : Nat} (hs : s < 512) : (treeM L root).getD s 0 = look L (L.length / 64) 3 root s := by
  have := (tree_spec hr h).m s hs
  rw [if_pos ⟨Nat.zero_le _, by simpa using hs⟩, Nat.sub_zero] at this
  exact this
end Go.Proofs.Ytcbakhanpiemhaa
end
section
set_option linter.unusedVariables false
set_option maxRecDepth 100000
open Go Go.Am Go.RowKit
namespace Go.Proofs.Ytcbakhanpiemhaa
open Go.Proofs.Try
theorem keepBytesS_ok {h : Heap} {v w : Value} {l m : List Int} (sl : Sl h v 1 l.length (us l)) (sm : Sl h w 1 m.length (us m)) (hm : l.length ≤ 4611686018427387904) :
    RunF prog 62 [v, w] h fun v h' => v = .bool (l == m) ∧ h = h' := by
  obtain ⟨A, c, rfl, _, hA⟩ := sl.form
  obtain ⟨B, d, rfl, _, hB⟩ := sm.form
  exact keepBytes_ok (fun hl => by obtain ⟨b, o, rfl, rd⟩ := hA hl; exact ⟨_, rfl, rd⟩) (fun hl => by obtain ⟨b, o, rfl, rd⟩ := hB hl; exact ⟨_, rfl, rd⟩) hm
def mapG (L : List Int) (root : Int) : List Int := if treeE L root = 0 then treeM L root else []
def nodG (L : List Int) (root : Int) : List Int := if treeE L root = 0 then treeN L root else []
end Go.Proofs.Ytcbakhanpiemhaa
end
section
set_option linter.unusedVariables false
set_option maxRecDepth 100000
open Go Go.Am Go.RowKit
namespace Go.Proofs.Ytcbakhanpiemhaa
open Go.Proofs.Try
/-- A node's pointers; of no node none. -/
def ptrsL (L : List Int) (B : Nat) (p : Int) : List Int := if p = 0 then nZero else (atV L B p).2
theorem ptrsL_len (L : List Int) (B : Nat) (p : Int) : (ptrsL L B p).length = 8 := by
  unfold ptrsL; split
  · rfl
  · exact atV_len L B p
theorem nz_get (i : Nat) : nZero.getD i 0 = 0 := by
  show (List.replicate 8 (0 : Int)).getD i 0 = 0
  rw [List.getD_eq_getElem?_getD, List.getElem?_replicate]; split <;> rfl
theorem look_suc (L : List Int) (B k : Nat) (p : Int) (s : Nat) : look L B (k + 1) p s = look L B k ((ptrsL L B p).getD (s / 8 ^ k) 0) (s % 8 ^ k) := by
  show (if p = 0 then 0 else _) = _
  unfold ptrsL
  by_cases e : p = 0
  · rw [if_pos e, if_pos e, nz_get, look_zero]
  · rw [if_neg e, if_neg e]
/-- One level more, at the end of the way. -/
theorem look_last (L : List Int) (B : Nat) : ∀ (k : Nat) (p : Int) (s : Nat), s < 8 ^ (k + 1) → look L B (k + 1) p s = (ptrsL L B (look L B k p (s / 8))).getD (s % 8) 0
  | 0, p, s, h => by
    rw [look_suc]
    show (ptrsL L B p).getD (s / 8 ^ 0) 0 = (ptrsL L B p).getD (s % 8) 0
    rw [Nat.pow_zero, Nat.div_one, Nat.mod_eq_of_lt (by simpa using h)]
  | k + 1, p, s, h => by
    have hpos : 0 < 8 ^ k := Nat.pow_pos (by decide)
    have hp : 8 ^ (k + 1) = 8 ^ k * 8 := Nat.pow_succ ..
    rw [look_suc, look_last L B k _ _ (Nat.mod_lt _ (by omega)), look_suc L B k p (s / 8)]
    have e1 : s / 8 ^ (k + 1) = s / 8 / 8 ^ k := by rw [hp, Nat.mul_comm, Nat.div_div_eq_div_mul]
    have e2 : s % 8 ^ (k + 1) / 8 = s / 8 % 8 ^ k := by rw [hp, Nat.mul_comm, Nat.mod_mul_right_div_self]
    have e3 : s % 8 ^ (k + 1) % 8 = s % 8 := by rw [hp, Nat.mul_comm, Nat.mod_mul_right_mod]
    rw [e1, e2, e3]
/-- The nodes under a pointer, from the top. -/
def nodL (L : List Int) (B : Nat) : Nat → Int → List Int
  | 0, _ => []
  | k + 1, p => if p = 0 then [] else p :: (List.range 8).flatMap fun i => nodL L B k ((ptrsL L B p).getD i 0)
theorem nodL_zero (L : List Int) (B k : Nat) : nodL L B k 0 = [] := by cases k <;> rfl
/-- Under a pointer each node is one, of its level. -/
def okA (L : List Int) (B k : Nat) (p : Int) : Prop := ∀ s, s < 8 ^ k → pathOk L B k p s
theorem okA_at {L : List Int} {B k : Nat} {p : Int} (h : okA L B (k + 1) p) (hp : p ≠ 0) : atIs L B p (k : Int) = true := (h 0 (Nat.pow_pos (by decide)) hp).1
theorem okA_zero (L : List Int) (B k : Nat) : okA L B k 0 := by
  intro s hs
  cases k with
  | zero => trivial
  | succ k => exact fun e => absurd rfl e
theorem okA_child {L : List Int} {B k : Nat} {p : Int} (h : okA L B (k + 1) p) {i : Nat} (hi : i < 8) : okA L B k ((ptrsL L B p).getD i 0) := by
  by_cases hp : p = 0
  · have : (ptrsL L B p).getD i 0 = 0 := by unfold ptrsL; rw [if_pos hp, nz_get]
    rw [this]; exact okA_zero L B k
  · intro s hs
    have hpos : 0 < 8 ^ k := Nat.pow_pos (by decide)
    have hlt : i * 8 ^ k + s < 8 ^ (k + 1) := by
      have : i * 8 ^ k + 8 ^ k ≤ 8 ^ k * 8 := by rw [← Nat.succ_mul, Nat.mul_comm]; exact Nat.mul_le_mul_left _ hi
      rw [Nat.pow_succ]; omega
    have := (h _ hlt hp).2
    have e1 : (i * 8 ^ k + s) / 8 ^ k = i := by rw [Nat.add_comm, Nat.add_mul_div_right _ _ hpos, Nat.div_eq_of_lt hs, Nat.zero_add]
    have e2 : (i * 8 ^ k + s) % 8 ^ k = s := by rw [Nat.add_comm, Nat.add_mul_mod_self_right, Nat.mod_eq_of_lt hs]
    rw [e1, e2] at this
    unfold ptrsL
    rw [if_neg hp]
    exact this
/-- A walk that ends well has met just the nodes under its pointer. -/
def NodAt (L : List Int) (B lv : Nat) : Prop := ∀ (a : Int) (f : Nat) (w : TS), w.2.2 = false → (tgo L B lv a f w).2.2 = false → (tgo L B lv a f w).2.1 = w.2.1 ++ nodL L B (lv + 1) a
theorem nod_body {L : List Int} {B lv : Nat} (hrec : ∀ k, lv = k + 1 → NodAt L B k) : NodAt L B lv := by
  intro a f w hw h
  obtain ⟨m, ns, bd⟩ := w
  simp only at hw
  subst hw
  rw [tgo_eq] at h ⊢
  unfold tbody at h ⊢
  by_cases hc : (!atIs L B a (lv : Int) || ns.contains a) = true
  · rw [if_pos hc] at h; cases h
  rw [if_neg hc] at h ⊢
  rw [Bool.or_eq_true, not_or, Bool.not_eq_true, Bool.not_eq_true, Bool.not_eq_false'] at hc
  have ha := atIs_ne hc.1
  have ha0 : a ≠ 0 := by omega
  have hp : ptrsL L B a = (atV L B a).2 := by unfold ptrsL; rw [if_neg ha0]
  have hn : nodL L B (lv + 1) a = a :: (List.range 8).flatMap fun i => nodL L B lv ((ptrsL L B a).getD i 0) := by show (if a = 0 then _ else _) = _; rw [if_neg ha0]
  rw [hn]
  change ((List.range 8).foldl (tst L B lv (atV L B a).2 f) (m, ns ++ [a], false)).2.2 = false at h
  show ((List.range 8).foldl (tst L B lv (atV L B a).2 f) (m, ns ++ [a], false)).2.1 = _
  have key : ∀ i, i ≤ 8 → ((List.range i).foldl (tst L B lv (atV L B a).2 f) (m, ns ++ [a], false)).2.1 = ns ++ a :: (List.range i).flatMap fun i => nodL L B lv ((ptrsL L B a).getD i 0) := by
    intro i
    induction i with
    | zero => intro _; rfl
    | succ i ih =>
      intro hi
      have hnb := fold_pre h (i := i) (by omega)
      have hnb1 := fold_pre h (i := i + 1) hi
      have ih := ih (by omega)
      have hstep : (List.range (i + 1)).foldl (tst L B lv (atV L B a).2 f) (m, ns ++ [a], false) = tst L B lv (atV L B a).2 f ((List.range i).foldl (tst L B lv (atV L B a).2 f) (m, ns ++ [a], false)) i := by rw [List.range_succ, List.foldl_append]; rfl
      rw [hstep] at hnb1 ⊢
      have hfl : (List.range (i + 1)).flatMap (fun i => nodL L B lv ((ptrsL L B a).getD i 0)) = (List.range i).flatMap (fun i => nodL L B lv ((ptrsL L B a).getD i 0)) ++ nodL L B lv ((ptrsL L B a).getD i 0) := by rw [List.range_succ, List.flatMap_append]; simp
      rw [hfl]
      generalize (List.range i).foldl (tst L B lv (atV L B a).2 f) (m, ns ++ [a], false) = W at *
      rw [hp] at ih ⊢
      unfold tst tstep at hnb1 ⊢
      rw [hnb, if_neg Bool.false_ne_true] at hnb1 ⊢
      generalize hpi : (atV L B a).2.getD i 0 = p at *
      have fin : ∀ X : List Int, X = W.2.1 ++ nodL L B lv p → X = ns ++ a :: ((List.range i).flatMap (fun i => nodL L B lv ((atV L B a).2.getD i 0)) ++ nodL L B lv p) := fun X e => by rw [e, ih, List.append_assoc, List.cons_append]
      by_cases hB : decide (p ≥ (B : Int)) = true
      · rw [if_pos hB] at hnb1; cases hnb1
      rw [if_neg hB] at hnb1 ⊢
      cases lv with
      | zero =>
        refine fin _ ?_
        show _ = W.2.1 ++ []
        rw [List.append_nil]
        split
        · rfl
        · split <;> rfl
      | succ k =>
        rw [if_neg (by simp)] at hnb1 ⊢
        by_cases hp0 : p = 0
        · rw [if_neg (by simp [hp0])]
          refine fin _ ?_
          rw [hp0, nodL_zero, List.append_nil]
        · rw [if_pos (bne_iff_ne.2 hp0)] at hnb1 ⊢
          exact fin _ (hrec k rfl p (f + i * 8 ^ (k + 1)) W hnb hnb1)
  exact key 8 (Nat.le_refl 8)
theorem tgo_nod (L : List Int) (B : Nat) : ∀ lv, NodAt L B lv := by
  intro lv
  induction lv with
  | zero => exact nod_body (fun k e => by cases e)
  | succ k ih => exact nod_body (fun j e => by cases e; exact ih)
/-- A walk ends well. -/
def FineAt (L : List Int) (B lv : Nat) : Prop := ∀ (a : Int) (f : Nat) (w : TS), w.2.2 = false → a ≠ 0 → okA L B (lv + 1) a → (w.2.1 ++ nodL L B (lv + 1) a).Nodup → (∀ s, s < 8 ^ (lv + 1) → look L B (lv + 1) a s < B) → (tgo L B lv a f w).2.2 = false
/-- What a tree is. -/
structure TreeIs (L : List Int) (root : Int) (m : List Int) : Prop where
  len : m.length = 512
  ok : okA L (L.length / 64) 3 root
  nd : (nodL L (L.length / 64) 3 root).Nodup
  map : ∀ s, s < 512 → look L (L.length / 64) 3 root s = m.getD s 0
  lt : ∀ s, s < 512 → m.getD s 0 < (L.length / 64 : Nat)
  out : ∀ s, s < 512 → ¬ m.getD s 0 ∈ nodL L (L.length / 64) 3 root
theorem TreeIs.of {L : List Int} {root : Int} (hB : 0 < L.length / 64) (h : treeOk L root = true) : TreeIs L root (treeM L root) ∧ treeN L root = nodL L (L.length / 64) 3 root := by
  by_cases hr : root = 0
  · subst hr
    have hz : ∀ s, (treeM L 0).getD s 0 = 0 := fun s => by
      show (List.replicate 512 (0 : Int)).getD s 0 = 0
      rw [List.getD_eq_getElem?_getD, List.getElem?_replicate]; split <;> rfl
    exact ⟨⟨treeM_len L 0, okA_zero _ _ _, by rw [nodL_zero]; exact List.nodup_nil, fun s _ => by rw [hz, look_zero], fun s _ => by rw [hz]; omega, fun s _ => by rw [nodL_zero]; simp⟩, by rw [nodL_zero]; rfl⟩
  · have S := tree_spec hr h
    have hn : treeN L root = (treeW L root).2.1 := by unfold treeN; rw [show (root == 0) = false from beq_eq_false_iff_ne.2 hr]; rfl
    have hm : treeM L root = (treeW L root).1 := by unfold treeM; rw [show (root == 0) = false from beq_eq_false_iff_ne.2 hr]; rfl
    have h2 := h
    unfold treeOk at h2
    rw [show (root == 0) = false from beq_eq_false_iff_ne.2 hr, Bool.false_or, Bool.and_eq_true, Bool.not_eq_true', Bool.not_eq_true'] at h2
    have hnod : treeN L root = nodL L (L.length / 64) 3 root := by
      have := tgo_nod L (L.length / 64) 2 root 0 (List.replicate 512 0, [], false) rfl h2.1
      rw [hn]
      exact this.trans (List.nil_append _)
    have hml := treeM_len L root
    have hmem : ∀ s, s < 512 → (treeM L root).getD s 0 ∈ treeM L root := fun s hs => by
      rw [List.getD_eq_getElem?_getD, List.getElem?_eq_getElem (by omega)]
      exact List.getElem_mem _
    refine ⟨⟨hml, fun s hs => S.path s hs, ?_, fun s hs => (tree_at hr h hs).symm, fun s hs => ?_, fun s hs c => ?_⟩, hnod⟩
    · rw [← hnod]; exact S.nd List.nodup_nil
    · rcases S.bnd _ (hmem s hs) with g | g | g
      · have := (List.mem_replicate.1 g).2; omega
      · omega
      · exact g
    · rw [← hnod] at c
      have := List.any_eq_false.1 h2.2 _ (by rw [← hm]; exact hmem s hs)
      rw [← hn] at this
      exact this (by simpa using c)
end Go.Proofs.Ytcbakhanpiemhaa
end
section
set_option linter.unusedVariables false
set_option maxRecDepth 100000
open Go Go.Am Go.RowKit
namespace Go.Proofs.Ytcbakhanpiemhaa
open Go.Proofs.Try
/-- The places of a tree's nodes: so far down, so far along. -/
def posL : Nat → List (Nat × Nat)
  | 0 => []
  | k + 1 => (0, 0) :: (List.range 8).flatMap fun i => (posL k).map fun x => (x.1 + 1, i * 8 ^ x.1 + x.2)
theorem posL_lt : ∀ (k : Nat) (x : Nat × Nat), x ∈ posL k → x.1 < k ∧ x.2 < 8 ^ x.1
  | 0, x, h => by cases h
  | k + 1, x, h => by
    rcases List.mem_cons.1 h with rfl | h
    · exact ⟨Nat.succ_pos _, by decide⟩
    · obtain ⟨i, hi, h⟩ := List.mem_flatMap.1 h
      obtain ⟨y, hy, rfl⟩ := List.mem_map.1 h
      rw [List.mem_range] at hi
      obtain ⟨h1, h2⟩ := posL_lt k y hy
      refine ⟨by omega, ?_⟩
      show i * 8 ^ y.1 + y.2 < 8 ^ (y.1 + 1)
      have : i * 8 ^ y.1 + 8 ^ y.1 ≤ 8 ^ y.1 * 8 := by rw [← Nat.succ_mul, Nat.mul_comm]; exact Nat.mul_le_mul_left _ hi
      rw [Nat.pow_succ]; omega
theorem posL_mem : ∀ (k d q : Nat), d < k → q < 8 ^ d → (d, q) ∈ posL k
  | 0, d, q, h, _ => absurd h (Nat.not_lt_zero _)
  | k + 1, 0, q, _, h2 => by
    have : q = 0 := by simpa using h2
    subst this
    exact List.mem_cons_self ..
  | k + 1, d + 1, q, h1, h2 => by
    have hpos : 0 < 8 ^ d := Nat.pow_pos (by decide)
    refine List.mem_cons_of_mem _ (List.mem_flatMap.2 ⟨q / 8 ^ d, List.mem_range.2 (by rw [Nat.div_lt_iff_lt_mul hpos]; rw [Nat.pow_succ, Nat.mul_comm] at h2; exact h2), List.mem_map.2 ⟨(d, q % 8 ^ d), posL_mem k d _ (by omega) (Nat.mod_lt _ hpos), ?_⟩⟩)
    show (d + 1, q / 8 ^ d * 8 ^ d + q % 8 ^ d) = _
    rw [Nat.div_add_mod']
theorem look_at {L : List Int} {B d i q : Nat} {p : Int} (hi : i < 8) (hq : q < 8 ^ d) : look L B (d + 1) p (i * 8 ^ d + q) = look L B d ((ptrsL L B p).getD i 0) q := by
  have hpos : 0 < 8 ^ d := Nat.pow_pos (by decide)
  rw [look_suc]
  have e1 : (i * 8 ^ d + q) / 8 ^ d = i := by rw [Nat.add_comm, Nat.add_mul_div_right _ _ hpos, Nat.div_eq_of_lt hq, Nat.zero_add]
  have e2 : (i * 8 ^ d + q) % 8 ^ d = q := by rw [Nat.add_comm, Nat.add_mul_mod_self_right, Nat.mod_eq_of_lt hq]
  rw [e1, e2]
theorem filter_flat {α β : Type} (f : α → List β) (p : β → Bool) : ∀ l : List α, (l.flatMap f).filter p = l.flatMap fun x => (f x).filter p
  | [] => rfl
  | x :: l => by rw [List.flatMap_cons, List.filter_append, filter_flat f p l, List.flatMap_cons]
theorem nodL_pos (L : List Int) (B : Nat) : ∀ (k : Nat) (p : Int), nodL L B k p = ((posL k).map fun x => look L B x.1 p x.2).filter (· != 0)
  | 0, p => rfl
  | k + 1, p => by
    by_cases hp : p = 0
    · subst hp
      rw [nodL_zero]
      symm
      rw [List.filter_eq_nil_iff]
      intro x hx
      obtain ⟨y, _, rfl⟩ := List.mem_map.1 hx
      rw [look_zero]; simp
    · show (if p = 0 then _ else _) = _
      rw [if_neg hp]
      show _ = List.filter _ (List.map _ ((0, 0) :: _))
      rw [List.map_cons, List.filter_cons_of_pos (by show (p != 0) = true; exact bne_iff_ne.2 hp)]
      show p :: _ = p :: _
      congr 1
      rw [List.map_flatMap, filter_flat]
      have key : ∀ l : List Nat, (∀ i ∈ l, i < 8) → (l.flatMap fun i => nodL L B k ((ptrsL L B p).getD i 0)) = l.flatMap fun i => List.filter (· != 0) (List.map (fun x => look L B x.1 p x.2) (List.map (fun x => (x.1 + 1, i * 8 ^ x.1 + x.2)) (posL k))) := by
        intro l
        induction l with
        | nil => intro _; rfl
        | cons i l ih =>
          intro hl
          rw [List.flatMap_cons, List.flatMap_cons, ih (fun j hj => hl j (List.mem_cons_of_mem _ hj)), nodL_pos L B k]
          congr 2
          rw [List.map_map]
          apply List.map_congr_left
          intro x hx
          exact (look_at (hl i (List.mem_cons_self ..)) (posL_lt k x hx).2).symm
      exact key _ (fun i hi => List.mem_range.1 hi)
theorem nodL_mem {L : List Int} {B k : Nat} {p x : Int} : x ∈ nodL L B k p ↔ x ≠ 0 ∧ ∃ d q, d < k ∧ q < 8 ^ d ∧ look L B d p q = x := by
  rw [nodL_pos, List.mem_filter, List.mem_map, bne_iff_ne]
  constructor
  · rintro ⟨⟨y, hy, rfl⟩, h0⟩
    exact ⟨h0, y.1, y.2, (posL_lt k y hy).1, (posL_lt k y hy).2, rfl⟩
  · rintro ⟨h0, d, q, hd, hq, rfl⟩
    exact ⟨⟨(d, q), posL_mem k d q hd hq, rfl⟩, h0⟩
end Go.Proofs.Ytcbakhanpiemhaa
end
section
set_option linter.unusedVariables false
set_option linter.unusedSectionVars false
set_option maxRecDepth 100000
open Go Go.Am Go.RowKit
namespace Go.Proofs.Ytcbakhanpiemhaa
open Go.Proofs.Try
/- An open image: what the page says of the parts. -/
theorem ptr_ge {L : List Int} {B : Nat} {p lv : Int} (h : atIs L B p lv = true) {i : Nat} (hi : i < 8) : (ptrsL L B p).getD i 0 = 0 ∨ (2 ≤ (ptrsL L B p).getD i 0 ∧ (ptrsL L B p).getD i 0 < 4096) := by
  have hp := (atIs_ne h).1
  unfold atIs at h
  rw [Bool.and_eq_true, Bool.and_eq_true, beq_iff_eq] at h
  have hv : ptrsL L B p = nPs (blkI L p.toNat) := by
    unfold ptrsL atV nodV
    rw [if_neg (by omega), if_pos h.1, if_pos h.2.1]
  have hok : nodOk (nLv (blkI L p.toNat)) (nPs (blkI L p.toNat)) = true := by
    have hc := h.2.1
    unfold nCode at hc
    split at hc
    · split at hc
      · assumption
      · cases hc
    · rename_i h1; exact absurd hc h1
  have hl := ptrsL_len L B p
  unfold nodOk at hok
  rw [Bool.and_eq_true, List.all_eq_true] at hok
  have hx := hok.1 ((ptrsL L B p).getD i 0) (by rw [← hv, List.getD_eq_getElem?_getD, List.getElem?_eq_getElem (by omega)]; exact List.getElem_mem _)
  unfold ptrB at hx
  simp only [Bool.or_eq_true, beq_iff_eq, Bool.and_eq_true, decide_eq_true_eq] at hx
  omega
theorem okA_lk {L : List Int} {B : Nat} : ∀ (k : Nat) (p : Int) (d q : Nat), okA L B k p → d < k → q < 8 ^ d → look L B d p q ≠ 0 → atIs L B (look L B d p q) ((k - 1 - d : Nat) : Int) = true
  | 0, p, d, q, _, h, _, _ => absurd h (Nat.not_lt_zero _)
  | k + 1, p, 0, q, h, _, hq, h0 => okA_at h h0
  | k + 1, p, d + 1, q, h, hd, hq, h0 => by
    have hpos : 0 < 8 ^ d := Nat.pow_pos (by decide)
    have hq8 : q / 8 ^ d < 8 := by rw [Nat.div_lt_iff_lt_mul hpos]; rw [Nat.pow_succ, Nat.mul_comm] at hq; exact hq
    rw [look_suc] at h0 ⊢
    have := okA_lk k _ d _ (okA_child h hq8) (by omega) (Nat.mod_lt _ hpos) h0
    rwa [show k + 1 - 1 - (d + 1) = k - 1 - d by omega]
theorem tree_rng {L : List Int} {root : Int} (hd : devOk L.length = true) (h : treeOk L root = true) : (∀ x ∈ treeM L root, 0 ≤ x ∧ x < (L.length / 64 : Nat)) ∧ (∀ x ∈ treeN L root, 2 ≤ x ∧ x < (L.length / 64 : Nat)) := by
  have hdl : L.length % 64 = 0 ∧ 4 ≤ L.length / 64 ∧ L.length / 64 ≤ 4096 := by
    unfold devOk at hd
    simpa using hd
  obtain ⟨t, tn⟩ := TreeIs.of (by omega) h
  constructor
  · intro x hx
    obtain ⟨s, hs, rfl⟩ := List.mem_iff_getElem.1 hx
    have hs5 : s < 512 := by rw [← t.len]; exact hs
    have hg : (treeM L root)[s] = (treeM L root).getD s 0 := by rw [List.getD_eq_getElem?_getD, List.getElem?_eq_getElem hs]; rfl
    rw [hg]
    refine ⟨?_, t.lt s hs5⟩
    rw [← t.map s hs5, look_last _ _ 2 root s (by simpa using hs5)]
    by_cases h0 : look L (L.length / 64) 2 root (s / 8) = 0
    · rw [h0]
      unfold ptrsL
      rw [if_pos rfl, nz_get]; exact Int.le_refl _
    · have := ptr_ge (okA_lk 3 root 2 (s / 8) t.ok (by decide) (by have : (8 : Nat) ^ 2 = 64 := rfl; omega) h0) (i := s % 8) (by omega)
      omega
  · intro x hx
    rw [tn] at hx
    obtain ⟨h0, d, q, hd3, hq, hl⟩ := nodL_mem.1 hx
    have := atIs_ne (okA_lk 3 root d q t.ok hd3 hq (by rw [hl]; exact h0))
    rw [hl] at this
    exact this
/-- A record is right. -/
def r8Ok (r : R8) : Bool := recOk r.nx r.id r.pa r.ro r.sz r.ki r.fr r.di
theorem rPar_ok {l : List Int} (h : rCode l = 0) : r8Ok (rPar l) = true := by
  unfold rPar
  rw [if_pos h]
  unfold rCode at h
  split at h
  · split at h
    · rename_i h2; exact h2
    · cases h
  · rename_i h1; exact absurd h h1
theorem r8_sz {r : R8} (h : r8Ok r = true) : 0 ≤ r.sz ∧ r.sz ≤ 512 := by
  have key : recIs r.nx r.id r.pa r.ro r.sz = true := by
    unfold r8Ok recOk at h
    split at h
    · rw [Bool.and_eq_true, Bool.and_eq_true] at h; exact h.1.1
    · split at h
      · rw [Bool.and_eq_true, Bool.and_eq_true] at h; exact h.1.1
      · cases h
  unfold recIs at key
  rw [Bool.and_eq_true] at key
  exact (inB_iff _ _ _).1 key.2
theorem fol_ok {L : List Int} {B : Nat} : ∀ (f : Nat) (a : Int) (l : List R8) (bs : List Int) (w : Nat), (∀ r ∈ l, r8Ok r = true) → (∀ x ∈ bs, 2 ≤ x ∧ x < (B : Int)) → l.length = bs.length → (∀ r ∈ (fol L B f a l bs w).1, r8Ok r = true) ∧ (∀ x ∈ (fol L B f a l bs w).2.1, 2 ≤ x ∧ x < (B : Int)) ∧ (fol L B f a l bs w).1.length = (fol L B f a l bs w).2.1.length ∧ (fol L B f a l bs w).2.1.length ≤ bs.length + f
  | 0, a, l, bs, w, h1, h2, h3 => ⟨h1, h2, h3, Nat.le_refl _⟩
  | f + 1, a, l, bs, w, h1, h2, h3 => by
    unfold fol
    split
    · exact ⟨h1, h2, h3, Nat.le_add_right _ _⟩
    split
    · exact ⟨h1, h2, h3, Nat.le_add_right _ _⟩
    rename_i ha hf
    split
    · exact ⟨h1, h2, h3, Nat.le_add_right _ _⟩
    rename_i hc
    rw [Bool.not_eq_true, Bool.or_eq_false_iff, bne_eq_false_iff_eq] at hc
    unfold folB at hf
    rw [Bool.not_eq_true, Bool.or_eq_false_iff, Bool.or_eq_false_iff, decide_eq_false_iff_not, decide_eq_false_iff_not] at hf
    have := fol_ok (L := L) (B := B) f (rPar (blkI L a.toNat)).nx (l ++ [rPar (blkI L a.toNat)]) (bs ++ [a]) (if (rPar (blkI L a.toNat)).ki == 0 then w + 1 else w) (fun r hr => by
      rcases List.mem_append.1 hr with g | g
      · exact h1 r g
      · rw [List.mem_singleton.1 g]; exact rPar_ok hc.1) (fun x hx => by
      rcases List.mem_append.1 hx with g | g
      · exact h2 x g
      · rw [List.mem_singleton.1 g]; omega) (by rw [List.length_append, List.length_append, h3]; rfl)
    refine ⟨this.1, this.2.1, this.2.2.1, ?_⟩
    have h4 := this.2.2.2
    rw [List.length_append, List.length_singleton] at h4
    omega
/-- The superblock that stands. -/
theorem pick_is {L : List Int} (h : (pickS L).2.2 = true) : ∃ i, i < 2 ∧ (pickS L).1 = sVal (blkI L i) ∧ (pickS L).2.1 = (i : Int) ∧ sCode (blkI L i) = 0 ∧ (pickS L).1.2.1 = ((L.length / 64 : Nat) : Int) := by
  have key : ∀ (st : S5 × Int × Bool) (i : Nat), i < 2 → (st.2.2 = true → ∃ i, i < 2 ∧ st.1 = sVal (blkI L i) ∧ st.2.1 = (i : Int) ∧ sCode (blkI L i) = 0 ∧ st.1.2.1 = ((L.length / 64 : Nat) : Int)) → ((pickStep L st i).2.2 = true → ∃ j, j < 2 ∧ (pickStep L st i).1 = sVal (blkI L j) ∧ (pickStep L st i).2.1 = (j : Int) ∧ sCode (blkI L j) = 0 ∧ (pickStep L st i).1.2.1 = ((L.length / 64 : Nat) : Int)) := by
    intro st i hi hs
    unfold pickStep
    split
    · rename_i hc
      rw [Bool.and_eq_true, beq_iff_eq, Bool.and_eq_true, beq_iff_eq] at hc
      exact fun _ => ⟨i, hi, rfl, rfl, hc.1, hc.2.1⟩
    · exact hs
  exact key _ 1 (by decide) (key _ 0 (by decide) (fun g => by cases g)) h
end Go.Proofs.Ytcbakhanpiemhaa
end
section
set_option linter.unusedVariables false
namespace Go.Am
open Go.RowKit
/-- A slice that grows by append: a row, or one that is full. -/
def Gr (lo : Nat) (h : Heap) (v : Value) (s n : Nat) (cells : List Value) : Prop :=
  cells.length = n * s ∧ ((v = .slice none 0 0 ∧ n = 0) ∨ ∃ b c, lo ≤ b ∧ v = .slice (some ⟨b, 0, none⟩) n c ∧ (c = unkc s ∨ c = exc n) ∧ Ow h b cells)
theorem Row.gr {lo : Nat} {h : Heap} {v : Value} {s n : Nat} {cells : List Value} (r : Row lo h v s n cells) : Gr lo h v s n cells :=
  ⟨r.1, r.2.imp (fun x => x) (fun ⟨b, h1, h2, h3⟩ => ⟨b, _, h1, h2, .inl rfl, h3⟩)⟩
theorem Gr.full {lo n s b : Nat} {h : Heap} {cells : List Value} (ow : Ow h b cells) (hl : cells.length = n * s) (hb : lo ≤ b) : Gr lo h (.slice (some ⟨b, 0, none⟩) n (exc n)) s n cells := ⟨hl, .inr ⟨b, _, hb, rfl, .inr rfl, ow⟩⟩
theorem Gr.sl {lo : Nat} {h : Heap} {v : Value} {s n : Nat} {cells : List Value} (r : Gr lo h v s n cells) (hm : n ≤ 9223372036854775807) : Sl h v s n cells := by
  obtain ⟨h1, ⟨rfl, rfl⟩ | ⟨b, c, _, rfl, hc, ow⟩⟩ := r
  · exact ⟨h1, hm, .inl ⟨rfl, rfl⟩⟩
  · refine ⟨h1, hm, .inr ⟨b, 0, _, rfl, ?_, ow.all⟩⟩
    rcases hc with rfl | rfl
    · exact Cp.unkc _ _
    · exact Cp.exc (Nat.le_refl _)
theorem Gr.at {lo : Nat} {h : Heap} {v : Value} {s n b : Nat} {cells : List Value} (r : Gr lo h v s n cells) (a : At v b) : lo ≤ b ∧ b < h.next := by
  obtain ⟨m, c, rfl⟩ := a
  rcases r.2 with ⟨e, _⟩ | ⟨b', c', h1, h2, _, h3⟩
  · cases e
  · cases h2; exact ⟨h1, h3.1⟩
theorem Gr.frm {lo : Nat} {h h' : Heap} {v : Value} {s n : Nat} {cells : List Value} {M : Nat → Prop} (r : Gr lo h v s n cells) (f : Fr M h h') (hm : ∀ b, At v b → ¬ M b) : Gr lo h' v s n cells := by
  refine ⟨r.1, r.2.imp (fun x => x) ?_⟩
  rintro ⟨b, c, h1, h2, h3, h4⟩
  exact ⟨b, c, h1, h2, h3, h4.fr f (hm b ⟨_, _, h2⟩)⟩
theorem Gr.fr0 {lo : Nat} {h h' : Heap} {v : Value} {s n : Nat} {cells : List Value} (r : Gr lo h v s n cells) (f : Fr no h h') : Gr lo h' v s n cells := r.frm f (fun _ _ g => g)
theorem Gr.lo {lo lo' : Nat} {h : Heap} {v : Value} {s n : Nat} {cells : List Value} (r : Gr lo h v s n cells) (hl : lo' ≤ lo) : Gr lo' h v s n cells := by
  refine ⟨r.1, r.2.imp (fun x => x) ?_⟩
  rintro ⟨b, c, h1, h2⟩
  exact ⟨b, c, Nat.le_trans hl h1, h2⟩
section
variable {P : Program} {n : Nat} {ops rest : List Oper} {m : Nat → Prop} {E E1 : Env} {h h1 : Heap}
theorem append_gr {t e : TypeId} {i : TypeInfo} {z : Value} {lo s k j c' : Nat} {xv : Value} {cells news : List Value} {a : Addr}
    (hu : P.underlying t = some (.slice e)) (hi : P.info? e = some i) (hz : zeroOf P e = some z) (hlz : lenIs (cellsOf z) i.size = true) (hs : i.size = s) (hs1 : 1 ≤ s) (row : Gr lo h xv s k cells)
    (rd : Rd h a news) (hn : news.length = j * s) (hm : 1 ≤ j) (ha : allCells news = true) (hb : 2 * (k + j) * i.bytes ≤ 281474976710656) (hb2 : k + j ≤ 9223372036854775807) :
    ∃ v' h', aappend P h t t xv (.slice (some a) j c') = some (v', h') ∧ Row h.next h' v' s (k + j) (cells ++ news) ∧ Fr (At xv) h h' := by
  rcases row.2 with ⟨rfl, hk⟩ | ⟨b, c, hb1, rfl, hc, ow⟩
  · exact append_row2 (lo := lo) hu hi hz hlz hs hs1 ⟨row.1, .inl ⟨rfl, hk⟩⟩ rd hn hm ha hb hb2
  · rcases hc with rfl | rfl
    · exact append_row2 (lo := lo) hu hi hz hlz hs hs1 ⟨row.1, .inr ⟨b, hb1, rfl, ow⟩⟩ rd hn hm ha hb hb2
    · refine ⟨_, _, append_full hu hi hz hlz hs hs1 ow.all row.1 ?_ ?_ rd hn hm hb hb2, ⟨by rw [List.length_append, row.1, hn, Nat.add_mul], .inr ⟨_, Nat.le_refl _, rfl, Ow.push _ _⟩⟩, Fr.push _ _ _⟩
      · unfold isUnk exc
        show Nat.beq (2 * k % 2) 1 = false
        rw [show 2 * k % 2 = 0 by omega]; rfl
      · unfold half exc
        show 2 * k / 2 < k + j
        omega
theorem RunW.appendG {Q : Env → Heap → List Fp → Prop} {d : Tmp} {t ty e : TypeId} {x y : Operand} {pos : String} {after : Array Edge} {gd : Option (Nat × Bool)} {i : TypeInfo} {z : Value} {lo s k j c' : Nat} {xv : Value} {cells news : List Value} {a : Addr}
    (hw : ewanted ops E ⟨some d, .call ⟨.builtin .append, #[x, y], #[t, t]⟩, ty, pos, after, gd⟩ = some true) (hx : gE E x = some xv) (hy : gE E y = some (.slice (some a) j c')) (hd : Nat.ble (Nat.succ d) n = true)
    (hu : P.underlying t = some (.slice e)) (hi : P.info? e = some i) (hz : zeroOf P e = some z) (hlz : lenIs (cellsOf z) i.size = true) (hs : i.size = s) (hs1 : 1 ≤ s) (row : Gr lo h xv s k cells)
    (rd : Rd h a news) (hn : news.length = j * s) (hm : 1 ≤ j) (ha : allCells news = true) (hb : 2 * (k + j) * i.bytes ≤ 281474976710656) (hb2 : k + j ≤ 9223372036854775807) (hmm : ∀ b, At xv b → m b)
    (r : ∀ v' h', Row h.next h' v' s (k + j) (cells ++ news) → Fr (At xv) h h' → RunW P n ops rest m (upd E d v') h' (fun E' h' fs => Q E' h' (.wr (idsOf [xv, .slice (some a) j c']) :: fs))) : RunW P n ops (⟨some d, .call ⟨.builtin .append, #[x, y], #[t, t]⟩, ty, pos, after, gd⟩ :: rest) m E h Q := by
  obtain ⟨v', h', h1, h2, h3⟩ := append_gr (h := h.lo h.next) (c' := c') hu hi hz hlz hs hs1 row rd hn hm ha hb hb2
  refine RunW.oneG (v := v') (f := .wr (idsOf [xv, .slice (some a) j c'])) (h1 := h') (E1 := upd E d v') hw ?_ ?_ (h3.weak (fun b g => .inl (hmm b g))) (by simp only [eput, hd, cond_true]) (r v' h' h2 ?_)
  · simp only [eop, gs, hx, hy, abuiltin, h1]
  · intro q; simp only [fpE, gs, hx, hy, Array.toList]
  · exact ⟨h3.next, h3.get, fun l a b c => h3.low l b b c⟩
end
end Go.Am
end
section
set_option linter.unusedVariables false
set_option linter.unusedSectionVars false
set_option maxRecDepth 100000
open Go Go.Am Go.RowKit
namespace Go.Proofs.Ytcbakhanpiemhaa
open Go.Proofs.Try
def bey (m : List Int) (k : Int) : Bool := (m.drop k.toNat).any (· != 0)
theorem beyondC_ok {h : Heap} {b : Int} : RunF prog 132 [.int .i64 b] h fun v h' => v = .bool (b != 0) ∧ Fr no h h' := by
  refine RunF.walk func132 rfl rfl ?_
  refine RunC.seq (RunC.region (RunO.all rfl ?_))
  exact RunC.seq (RunC.region (RunO.all rfl (RunC.ret ⟨_, rfl, rfl, Fr.refl _ _⟩)))
theorem openBeyond_ok {h : Heap} {mv : Value} {m : List Int} {k : Nat} (sl : Sl h mv 1 512 (is m)) (hm : m.length = 512) (hk : k ≤ 512) : RunF prog 106 [mv, .int .i64 (k : Int)] h fun v h' => v = .bool (bey m (k : Int)) ∧ Fr no h h' := by
  refine RunF.walk func106 rfl rfl ?_
  have sl0 := sl
  obtain ⟨A, c, rfl, _, _⟩ := sl.form
  refine RunC.seq (RunC.region (RunO.all rfl ?_))
  refine RunC.seq (RunC.region (RunO.part 2 rfl ?_))
  refine RunO.sliceSl (s := 1) (len := 512) rfl rfl rfl rfl rfl sl0 (.some _ _ _) (.none _) hk (Nat.le_refl _) rfl ?_
  intro tv st
  have hdl : (m.drop k).length = 512 - k := by rw [List.length_drop, hm]
  have st : Sl h tv 1 (m.drop k).length (is (m.drop k)) := by
    rw [hdl]
    rw [Nat.mul_one, Nat.mul_one] at st
    have e : is (m.drop k) = ((is m).drop k).take (512 - k) := by
      unfold is
      rw [← List.map_drop, List.take_of_length_le (by rw [List.length_map, hdl]; exact Nat.le_refl _)]
    rw [e]; exact st
  refine RunO.callD (containsI_ok st (u := fun j => .int .i64 ((m.drop k).getD j 0)) (cap := []) (fun j hj => ?_) (p := fun j => (m.drop k).getD j 0 != 0) (fun j hj h5 f5 => ?_) (by omega)) rfl rfl rfl ?_
  · rw [is_part hj, List.getD_eq_getElem?_getD, List.getElem?_eq_getElem hj]; rfl
  · exact beyondC_ok
  rintro _ h2 ⟨rfl, f2⟩
  rw [anyI_list (l := m.drop k) (q := (· != 0)) (fun j x hx => by rw [List.getD_eq_getElem?_getD, hx]; rfl)]
  exact RunO.all rfl (RunC.ret ⟨_, rfl, rfl, f2⟩)
/- What Look tells. -/
def lkS (L : List Int) : S5 := (pickS L).1
def lkF (L : List Int) : List R8 × List Int × Nat × Int := folOf L (lkS L).2.2.2.2
def lkR (L : List Int) : List (Int × Int) := ((lkS L).2.2.1, (lkS L).2.2.2.1) :: (lkF L).1.map fun r => (r.ro, r.sz)
def lkX (L : List Int) (p : Int × Int) : Bool := !treeOk L p.1 || bey (treeM L p.1) p.2
def lkT (L : List Int) : List (List Int × List Int) := (lkR L).map fun p => (treeM L p.1, treeN L p.1)
def clV (B : Nat) (bl : List Int) (T : List (List Int × List Int)) : Int := match (List.range B).find? (clP bl (T.map fun t => (0, t))) with
  | some i => (i : Int)
  | none => 0
def lkC (L : List Int) : Int := clV (L.length / 64) (lkF L).2.1 (lkT L)
def lkM (L : List Int) : Int × Int := match (lkR L).find? (lkX L) with
  | some p => (p.1, 6)
  | none => (lkC L, if lkC L = 0 then 0 else 6)
def lk (L : List Int) : Int × Int := if devOk L.length then (if (pickS L).2.2 then (if (lkF L).2.2.2 = 0 then lkM L else ((lkF L).2.2.2, 7)) else (0, 8)) else (0, 2)
/-- An open image in memory. -/
def LkR (lo : Nat) (h : Heap) (xb : Nat) (L : List Int) : Prop :=
  ∃ rv bv tv TL, lo ≤ xb ∧ Ow h xb (imc (lkS L) (pickS L).2.1 rv bv tv) ∧ Row lo h rv 8 (lkF L).1.length (recCs (lkF L).1) ∧ Row lo h bv 1 (lkF L).2.1.length (is (lkF L).2.1) ∧ Sl h tv 1 TL.length (tps TL) ∧ TL.map (·.2) = lkT L ∧ ∀ t ∈ TL, TrOk (L.length / 64) h t
theorem clP_snd (bl : List Int) (TL : List Tr3) (j : Nat) : clP bl TL j = clP bl ((TL.map (·.2)).map fun t => (0, t)) j := by
  have e1 : isS TL j = isS ((TL.map (·.2)).map fun t => (0, t)) j := by
    unfold isS; rw [List.map_map, List.any_map]; rfl
  have e2 : isN TL j = isN ((TL.map (·.2)).map fun t => (0, t)) j := by
    unfold isN; rw [List.map_map, List.any_map]; rfl
  unfold clP
  rw [e1, e2]
/-- A tree's blocks, apart from what Look writes. -/
def TrW (B : Nat) (h : Heap) (xb : Nat) (tv : Value) (t : Tr3) : Prop :=
  ∃ iv mb nv, Ow h t.1 (wc iv B (.slice (some ⟨mb, 0, none⟩) 512 (exc 512)) nv false) ∧ Ow h mb (is t.2.1) ∧ Row 0 h nv 1 t.2.2.length (is t.2.2) ∧ t.2.1.length = 512 ∧ t.2.2.length ≤ 73 ∧ (∀ x ∈ t.2.1, 0 ≤ x ∧ x < (B : Int)) ∧ (∀ x ∈ t.2.2, 2 ≤ x ∧ x < (B : Int)) ∧
    (t.1 ≠ xb ∧ ¬ At tv t.1) ∧ (mb ≠ xb ∧ ¬ At tv mb) ∧ ∀ b, At nv b → b ≠ xb ∧ ¬ At tv b
theorem TrW.ok {B : Nat} {h : Heap} {xb : Nat} {tv : Value} {t : Tr3} (r : TrW B h xb tv t) : TrOk B h t := by
  obtain ⟨iv, mb, nv, h1, h2, h3, h4, h5, h6, h7, _⟩ := r
  exact ⟨iv, _, nv, h1, by rw [h4]; exact h2.all.sl (by rw [is_len, h4]) (by decide) (Cp.exc (Nat.le_refl _)), h3.sl (by omega), h4, by omega, h6, fun x hx => by have := h7 x hx; omega⟩
theorem TrW.step {B : Nat} {h h' : Heap} {xb : Nat} {tv tv' : Value} {t : Tr3} (r : TrW B h xb tv t) (f : Fr (fun b => b = xb ∨ At tv b) h h') (hn : ∀ b, At tv' b → h.next ≤ b) : TrW B h' xb tv' t := by
  obtain ⟨iv, mb, nv, h1, h2, h3, h4, h5, h6, h7, ⟨g1, g2⟩, ⟨g3, g4⟩, g5⟩ := r
  refine ⟨iv, mb, nv, h1.fr f (fun g => g.elim g1 g2), h2.fr f (fun g => g.elim g3 g4), h3.frm f (fun b g e => e.elim (g5 b g).1 (g5 b g).2), h4, h5, h6, h7, ⟨g1, fun g => ?_⟩, ⟨g3, fun g => ?_⟩, fun b g => ⟨(g5 b g).1, fun e => ?_⟩⟩
  · have := hn _ g; have := h1.1; omega
  · have := hn _ g; have := h2.1; omega
  · have := hn _ e; have := (h3.at g).2; omega
theorem idsG {lo s k n c kb tb : Nat} {h : Heap} {lv : Value} {cells : List Value} (r : Gr lo h lv s k cells) (h1 : ∀ b, At lv b → b ≠ kb) (h2 : tb ≠ kb) : fpOk (.wr (idsOf [lv, .slice (some ⟨tb, 0, none⟩) n c])) (.rd kb) = true := by
  have key : ∀ l : List Nat, ¬ kb ∈ l → memN kb l = false := by
    intro l
    induction l with
    | nil => intro _; rfl
    | cons x l ih =>
      intro g
      simp only [List.mem_cons, not_or] at g
      unfold memN
      rw [show Nat.beq kb x = false from by cases e : Nat.beq kb x with | false => rfl | true => exact absurd (Nat.eq_of_beq_eq_true e) g.1]
      simpa using ih g.2
  show (!memN kb _) = true
  rw [key]
  · rfl
  · rcases r.2 with ⟨rfl, _⟩ | ⟨b, _, _, rfl, _⟩
    · simp only [idsOf, List.mem_cons, List.not_mem_nil, or_false]
      omega
    · have := h1 b ⟨_, _, rfl⟩
      simp only [idsOf, List.mem_cons, List.not_mem_nil, or_false]
      omega
theorem find_first {α : Type} {p : α → Bool} : ∀ {l : List α} {i : Nat} (hi : i < l.length), (∀ j (hj : j < l.length), j < i → p l[j] = false) → p l[i] = true → l.find? p = some l[i]
  | x :: l, 0, hi, _, h => by
    have h : p x = true := h
    rw [List.find?_cons_of_pos h]; rfl
  | x :: l, i + 1, hi, ha, h => by
    have h0 : p x = false := ha 0 (Nat.zero_lt_succ _) (Nat.zero_lt_succ _)
    rw [List.find?_cons_of_neg (by rw [h0]; simp)]
    exact find_first (l := l) (i := i) (by simpa using hi) (fun j hj hji => ha (j + 1) (by simpa using hj) (by omega)) h
theorem clV_some {B : Nat} {bl : List Int} {TL : List Tr3} {i : Nat} (hi : i < B) (h : clP bl TL i = true) (hn : ∀ j, j < i → clP bl TL j = false) : clV B bl (TL.map (·.2)) = (i : Int) := by
  unfold clV
  have := find_first (p := clP bl ((TL.map (·.2)).map fun t => (0, t))) (l := List.range B) (i := i) (by rw [List.length_range]; exact hi) (fun j hj hji => by rw [List.getElem_range, ← clP_snd]; exact hn j hji) (by rw [List.getElem_range, ← clP_snd]; exact h)
  rw [this, List.getElem_range]
theorem clV_none {B : Nat} {bl : List Int} {TL : List Tr3} (hn : ∀ j, j < B → clP bl TL j = false) : clV B bl (TL.map (·.2)) = 0 := by
  unfold clV
  rw [List.find?_eq_none.2 (fun j hj => by rw [← clP_snd, hn j (List.mem_range.1 hj)]; simp)]
theorem clP_zero {bl : List Int} {TL : List Tr3} (hb : ∀ x ∈ bl, 2 ≤ x) (hn : ∀ t ∈ TL, ∀ x ∈ t.2.2, 2 ≤ x) : clP bl TL 0 = false := by
  have e1 : isS TL 0 = false := by
    unfold isS
    rw [List.any_eq_false]
    intro t _; simp
  have e2 : isN TL 0 = false := by
    unfold isN
    rw [List.any_eq_false]
    intro t ht g
    have := hn t ht _ (List.contains_iff_mem.1 g)
    omega
  unfold clP
  rw [e1, e2]; rfl
theorem Gr.ge {lo s n : Nat} {h : Heap} {v : Value} {cells : List Value} (r : Gr lo h v s n cells) : ∀ b o m c, v = .slice (some ⟨b, o, none⟩) m c → lo ≤ b := by
  intro b o m c e
  rcases r.2 with ⟨rfl, _⟩ | ⟨b', c', h1, rfl, _, _⟩
  · cases e
  · cases e; exact h1
theorem ix_at {l : List Int} {i : Nat} {x : Int} (h : l[i]? = some x) : apart prog 3 (is l) (i * 1) = some (.int .i64 x) := by
  have hi : i < l.length := (List.getElem?_eq_some_iff.1 h).1
  have hx : l[i] = x := (List.getElem?_eq_some_iff.1 h).2
  rw [is_part hi, hx]
theorem TrW.fr0 {B : Nat} {h h' : Heap} {xb : Nat} {tv : Value} {t : Tr3} (r : TrW B h xb tv t) (f : Fr no h h') : TrW B h' xb tv t := by
  obtain ⟨iv, mb, nv, h1, h2, h3, h4, h5, h6, h7, h8⟩ := r
  exact ⟨iv, mb, nv, h1.fr f (fun g => g), h2.fr f (fun g => g), h3.fr f (fun _ _ _ g => g), h4, h5, h6, h7, h8⟩
end Go.Proofs.Ytcbakhanpiemhaa
end
section
set_option linter.unusedVariables false
set_option linter.unusedSectionVars false
set_option maxRecDepth 100000
open Go Go.Am Go.RowKit
namespace Go.Proofs.Ytcbakhanpiemhaa
open Go.Proofs.Try
theorem lkS_sz {L : List Int} (h : (pickS L).2.2 = true) : 0 ≤ (lkS L).2.2.2.1 ∧ (lkS L).2.2.2.1 ≤ 512 := by
  obtain ⟨i, hi, e, _, hc, _⟩ := pick_is h
  unfold lkS
  rw [e]
  unfold sVal
  rw [if_pos hc]
  unfold sCode at hc
  split at hc
  · split at hc
    · rename_i h2
      exact ((superOk_iff _ _ _ _ _).1 h2).2.2.1
    · cases hc
  · rename_i h1; exact absurd hc h1
theorem lkR_sz {L : List Int} (h : (pickS L).2.2 = true) : ∀ p ∈ lkR L, 0 ≤ p.2 ∧ p.2 ≤ 512 := by
  intro p hp
  rcases List.mem_cons.1 hp with e | g
  · rw [e]; exact lkS_sz h
  · obtain ⟨r, hr, rfl⟩ := List.mem_map.1 g
    have := (fol_ok (L := L) (B := L.length / 64) (L.length / 64) (lkS L).2.2.2.2 [] [] 0 (fun r h => absurd h List.not_mem_nil) (fun x h => absurd h List.not_mem_nil) rfl).1 r hr
    exact r8_sz this
set_option maxHeartbeats 64000000 in
theorem openLook_ok {h : Heap} {iv : Value} {L : List Int} (sl : Sl h iv 1 L.length (us L)) (hb : Byt L) (hm : L.length ≤ 4611686018427387904) :
    RunF prog 73 [iv] h fun v h' => Fr no h h' ∧ (((lk L).2 = 0 ∧ ∃ xb, v = .tuple #[.pointer (some ⟨xb, 0, none⟩), .int .i64 0, .int .i64 0] ∧ LkR h.next h' xb L) ∨ ((lk L).2 ≠ 0 ∧ v = .tuple #[.pointer none, .int .i64 (lk L).1, .int .i64 (lk L).2])) := by
  refine RunF.walk func73 rfl rfl ?_
  have sl0 := sl
  obtain ⟨A, c, rfl, hc, hA⟩ := sl.form
  have hlk : lk L = if devOk L.length then (if (pickS L).2.2 then (if (lkF L).2.2.2 = 0 then lkM L else ((lkF L).2.2.2, 7)) else (0, 8)) else (0, 2) := rfl
  refine RunC.seq (RunC.region (RunO.all rfl ?_))
  refine RunC.seq (RunC.region (RunO.part 1 rfl ?_))
  refine RunO.callD (devCheck_ok hm) rfl rfl rfl ?_
  rintro _ _ ⟨rfl, rfl⟩
  refine RunO.all rfl ?_
  cases hd : devOk L.length with
  | false =>
    rw [hd, if_neg Bool.false_ne_true] at hlk
    rw [hlk]
    refine RunC.seq (RunC.seq (RunC.region (RunO.all rfl (RunC.cond rfl (fun _ => ?_) (fun g => by cases g)))))
    exact RunC.seq (RunC.region (RunO.all rfl (RunC.ret ⟨_, rfl, Fr.refl _ _, .inr ⟨by decide, rfl⟩⟩)))
  | true =>
  rw [hd, if_pos rfl] at hlk
  have hdl : L.length % 64 = 0 ∧ 4 ≤ L.length / 64 ∧ L.length / 64 ≤ 4096 := by
    unfold devOk at hd
    simpa using hd
  obtain ⟨B, hB⟩ : ∃ B, B = L.length / 64 := ⟨_, rfl⟩
  rw [if_pos rfl, if_pos rfl, ← hB]
  refine RunC.seq (RunC.seq (RunC.region (RunO.all rfl (RunC.cond rfl (fun g => by cases g) (fun _ => RunC.skip ?_)))))
  -- the image's struct
  refine RunC.seq (RunC.region (RunO.all (h1 := h.push ⟨imc (0, 0, 0, 0, 0) 0 (.slice none 0 0) (.slice none 0 0) (.slice none 0 0), true⟩) rfl ?_))
  have ox := Ow.push h (imc (0, 0, 0, 0, 0) 0 (.slice none 0 0) (.slice none 0 0) (.slice none 0 0))
  have f1 : Fr no h (h.push ⟨imc (0, 0, 0, 0, 0) 0 (.slice none 0 0) (.slice none 0 0) (.slice none 0 0), true⟩) := Fr.push _ _ _
  generalize h.push ⟨imc (0, 0, 0, 0, 0) 0 (.slice none 0 0) (.slice none 0 0) (.slice none 0 0), true⟩ = h1 at *
  obtain ⟨xb, hxb⟩ : ∃ q, q = h.next := ⟨_, rfl⟩
  rw [← hxb] at ox ⊢
  -- the superblock
  refine RunC.seq (RunC.region (RunO.part 3 rfl ?_))
  refine RunO.callD (superPick_ok (fun g => by obtain ⟨b, o, e, rd⟩ := hA (by omega); exact ⟨_, e, rd.fr f1 (fun g => g)⟩) hb hc hm) rfl rfl rfl ?_
  rintro _ h2 ⟨rfl, f2⟩
  have hpc : pickCode L = if (pickS L).2.2 then 0 else 8 := by unfold pickCode; rw [hd, if_pos rfl]
  replace ox := ox.fr f2 (fun g => g)
  have F2 := f1.same f2
  cases hpk : (pickS L).2.2 with
  | false =>
    rw [hpk, if_neg Bool.false_ne_true] at hpc hlk
    rw [hpc, hlk]
    refine RunO.part 7 rfl ?_
    refine RunO.store rfl rfl (store_ow (s := 5) ox rfl rfl rfl (Nat.le_of_ble_eq_true rfl)) ?_
    have ox2 : Ow (h2.put xb (some ⟨imc (0, 0, 0, 0, 0) 0 (.slice none 0 0) (.slice none 0 0) (.slice none 0 0), true⟩)) xb (imc (0, 0, 0, 0, 0) 0 (.slice none 0 0) (.slice none 0 0) (.slice none 0 0)) := Ow.put _ ox.1
    have g2 : Fr no h (h2.put xb (some ⟨imc (0, 0, 0, 0, 0) 0 (.slice none 0 0) (.slice none 0 0) (.slice none 0 0), true⟩)) := F2.trans (Fr.put (m := (· = xb)) _ (.inl rfl)) (fun b e => .inr (by omega))
    show RunO prog _ _ _ _ (h2.put xb (some ⟨imc (0, 0, 0, 0, 0) 0 (.slice none 0 0) (.slice none 0 0) (.slice none 0 0), true⟩)) _
    generalize h2.put xb (some ⟨imc (0, 0, 0, 0, 0) 0 (.slice none 0 0) (.slice none 0 0) (.slice none 0 0), true⟩) = h3 at *
    refine RunO.part 3 rfl ?_
    refine RunO.store rfl rfl (store1_ow ox2 rfl rfl rfl (Nat.le_of_ble_eq_true rfl)) ?_
    have g3 : ∀ x, Fr no h (h3.put xb x) := fun x => g2.trans (Fr.put (m := (· = xb)) _ (.inl rfl)) (fun b e => .inr (by omega))
    refine RunO.all rfl ?_
    refine RunC.seq (RunC.seq (RunC.region (RunO.all rfl (RunC.cond rfl (fun _ => ?_) (fun g => by cases g)))))
    exact RunC.seq (RunC.region (RunO.all rfl (RunC.ret ⟨_, rfl, g3 _, .inr ⟨by decide, rfl⟩⟩)))
  | true =>
  rw [hpk, if_pos rfl] at hpc hlk
  rw [hpc, if_pos rfl, if_pos rfl]
  have hsz := lkR_sz hpk
  have hlkF : lkF L = folOf L (lkS L).2.2.2.2 := rfl
  have hS : (pickS L).1 = lkS L := rfl
  rw [hS]
  obtain ⟨s, hs⟩ : ∃ s, s = lkS L := ⟨_, rfl⟩
  obtain ⟨slot, hsl⟩ : ∃ s, s = (pickS L).2.1 := ⟨_, rfl⟩
  rw [← hs] at hlkF ⊢
  rw [← hsl]
  refine RunO.part 7 rfl ?_
  refine RunO.store rfl rfl (store_ow (s := 5) ox rfl rfl rfl (Nat.le_of_ble_eq_true rfl)) ?_
  have ox2 : Ow (h2.put xb (some ⟨imc s 0 (.slice none 0 0) (.slice none 0 0) (.slice none 0 0), true⟩)) xb (imc s 0 (.slice none 0 0) (.slice none 0 0) (.slice none 0 0)) := Ow.put _ ox.1
  have F3 : Fr no h (h2.put xb (some ⟨imc s 0 (.slice none 0 0) (.slice none 0 0) (.slice none 0 0), true⟩)) := F2.trans (Fr.put (m := (· = xb)) _ (.inl rfl)) (fun b e => .inr (by omega))
  show RunO prog _ _ _ _ (h2.put xb (some ⟨imc s 0 (.slice none 0 0) (.slice none 0 0) (.slice none 0 0), true⟩)) _
  generalize h2.put xb (some ⟨imc s 0 (.slice none 0 0) (.slice none 0 0) (.slice none 0 0), true⟩) = h3 at *
  refine RunO.part 3 rfl ?_
  refine RunO.store rfl rfl (store1_ow ox2 rfl rfl rfl (Nat.le_of_ble_eq_true rfl)) ?_
  have ox3 : Ow (h3.put xb (some ⟨imc s slot (.slice none 0 0) (.slice none 0 0) (.slice none 0 0), true⟩)) xb (imc s slot (.slice none 0 0) (.slice none 0 0) (.slice none 0 0)) := Ow.put _ ox2.1
  have F4 : Fr no h (h3.put xb (some ⟨imc s slot (.slice none 0 0) (.slice none 0 0) (.slice none 0 0), true⟩)) := F3.trans (Fr.put (m := (· = xb)) _ (.inl rfl)) (fun b e => .inr (by omega))
  show RunO prog _ _ _ _ (h3.put xb (some ⟨imc s slot (.slice none 0 0) (.slice none 0 0) (.slice none 0 0), true⟩)) _
  generalize h3.put xb (some ⟨imc s slot (.slice none 0 0) (.slice none 0 0) (.slice none 0 0), true⟩) = h4 at *
  clear ox ox2 F3 F2
  refine RunO.all rfl ?_
  refine RunC.seq (RunC.seq (RunC.region (RunO.all rfl (RunC.cond rfl (fun g => by cases g) (fun _ => RunC.skip ?_)))))
  -- the records
  refine RunC.seq (RunC.region (RunO.part 6 rfl ?_))
  refine RunO.load (v := .int .i64 s.2.2.2.2) rfl (ox3.ld rfl) rfl ?_
  refine RunO.callD (openFollow_ok (a := s.2.2.2.2) (sl0.fr0 F4) hb hd) rfl rfl rfl ?_
  rintro _ h5 ⟨f5, kb, rfl, lv, bv, hkb, ok, rl, rb⟩
  have hkx : xb < h4.next := ox3.1
  replace ox3 := ox3.fr f5 (fun g => g)
  have F5 := F4.same f5
  rw [← hlkF] at ok rl rb
  -- more
  obtain ⟨lr, hlr⟩ : ∃ x, x = (lkF L).1 := ⟨_, rfl⟩
  obtain ⟨lb, hlb⟩ : ∃ x, x = (lkF L).2.1 := ⟨_, rfl⟩
  have hff := fol_ok (L := L) (B := L.length / 64) (L.length / 64) s.2.2.2.2 [] [] 0 (fun r h => absurd h List.not_mem_nil) (fun x h => absurd h List.not_mem_nil) rfl
  have hff : (∀ x ∈ lb, 2 ≤ x ∧ x < (B : Int)) ∧ lr.length = lb.length ∧ lb.length ≤ B := by
    rw [hlr, hlb, hlkF, hB]
    unfold folOf
    refine ⟨hff.2.1, hff.2.2.1, ?_⟩
    have := hff.2.2.2
    simpa using this
  obtain ⟨hlbr, hlrl, hlbl⟩ := hff
  rw [← hlr] at rl
  rw [← hlb] at rb
  have slr := rl.sl (by omega)
  obtain ⟨lA, lc, rfl, _, _⟩ := slr.form
  refine RunO.all rfl ?_
  refine RunC.seq (RunC.seq (RunC.region (RunO.part 3 rfl ?_)))
  refine RunO.load (v := .int .i64 (lkF L).2.2.2) rfl (ok.ld rfl) rfl (RunO.all rfl ?_)
  by_cases hbad : (lkF L).2.2.2 = 0
  case neg =>
    rw [if_neg hbad] at hlk
    rw [hlk, show ((lkF L).2.2.2 != 0) = true from bne_iff_ne.2 hbad]
    refine RunC.cond rfl (fun _ => ?_) (fun g => by cases g)
    refine RunC.seq (RunC.draw0 rfl (RunO.part 3 rfl ?_))
    refine RunO.load (v := .int .i64 (lkF L).2.2.2) rfl (ok.ld rfl) rfl (RunO.all rfl ?_)
    exact RunC.ret ⟨_, rfl, F5, .inr ⟨by show (7 : Int) ≠ 0; decide, rfl⟩⟩
  rw [if_pos hbad] at hlk
  rw [show ((lkF L).2.2.2 != 0) = false from by rw [hbad]; rfl]
  refine RunC.cond rfl (fun g => by cases g) (fun _ => RunC.skip ?_)
  have hkk : kb ≠ xb := by omega
  have hlx : ∀ b, At (.slice lA lr.length lc) b → b ≠ xb := fun b g => by have := (rl.at g).1; omega
  have hbx : ∀ b, At bv b → b ≠ xb := fun b g => by have := (rb.at g).1; omega
  refine RunC.seq (RunC.draw0 rfl (RunO.part 5 rfl ?_))
  refine RunO.load (v := .slice lA lr.length lc) rfl (ok.ld rfl) rfl ?_
  refine RunO.part 3 rfl ?_
  refine RunO.load (v := bv) rfl (ok.ld rfl) rfl ?_
  refine RunO.part 3 rfl ?_
  refine RunO.store rfl rfl (store1_ow ox3 rfl (rl.cell).1 (rl.cell).2 (Nat.le_of_ble_eq_true rfl)) ?_
  have ox4 : Ow (h5.put xb (some ⟨imc s slot (.slice lA lr.length lc) (.slice none 0 0) (.slice none 0 0), true⟩)) xb (imc s slot (.slice lA lr.length lc) (.slice none 0 0) (.slice none 0 0)) := Ow.put _ ox3.1
  have fp1 : Fr (· = xb) h5 (h5.put xb (some ⟨imc s slot (.slice lA lr.length lc) (.slice none 0 0) (.slice none 0 0), true⟩)) := Fr.put _ (.inl rfl)
  show RunO prog _ _ _ _ (h5.put xb (some ⟨imc s slot (.slice lA lr.length lc) (.slice none 0 0) (.slice none 0 0), true⟩)) _
  generalize h5.put xb (some ⟨imc s slot (.slice lA lr.length lc) (.slice none 0 0) (.slice none 0 0), true⟩) = h6 at *
  refine RunO.part 2 rfl ?_
  refine RunO.store rfl rfl (store1_ow ox4 rfl (rb.cell).1 (rb.cell).2 (Nat.le_of_ble_eq_true rfl)) (RunO.nil ?_)
  have ox5 : Ow (h6.put xb (some ⟨imc s slot (.slice lA lr.length lc) bv (.slice none 0 0), true⟩)) xb (imc s slot (.slice lA lr.length lc) bv (.slice none 0 0)) := Ow.put _ ox4.1
  have fp2 : Fr (· = xb) h6 (h6.put xb (some ⟨imc s slot (.slice lA lr.length lc) bv (.slice none 0 0), true⟩)) := Fr.put _ (.inl rfl)
  show RunC prog _ _ _ (h6.put xb (some ⟨imc s slot (.slice lA lr.length lc) bv (.slice none 0 0), true⟩)) _ _ _
  generalize h6.put xb (some ⟨imc s slot (.slice lA lr.length lc) bv (.slice none 0 0), true⟩) = h7 at *
  have fp := fp1.same fp2
  replace ok := ok.fr fp hkk
  replace rl := rl.frm fp (fun b g e => hlx b g e)
  replace rb := rb.frm fp (fun b g e => hbx b g e)
  have F7 : Fr no h h7 := F5.trans fp (fun b e => .inr (by have e : b = xb := e; omega))
  clear ox3 ox4 fp1 fp2 fp F5 F4 slr
  have slr := rl.sl (by omega)
  -- the roots, the sizes
  refine RunC.seq (RunC.draw0 rfl (RunO.part 5 rfl ?_))
  refine RunO.load (v := .int .i64 s.2.2.1) rfl (ox5.ld rfl) rfl ?_
  refine RunO.part 1 (h1 := h7.push ⟨is [s.2.2.1], true⟩) rfl ?_
  have or := Ow.push h7 (is [s.2.2.1])
  have f8 : Fr no h7 (h7.push ⟨is [s.2.2.1], true⟩) := Fr.push _ _ _
  generalize h7.push ⟨is [s.2.2.1], true⟩ = h8 at *
  have hxq := ox5.1
  obtain ⟨rq, hrq⟩ : ∃ q, q = h7.next := ⟨_, rfl⟩
  rw [← hrq] at or ⊢
  have hr8 := or.1
  refine RunO.part 5 rfl ?_
  refine RunO.load (v := .int .i64 s.2.2.2.1) rfl ((ox5.fr f8 (fun g => g)).ld rfl) rfl ?_
  refine RunO.part 1 (h1 := h8.push ⟨is [s.2.2.2.1], true⟩) rfl ?_
  have oz := Ow.push h8 (is [s.2.2.2.1])
  have f9 : Fr no h8 (h8.push ⟨is [s.2.2.2.1], true⟩) := Fr.push _ _ _
  replace or := or.fr f9 (fun g => g)
  generalize h8.push ⟨is [s.2.2.2.1], true⟩ = h9 at *
  obtain ⟨zq, hzq⟩ : ∃ q, q = h8.next := ⟨_, rfl⟩
  rw [← hzq] at oz ⊢
  refine RunO.all rfl ?_
  have f79 := f8.same f9
  have hR : lkR L = (s.2.2.1, s.2.2.2.1) :: lr.map fun r => (r.ro, r.sz) := by rw [hlr, hs]; rfl
  have hRl : (lkR L).length = lr.length + 1 := by rw [hR, List.length_cons, List.length_map]
  have hRg : ∀ i (hi : i < lr.length), (lkR L).take (i + 1 + 1) = (lkR L).take (i + 1) ++ [(lr[i].ro, lr[i].sz)] := fun i hi => by
    rw [List.take_succ_eq_append_getElem (by omega)]
    congr 2
    simp [hR]
  obtain ⟨RS, hRS⟩ : ∃ x, x = lkR L := ⟨_, rfl⟩
  have hR1 : RS.take 1 = [(s.2.2.1, s.2.2.2.1)] := by rw [hRS, hR]; rfl
  rw [← hRS] at hRl hRg hsz
  refine RunC.seq ?_
  refine RunC.seq (RunC.region (RunO.part 3 rfl ?_))
  refine RunO.load (v := .slice lA lr.length lc) rfl ((ok.fr f79 (fun g => g)).ld rfl) rfl (RunO.all rfl ?_)
  refine RunC.block ?_
  refine RunC.loop (fun d E h' => ∃ (i : Nat) (rov zov : Value), i + d = lr.length ∧ Gr rq h' rov 1 (i + 1) (is ((RS.take (i + 1)).map (·.1))) ∧ Gr rq h' zov 1 (i + 1) (is ((RS.take (i + 1)).map (·.2))) ∧ (∀ b, At rov b → ¬ At zov b) ∧ Fr no h7 h' ∧ rq < h'.next ∧
    Le ((upd (upd (upd (upd (upd (upd (upd (upd E0 0 (.slice A L.length c)) 2 (.pointer (some ⟨xb, 0, none⟩))) 5 (.int .i64 (B : Int))) 91 (.slice lA lr.length lc)) 92 (.int .i64 (lr.length : Int))) 7 (rov)) 8 (zov)) 93 (.int .i64 (i : Int)))) E) ?st1 (k := lr.length) ?ini1
  case ini1 =>
    refine ⟨0, .slice (some ⟨rq, 0, none⟩) 1 (exc 1), .slice (some ⟨zq, 0, none⟩) 1 (exc 1), by omega, ?_, ?_, ?_, f79, or.1, Le.cons rfl (Le.cons rfl (Le.cons rfl (Le.cons rfl (Le.cons rfl (Le.cons rfl (Le.cons rfl (Le.cons rfl (Le.nil _))))))))⟩
    · rw [hR1]; exact Gr.full or rfl (Nat.le_refl _)
    · rw [hR1]; exact Gr.full oz rfl (by omega)
    · rintro b ⟨_, _, e⟩ ⟨_, _, e2⟩
      injection e with e
      injection e with e
      injection e with e
      injection e2 with e2
      injection e2 with e2
      injection e2 with e2
      omega
  rintro d E g1 ⟨i, rov, zov, hi, gr, gz, hrz, fg, hrg, hE⟩
  refine RunC.le hE ?_
  clear hE
  refine RunC.seq (RunC.region (RunO.all rfl ?_))
  refine RunC.seq (RunC.cond rfl (fun hlt => RunC.skip ?go1) (fun hge => RunC.exit ?ex1))
  case go1 =>
    have hlt := of_decide_eq_true hlt
    have hlt : i < lr.length := by omega
    have hgi := hRg i hlt
    have hpt := recCs_part hlt
    generalize lr[i] = r at *
    refine RunC.seq (RunC.block ?_)
    refine RunC.seq (RunC.region ?_)
    refine RunO.at (s := 8) (k := i) rfl rfl (slr.fr0 fg) rfl rfl hlt hpt rfl rfl rfl ?_
    refine RunO.part 1 (h1 := g1.push ⟨rc8 ⟨0, 0, 0, 0, 0, 0, 0, 0⟩, true⟩) rfl ?_
    refine RunO.store rfl rfl (store_ow (s := 8) (Ow.push g1 (rc8 ⟨0, 0, 0, 0, 0, 0, 0, 0⟩)) rfl rfl rfl (Nat.le_refl 8)) (RunO.nil ?_)
    have e8 : (rc8 ⟨0, 0, 0, 0, 0, 0, 0, 0⟩).take 0 ++ cellsOf (.agg ⟨rc8 r⟩) ++ (rc8 ⟨0, 0, 0, 0, 0, 0, 0, 0⟩).drop (0 + 8) = rc8 r := rfl
    rw [e8]
    have on : Ow ((g1.push ⟨rc8 ⟨0, 0, 0, 0, 0, 0, 0, 0⟩, true⟩).put g1.next (some ⟨rc8 r, true⟩)) g1.next (rc8 r) := Ow.put _ (Nat.lt_succ_self _)
    have f2 : Fr no g1 ((g1.push ⟨rc8 ⟨0, 0, 0, 0, 0, 0, 0, 0⟩, true⟩).put g1.next (some ⟨rc8 r, true⟩)) := (Fr.push _ _ _).trans (Fr.put (m := (· = g1.next)) _ (.inl rfl)) (fun j hj => .inr (by omega))
    have hrx : ∀ b, At rov b → rq ≤ b ∧ b < g1.next := fun b g => gr.at g
    have hzx : ∀ b, At zov b → rq ≤ b ∧ b < g1.next := fun b g => gz.at g
    replace gr := gr.fr0 f2
    replace gz := gz.fr0 f2
    have fg2 := fg.same f2
    generalize (g1.push ⟨rc8 ⟨0, 0, 0, 0, 0, 0, 0, 0⟩, true⟩).put g1.next (some ⟨rc8 r, true⟩) = g2 at *
    obtain ⟨pb, hpb⟩ : ∃ q, q = g1.next := ⟨_, rfl⟩
    rw [← hpb] at on hrx hzx ⊢
    have hpr : ¬ At rov pb := fun g => by have := hrx pb g; omega
    have hpz : ¬ At zov pb := fun g => by have := hzx pb g; omega
    refine RunC.drawW (fun b => At rov b ∨ At zov b) (p := (4, 7)) (ps := []) rfl ?_
    refine RunW.pure rfl rfl (fun _ => rfl) rfl ?_
    refine RunW.pure rfl rfl (fun _ => rfl) rfl ?_
    refine RunW.load (v := .int .i64 r.ro) rfl rfl (on.ld rfl) rfl ?_
    refine RunW.new (ob := ⟨is [r.ro], true⟩) rfl rfl (fun _ => rfl) rfl ?_
    have ot := Ow.push g2 (is [r.ro])
    have f3 : Fr no g2 (g2.push ⟨is [r.ro], true⟩) := Fr.push _ _ _
    have gr3 := gr.fr0 f3
    have gz3 := gz.fr0 f3
    have on3 := on.fr f3 (fun g => g)
    have hpl2 := on.1
    generalize g2.push ⟨is [r.ro], true⟩ = g3 at *
    obtain ⟨tb, htb⟩ : ∃ q, q = (g2.lo g2.next).next := ⟨_, rfl⟩
    have htb2 : tb = g2.next := htb
    rw [← htb]
    rw [← htb2] at ot hpl2
    refine RunW.appendG (s := 1) (j := 1) rfl rfl rfl rfl rfl rfl rfl rfl rfl (by decide) gr3 ot.all rfl (Nat.le_refl 1) rfl (by show 2 * (_ + 1) * 8 ≤ _; omega) (by omega) (fun b g => .inl g) ?_
    intro rov2 g4 r4 f4
    have on4 := on3.fr f4 hpr
    have gz4 := gz3.frm f4 (fun b g e => hrz b e g)
    refine RunW.pure rfl rfl (fun _ => rfl) rfl ?_
    refine RunW.pure rfl rfl (fun _ => rfl) rfl ?_
    refine RunW.load (v := .int .i64 r.sz) rfl rfl (on4.ld rfl) rfl ?_
    refine RunW.new (ob := ⟨is [r.sz], true⟩) rfl rfl (fun _ => rfl) rfl ?_
    have ot2 := Ow.push g4 (is [r.sz])
    have f5 : Fr no g4 (g4.push ⟨is [r.sz], true⟩) := Fr.push _ _ _
    have r5 := r4.gr.fr0 f5
    have gz5 := gz4.fr0 f5
    have hn5 : g4.next < (g4.push ⟨is [r.sz], true⟩).next := ot2.1
    generalize g4.push ⟨is [r.sz], true⟩ = g5 at *
    refine RunW.appendG (s := 1) (j := 1) rfl rfl rfl rfl rfl rfl rfl rfl rfl (by decide) gz5 ot2.all rfl (Nat.le_refl 1) rfl (by show 2 * (_ + 1) * 8 ≤ _; omega) (by omega) (fun b g => .inr g) ?_
    intro zov2 g6 z6 f6
    have hr2 : ∀ b, At rov2 b → g3.next ≤ b ∧ b < g4.next := fun b g => r4.at g
    have hz2 : ∀ b, At zov2 b → g5.next ≤ b ∧ b < g6.next := fun b g => z6.at g
    have hzo : ∀ b, At zov b → b < g3.next := fun b g => (gz3.at g).2
    have r6 := r5.frm f6 (fun b g e => by have := hr2 b g; have := hzo b e; omega)
    have hn3 : g2.next ≤ g3.next := f3.next
    have hn4 := f4.next
    have hn6 := f6.next
    have hn2 := f2.next
    refine RunW.pure rfl rfl (fun _ => rfl) rfl ?_
    refine RunW.pure rfl rfl (fun _ => rfl) rfl ?_
    refine RunW.nil ⟨?_, fun lw F => ?_⟩
    · show cond (fpOk (.wr (idsOf [rov, .slice (some ⟨tb, 0, none⟩) 1 (exc 1)])) (.rd pb)) true false = true
      rw [idsG gr3 (fun b g e => hpr (by rw [← e]; exact g)) (by omega)]; rfl
    have f27 : Fr no h7 (g6.lo lw) := fg2.trans F (fun b g => .inr (by rcases g with g | g; have := hrx b g; omega; have := hzx b g; omega))
    refine RunC.region (RunO.all rfl ?_)
    refine ⟨d - 1, by omega, i + 1, rov2, zov2, by omega, ?_, ?_, ?_, f27, ?_, Le.cons (inc64 (by omega)) (Le.cons rfl (Le.cons rfl (Le.cons rfl (Le.cons rfl (Le.cons rfl (Le.cons rfl (Le.cons rfl (Le.nil _))))))))⟩
    · have e1 : is ((RS.take (i + 1)).map (·.1)) ++ is [r.ro] = is ((RS.take (i + 1 + 1)).map (·.1)) := by
        rw [hgi, List.map_append]; exact (List.map_append ..).symm
      have q : Gr g3.next (g6.lo lw) rov2 1 (i + 1 + 1) (is ((RS.take (i + 1)).map (·.1)) ++ is [r.ro]) := r6
      rw [e1] at q
      exact q.lo (by omega)
    · have e1 : is ((RS.take (i + 1)).map (·.2)) ++ is [r.sz] = is ((RS.take (i + 1 + 1)).map (·.2)) := by
        rw [hgi, List.map_append]; exact (List.map_append ..).symm
      have q : Gr g5.next (g6.lo lw) zov2 1 (i + 1 + 1) (is ((RS.take (i + 1)).map (·.2)) ++ is [r.sz]) := z6.gr
      rw [e1] at q
      exact q.lo (by omega)
    · intro b x y
      have := hr2 b x; have := hz2 b y; omega
    · show rq < g6.next; omega
  have hge1 := of_decide_eq_false hge
  obtain rfl : i = lr.length := by omega
  have hRt : RS.take (lr.length + 1) = RS := List.take_of_length_le (by omega)
  rw [hRt] at gr gz
  have grge := Gr.ge gr
  have gzge := Gr.ge gz
  have slro := gr.sl (by omega)
  have slzo := gz.sl (by omega)
  obtain ⟨rA, rc_, rfl, _, _⟩ := slro.form
  obtain ⟨zA, zc, rfl, _, _⟩ := slzo.form
  have ox6 := ox5.fr fg (fun g => g)
  have hxg : xb < g1.next := ox6.1
  have rl6 := rl.fr fg (fun _ _ _ g => g)
  have rb6 := rb.fr fg (fun _ _ _ g => g)
  have F8 := F7.same fg
  clear ox5 f79 or oz
  -- the trees
  refine RunC.seq ?_
  refine RunC.seq (RunC.region (RunO.all rfl ?_))
  refine RunC.block ?_
  refine RunC.loop (fun d E h' => ∃ (i : Nat) (TL : List Tr3) (tv : Value), i + d = lr.length + 1 ∧ TL.length = i ∧ TL.map (·.2) = (RS.take i).map (fun p => (treeM L p.1, treeN L p.1)) ∧ (∀ j (hj : j < RS.length), j < i → lkX L RS[j] = false) ∧ (∀ t ∈ TL, TrW B h' xb tv t) ∧
      Ow h' xb (imc s slot (.slice lA lr.length lc) bv tv) ∧ Row g1.next h' tv 1 TL.length (tps TL) ∧ Fr (· = xb) g1 h' ∧
    Le ((upd (upd (upd (upd (upd (upd (upd E0 0 (.slice A L.length c)) 2 (.pointer (some ⟨xb, 0, none⟩))) 5 (.int .i64 (B : Int))) 8 (.slice zA (lr.length + 1) zc)) 108 (.slice rA (lr.length + 1) rc_)) 109 (.int .i64 ((lr.length + 1 : Nat) : Int))) 110 (.int .i64 (i : Int)))) E) ?st2 (k := lr.length + 1) ?ini2
  case ini2 => exact ⟨0, [], _, by omega, rfl, rfl, fun j _ hj => absurd hj (Nat.not_lt_zero _), fun t ht => absurd ht List.not_mem_nil, ox6, Row.nil _ _ _, Fr.refl _ _, Le.cons rfl (Le.cons rfl (Le.cons rfl (Le.cons rfl (Le.cons rfl (Le.cons rfl (Le.cons rfl (Le.nil _)))))))⟩
  rintro d2 E g2 ⟨i, TL, tv, hi2, hTl, hTm, hX, hTW, ox, rt, fg2, hE⟩
  refine RunC.le hE ?_
  clear hE
  refine RunC.seq (RunC.region (RunO.all rfl ?_))
  refine RunC.seq (RunC.cond rfl (fun hlt => RunC.skip ?go2) (fun hge => RunC.exit ?ex2))
  case go2 =>
    have hlt := of_decide_eq_true hlt
    have hlt : i < lr.length + 1 := by omega
    have hiR : i < RS.length := by omega
    have slr2 : Sl g2 (.slice rA (lr.length + 1) rc_) 1 (lr.length + 1) (is (RS.map (·.1))) := slro.frm (fun b o c_ e g => by have g : b = xb := g; have := grge b o _ c_ e; omega) fg2
    have slz2 : Sl g2 (.slice zA (lr.length + 1) zc) 1 (lr.length + 1) (is (RS.map (·.2))) := slzo.frm (fun b o c_ e g => by have g : b = xb := g; have := gzge b o _ c_ e; omega) fg2
    have F9 : Fr no h g2 := F8.trans fg2 (fun b e => .inr (by have e : b = xb := e; omega))
    have hr1 : (RS.map (·.1))[i]? = some RS[i].1 := by rw [List.getElem?_map, List.getElem?_eq_getElem hiR]; rfl
    have hz1 : (RS.map (·.2))[i]? = some RS[i].2 := by rw [List.getElem?_map, List.getElem?_eq_getElem hiR]; rfl
    obtain ⟨hz0, hz5⟩ := hsz RS[i] (List.getElem_mem hiR)
    have hfind := fun h => find_first (p := lkX L) hiR hX h
    have hlkM : lkX L RS[i] = true → lkM L = (RS[i].1, 6) := fun h => by
      unfold lkM
      rw [← hRS, hfind h]
    have hTk : RS.take (i + 1) = RS.take i ++ [RS[i]] := List.take_succ_eq_append_getElem hiR
    have hXn : lkX L RS[i] = false → ∀ j (hj : j < RS.length), j < i + 1 → lkX L RS[j] = false := fun h j hj hji => by
      rcases Nat.lt_or_ge j i with q | q
      · exact hX j hj q
      · have e : j = i := by omega
        subst e; exact h
    generalize RS[i] = p at *
    obtain ⟨root, sz⟩ := p
    simp only at hr1 hz1 hz0 hz5 hlkM
    have hXe : lkX L (root, sz) = (!treeOk L root || bey (treeM L root) sz) := rfl
    rw [hXe] at hlkM hXn
    refine RunC.seq (RunC.block ?_)
    refine RunC.seq (RunC.region (RunO.part 1 rfl ?_))
    refine RunO.at (s := 1) (k := i) rfl rfl slr2 rfl rfl hlt (ix_at hr1) rfl rfl rfl (RunO.all rfl ?_)
    refine RunC.seq (RunC.region (RunO.part 2 rfl ?_))
    refine RunO.callD (treeGo_ok (root := root) (sl0.fr0 F9) hb hd) rfl rfl rfl ?_
    rintro _ g3 ⟨f3, ⟨hok, wb, rfl, mb, nv, w1, w2, ow, om, row, hml, hnl⟩ | ⟨hok, rfl⟩⟩
    case inr =>
      rw [hok] at hlkM
      have hlkM := hlkM rfl
      rw [hlkM] at hlk
      rw [hlk]
      refine RunO.all rfl ?_
      refine RunC.seq (RunC.seq (RunC.draw0 rfl (RunO.all rfl ?_)))
      refine RunC.cond rfl (fun _ => ?_) (fun g => by cases g)
      exact RunC.seq (RunC.region (RunO.all rfl (RunC.ret ⟨_, rfl, F9.same f3, .inr ⟨by show (6 : Int) ≠ 0; decide, rfl⟩⟩)))
    rw [hok, show (!true) = false from rfl, Bool.false_or] at hlkM hXn
    obtain ⟨hmr, hnr⟩ := tree_rng hd hok
    rw [← hB] at ow hmr hnr
    obtain ⟨k, hk⟩ := Int.eq_ofNat_of_zero_le hz0
    subst hk
    refine RunO.all rfl ?_
    refine RunC.seq (RunC.seq (RunC.draw0 rfl (RunO.part 6 rfl ?_)))
    refine RunO.loadG (v := .slice (some ⟨mb, 0, none⟩) 512 (exc 512)) rfl rfl (ow.ld rfl) rfl ?_
    refine RunO.part 2 rfl ?_
    refine RunO.atG (s := 1) (k := i) rfl (fun _ => rfl) rfl rfl (slz2.fr0 f3) rfl rfl hlt (ix_at hz1) rfl rfl rfl ?_
    refine RunO.callDG rfl (openBeyond_ok (om.all.sl (by rw [is_len, hml]) (by decide) (Cp.exc (Nat.le_refl 512))) hml (by omega)) rfl rfl rfl ?_
    rintro _ g4 ⟨rfl, f4⟩
    cases hbe : bey (treeM L root) (k : Int) with
    | true =>
      have hlkM := hlkM hbe
      rw [hlkM] at hlk
      rw [hlk]
      refine RunO.all rfl (RunC.cond rfl (fun _ => ?_) (fun g => by cases g))
      exact RunC.seq (RunC.region (RunO.all rfl (RunC.ret ⟨_, rfl, (F9.same f3).same f4, .inr ⟨by show (6 : Int) ≠ 0; decide, rfl⟩⟩)))
    | false =>
    have hXn := hXn hbe
    refine RunO.all rfl (RunC.cond rfl (fun g => by cases g) (fun _ => RunC.skip ?_))
    have hg2x := ox.1
    have htx : ∀ b, At tv b → g1.next ≤ b ∧ b < g2.next := fun b g => rt.at g
    have f34 := f3.same f4
    have tw : TrW B g4 xb tv (wb, treeM L root, treeN L root) := by
      refine ⟨_, mb, nv, ow.fr f4 (fun g => g), om.fr f4 (fun g => g), Row.lo (row.fr f4 (fun _ _ _ g => g)) (Nat.zero_le _), hml, hnl, hmr, hnr, ⟨by omega, fun g => ?_⟩, ⟨by omega, fun g => ?_⟩, fun b g => ⟨?_, fun e => ?_⟩⟩
      · have := htx _ g; omega
      · have := htx _ g; omega
      · have := (row.at g).1; omega
      · have := htx _ e; have := (row.at g).1; omega
    have hTW4 : ∀ t ∈ TL, TrW B g4 xb tv t := fun t ht => (hTW t ht).fr0 f34
    have rt4 := rt.fr f34 (fun _ _ _ g => g)
    have ox4 := ox.fr f34 (fun g => g)
    have F10 := F9.same f34
    have hn34 := f34.next
    refine RunC.region (RunO.part 4 rfl ?_)
    refine RunO.load (v := tv) rfl (ox4.ld rfl) rfl ?_
    refine RunO.part 2 (h1 := g4.push ⟨tps [(wb, treeM L root, treeN L root)], true⟩) rfl ?_
    have ot := Ow.push g4 (tps [(wb, treeM L root, treeN L root)])
    have f5 : Fr no g4 (g4.push ⟨tps [(wb, treeM L root, treeN L root)], true⟩) := Fr.push _ _ _
    have rt5 := rt4.fr f5 (fun _ _ _ g => g)
    have ox5 := ox4.fr f5 (fun g => g)
    have hTW5 : ∀ t ∈ TL ++ [(wb, treeM L root, treeN L root)], TrW B (g4.push ⟨tps [(wb, treeM L root, treeN L root)], true⟩) xb tv t := fun t ht => by
      rcases List.mem_append.1 ht with g | g
      · exact (hTW4 t g).fr0 f5
      · rw [List.mem_singleton.1 g]; exact tw.fr0 f5
    generalize g4.push ⟨tps [(wb, treeM L root, treeN L root)], true⟩ = g5 at *
    refine RunO.append2 (s := 1) (m := 1) rfl rfl rfl rfl rfl rfl rfl rfl (by decide) rt5 ot.all rfl (Nat.le_refl 1) rfl (by show 2 * (_ + 1) * 8 ≤ _; omega) (by omega) ?_
    intro tv2 g6 rt6 f6
    have ox6 := ox5.fr f6 (fun g => by have := htx xb g; omega)
    have htv2 : ∀ b, At tv2 b → g5.next ≤ b := fun b g => (rt6.at g).1
    have hn5 := f5.next
    refine RunO.part 2 rfl ?_
    refine RunO.store rfl rfl (store1_ow ox6 rfl (rt6.cell).1 (rt6.cell).2 (Nat.le_of_ble_eq_true rfl)) (RunO.nil ?_)
    have ox7 : Ow (g6.put xb (some ⟨imc s slot (.slice lA lr.length lc) bv tv2, true⟩)) xb (imc s slot (.slice lA lr.length lc) bv tv2) := Ow.put _ ox6.1
    have f7 : Fr (· = xb) g6 (g6.put xb (some ⟨imc s slot (.slice lA lr.length lc) bv tv2, true⟩)) := Fr.put _ (.inl rfl)
    show RunC prog _ _ _ (g6.put xb (some ⟨imc s slot (.slice lA lr.length lc) bv tv2, true⟩)) _ _ _
    generalize g6.put xb (some ⟨imc s slot (.slice lA lr.length lc) bv tv2, true⟩) = g7 at *
    have f67 : Fr (fun b => b = xb ∨ At tv b) g5 g7 := (f6.weak (fun b g => .inl (.inr g))).trans f7 (fun b g => .inl (.inl g))
    have rt7 := rt6.frm f7 (fun b g e => by have e : b = xb := e; have := htv2 b g; omega)
    refine RunC.region (RunO.all rfl ?_)
    refine ⟨d2 - 1, by omega, i + 1, TL ++ [(wb, treeM L root, treeN L root)], tv2, by omega, by rw [List.length_append, hTl]; rfl, ?_, hXn, fun t ht => (hTW5 t ht).step f67 htv2, ox7, ?_, ((fg2.quiet f34).quiet f5).trans f67 (fun b g => ?_), Le.cons (inc64 (by omega)) (Le.cons rfl (Le.cons rfl (Le.cons rfl (Le.cons rfl (Le.cons rfl (Le.cons rfl (Le.nil _)))))))⟩
    · rw [hTk, List.map_append, List.map_append, hTm]; rfl
    · have e1 : tps TL ++ tps [(wb, treeM L root, treeN L root)] = tps (TL ++ [(wb, treeM L root, treeN L root)]) := (List.map_append ..).symm
      rw [e1] at rt7
      rw [List.length_append]
      exact Row.lo rt7 (by have := fg2.next; omega)
    · rcases g with g | g
      · exact .inl g
      · exact .inr (htx b g).1
  have hge2 := of_decide_eq_false hge
  obtain rfl : i = lr.length + 1 := by omega
  have hfn : RS.find? (lkX L) = none := List.find?_eq_none.2 (fun p hp => by
    obtain ⟨j, hj, rfl⟩ := List.mem_iff_getElem.1 hp
    rw [hX j hj (by omega)]; simp)
  have hlkM : lkM L = (lkC L, if lkC L = 0 then 0 else 6) := by
    unfold lkM
    rw [← hRS, hfn]
  rw [hlkM] at hlk
  rw [hRt] at hTm
  have hT : TL.map (·.2) = lkT L := by rw [hTm, hRS]; rfl
  have hC : lkC L = clV B lb (TL.map (·.2)) := by rw [hT, hlb, hB]; rfl
  have F9 : Fr no h g2 := F8.trans fg2 (fun b e => .inr (by have e : b = xb := e; omega))
  have rl9 := rl6.frm fg2 (fun b g e => hlx b g e)
  have rb9 := rb6.frm fg2 (fun b g e => hbx b g e)
  -- the clash
  refine RunC.seq (RunC.region (RunO.part 2 rfl ?_))
  refine RunO.callD (openClash_ok ox (rb9.sl (by omega)) (rt.sl (by omega)) (fun t ht => (hTW t ht).ok) (fun x hx => by have := hlbr x hx; omega) (by omega) (by omega) (by omega)) rfl rfl rfl ?_
  rintro _ g3 ⟨f3, ⟨j, hj, rfl, hcl, hno⟩ | ⟨rfl, hno⟩⟩
  · have hj0 : j ≠ 0 := fun e => by
      subst e
      rw [clP_zero (fun x hx => (hlbr x hx).1) (fun t ht => by obtain ⟨_, _, _, _, _, _, _, _, _, h7, _⟩ := hTW t ht; exact fun x hx => (h7 x hx).1)] at hcl
      cases hcl
    rw [clV_some hj hcl hno] at hC
    rw [hC, if_neg (by omega)] at hlk
    rw [hlk]
    refine RunO.all rfl ?_
    refine RunC.seq (RunC.seq (RunC.region (RunO.all rfl ?_)))
    rw [show ((j : Int) != 0) = true from bne_iff_ne.2 (by omega)]
    refine RunC.cond rfl (fun _ => ?_) (fun g => by cases g)
    exact RunC.seq (RunC.region (RunO.all rfl (RunC.ret ⟨_, rfl, F9.same f3, .inr ⟨by show (6 : Int) ≠ 0; decide, rfl⟩⟩)))
  · rw [clV_none hno] at hC
    rw [hC, if_pos rfl] at hlk
    rw [hlk]
    refine RunO.all rfl ?_
    refine RunC.seq (RunC.seq (RunC.region (RunO.all rfl (RunC.cond rfl (fun g => by cases g) (fun _ => RunC.skip ?_)))))
    refine RunC.seq (RunC.region (RunO.all rfl (RunC.ret ⟨_, rfl, F9.same f3, .inl ⟨rfl, xb, rfl, ?_⟩⟩)))
    refine ⟨.slice lA lr.length lc, bv, tv, TL, by omega, ?_, ?_, ?_, (rt.sl (by omega)).fr0 f3, hT, fun t ht => ?_⟩
    · rw [← hs, ← hsl]; exact ox.fr f3 (fun g => g)
    · rw [← hlr]; exact Row.lo (rl9.fr f3 (fun _ _ _ g => g)) (by omega)
    · rw [← hlb]; exact Row.lo (rb9.fr f3 (fun _ _ _ g => g)) (by omega)
    · rw [← hB]; exact (hTW t ht).ok.fr0 f3
end Go.Proofs.Ytcbakhanpiemhaa
end
section
set_option linter.unusedVariables false
set_option linter.unusedSectionVars false
set_option maxRecDepth 100000
open Go Go.Am Go.RowKit
namespace Go.Proofs.Ytcbakhanpiemhaa
open Go.Proofs.Try
theorem eresults_cell2 {P : Program} {E : Env} {h : Heap} {a b : Tmp} {t : TypeId} {ad : Addr} {v w : Value} (h1 : E a = some (.pointer (some ad))) (h2 : aload P h t ad = some v) (h3 : E b = some w) :
    eresults P [.cell a t, .tmp b] E h = some (.tuple #[v, w]) := by
  simp only [eresults, eres, h1, h2, h3]
def recsE (L : List Int) (a : Int) : Int := if devOk L.length then (if (folOf L a).2.2.2 = 0 then 0 else 7) else 2
/-- A state's cells. -/
def stc (s : S5) (slot : Int) (rv : Value) : List Value := sc5 s ++ [.int .i64 slot, rv]
theorem openOpen_ok {h : Heap} {iv : Value} {L : List Int} (sl : Sl h iv 1 L.length (us L)) (hb : Byt L) (hm : L.length ≤ 4611686018427387904) :
    RunF prog 36 [iv] h fun v h' => Fr no h h' ∧ (((lk L).2 = 0 ∧ ∃ rv, v = .tuple #[.agg ⟨stc (lkS L) (pickS L).2.1 rv⟩, .int .i64 0] ∧ Row h.next h' rv 8 (lkF L).1.length (recCs (lkF L).1)) ∨ ((lk L).2 ≠ 0 ∧ v = .tuple #[.agg ⟨stc (0, 0, 0, 0, 0) 0 (.slice none 0 0)⟩, .int .i64 (lk L).2])) := by
  refine RunF.walk func36 rfl rfl ?_
  refine RunC.seq (RunC.region (RunO.all (h1 := h.push ⟨stc (0, 0, 0, 0, 0) 0 (.slice none 0 0), true⟩) rfl ?_))
  have oq := Ow.push h (stc (0, 0, 0, 0, 0) 0 (.slice none 0 0))
  have f1 : Fr no h (h.push ⟨stc (0, 0, 0, 0, 0) 0 (.slice none 0 0), true⟩) := Fr.push _ _ _
  generalize h.push ⟨stc (0, 0, 0, 0, 0) 0 (.slice none 0 0), true⟩ = h1 at *
  obtain ⟨qb, hqb⟩ : ∃ q, q = h.next := ⟨_, rfl⟩
  rw [← hqb] at oq ⊢
  have hnx := oq.1
  refine RunC.seq (RunC.region (RunO.part 1 rfl ?_))
  refine RunO.callD (openLook_ok (sl.fr0 f1) hb hm) rfl rfl rfl ?_
  rintro _ h2 ⟨f2, ⟨h0, xb, rfl, rv, bv, tv, TL, hxb, ox, rl, rb, _⟩ | ⟨h0, rfl⟩⟩
  · replace oq := oq.fr f2 (fun g => g)
    refine RunO.all rfl ?_
    refine RunC.seq (RunC.seq (RunC.region (RunO.all rfl (RunC.cond rfl (fun g => by cases g) (fun _ => RunC.skip ?_)))))
    refine RunC.seq (RunC.region (RunO.part 3 rfl ?_))
    refine RunO.load (v := .agg ⟨stc (lkS L) (pickS L).2.1 rv⟩) rfl (ox.ld rfl) rfl ?_
    have hcs : cellsOf (.agg ⟨stc (lkS L) (pickS L).2.1 rv⟩) = stc (lkS L) (pickS L).2.1 rv := rfl
    have hcell : allCells (stc (lkS L) (pickS L).2.1 rv) = true := by
      rcases rl.2 with ⟨e, _⟩ | ⟨b, _, e, _⟩ <;> (rw [e]; rfl)
    refine RunO.store rfl rfl (store_ow (s := 7) oq rfl rfl hcell (Nat.le_of_ble_eq_true rfl)) ?_
    have e7 : (stc (0, 0, 0, 0, 0) 0 (.slice none 0 0)).take 0 ++ cellsOf (.agg ⟨stc (lkS L) (pickS L).2.1 rv⟩) ++ (stc (0, 0, 0, 0, 0) 0 (.slice none 0 0)).drop (0 + 7) = stc (lkS L) (pickS L).2.1 rv := rfl
    rw [e7]
    have oq2 : Ow (h2.put qb (some ⟨stc (lkS L) (pickS L).2.1 rv, true⟩)) qb (stc (lkS L) (pickS L).2.1 rv) := Ow.put _ oq.1
    have f3 : Fr (· = qb) h2 (h2.put qb (some ⟨stc (lkS L) (pickS L).2.1 rv, true⟩)) := Fr.put _ (.inl rfl)
    generalize h2.put qb (some ⟨stc (lkS L) (pickS L).2.1 rv, true⟩) = h3 at *
    have hn := f1.next
    have rl3 := rl.frm f3 (fun b g e => by have := (rl.at g).1; have e : b = qb := e; omega)
    refine RunO.all rfl (RunC.ret ⟨_, eresults_cell2 rfl (oq2.ld rfl) rfl, (f1.same f2).trans f3 (fun b e => .inr (by have e : b = qb := e; omega)), .inl ⟨h0, rv, rfl, Row.lo rl3 (by omega)⟩⟩)
  · replace oq := oq.fr f2 (fun g => g)
    refine RunO.all rfl ?_
    refine RunC.seq (RunC.seq (RunC.region (RunO.all rfl ?_)))
    rw [show ((lk L).2 != 0) = true from bne_iff_ne.2 h0]
    refine RunC.cond rfl (fun _ => ?_) (fun g => by cases g)
    refine RunC.seq (RunC.region (RunO.part 2 rfl ?_))
    refine RunO.store rfl rfl (store_ow (s := 7) oq rfl rfl rfl (Nat.le_of_ble_eq_true rfl)) ?_
    have oq2 : Ow (h2.put qb (some ⟨stc (0, 0, 0, 0, 0) 0 (.slice none 0 0), true⟩)) qb (stc (0, 0, 0, 0, 0) 0 (.slice none 0 0)) := Ow.put _ oq.1
    have f3 : Fr (· = qb) h2 (h2.put qb (some ⟨stc (0, 0, 0, 0, 0) 0 (.slice none 0 0), true⟩)) := Fr.put _ (.inl rfl)
    show RunO prog _ _ _ _ (h2.put qb (some ⟨stc (0, 0, 0, 0, 0) 0 (.slice none 0 0), true⟩)) _
    generalize h2.put qb (some ⟨stc (0, 0, 0, 0, 0) 0 (.slice none 0 0), true⟩) = h3 at *
    exact RunO.all rfl (RunC.ret ⟨_, eresults_cell2 rfl (oq2.ld rfl) rfl, (f1.same f2).trans f3 (fun b e => .inr (by have e : b = qb := e; omega)), .inr ⟨h0, rfl⟩⟩)
/-- Is this the whole record of an id? -/
def fdP (id : Int) (r : R8) : Bool := (r.id == id) && (r.ki == 0)
/-- A new image. -/
def newI (B : Nat) : List Int := superBlock 1 (B : Int) 0 0 0 ++ List.replicate (B * 64 - 64) 0
theorem newI_len {B : Nat} (h : 1 ≤ B) : (newI B).length = B * 64 := by unfold newI; rw [List.length_append, superBlock_len, List.length_replicate]; omega
theorem newI_byt (B : Nat) : Byt (newI B) := fun x hx => by
  rcases List.mem_append.1 hx with g | g
  · exact superBlock_byt _ _ _ _ _ x g
  · rw [List.eq_of_mem_replicate g]; omega
theorem ok_new {B : Nat} (h4 : 4 ≤ B) (hB : B ≤ 4096) : superOk 1 (B : Int) 0 0 0 = true := (superOk_iff _ _ _ _ _).2 ⟨by omega, by omega, by omega, .inl rfl, .inl rfl⟩
theorem openNew_ok {h : Heap} {B : Nat} (h4 : 4 ≤ B) (hB : B ≤ 4096) : RunF prog 35 [.int .i64 (B : Int)] h fun v h' => Fr no h h' ∧ ∃ b, h.next ≤ b ∧ v = .tuple #[.slice (some ⟨b, 0, none⟩) (B * 64) (exc (B * 64)), .int .i64 0] ∧ Ow h' b (us (newI B)) := by
  refine RunF.walk func35 rfl rfl ?_
  refine RunC.seq (RunC.region (RunO.all rfl ?_))
  refine RunC.seq (RunC.seq (RunC.region (RunO.part 3 rfl ?_)))
  rw [show decide ((B : Int) < 4) = false from decide_eq_false (by omega)]
  refine RunO.part 2 rfl ?_
  rw [show decide ((B : Int) > 4096) = false from decide_eq_false (by omega)]
  refine RunO.all rfl (RunC.cond rfl (fun g => by cases g) (fun _ => RunC.skip ?_))
  refine RunC.seq (RunC.region (RunO.part 2 rfl ?_))
  rw [fw64 (x := (B : Int) * 64) (by omega) (by omega), show (B : Int) * 64 = ((B * 64 : Nat) : Int) by omega]
  refine RunO.make (m := B * 64) rfl rfl rfl rfl rfl rfl (by show 1 * (B * 64) ≤ _; omega) (by omega) rfl ?_
  rw [reps_us]
  have oi := Ow.push h (us (List.replicate (B * 64) 0))
  have f1 : Fr no h (h.push ⟨us (List.replicate (B * 64) 0), true⟩) := Fr.push _ _ _
  generalize h.push ⟨us (List.replicate (B * 64) 0), true⟩ = h1 at *
  obtain ⟨qi, hqi⟩ : ∃ q, q = h.next := ⟨_, rfl⟩
  rw [← hqi] at oi ⊢
  refine RunO.all rfl ?_
  refine RunC.seq (RunC.region (RunO.part 2 rfl ?_))
  refine RunO.callD (superBytes_ok (g := 1) (bl := (B : Int)) (rt := 0) (sz := 0) (fi := 0)) rfl rfl rfl ?_
  rintro _ h2 ⟨f2, ⟨_, sb, hsb, rfl, os⟩ | ⟨g, _⟩⟩
  case inr => rw [ok_new h4 hB] at g; cases g
  replace oi := oi.fr f2 (fun g => g)
  refine RunO.all rfl ?_
  refine RunC.seq (RunC.region (RunO.part 2 rfl ?_))
  have hsl := superBlock_len 1 (B : Int) 0 0 0
  have sls := sl_own os hsl (Cp.exc (Nat.le_refl 64)) (by decide)
  rw [hsl] at sls
  refine RunO.copy (k := 64) rfl rfl rfl rfl oi sls (allCells_map (fun _ => rfl) _) (by omega) (by rw [us_len, List.length_replicate]; omega) rfl ?_
  intro h3 oi3 f3 hn3
  have e : (us (superBlock 1 (B : Int) 0 0 0)).take 64 ++ (us (List.replicate (B * 64) 0)).drop 64 = us (newI B) := by
    rw [List.take_of_length_le (by rw [us_len, hsl]; exact Nat.le_refl _)]
    unfold newI us
    rw [List.map_append, ← List.map_drop, List.drop_replicate]
  rw [e] at oi3
  refine RunO.all rfl ?_
  refine RunC.seq (RunC.region (RunO.all rfl (RunC.ret ⟨_, rfl, (f1.same f2).trans f3 (fun b g => .inr (by have g : b = qi := g; omega)), qi, by omega, rfl, oi3⟩)))
end Go.Proofs.Ytcbakhanpiemhaa
end
section
set_option linter.unusedVariables false
set_option linter.unusedSectionVars false
set_option maxRecDepth 100000
open Go Go.Am Go.RowKit
namespace Go.Proofs.Ytcbakhanpiemhaa
open Go.Proofs.Try
theorem pick_two (L : List Int) : pickS L = pickStep L (pickStep L ((0, 0, 0, 0, 0), 0, false) 0) 1 := rfl
theorem pick_no {L : List Int} {st : S5 × Int × Bool} {i : Nat} (h : sCode (blkI L i) ≠ 0) : pickStep L st i = st := by
  unfold pickStep
  rw [if_neg]
  rw [beq_eq_false_iff_ne.2 h]; exact Bool.false_ne_true
/-- Slot i has a superblock of this device, the other one none. -/
theorem pick_yes {L : List Int} {st : S5 × Int × Bool} {i : Nat} {g bl rt sz fi : Int} (h : blkI L i = superBlock g bl rt sz fi) (ok : superOk g bl rt sz fi = true) (hbl : bl = ((L.length / 64 : Nat) : Int)) (hst : st.2.2 = false) : pickStep L st i = ((g, bl, rt, sz, fi), (i : Int), true) := by
  obtain ⟨b1, b2⟩ := super_back ok
  unfold pickStep
  rw [h, b1, b2, hst, if_pos]
  show ((0 : Int) == 0 && (bl == _ && (!false || _))) = true
  rw [hbl]; simp
theorem pick_one0 {L : List Int} {g bl rt sz fi : Int} (h : blkI L 0 = superBlock g bl rt sz fi) (ok : superOk g bl rt sz fi = true) (hbl : bl = ((L.length / 64 : Nat) : Int)) (h1 : sCode (blkI L 1) ≠ 0) : pickS L = ((g, bl, rt, sz, fi), 0, true) := by
  rw [pick_two, pick_yes h ok hbl rfl, pick_no h1]; rfl
theorem pick_one1 {L : List Int} {g bl rt sz fi : Int} (h : blkI L 1 = superBlock g bl rt sz fi) (ok : superOk g bl rt sz fi = true) (hbl : bl = ((L.length / 64 : Nat) : Int)) (h0 : sCode (blkI L 0) ≠ 0) : pickS L = ((g, bl, rt, sz, fi), 1, true) := by
  rw [pick_two, pick_no h0, pick_yes h ok hbl rfl]; rfl
theorem fol_none (L : List Int) : folOf L 0 = ([], [], 0, 0) := fol_end ..
theorem bey_zero (k : Int) : bey (List.replicate 512 0) k = false := by
  unfold bey
  rw [List.any_eq_false]
  intro x hx
  have := List.eq_of_mem_replicate (List.mem_of_mem_drop hx)
  simp [this]
theorem tree0 (L : List Int) : treeOk L 0 = true ∧ treeM L 0 = List.replicate 512 0 ∧ treeN L 0 = [] := ⟨rfl, rfl, rfl⟩
theorem clV_no {B : Nat} {bl : List Int} {T : List (List Int × List Int)} (h : ∀ j, j < B → clP bl (T.map fun t => (0, t)) j = false) : clV B bl T = 0 := by
  unfold clV
  rw [List.find?_eq_none.2 (fun j hj => by rw [h j (List.mem_range.1 hj)]; simp)]
/-- An image whose head has no tree and that has no records opens. -/
theorem lk_empty {L : List Int} {s : S5} {slot : Int} (hd : devOk L.length = true) (hp : pickS L = (s, slot, true)) (hr : s.2.2.1 = 0) (hf : s.2.2.2.2 = 0) : lk L = (0, 0) ∧ lkF L = ([], [], 0, 0) ∧ lkS L = s := by
  have hS : lkS L = s := by unfold lkS; rw [hp]
  have hF : lkF L = ([], [], 0, 0) := by unfold lkF; rw [hS, hf]; exact fol_none L
  have hR : lkR L = [(0, s.2.2.2.1)] := by unfold lkR; rw [hF, hS, hr]; rfl
  refine ⟨?_, hF, hS⟩
  unfold lk
  rw [hd, hp, hF, if_pos rfl, if_pos rfl, if_pos rfl]
  have hX : lkX L (0, s.2.2.2.1) = false := by
    unfold lkX
    rw [(tree0 L).1, (tree0 L).2.1, bey_zero]; rfl
  unfold lkM
  rw [hR, List.find?_cons_of_neg (by rw [hX]; simp)]
  have hC : lkC L = 0 := by
    unfold lkC
    refine clV_no (fun j hj => ?_)
    unfold lkT
    rw [hR, hF]
    show clP [] [(0, List.replicate 512 0, [])] j = false
    unfold clP isN isS
    simp only [List.any_cons, List.any_nil]
    by_cases h0 : j = 0
    · subst h0; rfl
    · rw [show (List.replicate 512 (0 : Int)).contains (j : Int) = false from Bool.eq_false_iff.2 (fun g => by have := List.eq_of_mem_replicate (List.contains_iff_mem.1 g); omega)]
      simp
  show (lkC L, if lkC L = 0 then (0 : Int) else 6) = _
  rw [hC, if_pos rfl]
theorem newI_blk {B : Nat} (h : 4 ≤ B) : blkI (newI B) 0 = superBlock 1 (B : Int) 0 0 0 ∧ blkI (newI B) 1 = List.replicate 64 0 := by
  have hl := superBlock_len 1 (B : Int) 0 0 0
  unfold blkI newI
  constructor
  · rw [Nat.zero_mul, List.drop_zero, List.take_append_of_le_length (by omega), List.take_of_length_le (by omega)]
  · rw [Nat.one_mul, List.drop_append, List.drop_of_length_le (by omega), List.nil_append, hl, Nat.sub_self, List.drop_zero, List.take_replicate, Nat.min_eq_left (by omega)]
theorem dev_new {B : Nat} (h4 : 4 ≤ B) (hB : B ≤ 4096) : devOk (newI B).length = true := by
  rw [newI_len (by omega)]; exact devOk_mul h4 hB
theorem pick_new {B : Nat} (h4 : 4 ≤ B) (hB : B ≤ 4096) : pickS (newI B) = ((1, (B : Int), 0, 0, 0), 0, true) :=
  pick_one0 (newI_blk h4).1 (ok_new h4 hB) (by rw [newI_len (by omega), Nat.mul_div_cancel _ (by decide)]) (by rw [(newI_blk h4).2, sCode_zeros]; decide)
theorem lk_new {B : Nat} (h4 : 4 ≤ B) (hB : B ≤ 4096) : lk (newI B) = (0, 0) ∧ lkF (newI B) = ([], [], 0, 0) ∧ lkS (newI B) = (1, (B : Int), 0, 0, 0) := lk_empty (dev_new h4 hB) (pick_new h4 hB) rfl rfl
end Go.Proofs.Ytcbakhanpiemhaa
end
section
set_option linter.unusedVariables false
set_option maxRecDepth 100000
open Go Go.Am Go.RowKit
namespace Go.Proofs.Ytcbakhanpiemhaa
open Go.Proofs.Try
theorem ptrB_b {n : Int} (h : ptrB n = true) : 0 ≤ n ∧ n < 4096 := by
  unfold ptrB at h; simp at h; omega
theorem idB_b {n : Int} (h : idB n = true) : 1 ≤ n ∧ n ≤ 4611686018427387903 := by
  unfold idB at h; simp at h; omega
theorem rec_fits {n id pa ro sz ki fr di : Int} (h : recOk n id pa ro sz ki fr di = true) : Fits rSiz [n, id, pa, ro, sz, ki, fr, di] := by
  have hb : (ptrB n = true ∧ ptrB ro = true ∧ parB id pa = true ∧ inB sz 0 512 = true) ∧ (0 ≤ ki ∧ ki ≤ 1) ∧ (0 ≤ fr ∧ fr ≤ 65535) ∧ (0 ≤ di ∧ di ≤ 4294967295) := by
    unfold recOk at h
    split at h
    · unfold recIs at h
      simp only [Bool.and_eq_true, beq_iff_eq] at h
      obtain ⟨⟨⟨⟨⟨h1, h2⟩, h3⟩, h4⟩, h5⟩, h6⟩ := h
      exact ⟨⟨h1, h2, h3, h4⟩, by omega, by omega, by omega⟩
    · split at h
      · unfold recIs at h
        simp only [Bool.and_eq_true, inB_iff] at h
        obtain ⟨⟨⟨⟨⟨h1, h2⟩, h3⟩, h4⟩, h5⟩, h6⟩ := h
        exact ⟨⟨h1, h2, h3, (inB_iff _ _ _).2 h4⟩, by omega, by omega, by omega⟩
      · cases h
  obtain ⟨⟨h1, h2, h3, h4⟩, h5, h6, h7⟩ := hb
  have b1 := ptrB_b h1
  have b2 := ptrB_b h2
  have b4 := (inB_iff _ _ _).1 h4
  unfold parB at h3
  simp only [Bool.and_eq_true, Bool.or_eq_true, beq_iff_eq] at h3
  have b3 := idB_b h3.1
  have b5 : 0 ≤ pa ∧ pa ≤ 4611686018427387903 := by
    rcases h3.2.2 with e | e
    · omega
    · have := idB_b e; omega
  have e8 : (256 : Int) ^ 8 = 18446744073709551616 := by decide
  have e4 : (256 : Int) ^ 4 = 4294967296 := by decide
  exact ⟨⟨by omega, by rw [e4]; omega, by omega⟩, ⟨by omega, by rw [e8]; omega, by omega⟩, ⟨by omega, by rw [e8]; omega, by omega⟩, ⟨by omega, by rw [e4]; omega, by omega⟩, ⟨by omega, by rw [e4]; omega, by omega⟩, ⟨by omega, by rw [e4]; omega, by omega⟩, ⟨by omega, by rw [e4]; omega, by omega⟩, ⟨by omega, by rw [e4]; omega, by omega⟩, trivial⟩
theorem recBlock_len (n id pa ro sz ki fr di : Int) : (recBlock n id pa ro sz ki fr di).length = 64 := makeB_len rfl rfl (by decide)
theorem recBlock_byt (n id pa ro sz ki fr di : Int) : Byt (recBlock n id pa ro sz ki fr di) := makeB_byt (by unfold Byt; decide) rfl rfl (by decide)
end Go.Proofs.Ytcbakhanpiemhaa
end
section
set_option linter.unusedVariables false
set_option linter.unusedSectionVars false
set_option maxRecDepth 100000
open Go Go.Am Go.RowKit
namespace Go.Proofs.Ytcbakhanpiemhaa
open Go.Proofs.Try
/- A chain that was followed to its end. -/
def nxt (a : Int) (l : List R8) (i : Nat) : Int := if i = 0 then a else (l.getD (i - 1) ⟨0, 0, 0, 0, 0, 0, 0, 0⟩).nx
structure FolI (L : List Int) (B : Nat) (a : Int) (l : List R8) (bs : List Int) (cur : Int) : Prop where
  len : l.length = bs.length
  blk : ∀ i (hi : i < l.length), bs.getD i 0 = nxt a l i ∧ 2 ≤ bs.getD i 0 ∧ bs.getD i 0 < (B : Int) ∧ rCode (blkI L (bs.getD i 0).toNat) = 0 ∧ l[i] = rPar (blkI L (bs.getD i 0).toNat)
  apart : ∀ i (hi : i < l.length) j (hj : j < l.length), j < i → l[j].id ≠ l[i].id ∧ l[i].ki ≠ 1
  cur : cur = nxt a l l.length
end Go.Proofs.Ytcbakhanpiemhaa
end
section
set_option linter.unusedVariables false
set_option maxRecDepth 100000
open Go Go.Am Go.RowKit
namespace Go.Proofs.Ytcbakhanpiemhaa
open Go.Proofs.Try
theorem cloneI_ok {h : Heap} {v : Value} {l : List Int} (sl : Sl h v 1 l.length (is l)) (hb : 2 * l.length * 8 ≤ 281474976710656) :
    RunF prog 45 [v] h fun r h' => Osl h.next h' r 1 l.length (is l) ∧ Fr no h h' ∧ (l.length = 0 → h.next ≤ h'.next) := by
  refine RunF.walk func45 rfl rfl ?_
  refine RunC.seq (RunC.region (RunO.all rfl ?_))
  obtain ⟨hl, hm, ⟨rfl, h0⟩ | ⟨b, o, c, rfl, hc, rd⟩⟩ := sl
  · refine RunC.seq (RunC.seq (RunC.region (RunO.all rfl ?_)))
    refine RunC.cond rfl (fun _ => ?_) (fun g => by cases g)
    exact RunC.seq (RunC.region (RunO.all rfl (RunC.ret ⟨_, rfl, ⟨hl, hm, .inl ⟨rfl, h0⟩⟩, Fr.refl _ _, fun _ => Nat.le_refl _⟩)))
  · refine RunC.seq (RunC.seq (RunC.region (RunO.all rfl ?_)))
    refine RunC.cond rfl (fun g => by cases g) (fun _ => RunC.skip ?_)
    refine RunC.seq (RunC.region (RunO.part 2 (h1 := h.push ⟨[], true⟩) rfl ?_))
    have f1 : Fr no h (h.push ⟨[], true⟩) := Fr.push _ _ _
    have ow : Ow (h.push ⟨[], true⟩) h.next [] := Ow.push _ _
    by_cases hz : l.length = 0
    · have hn : l = [] := List.eq_nil_of_length_eq_zero hz
      subst hn
      have key : aappend prog (h.push ⟨[], true⟩) 22 22 (.slice (some ⟨h.next, 0, none⟩) 0 (exc 0)) (.slice (some ⟨b, o, none⟩) 0 c) = some (.slice (some ⟨h.next, 0, none⟩) 0 (exc 0), h.push ⟨[], true⟩) := by
        have hs : asrc (h.push ⟨[], true⟩) 1 (.slice (some ⟨b, o, none⟩) 0 c) = some (0, []) := ((rd.fr f1 (fun g => g)).sl (s := 1) (n := 0) rfl (Nat.zero_le _) hc).src0
        show (match asrc (h.push ⟨[], true⟩) 1 (.slice (some ⟨b, o, none⟩) 0 c) with
          | some (0, _) => some (Value.slice (some ⟨h.next, 0, none⟩) 0 (exc 0), h.push ⟨[], true⟩)
          | some (m + 1, news) => _
          | none => none) = _
        rw [hs]
      refine RunO.one rfl (v := .slice (some ⟨h.next, 0, none⟩) 0 (exc 0)) (h1 := h.push ⟨[], true⟩) (abuiltin_app key) rfl ?_
      exact RunO.all rfl (RunC.ret ⟨_, rfl, ⟨rfl, hm, .inr ⟨h.next, exc 0, Nat.le_refl _, rfl, Cp.exc (Nat.le_refl _), ow⟩⟩, f1, fun _ => Nat.le_succ _⟩)
    · have key := append_full (P := prog) (t := 22) (e := 3) (s := 1) (k := 0) (m := l.length) (c := exc 0) (c' := c) (olds := []) (news := is l) (b := ⟨h.next, 0, none⟩) (a := ⟨b, o, none⟩) rfl rfl rfl rfl rfl (Nat.le_refl 1) ow.all rfl rfl (by show 0 < 0 + l.length; omega) (rd.fr f1 (fun g => g)) (by rw [is_len, Nat.mul_one]) (by omega)
        (by show 2 * (0 + l.length) * 8 ≤ _; omega) (by omega)
      rw [Nat.zero_add, List.nil_append] at key
      refine RunO.one rfl (abuiltin_app key) rfl ?_
      refine RunO.all rfl (RunC.ret ⟨_, rfl, ⟨hl, hm, .inr ⟨_, _, Nat.le_succ _, rfl, Cp.unkc _ _, Ow.push _ _⟩⟩, f1.same (Fr.push _ _ _), fun _ => Nat.le_succ_of_le (Nat.le_succ _)⟩)
end Go.Proofs.Ytcbakhanpiemhaa
end
section
set_option linter.unusedVariables false
namespace Go.Am
open Go.RowKit
section
variable {P : Program} {n : Nat} {ops rest : List Oper} {E E1 : Env} {h h1 : Heap} {Q : Env → Heap → Prop}
theorem RunO.appendG {d : Tmp} {t ty e : TypeId} {x y : Operand} {pos : String} {after : Array Edge} {i : TypeInfo} {z : Value} {lo s k j c' : Nat} {xv : Value} {cells news : List Value} {a : Addr}
    (hx : gE E x = some xv) (hy : gE E y = some (.slice (some a) j c')) (hd : Nat.ble (Nat.succ d) n = true)
    (hu : P.underlying t = some (.slice e)) (hi : P.info? e = some i) (hz : zeroOf P e = some z) (hlz : lenIs (cellsOf z) i.size = true) (hs : i.size = s) (hs1 : 1 ≤ s) (row : Gr lo h xv s k cells)
    (rd : Rd h a news) (hn : news.length = j * s) (hm : 1 ≤ j) (ha : allCells news = true) (hb : 2 * (k + j) * i.bytes ≤ 281474976710656) (hb2 : k + j ≤ 9223372036854775807)
    (r : ∀ v' h', Row h.next h' v' s (k + j) (cells ++ news) → Fr (At xv) h h' → RunO P n ops rest (upd E d v') h' Q) : RunO P n ops (⟨some d, .call ⟨.builtin .append, #[x, y], #[t, t]⟩, ty, pos, after, none⟩ :: rest) E h Q := by
  obtain ⟨v', h', h1, h2, h3⟩ := append_gr (c' := c') hu hi hz hlz hs hs1 row rd hn hm ha hb hb2
  refine RunO.one rfl (v := v') (h1 := h') ?_ (by simp only [eput, hd, cond_true]) (r v' h' h2 h3)
  simp only [eop, gs, hx, hy, abuiltin, h1]
end
end Go.Am
end
section
set_option linter.unusedVariables false
namespace Go.Am
open Go.RowKit
section
variable {P : Program} {n : Nat} {ops rest : List Oper} {E E1 : Env} {h h1 : Heap} {Q : Env → Heap → Prop}
end
end Go.Am
end
section
set_option linter.unusedVariables false
set_option linter.unusedSectionVars false
set_option maxRecDepth 100000
open Go Go.Am Go.RowKit
namespace Go.Proofs.Ytcbakhanpiemhaa
open Go.Proofs.Try

/-- So many more asked for, of nothing. -/
theorem grow_ok {h : Heap} {n : Nat} (hn : n ≤ 1000000) : RunF prog 129 [.slice none 0 0, .int .i64 (n : Int)] h fun v h' => Row h.next h' v 1 0 [] ∧ Fr no h h' := by
  refine RunF.walk func129 rfl rfl ?_
  refine RunC.seq (RunC.region (RunO.all rfl ?_))
  refine RunC.seq (RunC.seq (RunC.region (RunO.part 1 rfl ?_)))
  refine RunO.part 1 rfl ?_
  rw [decide_eq_false (show ¬ ((n : Int) < 0) by omega)]
  refine RunO.all rfl (RunC.cond rfl (fun g => by cases g) (fun _ => RunC.skip ?_))
  refine RunC.seq (RunC.seq (RunC.region (RunO.part 6 rfl ?_)))
  refine RunO.part 1 rfl ?_
  rw [show fwrap .i64 ((n : Int) - fwrap .i64 ((0 : Int) - ((0 : Nat) : Int))) = (n : Int) by rw [fw64 (x := (0 : Int) - ((0 : Nat) : Int)) (by decide) (by decide), fw64 (x := (n : Int) - ((0 : Int) - ((0 : Nat) : Int))) (by omega) (by omega)]; omega]
  refine RunO.all rfl ?_
  refine RunC.seq (RunC.region (RunO.part 1 rfl ?_))
  refine RunO.part 1 rfl ?_
  cases n with
  | zero =>
    refine RunO.all rfl (RunC.cond (t := false) rfl (fun g => by cases g) (fun _ => RunC.skip ?_))
    refine RunC.seq (RunC.region (RunO.all rfl ?_))
    exact RunC.ret ⟨_, rfl, Row.nil _ _ _, Fr.refl _ _⟩
  | succ m =>
    rw [decide_eq_true (show ((m + 1 : Nat) : Int) > 0 by omega)]
    refine RunO.all rfl (RunC.cond rfl (fun _ => ?_) (fun g => by cases g))
    refine RunC.region (RunO.part 5 rfl ?_)
    have key : amake prog h 22 3 (.slice none 0 0) (.int .i64 (.ofNat (m + 1))) = some (.slice (some ⟨h.next, 0, none⟩) (m + 1) (unkc 1), h.push ⟨[], true⟩) := by
      show cond (Nat.ble (Nat.mul (m + 1) 8) 281474976710656) (cond (Nat.ble (m + 1) 9223372036854775807) (some (Value.slice (some ⟨h.next, 0, none⟩) (m + 1) (unkc 1), h.push ⟨[], true⟩)) none) none = _
      rw [Nat.ble_eq_true_of_le (show Nat.mul (m + 1) 8 ≤ 281474976710656 by show (m + 1) * 8 ≤ _; omega), Nat.ble_eq_true_of_le (show m + 1 ≤ 9223372036854775807 by omega)]
      rfl
    refine RunO.one rfl (v := .slice (some ⟨h.next, 0, none⟩) (m + 1) (unkc 1)) (h1 := h.push ⟨[], true⟩) key rfl ?_
    have ow := Ow.push h []
    have f1 : Fr no h (h.push ⟨[], true⟩) := Fr.push _ _ _
    refine RunO.part 2 rfl ?_
    refine RunO.one rfl (v := .slice (some ⟨h.next, 0, none⟩) 0 (unkc 1)) (h1 := h.push ⟨[], true⟩) (by show pureR _ (aslice prog 22 (.slice (some ⟨h.next, 0, none⟩) (m + 1) (unkc 1)) none (some (.int .i64 0)) none) = _; rfl) rfl ?_
    refine RunO.all rfl ?_
    refine RunC.seq (RunC.region (RunO.all rfl ?_))
    exact RunC.ret ⟨_, rfl, ⟨rfl, .inr ⟨h.next, Nat.le_refl _, rfl, ow⟩⟩, f1⟩

/-- Rows of numbers. -/
def RwsI (h : Heap) (v : Value) (rows : List (List Int)) : Prop :=
  ∃ cs, Sl h v 1 rows.length cs ∧ ∀ (j : Nat) (x : List Int), rows[j]? = some x → ∃ w, cs[j]? = some w ∧ Sl h w 1 x.length (is x)
theorem rowI_part {cs : List Value} {j : Nat} {w : Value} (h : cs[j]? = some w) : apart prog 22 cs (j * 1) = some w := by
  show nth cs (j * 1) = _
  rw [Nat.mul_one, nth_eq]; exact h
theorem flat_take {rows : List (List Int)} {i : Nat} (h : i < rows.length) : (rows.take (i + 1)).flatten = (rows.take i).flatten ++ rows[i] := by
  rw [List.take_succ_eq_append_getElem h, List.flatten_append]; simp
set_option maxHeartbeats 4000000 in
theorem concat_ok {h : Heap} {v : Value} {rows : List (List Int)} (sl : RwsI h v rows) (hm : rows.length ≤ 1000) (ht : rows.flatten.length ≤ 1000000) :
    RunF prog 102 [v] h fun r h' => Row h.next h' r 1 rows.flatten.length (is rows.flatten) ∧ Fr no h h' := by
  refine RunF.walk func102 rfl rfl ?_
  obtain ⟨cs, s1, k1⟩ := sl
  have s10 := s1
  obtain ⟨A, c, rfl, hc, _⟩ := s1.form
  have hle : ∀ i, (rows.take i).flatten.length ≤ 1000000 := fun i => by
    have : rows.flatten.length = (rows.take i).flatten.length + (rows.drop i).flatten.length := by rw [← List.length_append, ← List.flatten_append, List.take_append_drop]
    omega
  refine RunC.seq (RunC.region (RunO.all rfl ?_))
  refine RunC.seq (RunC.region (RunO.all rfl ?_))
  refine RunC.seq (RunC.seq (RunC.region (RunO.all rfl ?_)))
  refine RunC.block ?_
  refine RunC.loop (fun d E h' => ∃ i : Nat, i + d = rows.length ∧ h = h' ∧ Le ((upd (upd (upd (upd (upd E0 3 (.int .i64 (((rows.take i).flatten.length : Nat) : Int))) 0 (.slice A rows.length c)) 9 (.slice A rows.length c)) 10 (.int .i64 (rows.length : Int))) 11 (.int .i64 (i : Int)))) E) ?st1 (k := rows.length) ?ini1
  case ini1 => exact ⟨0, by omega, rfl, Le.cons rfl (Le.cons rfl (Le.cons rfl (Le.cons rfl (Le.cons rfl (Le.nil _)))))⟩
  rintro d E _ ⟨i, hi, rfl, hE⟩
  refine RunC.le hE ?_
  clear hE
  refine RunC.seq (RunC.region (RunO.all rfl ?_))
  refine RunC.seq (RunC.cond rfl (fun hlt => RunC.skip ?go1) (fun hge => RunC.exit ?ex1))
  case go1 =>
    have hlt := of_decide_eq_true hlt
    have hlt : i < rows.length := by omega
    obtain ⟨w, ew, sw⟩ := k1 i rows[i] (List.getElem?_eq_getElem hlt)
    have hft := flat_take hlt
    have h1 := hle (i + 1)
    rw [hft, List.length_append] at h1
    obtain ⟨wA, wc, rfl, _, _⟩ := sw.form
    refine RunC.seq (RunC.block ?_)
    refine RunC.seq (RunC.region ?_)
    refine RunO.at (s := 1) (k := i) rfl rfl s10 rfl rfl hlt (rowI_part ew) rfl rfl rfl (RunO.all rfl ?_)
    refine RunC.seq (RunC.region (RunO.part 4 rfl ?_))
    rw [fw64 (x := (((rows.take i).flatten.length : Nat) : Int) + ((rows[i].length : Nat) : Int)) (by omega) (by omega), show (((rows.take i).flatten.length : Nat) : Int) + ((rows[i].length : Nat) : Int) = (((rows.take (i + 1)).flatten.length : Nat) : Int) by rw [hft, List.length_append]; omega]
    refine RunO.all rfl ?_
    refine RunC.seq (RunC.region (RunO.part 1 rfl ?_))
    refine RunO.part 1 rfl ?_
    rw [decide_eq_false (show ¬ ((((rows.take (i + 1)).flatten.length : Nat) : Int) < 0) by omega)]
    refine RunO.all rfl (RunC.cond rfl (fun g => by cases g) (fun _ => RunC.skip ?_))
    refine RunC.region (RunO.all rfl ?_)
    exact ⟨d - 1, by omega, i + 1, by omega, rfl, Le.cons (inc64 (by omega)) (Le.cons rfl (Le.cons rfl (Le.cons rfl (Le.cons rfl (Le.nil _)))))⟩
  have hge := of_decide_eq_false hge
  obtain rfl : i = rows.length := by omega
  rw [List.take_length]
  refine RunC.seq (RunC.region (RunO.part 1 rfl ?_))
  refine RunO.callD (grow_ok (n := rows.flatten.length) ht) rfl rfl rfl ?_
  rintro gv h1 ⟨rg, f1⟩
  refine RunO.all rfl ?_
  refine RunC.seq (RunC.seq (RunC.region (RunO.all rfl ?_)))
  refine RunC.block ?_
  refine RunC.loop (fun d E h' => ∃ (i : Nat) (ov : Value), i + d = rows.length ∧ Fr no h h' ∧ Row h.next h' ov 1 (rows.take i).flatten.length (is (rows.take i).flatten) ∧ Le ((upd (upd (upd (upd E0 6 (ov)) 25 (.slice A rows.length c)) 26 (.int .i64 (rows.length : Int))) 27 (.int .i64 (i : Int)))) E) ?st2 (k := rows.length) ?ini2
  case ini2 => exact ⟨0, gv, by omega, f1, rg, Le.cons rfl (Le.cons rfl (Le.cons rfl (Le.cons rfl (Le.nil _))))⟩
  clear rg f1
  rintro d E g1 ⟨i, ov, hi, fg, row, hE⟩
  refine RunC.le hE ?_
  clear hE
  refine RunC.seq (RunC.region (RunO.all rfl ?_))
  refine RunC.seq (RunC.cond rfl (fun hlt => RunC.skip ?go2) (fun hge => RunC.exit ?ex2))
  case ex2 =>
    have hge := of_decide_eq_false hge
    obtain rfl : i = rows.length := by omega
    rw [List.take_length] at row
    refine RunC.seq (RunC.region (RunO.all rfl ?_))
    exact RunC.ret ⟨_, rfl, row, fg⟩
  have hlt := of_decide_eq_true hlt
  have hlt : i < rows.length := by omega
  obtain ⟨w, ew, sw⟩ := k1 i rows[i] (List.getElem?_eq_getElem hlt)
  have hft := flat_take hlt
  have h1 := hle (i + 1)
  rw [hft, List.length_append] at h1
  refine RunC.seq (RunC.block ?_)
  refine RunC.seq (RunC.region ?_)
  refine RunO.at (s := 1) (k := i) rfl rfl (s10.fr0 fg) rfl rfl hlt (rowI_part ew) rfl rfl rfl (RunO.all rfl ?_)
  refine RunC.region (RunO.part 2 rfl ?_)
  refine RunO.appendOs (s := 1) rfl rfl rfl rfl rfl rfl rfl rfl (Nat.le_refl 1) row fg.next (sw.fr0 fg) (allCells_map (f := Value.int .i64) (fun _ => rfl) _) (by show 2 * (_ + _) * 8 ≤ _; omega) (by omega) ?_
  intro ov2 g2 row2 f2
  have hat := fun b g => (row.gr.at (b := b) g).1
  refine RunO.all rfl ?_
  refine RunC.region (RunO.all rfl ?_)
  exact ⟨d - 1, by omega, i + 1, ov2, by omega, fg.trans f2 (fun b g => .inr (hat b g)), by rw [hft, List.length_append, show is ((rows.take i).flatten ++ rows[i]) = is (rows.take i).flatten ++ is rows[i] from List.map_append]; exact row2, Le.cons (inc64 (by omega)) (Le.cons rfl (Le.cons rfl (Le.cons rfl (Le.nil _))))⟩

theorem cloneR_ok {h : Heap} {v : Value} {l : List R8} (sl : Sl h v 8 l.length (recCs l)) (hb : 2 * l.length * 64 ≤ 281474976710656) :
    RunF prog 66 [v] h fun r h' => Gr h.next h' r 8 l.length (recCs l) ∧ Fr no h h' := by
  refine RunF.walk func66 rfl rfl ?_
  refine RunC.seq (RunC.region (RunO.all rfl ?_))
  obtain ⟨hl, hm, ⟨rfl, h0⟩ | ⟨b, o, c, rfl, hc, rd⟩⟩ := sl
  · refine RunC.seq (RunC.seq (RunC.region (RunO.all rfl ?_)))
    refine RunC.cond rfl (fun _ => ?_) (fun g => by cases g)
    exact RunC.seq (RunC.region (RunO.all rfl (RunC.ret ⟨_, rfl, ⟨hl, .inl ⟨rfl, h0⟩⟩, Fr.refl _ _⟩)))
  · refine RunC.seq (RunC.seq (RunC.region (RunO.all rfl ?_)))
    refine RunC.cond rfl (fun g => by cases g) (fun _ => RunC.skip ?_)
    refine RunC.seq (RunC.region (RunO.part 2 (h1 := h.push ⟨[], true⟩) rfl ?_))
    have f1 : Fr no h (h.push ⟨[], true⟩) := Fr.push _ _ _
    have ow : Ow (h.push ⟨[], true⟩) h.next [] := Ow.push _ _
    by_cases hz : l.length = 0
    · have hn : l = [] := List.eq_nil_of_length_eq_zero hz
      subst hn
      have key : aappend prog (h.push ⟨[], true⟩) 36 36 (.slice (some ⟨h.next, 0, none⟩) 0 (exc 0)) (.slice (some ⟨b, o, none⟩) 0 c) = some (.slice (some ⟨h.next, 0, none⟩) 0 (exc 0), h.push ⟨[], true⟩) := by
        have hs : asrc (h.push ⟨[], true⟩) 8 (.slice (some ⟨b, o, none⟩) 0 c) = some (0, []) := ((rd.fr f1 (fun g => g)).sl (s := 8) (n := 0) rfl (Nat.zero_le _) hc).src0
        show (match asrc (h.push ⟨[], true⟩) 8 (.slice (some ⟨b, o, none⟩) 0 c) with
          | some (0, _) => some (Value.slice (some ⟨h.next, 0, none⟩) 0 (exc 0), h.push ⟨[], true⟩)
          | some (m + 1, news) => _
          | none => none) = _
        rw [hs]
      refine RunO.one rfl (v := .slice (some ⟨h.next, 0, none⟩) 0 (exc 0)) (h1 := h.push ⟨[], true⟩) (abuiltin_app key) rfl ?_
      exact RunO.all rfl (RunC.ret ⟨_, rfl, ⟨rfl, .inr ⟨h.next, exc 0, Nat.le_refl _, rfl, .inr rfl, ow⟩⟩, f1⟩)
    · have key := append_full (P := prog) (t := 36) (e := 63) (s := 8) (k := 0) (m := l.length) (c := exc 0) (c' := c) (olds := []) (news := recCs l) (b := ⟨h.next, 0, none⟩) (a := ⟨b, o, none⟩) rfl rfl rfl rfl rfl ((by decide : 1 ≤ 8)) ow.all rfl rfl (by show 0 < 0 + l.length; omega) (rd.fr f1 (fun g => g)) (recCs_len l) (by omega)
        (by show 2 * (0 + l.length) * 64 ≤ _; omega) (by omega)
      rw [Nat.zero_add, List.nil_append] at key
      refine RunO.one rfl (abuiltin_app key) rfl ?_
      refine RunO.all rfl (RunC.ret ⟨_, rfl, ⟨hl, .inr ⟨_, _, Nat.le_succ _, rfl, .inl rfl, Ow.push _ _⟩⟩, f1.same (Fr.push _ _ _)⟩)
theorem recCs_take : ∀ (l : List R8) (i : Nat), (recCs l).take (i * 8) = recCs (l.take i)
  | l, 0 => by rw [Nat.zero_mul]; rfl
  | [], i + 1 => by simp [recCs]
  | x :: l, i + 1 => by
    show (rc8 x ++ recCs l).take ((i + 1) * 8) = rc8 x ++ recCs (l.take i)
    rw [List.take_append, show (i + 1) * 8 - (rc8 x).length = i * 8 by show (i + 1) * 8 - 8 = _; omega, List.take_of_length_le (by show 8 ≤ _; omega), recCs_take l i]
theorem recCs_put {l : List R8} {i : Nat} (x : R8) (h : i < l.length) : (recCs l).take (0 + i * 8) ++ cellsOf (.agg ⟨rc8 x⟩) ++ (recCs l).drop (0 + i * 8 + 8) = recCs (l.set i x) := by
  rw [Nat.zero_add, recCs_take, show i * 8 + 8 = (i + 1) * 8 by omega, recCs_drop, List.set_eq_take_append_cons_drop, if_pos h, recCs_app]
  show recCs (l.take i) ++ rc8 x ++ recCs (l.drop (i + 1)) = recCs (l.take i) ++ (rc8 x ++ recCs (l.drop (i + 1)))
  rw [List.append_assoc]
set_option maxHeartbeats 4000000 in
theorem reverseR_ok {lo : Nat} {h : Heap} {v : Value} {l : List R8} (gr : Gr lo h v 8 l.length (recCs l)) (hm : l.length ≤ 1000000) :
    RunF prog 67 [v] h fun _ h' => Gr lo h' v 8 l.reverse.length (recCs l.reverse) ∧ Fr (At v) h h' := by
  refine RunF.walk func67 rfl rfl ?_
  obtain ⟨hl, ⟨rfl, h0⟩ | ⟨b, c, hb, rfl, hc, ow⟩⟩ := gr
  · have hn : l = [] := List.eq_nil_of_length_eq_zero h0
    subst hn
    refine RunC.seq (RunC.region (RunO.all rfl ?_))
    refine RunC.block ?_
    refine RunC.loop (fun d E h' => h = h' ∧ Le (upd (upd E0 2 (.int .i64 0)) 3 (.int .i64 (-1))) E) ?st0 (k := 0) ?ini0
    case ini0 => exact ⟨rfl, Le.cons rfl (Le.cons rfl (Le.nil _))⟩
    rintro d E _ ⟨rfl, hE⟩
    refine RunC.le hE ?_
    refine RunC.seq (RunC.seq (RunC.region (RunO.all rfl (RunC.cond (t := false) rfl (fun g => by cases g) (fun _ => RunC.exit ?_)))))
    exact ⟨_, rfl, ⟨rfl, .inl ⟨rfl, rfl⟩⟩, Fr.refl _ _⟩
  have hat : At (.slice (some ⟨b, 0, none⟩) l.length c) b := ⟨_, _, rfl⟩
  refine RunC.seq (RunC.region (RunO.part 3 rfl ?_))
  rw [fw64 (x := (l.length : Int) - 1) (by omega) (by omega), show (l.length : Int) - 1 = (l.length : Int) - 1 - ((0 : Nat) : Int) by omega]
  refine RunO.all rfl ?_
  refine RunC.block ?_
  refine RunC.loop (fun d E h' => ∃ (k : Nat) (M : List R8), 2 * k ≤ l.length ∧ l.length ≤ 2 * k + d ∧ Ow h' b (recCs M) ∧ Fr (At (.slice (some ⟨b, 0, none⟩) l.length c)) h h' ∧ M.length = l.length ∧ (∀ j, j < l.length → M[j]? = if j < k ∨ l.length ≤ j + k then l[l.length - 1 - j]? else l[j]?) ∧ Le ((upd (upd (upd E0 0 (.slice (some ⟨b, 0, none⟩) l.length c)) 2 (.int .i64 (k : Int))) 3 (.int .i64 ((l.length : Int) - 1 - (k : Int))))) E) ?st (k := l.length) ?ini
  case ini => exact ⟨0, l, by omega, by omega, ow, Fr.refl _ _, rfl, fun j hj => by rw [if_neg (by omega)], Le.cons rfl (Le.cons rfl (Le.cons rfl (Le.nil _)))⟩
  rintro d E g ⟨k, M, h2, h3, om, fg, hML, hM, hE⟩
  refine RunC.le hE ?_
  clear hE
  refine RunC.seq (RunC.seq (RunC.region (RunO.all rfl ?_)))
  refine RunC.cond rfl (fun hlt => RunC.skip ?go) (fun hge => RunC.exit ?ex)
  case ex =>
    have hge := of_decide_eq_false hge
    have e : M = l.reverse := by
      refine List.ext_getElem? (fun j => ?_)
      by_cases hj : j < l.length
      · rw [hM j hj, List.getElem?_reverse hj]
        by_cases hc : j < k ∨ l.length ≤ j + k
        · rw [if_pos hc]
        · rw [if_neg hc, show l.length - 1 - j = j by omega]
      · rw [List.getElem?_eq_none (by omega), List.getElem?_eq_none (by rw [List.length_reverse]; omega)]
    rw [e] at om
    exact ⟨_, rfl, ⟨recCs_len _, .inr ⟨b, c, hb, by rw [List.length_reverse], by rw [List.length_reverse]; exact hc, om⟩⟩, fg⟩
  have hlt := of_decide_eq_true hlt
  obtain ⟨q, hq⟩ : ∃ q : Nat, (l.length : Int) - 1 - (k : Int) = (q : Int) := Int.eq_ofNat_of_zero_le (by omega)
  rw [hq]
  have hkl : k < M.length := by omega
  have hql : q < M.length := by omega
  have hcm : Cp 8 M.length c := by
    rw [hML]
    rcases hc with e | e
    · rw [e]; exact Cp.unkc _ _
    · rw [e]; exact Cp.exc (Nat.le_refl _)
  have slm : Sl g (.slice (some ⟨b, 0, none⟩) l.length c) 8 M.length (recCs M) := by rw [← hML]; exact om.all.sl (recCs_len M) (by omega) hcm
  rw [hML] at slm
  have e1 := hM k (by omega)
  have e2 := hM q (by omega)
  rw [if_neg (by omega)] at e1 e2
  refine RunC.seq (RunC.block ?_)
  refine RunC.draw0 rfl (RunO.part 6 rfl ?_)
  refine RunO.at (s := 8) (k := q) rfl rfl slm rfl rfl (by omega) (recCs_part hql) rfl rfl rfl ?_
  refine RunO.part 2 rfl ?_
  refine RunO.at (s := 8) (k := k) rfl rfl slm rfl rfl (by omega) (recCs_part hkl) rfl rfl rfl ?_
  refine RunO.index (s := 8) (k := k) rfl rfl rfl rfl (show k < l.length by omega) rfl ?_
  refine RunO.store rfl rfl (store_ow (s := 8) om rfl rfl rfl (by rw [recCs_len]; omega)) ?_
  rw [recCs_put _ hkl]
  have o2 : Ow (g.put b (some ⟨recCs (M.set k M[q]), true⟩)) b (recCs (M.set k M[q])) := Ow.put _ om.1
  have f2 : Fr (At (.slice (some ⟨b, 0, none⟩) l.length c)) g (g.put b (some ⟨recCs (M.set k M[q]), true⟩)) := Fr.put _ (.inl hat)
  refine RunO.index (s := 8) (k := q) rfl rfl rfl rfl (show q < l.length by omega) rfl ?_
  refine RunO.store rfl rfl (store_ow (s := 8) o2 rfl rfl rfl (by rw [recCs_len, List.length_set]; omega)) (RunO.nil ?_)
  rw [recCs_put _ (by rw [List.length_set]; exact hql)]
  have o3 : Ow ((g.put b (some ⟨recCs (M.set k M[q]), true⟩)).put b (some ⟨recCs ((M.set k M[q]).set q M[k]), true⟩)) b (recCs ((M.set k M[q]).set q M[k])) := Ow.put _ o2.1
  have f3 : Fr (At (.slice (some ⟨b, 0, none⟩) l.length c)) (g.put b (some ⟨recCs (M.set k M[q]), true⟩)) ((g.put b (some ⟨recCs (M.set k M[q]), true⟩)).put b (some ⟨recCs ((M.set k M[q]).set q M[k]), true⟩)) := Fr.put _ (.inl hat)
  refine RunC.region (RunO.part 2 rfl ?_)
  rw [fw64 (x := (k : Int) + 1) (by omega) (by omega), show (k : Int) + 1 = ((k + 1 : Nat) : Int) by omega]
  refine RunO.part 2 rfl ?_
  rw [fw64 (x := (q : Int) - 1) (by omega) (by omega), show (q : Int) - 1 = (l.length : Int) - 1 - ((k + 1 : Nat) : Int) by omega]
  refine RunO.all rfl ?_
  refine ⟨d - 2, by omega, k + 1, (M.set k M[q]).set q M[k], by omega, by omega, o3, (fg.same f2).same f3, by rw [List.length_set, List.length_set]; exact hML, fun j hj => ?_, Le.cons rfl (Le.cons rfl (Le.cons rfl (Le.nil _)))⟩
  rw [List.getElem?_set, List.getElem?_set, List.length_set]
  by_cases hjq : q = j
  · subst hjq
    rw [if_pos rfl, if_pos hql, if_pos (by omega), show l.length - 1 - q = k by omega, ← e1, List.getElem?_eq_getElem hkl]
  · rw [if_neg hjq]
    by_cases hjk : k = j
    · subst hjk
      rw [if_pos rfl, if_pos hkl, if_pos (by omega), show l.length - 1 - k = q by omega, ← e2, List.getElem?_eq_getElem hql]
    · rw [if_neg hjk, hM j hj]
      by_cases hcd : j < k ∨ l.length ≤ j + k
      · rw [if_pos hcd, if_pos (by omega)]
      · rw [if_neg hcd, if_neg (by omega)]
end Go.Proofs.Ytcbakhanpiemhaa
end
section
set_option linter.unusedVariables false
set_option linter.unusedSectionVars false
set_option maxRecDepth 100000
open Go Go.Am Go.RowKit
namespace Go.Proofs.Ytcbakhanpiemhaa
open Go.Proofs.Try

/- Steps in a growing slice, of any data. -/
def IoW (lo : Nat) (h : Heap) (lv : Value) (l : List IoT) : Prop := ∃ acs, Row lo h lv 3 l.length acs ∧ ∀ (j : Nat) (x : IoT), l[j]? = some x → ∃ dv, (acs.drop (j * 3)).take 3 = [.int .i64 x.1, .int .i64 x.2.1, dv] ∧ Sl h dv 1 x.2.2.1.length (us x.2.2.1) ∧ Byt x.2.2.1 ∧ ∀ b o c, dv = .slice (some ⟨b, o, none⟩) x.2.2.1.length c → ¬ At lv b
theorem IoW.fr0 {lo : Nat} {h h' : Heap} {lv : Value} {l : List IoT} (r : IoW lo h lv l) (f : Fr no h h') : IoW lo h' lv l := by
  obtain ⟨acs, h1, h2⟩ := r
  refine ⟨acs, h1.fr f (fun _ _ _ g => g), fun j x hx => ?_⟩
  obtain ⟨dv, e, sd, hd⟩ := h2 j x hx
  exact ⟨dv, e, sd.fr0 f, hd⟩
theorem IoW.at {lo : Nat} {h : Heap} {lv : Value} {l : List IoT} (r : IoW lo h lv l) {b : Nat} (g : At lv b) : lo ≤ b ∧ b < h.next := by
  obtain ⟨acs, h1, _⟩ := r
  exact h1.at g
theorem IoW.nil (lo : Nat) (h : Heap) : IoW lo h (.slice none 0 0) [] := ⟨[], Row.nil lo h 3, fun j x hx => by cases hx⟩
theorem IoW.ios {lo : Nat} {h : Heap} {lv : Value} {l : List IoT} (r : IoW lo h lv l) (hl : l.length ≤ 9223372036854775807) : Ios h lv l := by
  obtain ⟨acs, h1, h2⟩ := r
  refine ⟨acs, h1.sl hl, fun j x hx => ?_⟩
  obtain ⟨dv, e, sd, hb, _⟩ := h2 j x hx
  exact ⟨dv, e, sd, hb⟩
theorem IoW.app {lo : Nat} {h h' : Heap} {lv lv' : Value} {l ys : List IoT} {acs news : List Value} (row : Row lo h lv 3 l.length acs)
    (k : ∀ (j : Nat) (x : IoT), l[j]? = some x → ∃ dv, (acs.drop (j * 3)).take 3 = [.int .i64 x.1, .int .i64 x.2.1, dv] ∧ Sl h dv 1 x.2.2.1.length (us x.2.2.1) ∧ Byt x.2.2.1 ∧ ∀ b o c, dv = .slice (some ⟨b, o, none⟩) x.2.2.1.length c → ¬ At lv b)
    (hn : news.length = ys.length * 3)
    (k2 : ∀ (j : Nat) (x : IoT), ys[j]? = some x → ∃ dv, (news.drop (j * 3)).take 3 = [.int .i64 x.1, .int .i64 x.2.1, dv] ∧ Sl h dv 1 x.2.2.1.length (us x.2.2.1) ∧ Byt x.2.2.1 ∧ ∀ b o c, dv = .slice (some ⟨b, o, none⟩) x.2.2.1.length c → ¬ At lv b)
    (row' : Row h.next h' lv' 3 (l.length + ys.length) (acs ++ news)) (f : Fr (At lv) h h') (hlo : lo ≤ h.next) : IoW lo h' lv' (l ++ ys) := by
  have hl : acs.length = l.length * 3 := row.1
  have hnew : ∀ (y : List Int) (u : Value), Sl h u 1 y.length (us y) → ∀ b o c, u = .slice (some ⟨b, o, none⟩) y.length c → ¬ At lv' b := fun y u su b o c e a => by
    have h1 := su.lt b o c e
    have h2 := (row'.at a).1
    omega
  refine ⟨_, by rw [List.length_append]; exact Row.lo row' hlo, fun j y hy => ?_⟩
  by_cases hj : j < l.length
  · rw [List.getElem?_append_left hj] at hy
    obtain ⟨u, e, su, hb, hu⟩ := k j y hy
    refine ⟨u, ?_, su.frm hu f, hb, hnew _ u su⟩
    rw [List.drop_append_of_le_length (by omega), List.take_append_of_le_length (by rw [List.length_drop]; omega)]
    exact e
  · rw [List.getElem?_append_right (by omega)] at hy
    have hj2 := (List.getElem?_eq_some_iff.1 hy).1
    obtain ⟨u, e, su, hb, hu⟩ := k2 _ y hy
    refine ⟨u, ?_, su.frm hu f, hb, hnew _ u su⟩
    rw [List.drop_append, List.drop_eq_nil_of_le (by omega), List.nil_append, show j * 3 - acs.length = (j - l.length) * 3 by rw [hl, Nat.sub_mul]]
    exact e
def placeB (a : Int) : Bool := decide (a ≥ 2) && decide (a < 4096)
theorem place_ok {h : Heap} {a : Int} : RunF prog 104 [.int .i64 a] h fun v h' => v = .bool (placeB a) ∧ Fr no h h' := by
  refine RunF.walk func104 rfl rfl ?_
  refine RunC.seq (RunC.region (RunO.all rfl ?_))
  refine RunC.seq (RunC.region (RunO.part 3 rfl ?_))
  unfold placeB
  cases decide (a ≥ 2) with
  | true => exact RunO.all rfl (RunC.ret ⟨_, rfl, rfl, Fr.refl _ _⟩)
  | false => exact RunO.all rfl (RunC.ret ⟨_, rfl, rfl, Fr.refl _ _⟩)
theorem mayRec_ok {h : Heap} {r : R8} (hr : r8Ok r = true) : RunF prog 101 [.agg ⟨rc8 r⟩] h fun v h' => v = .bool false ∧ Fr no h h' := by
  refine RunF.walk func101 rfl rfl ?_
  refine RunC.seq (RunC.region (RunO.all (h1 := h.push ⟨rc8 r, true⟩) rfl ?_))
  have oq := Ow.push h (rc8 r)
  have f1 : Fr no h (h.push ⟨rc8 r, true⟩) := Fr.push _ _ _
  generalize h.push ⟨rc8 r, true⟩ = h1 at *
  generalize h.next = p at *
  refine RunC.seq (RunC.region ?_)
  refine RunO.load (v := .agg ⟨rc8 r⟩) rfl (oq.ld rfl) rfl ?_
  refine RunO.callD (recCheck_ok (n := r.nx) (id := r.id) (pa := r.pa) (ro := r.ro) (sz := r.sz) (ki := r.ki) (fr := r.fr) (di := r.di)) rfl rfl rfl ?_
  have hr : recOk r.nx r.id r.pa r.ro r.sz r.ki r.fr r.di = true := hr
  rw [hr]
  rintro _ h2 ⟨rfl, f2⟩
  exact RunO.all rfl (RunC.ret ⟨_, rfl, rfl, f1.same f2⟩)
theorem mayPlace_ok {h : Heap} {a : Int} (ha : placeB a = true) : RunF prog 103 [.int .i64 a] h fun v h' => v = .bool false ∧ Fr no h h' := by
  refine RunF.walk func103 rfl rfl ?_
  refine RunC.seq (RunC.region (RunO.all rfl ?_))
  refine RunC.seq (RunC.region (RunO.part 1 rfl ?_))
  refine RunO.callD place_ok rfl rfl rfl ?_
  rw [ha]
  rintro _ h2 ⟨rfl, f2⟩
  exact RunO.all rfl (RunC.ret ⟨_, rfl, rfl, f2⟩)
def nx0 (x : R8) (a : Int) : R8 := ⟨a, x.id, x.pa, x.ro, x.sz, x.ki, x.fr, x.di⟩
structure MayOk (old : List R8) (bl : List Int) (n : Nat) (x : R8) (w : Bool) (free : List Int) : Prop where
  len : old.length = bl.length
  le : n ≤ old.length
  ok : ∀ r ∈ old, r8Ok r = true
  fst : w = true → r8Ok (nx0 x 0) = true
  pl : ∀ a ∈ bl, placeB a = true
  pf : ∀ a ∈ free, placeB a = true
  up : ∀ i, i + 1 < free.length → free.getD i 0 < free.getD (i + 1) 0
  lo : old.length ≤ 10000
  lf : free.length ≤ 10000
set_option maxHeartbeats 16000000 in
theorem may_ok {h : Heap} {ov bv fv : Value} {old : List R8} {bl free : List Int} {n : Nat} {x : R8} {w : Bool} (so : Sl h ov 8 old.length (recCs old)) (sb : Sl h bv 1 bl.length (is bl)) (sf : Sl h fv 1 free.length (is free)) (m : MayOk old bl n x w free) :
    RunF prog 65 [ov, bv, .int .i64 (n : Int), .agg ⟨rc8 x⟩, .bool w, fv] h fun v h' => v = .bool true ∧ Fr no h h' := by
  refine RunF.walk func65 rfl rfl ?_
  have hlo := m.lo
  have hlf := m.lf
  have hlb := m.len
  have hle := m.le
  have so0 := so
  have sb0 := sb
  have sf0 := sf
  obtain ⟨oA, oc, rfl, _, _⟩ := so.form
  obtain ⟨bA, bc, rfl, _, _⟩ := sb.form
  obtain ⟨fA, fc, rfl, _, _⟩ := sf.form
  refine RunC.seq (RunC.region (RunO.all (h1 := h.push ⟨rc8 x, true⟩) rfl ?_))
  have oq := Ow.push h (rc8 x)
  have f1 : Fr no h (h.push ⟨rc8 x, true⟩) := Fr.push _ _ _
  generalize h.push ⟨rc8 x, true⟩ = h1 at *
  obtain ⟨qb, hqb⟩ : ∃ q, q = h.next := ⟨_, rfl⟩
  rw [← hqb] at oq ⊢
  refine RunC.seq (RunC.region (RunO.part 1 rfl ?_))
  refine RunO.store rfl rfl (store1_ow oq rfl rfl rfl (Nat.le_of_ble_eq_true rfl)) (RunO.nil ?_)
  have o2 : Ow (h1.put qb (some ⟨rc8 (nx0 x 0), true⟩)) qb (rc8 (nx0 x 0)) := Ow.put _ oq.1
  have f2 : Fr no h (h1.put qb (some ⟨rc8 (nx0 x 0), true⟩)) := f1.trans (Fr.put (m := (· = qb)) _ (.inl rfl)) (fun b e => .inr (by have e : b = qb := e; omega))
  show RunC prog _ _ _ (h1.put qb (some ⟨rc8 (nx0 x 0), true⟩)) _ _ _
  generalize h1.put qb (some ⟨rc8 (nx0 x 0), true⟩) = h2 at *
  refine RunC.seqc (fun E' h' => Fr no h h' ∧ Le (upd (upd (upd (upd E0 0 (.slice oA old.length oc)) 1 (.slice bA bl.length bc)) 5 (.slice fA free.length fc)) 13 (.bool false)) E') ?r2 ?r3
  case r2 =>
    refine RunC.region (RunO.part 5 rfl ?_)
    rw [show ((old.length : Int) != (bl.length : Int)) = false from by rw [hlb]; exact bne_self_eq_false _]
    refine RunO.part 3 rfl ?_
    rw [decide_eq_false (show ¬ ((n : Int) < 0) by omega)]
    refine RunO.part 6 rfl ?_
    rw [decide_eq_false (show ¬ ((n : Int) > (old.length : Int)) by omega)]
    refine RunO.part 2 rfl ?_
    cases w with
    | false => exact RunO.all rfl ⟨f2, Le.cons rfl (Le.cons rfl (Le.cons rfl (Le.cons rfl (Le.nil _))))⟩
    | true =>
      have hr : recOk 0 x.id x.pa x.ro x.sz x.ki x.fr x.di = true := m.fst rfl
      refine RunO.part 2 rfl ?_
      refine RunO.loadG (v := .agg ⟨rc8 (nx0 x 0)⟩) rfl rfl (o2.ld rfl) rfl ?_
      refine RunO.callDG rfl (recCheck_ok (n := 0) (id := x.id) (pa := x.pa) (ro := x.ro) (sz := x.sz) (ki := x.ki) (fr := x.fr) (di := x.di)) rfl rfl rfl ?_
      rw [hr]
      rintro _ h3 ⟨rfl, f3⟩
      exact RunO.all rfl ⟨f2.same f3, Le.cons rfl (Le.cons rfl (Le.cons rfl (Le.cons rfl (Le.nil _))))⟩
  rintro E' h3 ⟨f3, hE⟩
  refine RunC.le hE ?_
  clear hE
  refine RunC.seq (RunC.region (RunO.part 3 rfl ?_))
  have key := containsRec_ok (so0.fr0 f3) (u := fun j => .agg ⟨rc8 (old.getD j ⟨0, 0, 0, 0, 0, 0, 0, 0⟩)⟩) (fun j hj => by rw [recCs_part hj, List.getD_eq_getElem?_getD, List.getElem?_eq_getElem hj]; rfl) (g := 101) (cap := []) (p := fun _ => false) (fun j hj h1 _ => mayRec_ok (m.ok _ (by rw [List.getD_eq_getElem?_getD, List.getElem?_eq_getElem hj]; exact List.getElem_mem hj))) (by omega)
  refine RunO.callDG rfl key rfl rfl rfl ?_
  rw [anyI_false (fun _ _ => rfl)]
  rintro _ h4 ⟨rfl, f4⟩
  refine RunO.all rfl ?_
  refine RunC.seq (RunC.region (RunO.part 5 (h1 := h4.push ⟨[.slice bA bl.length bc, .slice fA free.length fc], true⟩) rfl ?_))
  have ol := Ow.push h4 [.slice bA bl.length bc, .slice fA free.length fc]
  have f5 : Fr no h4 (h4.push ⟨[.slice bA bl.length bc, .slice fA free.length fc], true⟩) := Fr.push _ _ _
  generalize h4.push ⟨[.slice bA bl.length bc, .slice fA free.length fc], true⟩ = h5 at *
  generalize h4.next = lb at *
  have F5 := (f3.same f4).same f5
  have hrw : RwsI h5 (.slice (some ⟨lb, 0, none⟩) 2 (exc 2)) [bl, free] := ⟨_, ol.all.sl (s := 1) rfl (by decide) (Cp.exc (Nat.le_refl _)), fun j y hy => by
    match j, hy with
    | 0, hy => cases hy; exact ⟨_, rfl, sb0.fr0 F5⟩
    | 1, hy => cases hy; exact ⟨_, rfl, sf0.fr0 F5⟩
    | j + 2, hy => simp at hy⟩
  have hfl : [bl, free].flatten = bl ++ free := by simp
  have hcc := concat_ok hrw (by show 2 ≤ 1000; decide) (by rw [hfl, List.length_append]; omega)
  rw [hfl] at hcc
  refine RunO.callDG rfl hcc rfl rfl rfl ?_
  rintro cv h6 ⟨rc_, f6⟩
  have scv := rc_.sl (by rw [List.length_append]; omega)
  have key2 := containsI_ok scv (u := fun j => .int .i64 ((bl ++ free).getD j 0)) (fun j hj => by rw [is_part hj, List.getD_eq_getElem?_getD, List.getElem?_eq_getElem hj]; rfl) (g := 103) (cap := []) (p := fun _ => false) (fun j hj h1 _ => mayPlace_ok (by
    have hm : (bl ++ free).getD j 0 ∈ bl ++ free := by rw [List.getD_eq_getElem?_getD, List.getElem?_eq_getElem hj]; exact List.getElem_mem hj
    rcases List.mem_append.1 hm with g | g
    · exact m.pl _ g
    · exact m.pf _ g)) (by rw [List.length_append]; omega)
  refine RunO.callDG rfl key2 rfl rfl rfl ?_
  rw [anyI_false (fun _ _ => rfl)]
  rintro _ h7 ⟨rfl, f7⟩
  have F7 := (F5.same f6).same f7
  refine RunO.all rfl ?_
  refine RunC.seq (RunC.seq (RunC.region (RunO.all rfl ?_)))
  refine RunC.block ?_
  refine RunC.loop (fun d E h' => ∃ i : Nat, i + d = free.length ∧ h7 = h' ∧ Le ((upd (upd (upd (upd E0 5 (.slice fA free.length fc)) 13 (.bool false)) 53 (.int .i64 (free.length : Int))) 54 (.int .i64 (i : Int)))) E) ?st (k := free.length) ?ini
  case ini => exact ⟨0, by omega, rfl, Le.cons rfl (Le.cons rfl (Le.cons rfl (Le.cons rfl (Le.nil _))))⟩
  rintro d E _ ⟨i, hi, rfl, hE⟩
  refine RunC.le hE ?_
  clear hE
  refine RunC.seq (RunC.region (RunO.all rfl ?_))
  refine RunC.seq (RunC.cond rfl (fun hlt => RunC.skip ?go) (fun hge => RunC.exit ?ex))
  case ex =>
    refine RunC.seq (RunC.region (RunO.all rfl ?_))
    exact RunC.ret ⟨_, rfl, rfl, F7⟩
  have hlt := of_decide_eq_true hlt
  have hlt : i < free.length := by omega
  have sf7 := sf0.fr0 F7
  refine RunC.seq (RunC.block ?_)
  refine RunC.seq (RunC.region (RunO.all rfl ?_))
  refine RunC.draw0 rfl (RunO.part 3 rfl ?_)
  refine RunO.part 1 rfl ?_
  by_cases h0 : (i : Int) > 0
  · rw [decide_eq_true h0]
    refine RunO.part 4 rfl ?_
    obtain ⟨k, rfl⟩ : ∃ k, i = k + 1 := ⟨i - 1, by omega⟩
    have hup := m.up k hlt
    rw [fw64 (x := ((k + 1 : Nat) : Int) - 1) (by omega) (by omega), show ((k + 1 : Nat) : Int) - 1 = (k : Int) by omega]
    have hk : k < free.length := by omega
    rw [List.getD_eq_getElem?_getD, List.getElem?_eq_getElem hk, List.getD_eq_getElem?_getD, List.getElem?_eq_getElem hlt] at hup
    have hup : free[k] < free[k + 1] := hup
    refine RunO.atG (s := 1) (k := k) rfl (fun _ => rfl) rfl rfl sf7 rfl rfl hk (is_part hk) rfl rfl rfl ?_
    refine RunO.part 2 rfl ?_
    refine RunO.atG (s := 1) (k := k + 1) rfl (fun _ => rfl) rfl rfl sf7 rfl rfl hlt (is_part hlt) rfl rfl rfl ?_
    refine RunO.part 1 rfl ?_
    rw [decide_eq_false (show ¬ (free[k] ≥ free[k + 1]) by omega)]
    refine RunO.all rfl ?_
    refine RunC.region (RunO.all rfl ?_)
    exact ⟨d - 1, by omega, k + 1 + 1, by omega, rfl, Le.cons (inc64 (by omega)) (Le.cons rfl (Le.cons rfl (Le.cons rfl (Le.nil _))))⟩
  · rw [decide_eq_false h0]
    refine RunO.all rfl ?_
    refine RunC.region (RunO.all rfl ?_)
    exact ⟨d - 1, by omega, i + 1, by omega, rfl, Le.cons (inc64 (by omega)) (Le.cons rfl (Le.cons rfl (Le.cons rfl (Le.nil _))))⟩
end Go.Proofs.Ytcbakhanpiemhaa
end
section
set_option linter.unusedVariables false
set_option linter.unusedSectionVars false
set_option maxRecDepth 100000
open Go Go.Am Go.RowKit
namespace Go.Proofs.Ytcbakhanpiemhaa
open Go.Proofs.Try
/-- Whole numbers of an int. -/
def In64 (x : Int) : Prop := -9223372036854775808 ≤ x ∧ x ≤ 9223372036854775807
theorem cells_of {α : Type} {k : Nat} (g : α → List Value) (hk : 1 ≤ k) : ∀ (q : List α) (acs : List Value), acs.length = q.length * k → (∀ (j : Nat) (y : α), q[j]? = some y → (acs.drop (j * k)).take k = g y) → acs = q.flatMap g
  | [], acs, h, _ => by
    have : acs.length = 0 := by rw [h]; simp
    rw [List.length_eq_zero_iff.1 this]; rfl
  | y :: q, acs, h, H => by
    have h0 := H 0 y rfl
    rw [Nat.zero_mul, List.drop_zero] at h0
    rw [List.flatMap_cons, ← h0, ← cells_of g hk q (acs.drop k) (by rw [List.length_drop, h, List.length_cons, Nat.add_mul]; omega) (fun j z hz => by
      have := H (j + 1) z (by simpa using hz)
      rw [show (j + 1) * k = k + j * k by rw [Nat.add_mul]; omega, ← List.drop_drop] at this
      exact this)]
    exact (List.take_append_drop k acs).symm
abbrev I8 : Sh := .int .i64
abbrev ShS5 : Sh := .pair I8 (.pair I8 (.pair I8 (.pair I8 (.pair I8 .unit))))
abbrev ShR8 : Sh := .pair I8 (.pair I8 (.pair I8 (.pair I8 (.pair I8 (.pair I8 (.pair I8 (.pair I8 .unit)))))))
abbrev ShState : Sh := .pair ShS5 (.pair I8 (.pair (.slice ShR8) .unit))
def r8Of (y : ShR8.T) : R8 := ⟨y.1, y.2.1, y.2.2.1, y.2.2.2.1, y.2.2.2.2.1, y.2.2.2.2.2.1, y.2.2.2.2.2.2.1, y.2.2.2.2.2.2.2.1⟩
def R8In (r : R8) : Prop := In64 r.nx ∧ In64 r.id ∧ In64 r.pa ∧ In64 r.ro ∧ In64 r.sz ∧ In64 r.ki ∧ In64 r.fr ∧ In64 r.di
def S5In (s : S5) : Prop := In64 s.1 ∧ In64 s.2.1 ∧ In64 s.2.2.1 ∧ In64 s.2.2.2.1 ∧ In64 s.2.2.2.2
theorem r8K {h : Heap} {y : ShR8.T} {cs : List Value} (k : ShR8.K h y cs) : cs = rc8 (r8Of y) ∧ R8In (r8Of y) := by
  obtain ⟨c1, d1, rfl, _, _, ⟨rfl, w1⟩, c2, d2, rfl, _, _, ⟨rfl, w2⟩, c3, d3, rfl, _, _, ⟨rfl, w3⟩, c4, d4, rfl, _, _, ⟨rfl, w4⟩, c5, d5, rfl, _, _, ⟨rfl, w5⟩, c6, d6, rfl, _, _, ⟨rfl, w6⟩, c7, d7, rfl, _, _, ⟨rfl, w7⟩, c8, d8, rfl, _, _, ⟨rfl, w8⟩, e⟩ := k
  have e : d8 = [] := e
  subst e
  exact ⟨rfl, wf_i64 w1, wf_i64 w2, wf_i64 w3, wf_i64 w4, wf_i64 w5, wf_i64 w6, wf_i64 w7, wf_i64 w8⟩
theorem s5K {h : Heap} {y : ShS5.T} {cs : List Value} (k : ShS5.K h y cs) : cs = sc5 (y.1, y.2.1, y.2.2.1, y.2.2.2.1, y.2.2.2.2.1) ∧ S5In (y.1, y.2.1, y.2.2.1, y.2.2.2.1, y.2.2.2.2.1) := by
  obtain ⟨c1, d1, rfl, _, _, ⟨rfl, w1⟩, c2, d2, rfl, _, _, ⟨rfl, w2⟩, c3, d3, rfl, _, _, ⟨rfl, w3⟩, c4, d4, rfl, _, _, ⟨rfl, w4⟩, c5, d5, rfl, _, _, ⟨rfl, w5⟩, e⟩ := k
  have e : d5 = [] := e
  subst e
  exact ⟨rfl, wf_i64 w1, wf_i64 w2, wf_i64 w3, wf_i64 w4, wf_i64 w5⟩
theorem slRecsK {h : Heap} {q : List ShR8.T} {cs : List Value} (k : (Sh.slice ShR8).K h q cs) : ∃ v, cs = [v] ∧ Sl h v 8 (q.map r8Of).length (recCs (q.map r8Of)) ∧ ∀ r ∈ q.map r8Of, R8In r := by
  obtain ⟨v, acs, h3, hs, H⟩ := k
  have hs : Sl h v 8 q.length acs := hs
  have H : ∀ (j : Nat) (y : ShR8.T), q[j]? = some y → ShR8.K h y ((acs.drop (j * 8)).take 8) := fun j y hy => H j y ((nth_eq q j).trans hy)
  refine ⟨v, h3, ?_, ?_⟩
  · have e := cells_of (k := 8) (fun y => rc8 (r8Of y)) (by decide) q acs hs.1 (fun j y hy => (r8K (H j y hy)).1)
    have e2 : recCs (q.map r8Of) = q.flatMap (fun y => rc8 (r8Of y)) := by unfold recCs; rw [List.flatMap_map]
    rw [List.length_map, e2, ← e]
    exact hs
  · intro r hr
    obtain ⟨y, hy, rfl⟩ := List.mem_map.1 hr
    obtain ⟨j, hj, e⟩ := List.mem_iff_getElem.1 hy
    exact (r8K (H j y (by rw [List.getElem?_eq_getElem hj, e]))).2
theorem argState {l : List Sh} {h : Heap} {x : ArgsT (ShState :: l)} {vs : List Value} (a : ArgsK (ShState :: l) h x vs) :
    ∃ (s : S5) (slot : Int) (rs : List R8) (r : ArgsT l) (rv : Value) (vr : List Value), vs = .agg ⟨stc s slot rv⟩ :: vr ∧ Sl h rv 8 rs.length (recCs rs) ∧ S5In s ∧ In64 slot ∧ (∀ r ∈ rs, R8In r) ∧ ArgsK l h r vr := by
  obtain ⟨v, vr, rfl, h1, h2⟩ := a
  obtain ⟨cs, rfl, k⟩ : ∃ cs, v = .agg ⟨cs⟩ ∧ ShState.K h x.1 cs := h1
  obtain ⟨c1, d1, rfl, _, _, k1, c2, d2, rfl, _, _, ⟨rfl, w2⟩, c3, d3, rfl, _, _, k3, e⟩ := k
  have e : d3 = [] := e
  subst e
  obtain ⟨rfl, w1⟩ := s5K k1
  obtain ⟨rv, rfl, sl, w3⟩ := slRecsK k3
  exact ⟨_, _, _, x.2, rv, vr, rfl, sl, w1, wf_i64 w2, w3, h2⟩
end Go.Proofs.Ytcbakhanpiemhaa
end
section
set_option linter.unusedVariables false
open Go Go.Am Go.RowKit
namespace Go.Am
section
variable {P : Program} {n : Nat} {ops rest : List Oper} {m : Nat → Prop} {E E1 : Env} {h h1 : Heap} {Q : Env → Heap → Prop}
theorem RunT.new {o : Oper} {v : Value} {ob : AObj} (g : ewanted ops E o = some true) (e : eop P E o (h.lo h.next) = some (v, (h.lo h.next).push ob)) (hf : ∀ q, fpE E o q = some .none) (p : eput n E o.dst v = some E1)
    (r : RunT P n ops rest m E1 (h.push ob) Q) : RunT P n ops (o :: rest) m E h Q := by
  refine RunT.oneG (f := .none) g e hf (Fr.push _ _ _) p ?_
  exact RunT.lo (x := ((h.lo h.next).push ob).low) (h := h.push ob) r
theorem RunT.pure {o : Oper} {v : Value} (g : ewanted ops E o = some true) (e : eop P E o (h.lo h.next) = some (v, h.lo h.next)) (hf : ∀ q, fpE E o q = some .none) (p : eput n E o.dst v = some E1) (r : RunT P n ops rest m E1 h Q) : RunT P n ops (o :: rest) m E h Q :=
  RunT.oneG (f := .none) g e hf (Fr.refl _ _) p (RunT.lo r)
theorem RunT.appendG {d : Tmp} {t ty e : TypeId} {x y : Operand} {pos : String} {after : Array Edge} {gd : Option (Nat × Bool)} {i : TypeInfo} {z : Value} {lo s k j c' : Nat} {xv : Value} {cells news : List Value} {a : Addr}
    (hw : ewanted ops E ⟨some d, .call ⟨.builtin .append, #[x, y], #[t, t]⟩, ty, pos, after, gd⟩ = some true) (hx : gE E x = some xv) (hy : gE E y = some (.slice (some a) j c')) (hd : Nat.ble (Nat.succ d) n = true)
    (hu : P.underlying t = some (.slice e)) (hi : P.info? e = some i) (hz : zeroOf P e = some z) (hlz : lenIs (cellsOf z) i.size = true) (hs : i.size = s) (hs1 : 1 ≤ s) (row : Gr lo h xv s k cells)
    (rd : Rd h a news) (hn : news.length = j * s) (hm : 1 ≤ j) (ha : allCells news = true) (hb : 2 * (k + j) * i.bytes ≤ 281474976710656) (hb2 : k + j ≤ 9223372036854775807) (hmm : ∀ b, At xv b → m b)
    (r : ∀ v' h', Row h.next h' v' s (k + j) (cells ++ news) → Fr (At xv) h h' → RunT P n ops rest m (upd E d v') h' Q) : RunT P n ops (⟨some d, .call ⟨.builtin .append, #[x, y], #[t, t]⟩, ty, pos, after, gd⟩ :: rest) m E h Q := by
  obtain ⟨v', h', h1, h2, h3⟩ := append_gr (h := h.lo h.next) (c' := c') hu hi hz hlz hs hs1 row rd hn hm ha hb hb2
  refine RunT.oneG (v := v') (f := .wr (idsOf [xv, .slice (some a) j c'])) (h1 := h') (E1 := upd E d v') hw ?_ ?_ (h3.weak (fun b g => .inl (hmm b g))) (by simp only [eput, hd, cond_true]) (r v' h' h2 ?_)
  · simp only [eop, gs, hx, hy, abuiltin, h1]
  · intro q; simp only [fpE, gs, hx, hy, Array.toList]
  · exact ⟨h3.next, h3.get, fun l a b c => h3.low l b b c⟩
end
end Go.Am
end
section
set_option linter.unusedVariables false
namespace Go.Am
open Go.RowKit
section
variable {P : Program} {n : Nat} {ops rest : List Oper} {E E1 : Env} {h h1 : Heap} {Q : Env → Heap → Prop}
/-- A constant string's bytes, turned to their own type. -/
theorem RunO.mark {d : Tmp} {t ty e : TypeId} {x : Operand} {pos : String} {after : Array Edge} {b off k c : Nat} {cells : List Value}
    (hx : gE E x = some (.slice (some ⟨b, off, none⟩) k c)) (hc : isUnk c = false) (hu : P.underlying t = some (.slice e)) (he : P.underlying e = some (.int .u8)) (ow : Ow h b cells) (hn : ∃ y l, cells = y :: l) (hd : Nat.ble (Nat.succ d) n = true)
    (r : ∀ h', Ow h' b cells → Fr (· = b) h h' → RunO P n ops rest (upd E d (.slice (some ⟨b, off, none⟩) k c)) h' Q) : RunO P n ops (⟨some d, .convert t t x, ty, pos, after, none⟩ :: rest) E h Q := by
  obtain ⟨y, l, rfl⟩ := hn
  have e1 : aconvert P t t (.slice (some ⟨b, off, none⟩) k c) = none := by simp only [aconvert, hu]
  have e2 : amark P h t t (.slice (some ⟨b, off, none⟩) k c) = some (.slice (some ⟨b, off, none⟩) k c, h.put b (some ⟨y :: l, true⟩)) := by
    simp only [amark, Nat.beq_refl, cond_true, hc, cond_false, hu, he, ow.2]
  refine RunO.one (v := .slice (some ⟨b, off, none⟩) k c) (h1 := h.put b (some ⟨y :: l, true⟩)) rfl ?_ (by simp only [eput, hd, cond_true]) (r _ (Ow.put _ ow.1) (Fr.put _ (.inl rfl)))
  simp only [eop, hx, e1, e2]
end
theorem Row.lo2 {lo lo2 : Nat} {h : Heap} {v : Value} {s n : Nat} {cells : List Value} (r : Row lo h v s n cells) (hl : lo2 ≤ lo) : Row lo2 h v s n cells :=
  ⟨r.1, r.2.imp (fun x => x) (fun ⟨b, h1, h2⟩ => ⟨b, Nat.le_trans hl h1, h2⟩)⟩
end Go.Am
namespace Go.Am
open Go.RowKit
section
variable {P : Program} {n : Nat} {ops rest : List Oper} {E E1 : Env} {h h1 : Heap} {Q : Env → Heap → Prop}
/-- A field of an element looked at, in a region that draws its order. -/
theorem RunQ.fld {d d2 d3 : Tmp} {t ty ty2 ty3 e st : TypeId} {x i : Operand} {f : Nat} {pos pos2 pos3 : String} {after after2 after3 : Array Edge} {gd gd2 gd3 : Option (Nat × Bool)} {v : Value} {m s k off : Nat} {ik : IntKind} {cells : List Value} {u : Value}
    (hw : ewanted ops E ⟨some d, .indexAddr t x i, ty, pos, after, gd⟩ = some true) (hw2 : ∀ p, ewanted ops (upd E d (.pointer p)) ⟨some d2, .fieldAddr st (.tmp d) f, ty2, pos2, after2, gd2⟩ = some true) (hw3 : ∀ p q, ewanted ops (upd (upd E d (.pointer p)) d2 (.pointer q)) ⟨some d3, .load e (.tmp d2), ty3, pos3, after3, gd3⟩ = some true)
    (hx : gE E x = some v) (hi : gE E i = some (.int ik (k : Int))) (sl : Sl h v s m cells) (hu : P.underlying t = some (.slice st)) (hs : sizeOf P st = some s) (hk : k < m)
    (hf : ∀ b o, afieldAddr P st (.pointer (some ⟨b, o, none⟩)) f = some (.pointer (some ⟨b, o + off, none⟩))) (hv : apart P e cells (k * s + off) = some u)
    (hd : Nat.ble (Nat.succ d) n = true) (hd2 : Nat.ble (Nat.succ d2) n = true) (hd3 : Nat.ble (Nat.succ d3) n = true) (hE : E d = none) (hE2 : E d2 = none)
    (r : RunQ P n ops rest (upd E d3 u) h Q) : RunQ P n ops (⟨some d, .indexAddr t x i, ty, pos, after, gd⟩ :: ⟨some d2, .fieldAddr st (.tmp d) f, ty2, pos2, after2, gd2⟩ :: ⟨some d3, .load e (.tmp d2), ty3, pos3, after3, gd3⟩ :: rest) E h Q := by
  obtain ⟨b, o, c, rfl, hc, rd⟩ := sl.nz (by omega)
  refine RunQ.index hw hx hi hu hs hk hd ?_
  have hg : gE (upd E d (.pointer (some ⟨b, o + k * s, none⟩))) (.tmp d) = some (.pointer (some ⟨b, o + k * s, none⟩)) := by show upd E d _ d = _; unfold upd; rw [Nat.beq_refl]; rfl
  refine RunQ.oneG (v := .pointer (some ⟨b, o + k * s + off, none⟩)) (f := .none) (h1 := h.lo h.next) (E1 := upd (upd E d (.pointer (some ⟨b, o + k * s, none⟩))) d2 (.pointer (some ⟨b, o + k * s + off, none⟩))) (hw2 _) ?_ (fun _ => rfl) rfl (Fr.refl _ _) (by simp only [eput, hd2, cond_true]) (RunQ.lo ?_)
  · have := hf b (o + k * s)
    simp only [eop, hg, this]
    rfl
  have hv' : aload P h e ⟨b, o + k * s + off, none⟩ = some u := by
    have := rd.part hv
    rw [← Nat.add_assoc] at this
    exact this
  refine RunQ.load (v := u) (a := ⟨b, o + k * s + off, none⟩) (hw3 _ _) (by show upd _ d2 _ d2 = _; unfold upd; rw [Nat.beq_refl]; rfl) hv' hd3 ?_
  exact r.le (upd3_le hE hE2)
end
end Go.Am
end
