/- RecordBack: part of a calculus over an abstract machine that stands beside the model, and contracts of functions by it.
Conditions: what each theorem says of its arguments. -/
import Derived.Test.YtaaemamcdhebhaaWakes08
set_option linter.unusedVariables false
set_option maxRecDepth 100000
open Go Go.Am Go.RowKit
namespace Go.Proofs.Ytaaemamcdhebhaa
open Go.Proofs.Try
theorem modU (x m : Int) (hm : 0 < m) : 0 ≤ (x % 18446744073709551616).tmod m ∧ (x % 18446744073709551616).tmod m < m := by
  have h := Int.emod_nonneg x (show (18446744073709551616 : Int) ≠ 0 by decide)
  rw [Int.tmod_eq_emod_of_nonneg h]
  exact ⟨Int.emod_nonneg _ (by omega), Int.emod_lt_of_pos _ hm⟩
theorem rec_inj {n id pa ro sz ki fr di n' id' pa' ro' sz' ki' fr' di' : Int} (h : recOk n id pa ro sz ki fr di = true) (h' : recOk n' id' pa' ro' sz' ki' fr' di' = true) : (recBlock n id pa ro sz ki fr di == recBlock n' id' pa' ro' sz' ki' fr' di') = (n == n' && (id == id' && (pa == pa' && (ro == ro' && (sz == sz' && (ki == ki' && (fr == fr' && (di == di')))))))) := by
  rw [Bool.eq_iff_iff, beq_iff_eq]
  simp only [Bool.and_eq_true, beq_iff_eq]
  constructor
  · intro e
    have h1 := (rec_back h).2
    have h2 := (rec_back h').2
    rw [e, h2] at h1
    simp only [rc, List.cons.injEq, Value.int.injEq, true_and, and_true] at h1
    obtain ⟨e1, e2, e3, e4, e5, e6, e7, e8⟩ := h1
    exact ⟨e1.symm, e2.symm, e3.symm, e4.symm, e5.symm, e6.symm, e7.symm, e8.symm⟩
  · rintro ⟨rfl, rfl, rfl, rfl, rfl, rfl, rfl, rfl⟩; rfl
def chd (x : List Int) (i : Nat) : Bool := (x.take i).any (· != 0)
theorem chd_all (x : List Int) (hx : x.length = 4) : chd x 4 = false ↔ ∀ i, i < 4 → x.getD i 0 = 0 := by
  unfold chd
  rw [List.take_of_length_le (by omega), List.any_eq_false]
  constructor
  · intro h i hi
    have hi2 : i < x.length := by omega
    have := h x[i] (List.getElem_mem hi2)
    rw [List.getD_eq_getElem?_getD, List.getElem?_eq_getElem hi2]
    simpa using this
  · intro h v hv
    obtain ⟨j, hj, rfl⟩ := List.getElem_of_mem hv
    have := h j (by omega)
    rw [List.getD_eq_getElem?_getD, List.getElem?_eq_getElem hj] at this
    simpa using this
theorem rec_chg {n id pa ro sz ki fr di : Int} (h : recOk n id pa ro sz ki fr di = true) {x : List Int} (hx : x.length = 4) (hb : Byt x) {p : Nat} (hp : p + 4 ≤ 64) : (rCode (chg (recBlock n id pa ro sz ki fr di) p x 4) == 0) = !(chd x 4) := by
  have h0 := (rec_back h).1
  have hr : readB rMag rLay (recBlock n id pa ro sz ki fr di) = 0 := (read_make (mb := rMag) rfl (rec_fits h) (by decide)).1
  have hc := chg_bad (x := x) (p := p) (recBlock_byt n id pa ro sz ki fr di) hb hp hr
  rw [← chd_all x hx] at hc
  cases hd : chd x 4 with
  | false =>
    have e : chg (recBlock n id pa ro sz ki fr di) p x 4 = recBlock n id pa ro sz ki fr di := (chg_same (recBlock_byt n id pa ro sz ki fr di) hb (by rw [recBlock_len]; exact hp)).2 ((chd_all x hx).1 hd)
    rw [e, h0]; rfl
  | true =>
    have hn : readB rMag rLay (chg (recBlock n id pa ro sz ki fr di) p x 4) ≠ 0 := fun e => by rw [hc.1 e] at hd; cases hd
    have e : rCode (chg (recBlock n id pa ro sz ki fr di) p x 4) = readB rMag rLay (chg (recBlock n id pa ro sz ki fr di) p x 4) := if_neg hn
    rw [e]
    simpa using hn
set_option maxHeartbeats 4000000 in
theorem recordBack_true {h : Heap} (n id pa ro sz ki fr di n' id' pa' ro' sz' ki' fr' di' at_ : Int) (x : List Int) (hx : x.length = 4) (hbx : Byt x) : RunF prog 4 [.agg ⟨rc n id pa ro sz ki fr di⟩, .agg ⟨rc n' id' pa' ro' sz' ki' fr' di'⟩, .int .i64 at_, .agg ⟨us x⟩] h fun v _ => v = .bool true := by
  refine RunF.walk func4 rfl rfl ?_
  refine RunC.seq (RunC.region (RunO.part 1 (h1 := h.push ⟨rc n id pa ro sz ki fr di, true⟩) rfl ?_))
  have os := Ow.push h (rc n id pa ro sz ki fr di)
  generalize h.push ⟨rc n id pa ro sz ki fr di, true⟩ = h1 at *
  generalize h.next = p1 at *
  refine RunO.part 1 (h1 := h1.push ⟨rc n' id' pa' ro' sz' ki' fr' di', true⟩) rfl ?_
  replace os := os.fr (Fr.push no h1 ⟨rc n' id' pa' ro' sz' ki' fr' di', true⟩) (fun g => g)
  have ot := Ow.push h1 (rc n' id' pa' ro' sz' ki' fr' di')
  generalize h1.push ⟨rc n' id' pa' ro' sz' ki' fr' di', true⟩ = h2 at *
  generalize h1.next = p2 at *
  refine RunO.part 1 (h1 := h2.push ⟨us x, true⟩) rfl ?_
  replace os := os.fr (Fr.push no h2 ⟨us x, true⟩) (fun g => g)
  replace ot := ot.fr (Fr.push no h2 ⟨us x, true⟩) (fun g => g)
  have ox := Ow.push h2 (us x)
  generalize h2.push ⟨us x, true⟩ = h3 at *
  generalize h2.next = p3 at *
  have hpx : p3 < h3.next := ox.1
  refine RunO.all rfl ?_
  refine RunC.seq (RunC.region ?_)
  refine RunO.load (v := .agg ⟨rc n id pa ro sz ki fr di⟩) rfl (os.all.part (k := 0) rfl) rfl ?_
  refine RunO.callD recBytes_ok rfl rfl rfl ?_
  rintro v h4 ⟨f4, hv1⟩
  replace os := os.fr f4 (fun g => g)
  replace ot := ot.fr f4 (fun g => g)
  replace ox := ox.fr f4 (fun g => g)
  have key : ∀ (a : Value) (e : Int), v = .tuple #[a, .int .i64 e] → True := fun _ _ _ => trivial
  rcases hv1 with ⟨hs, ba, hba, rfl, oa⟩ | ⟨hs, rfl⟩
  case inr =>
    refine RunO.all rfl ?_
    refine RunC.seq (RunC.region ?_)
    refine RunO.load (v := .agg ⟨rc n' id' pa' ro' sz' ki' fr' di'⟩) rfl (ot.all.part (k := 0) rfl) rfl ?_
    refine RunO.callD recBytes_ok rfl rfl rfl ?_
    rintro v h5 ⟨f5, hv2⟩
    rcases hv2 with ⟨ht, bb, hbb, rfl, ob⟩ | ⟨ht, rfl⟩ <;>
    · refine RunO.all rfl ?_
      refine RunC.seq (RunC.seq (RunC.region (RunO.all rfl (RunC.cond rfl (fun _ => ?_) (fun g => by cases g)))))
      refine RunC.seq (RunC.region (RunO.part 17 rfl ?_))
      refine RunO.callDG rfl wakes08_ok rfl rfl rfl ?_
      rintro v h12 ⟨rfl, f12⟩
      exact RunO.all rfl (RunC.ret ⟨_, rfl, rfl⟩)
  refine RunO.all rfl ?_
  refine RunC.seq (RunC.region ?_)
  refine RunO.load (v := .agg ⟨rc n' id' pa' ro' sz' ki' fr' di'⟩) rfl (ot.all.part (k := 0) rfl) rfl ?_
  refine RunO.callD recBytes_ok rfl rfl rfl ?_
  rintro v h5 ⟨f5, hv2⟩
  replace os := os.fr f5 (fun g => g)
  replace ot := ot.fr f5 (fun g => g)
  replace ox := ox.fr f5 (fun g => g)
  have hpa := oa.1
  replace oa := oa.fr f5 (fun g => g)
  rcases hv2 with ⟨ht, bb, hbb, rfl, ob⟩ | ⟨ht, rfl⟩
  case inr =>
    refine RunO.all rfl ?_
    refine RunC.seq (RunC.seq (RunC.region (RunO.all rfl (RunC.cond rfl (fun _ => ?_) (fun g => by cases g)))))
    refine RunC.seq (RunC.region (RunO.part 17 rfl ?_))
    refine RunO.callDG rfl wakes08_ok rfl rfl rfl ?_
    rintro v h12 ⟨rfl, f12⟩
    exact RunO.all rfl (RunC.ret ⟨_, rfl, rfl⟩)
  refine RunO.all rfl ?_
  refine RunC.seq (RunC.seq (RunC.region (RunO.all rfl (RunC.cond rfl (fun g => by cases g) (fun _ => RunC.skip ?_)))))
  have hback := rec_back hs
  have hba5 : ba ≠ bb := by omega
  refine RunC.seq (RunC.region (RunO.part 1 rfl ?_))
  have hparse := recParse_ok (h := h5) (A := some ⟨ba, 0, none⟩) (c := exc 64) (l := recBlock n id pa ro sz ki fr di) (fun _ => ⟨_, rfl, oa.all⟩) (recBlock_byt _ _ _ _ _ _ _ _) (Cp.exc (by rw [recBlock_len]; exact Nat.le_refl _))
  rw [recBlock_len] at hparse
  refine RunO.callD hparse rfl rfl rfl ?_
  rintro v h6 ⟨rfl, f6⟩
  rw [hback.1, hback.2]
  replace os := os.fr f6 (fun g => g)
  replace ot := ot.fr f6 (fun g => g)
  replace ox := ox.fr f6 (fun g => g)
  replace oa := oa.fr f6 (fun g => g)
  replace ob := ob.fr f6 (fun g => g)
  refine RunO.part 4 (h1 := h6.push ⟨rc 0 0 0 0 0 0 0 0, true⟩) rfl ?_
  refine RunO.store rfl rfl (store_ow (s := 8) (Ow.push h6 (rc 0 0 0 0 0 0 0 0)) rfl rfl rfl (by decide)) ?_
  refine RunO.all rfl ?_
  change RunC _ _ _ _ ((h6.push ⟨rc 0 0 0 0 0 0 0 0, true⟩).put h6.next (some ⟨rc n id pa ro sz ki fr di, true⟩)) _ _ _
  have ou : Ow ((h6.push ⟨rc 0 0 0 0 0 0 0 0, true⟩).put h6.next (some ⟨rc n id pa ro sz ki fr di, true⟩)) h6.next (rc n id pa ro sz ki fr di) := Ow.put _ (Nat.lt_succ_self _)
  have f7 : Fr no h6 ((h6.push ⟨rc 0 0 0 0 0 0 0 0, true⟩).put h6.next (some ⟨rc n id pa ro sz ki fr di, true⟩)) := (Fr.push _ _ _).trans (Fr.put (m := (· = h6.next)) _ (.inl rfl)) (fun j hj => .inr (by omega))
  generalize (h6.push ⟨rc 0 0 0 0 0 0 0 0, true⟩).put h6.next (some ⟨rc n id pa ro sz ki fr di, true⟩) = h7 at *
  generalize h6.next = pu at *
  replace os := os.fr f7 (fun g => g)
  replace ot := ot.fr f7 (fun g => g)
  replace ox := ox.fr f7 (fun g => g)
  replace oa := oa.fr f7 (fun g => g)
  replace ob := ob.fr f7 (fun g => g)
  refine RunC.seq (RunC.seq (RunC.draw (l0 := min h7.low h7.next) (Nat.min_le_left _ _) rfl ?_))
  have hn : min h7.low h7.next ≤ h7.next := Nat.min_le_right _ _
  refine RunD.pure hn rfl rfl (fun _ => rfl) rfl ?_
  refine RunD.pure hn rfl rfl (fun _ => rfl) rfl ?_
  refine RunD.pure hn rfl rfl (fun _ => rfl) rfl ?_
  refine RunD.loadG (v := .agg ⟨rc n id pa ro sz ki fr di⟩) hn rfl rfl (ou.all.part (k := 0) rfl) rfl ?_
  refine RunD.loadG (v := .agg ⟨rc n id pa ro sz ki fr di⟩) hn rfl rfl (os.all.part (k := 0) rfl) rfl ?_
  refine RunD.pureG (v := .bool false) (E1 := upd _ 64 (.bool false)) hn rfl (by show pureR _ (abinop prog .neq 23 (.agg ⟨rc n id pa ro sz ki fr di⟩) (.agg ⟨rc n id pa ro sz ki fr di⟩)) = _; rw [rec_ne]; simp [pureR]) (fun _ => rfl) rfl ?_
  refine RunD.pure hn rfl rfl (fun _ => rfl) rfl ?_
  refine RunD.pure hn rfl rfl (fun _ => rfl) rfl ?_
  refine RunD.pureG hn rfl rfl (fun _ => rfl) rfl ?_
  refine RunD.pureG hn rfl rfl (fun _ => rfl) rfl ?_
  refine RunD.pureG hn rfl rfl (fun _ => rfl) rfl ?_
  refine RunD.pure hn rfl rfl (fun _ => rfl) rfl ?_
  refine RunD.pure hn rfl rfl (fun _ => rfl) rfl ?_
  refine RunD.pureG hn rfl rfl (fun _ => rfl) rfl ?_
  refine RunD.pureG hn rfl rfl (fun _ => rfl) rfl ?_
  have hkeep := keepBytes_ok (h := h7.lo h7.next) (A := some ⟨ba, 0, none⟩) (B := some ⟨bb, 0, none⟩) (c := exc 64) (d := exc 64) (l := recBlock n id pa ro sz ki fr di) (m := recBlock n' id' pa' ro' sz' ki' fr' di') (fun _ => ⟨_, rfl, oa.all⟩) (fun _ => ⟨_, rfl, ob.all⟩) (by rw [recBlock_len]; omega)
  rw [recBlock_len, recBlock_len] at hkeep
  refine RunD.callG rfl hkeep rfl rfl ?_
  rintro v h8 ⟨rfl, rfl⟩
  refine ⟨hn, _, rfl, ?_⟩
  rw [show Nat.ble h7.next (h7.lo h7.next).low = true from Nat.ble_eq_true_of_le (Nat.le_refl _), rec_inj hs ht]
  refine RunD.loadG (v := .agg ⟨rc n id pa ro sz ki fr di⟩) hn rfl rfl (os.all.part (k := 0) rfl) rfl ?_
  refine RunD.loadG (v := .agg ⟨rc n' id' pa' ro' sz' ki' fr' di'⟩) hn rfl rfl (ot.all.part (k := 0) rfl) rfl ?_
  refine RunD.pureG (v := .bool (n == n' && (id == id' && (pa == pa' && (ro == ro' && (sz == sz' && (ki == ki' && (fr == fr' && (di == di'))))))))) (E1 := upd _ 77 (.bool (n == n' && (id == id' && (pa == pa' && (ro == ro' && (sz == sz' && (ki == ki' && (fr == fr' && (di == di')))))))))) hn rfl (by show pureR _ (abinop prog .eql 23 (.agg ⟨rc n id pa ro sz ki fr di⟩) (.agg ⟨rc n' id' pa' ro' sz' ki' fr' di'⟩)) = _; rw [rec_eq]; rfl) (fun _ => rfl) rfl ?_
  generalize (n == n' && (id == id' && (pa == pa' && (ro == ro' && (sz == sz' && (ki == ki' && (fr == fr' && (di == di')))))))) = same
  refine RunD.pureG (v := .bool (!(same == same))) (E1 := upd _ 78 (.bool (!(same == same)))) hn rfl rfl (fun _ => rfl) rfl ?_
  rw [show (!(same == same)) = false by simp]
  refine RunD.pure hn rfl rfl (fun _ => rfl) rfl ?_
  refine RunD.nil ⟨rfl, fun lw hlw => ?_⟩
  refine RunC.cond rfl (fun g => by cases g) (fun _ => RunC.skip ?_)
  replace oa : Ow ((h7.lo h7.next).lo lw) ba (us (recBlock n id pa ro sz ki fr di)) := oa
  replace ox : Ow ((h7.lo h7.next).lo lw) p3 (us x) := ox
  have hxa : p3 ≠ ba := by omega
  generalize (h7.lo h7.next).lo lw = h8 at *
  refine RunC.seq (RunC.region (RunO.all rfl ?_))
  rw [fwu64']
  obtain ⟨hP0, hP1⟩ := modU at_ 61 (by decide)
  generalize (at_ % 18446744073709551616).tmod 61 = P at *
  rw [fw64 (x := P) (by omega) (by omega)]
  obtain ⟨p, rfl⟩ := Int.eq_ofNat_of_zero_le hP0
  refine RunC.seq (RunC.region (RunO.all rfl ?_))
  refine RunC.seq (RunC.seq (RunC.region (RunO.all rfl ?_)))
  refine RunC.block ?_
  have hbl := recBlock_len n id pa ro sz ki fr di
  let I : Nat → Env → Heap → Prop := fun k E h' => ∃ i : Nat, i + k = 4 ∧ Ow h' ba (us (chg (recBlock n id pa ro sz ki fr di) p x i)) ∧ Ow h' p3 (us x) ∧ Le (upd (upd (upd (upd (upd E0 2 (.int .i64 (p : Int))) 7 (.pointer (some ⟨p3, 0, none⟩))) 9 (.slice (some ⟨ba, 0, none⟩) 64 (exc 64))) 15 (.bool (chd x i))) 16 (.int .i64 i)) E
  refine RunC.loop I ?_ (k := 4) ?_
  · rintro k E h' ⟨i, hi, oc, ox, hE⟩
    refine RunC.le hE ?_
    clear hE
    refine RunC.seq (RunC.seq (RunC.region (RunO.all rfl ?_)))
    refine RunC.cond rfl (fun hlt => ?_) (fun hge => ?_)
    · have hlt := of_decide_eq_true hlt
      have hix : i < x.length := by omega
      have hcl : (chg (recBlock n id pa ro sz ki fr di) p x i).length = 64 := by rw [chg_len, hbl]
      have hpi : p + i < (chg (recBlock n id pa ro sz ki fr di) p x i).length := by omega
      have hstep : chg (recBlock n id pa ro sz ki fr di) p x (i + 1) = (chg (recBlock n id pa ro sz ki fr di) p x i).set (p + i) (xb (chg (recBlock n id pa ro sz ki fr di) p x i)[p + i] x[i]) := by
        rw [chg, List.getD_eq_getElem?_getD, List.getElem?_eq_getElem hpi, List.getD_eq_getElem?_getD, List.getElem?_eq_getElem hix]; rfl
      have hch : chd x (i + 1) = (chd x i || x[i] != 0) := by
        unfold chd
        rw [List.take_succ_eq_append_getElem hix, List.any_append]; simp
      have hla : nth (us (chg (recBlock n id pa ro sz ki fr di) p x i)) (p + i) = some (.int .u8 (chg (recBlock n id pa ro sz ki fr di) p x i)[p + i]) := us_nth hpi
      generalize (chg (recBlock n id pa ro sz ki fr di) p x i)[p + i] = ca at *
      generalize chg (recBlock n id pa ro sz ki fr di) p x i = L at *
      refine RunC.skip ?_
      refine RunC.seq (RunC.block ?_)
      refine RunC.seq (RunC.draw0 rfl (RunO.part 8 rfl ?_))
      rw [fw64 (x := (p : Int) + i) (by omega) (by omega), show ((p : Int) + i) = ((p + i : Nat) : Int) by omega]
      refine RunO.index (s := 1) rfl rfl rfl rfl (by omega) rfl ?_
      refine RunO.load (v := .int .u8 ca) rfl (oc.all.cell1 (k := (p + i) * 1) rfl (by rw [Nat.mul_one]; exact hla)) rfl ?_
      refine RunO.part 1 rfl ?_
      refine RunO.indexA (s := 1) rfl rfl rfl rfl rfl (by omega) rfl ?_
      refine RunO.load (v := .int .u8 x[i]) rfl (ox.all.cell1 (k := i * 1) rfl (by rw [Nat.mul_one]; exact us_nth hix)) rfl ?_
      refine RunO.bin (v := .int .u8 (xb ca x[i])) rfl rfl rfl rfl ?_
      refine RunO.index (s := 1) rfl rfl rfl rfl (by omega) rfl ?_
      refine RunO.store rfl rfl (store1_ow oc rfl rfl rfl (by rw [us_len]; omega)) (RunO.nil ?_)
      have hset : (us L).set (0 + (p + i) * 1) (.int .u8 (xb ca x[i])) = us (L.set (p + i) (xb ca x[i])) := by
        unfold us; rw [List.map_set]; congr 1; omega
      rw [hset, ← hstep]
      have oc2 := Ow.put (us (chg (recBlock n id pa ro sz ki fr di) p x (i + 1))) oc.1
      have ox2 := ox.fr (Fr.put (m := (· = ba)) (some ⟨us (chg (recBlock n id pa ro sz ki fr di) p x (i + 1)), true⟩) (.inl rfl)) hxa
      generalize h'.put ba (some ⟨us (chg (recBlock n id pa ro sz ki fr di) p x (i + 1)), true⟩) = h9 at *
      have hdone : ∀ E', Le (upd (upd (upd (upd (upd E0 2 (.int .i64 (p : Int))) 7 (.pointer (some ⟨p3, 0, none⟩))) 9 (.slice (some ⟨ba, 0, none⟩) 64 (exc 64))) 15 (.bool (chd x (i + 1)))) 16 (.int .i64 (i + 1 : Nat))) E' → ∃ k', k' < k ∧ I k' E' h9 := fun E' hE => ⟨k - 1, by omega, i + 1, by omega, oc2, ox2, hE⟩
      generalize chd x i = cd at *
      cases cd with
      | true =>
        refine RunC.region (RunO.all rfl ?_)
        refine RunC.region (RunO.all rfl ?_)
        refine hdone _ ?_
        rw [hch]
        exact Le.cons (inc64 (by omega)) (Le.cons rfl (Le.cons rfl (Le.cons rfl (Le.cons rfl (Le.nil _)))))
      | false =>
        refine RunC.region (RunO.part 3 rfl ?_)
        refine RunO.indexA (s := 1) rfl rfl rfl rfl rfl (by omega) rfl ?_
        refine RunO.loadG (v := .int .u8 x[i]) rfl rfl (ox2.all.cell1 (k := i * 1) rfl (by rw [Nat.mul_one]; exact us_nth hix)) rfl ?_
        refine RunO.all rfl ?_
        refine RunC.region (RunO.all rfl ?_)
        refine hdone _ ?_
        rw [hch]
        exact Le.cons (inc64 (by omega)) (Le.cons rfl (Le.cons rfl (Le.cons rfl (Le.cons rfl (Le.nil _)))))
    · have hge := of_decide_eq_false hge
      refine RunC.exit ?_
      have hi2 : i = 4 := by omega
      subst hi2
      have hcl : (chg (recBlock n id pa ro sz ki fr di) p x 4).length = 64 := by rw [chg_len, hbl]
      have hchg := rec_chg hs hx hbx (p := p) (by omega)
      have hcb : Byt (chg (recBlock n id pa ro sz ki fr di) p x 4) := chg_bytes (recBlock_byt _ _ _ _ _ _ _ _) hbx p 4
      generalize chg (recBlock n id pa ro sz ki fr di) p x 4 = L at *
      refine RunC.seq (RunC.region (RunO.part 1 rfl ?_))
      have hparse := recParse_ok (h := h') (A := some ⟨ba, 0, none⟩) (c := exc 64) (l := L) (fun _ => ⟨_, rfl, oc.all⟩) hcb (Cp.exc (by omega))
      rw [hcl] at hparse
      refine RunO.callD hparse rfl rfl rfl ?_
      rintro v h10 ⟨rfl, f10⟩
      obtain ⟨w0, w1, w2, w3, w4, w5, w6, w7, hw⟩ := rCells_ex L
      rw [hw]
      refine RunO.part 4 (h1 := h10.push ⟨rc 0 0 0 0 0 0 0 0, true⟩) rfl ?_
      refine RunO.store rfl rfl (store_ow (s := 8) (Ow.push h10 (rc 0 0 0 0 0 0 0 0)) rfl rfl rfl (by decide)) ?_
      refine RunO.all rfl ?_
      refine RunC.seq (RunC.region (RunO.part 4 rfl ?_))
      rw [hchg]
      generalize chd x 4 = cd at *
      refine RunO.part 1 rfl ?_
      rw [show ((!cd) == (!cd)) = true from beq_self_eq_true _]
      refine RunO.part 1 rfl ?_
      refine RunO.callDG rfl wakes08_ok rfl rfl rfl ?_
      rintro v h12 ⟨rfl, f12⟩
      exact RunO.all rfl (RunC.ret ⟨_, rfl, rfl⟩)
  · exact ⟨0, by omega, oa, ox, Le.cons rfl (Le.cons rfl (Le.cons rfl (Le.cons rfl (Le.cons rfl (Le.nil _)))))⟩
theorem mixed : prog.follows .mixedOrders = true := by kernel_rfl
theorem routines : noRoutine prog = true := by kernel_rfl
theorem byt_wf {x : Int} (h : (Lit.int .u8 x).wf = true) : 0 ≤ x ∧ x < 256 := by
  simp [Lit.wf, IntKind.min, IntKind.max, IntKind.signed, IntKind.bits] at h
  omega
theorem byt_wf4 {x0 x1 x2 x3 : Int} (h0 : (Lit.int .u8 x0).wf = true) (h1 : (Lit.int .u8 x1).wf = true) (h2 : (Lit.int .u8 x2).wf = true) (h3 : (Lit.int .u8 x3).wf = true) : Byt [x0, x1, x2, x3] := by
  intro x hx
  simp only [List.mem_cons, List.not_mem_nil, or_false] at hx
  rcases hx with rfl | rfl | rfl | rfl
  · exact byt_wf h0
  · exact byt_wf h1
  · exact byt_wf h2
  · exact byt_wf h3
theorem recordBack_walk (s0 s1 s2 s3 s4 s5 s6 s7 t0 t1 t2 t3 t4 t5 t6 t7 at_ x0 x1 x2 x3 : Int) (hx : Byt [x0, x1, x2, x3]) (W : World) : Calls prog 4 #[.agg #[.int .i64 s0, .int .i64 s1, .int .i64 s2, .int .i64 s3, .int .i64 s4, .int .i64 s5, .int .i64 s6, .int .i64 s7], .agg #[.int .i64 t0, .int .i64 t1, .int .i64 t2, .int .i64 t3, .int .i64 t4, .int .i64 t5, .int .i64 t6, .int .i64 t7], .int .i64 at_, .agg #[.int .u8 x0, .int .u8 x1, .int .u8 x2, .int .u8 x3]] W fun e w' => e = .returned (.bool true) ∧ Below W.heap.size W w' :=
  RunF.calls mixed routines rfl (recordBack_true s0 s1 s2 s3 s4 s5 s6 s7 t0 t1 t2 t3 t4 t5 t6 t7 at_ [x0, x1, x2, x3] rfl hx) W
end Go.Proofs.Ytaaemamcdhebhaa
