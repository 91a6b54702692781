/- NodeBack: part of a calculus over an abstract machine that stands beside the model, and contracts of functions by it.
Conditions: what each theorem says of its arguments. -/
import Derived.Test.YtaaemamcdhebhaaWakes07
import Derived.Test.YtaaemamcdhebhaaAm17
set_option linter.unusedVariables false
set_option maxRecDepth 100000
open Go Go.Am Go.RowKit
namespace Go.Proofs.Ytaaemamcdhebhaa
open Go.Proofs.Try
theorem nCells_ex (l : List Int) : ∃ lv a0 a1 a2 a3 a4 a5 a6 a7, nCells l = nc lv [a0, a1, a2, a3, a4, a5, a6, a7] := by
  unfold nCells
  split
  · exact ⟨_, _, _, _, _, _, _, _, _, rfl⟩
  · exact ⟨_, _, _, _, _, _, _, _, _, rfl⟩
theorem modU (x m : Int) (hm : 0 < m) : 0 ≤ (x % 18446744073709551616).tmod m ∧ (x % 18446744073709551616).tmod m < m := by
  have h := Int.emod_nonneg x (show (18446744073709551616 : Int) ≠ 0 by decide)
  rw [Int.tmod_eq_emod_of_nonneg h]
  exact ⟨Int.emod_nonneg _ (by omega), Int.emod_lt_of_pos _ hm⟩
theorem nod_inj {lv u0 u1 u2 u3 u4 u5 u6 u7 lw y0 y1 y2 y3 y4 y5 y6 y7 : Int} (h : nodOk lv [u0, u1, u2, u3, u4, u5, u6, u7] = true) (h' : nodOk lw [y0, y1, y2, y3, y4, y5, y6, y7] = true) : (nodBlock lv [u0, u1, u2, u3, u4, u5, u6, u7] == nodBlock lw [y0, y1, y2, y3, y4, y5, y6, y7]) = (lv == lw && (u0 == y0 && (u1 == y1 && (u2 == y2 && (u3 == y3 && (u4 == y4 && (u5 == y5 && (u6 == y6 && (u7 == y7))))))))) := by
  rw [Bool.eq_iff_iff, beq_iff_eq]
  simp only [Bool.and_eq_true, beq_iff_eq]
  constructor
  · intro e
    have h1 := (nod_back rfl h).2
    have h2 := (nod_back rfl h').2
    rw [e, h2] at h1
    simp only [nc, is, List.map_cons, List.map_nil, List.cons.injEq, Value.int.injEq, true_and, and_true] at h1
    obtain ⟨e1, e2, e3, e4, e5, e6, e7, e8, e9⟩ := h1
    exact ⟨e1.symm, e2.symm, e3.symm, e4.symm, e5.symm, e6.symm, e7.symm, e8.symm, e9.symm⟩
  · rintro ⟨rfl, rfl, rfl, rfl, rfl, rfl, rfl, rfl, rfl⟩; rfl
def chd (x : List Int) (i : Nat) : Bool := (x.take i).any (· != 0)
theorem chd_all (x : List Int) (hx : x.length = 4) : chd x 4 = false ↔ ∀ i, i < 4 → x.getD i 0 = 0 := by
  unfold chd
  rw [List.take_of_length_le (by omega), List.any_eq_false]
  constructor
  · intro h i hi
    have hi2 : i < x.length := by omega
    have := h x[i] (List.getElem_mem hi2)
    rw [List.getD_eq_getElem?_getD, List.getElem?_eq_getElem hi2]
    simpa using this
  · intro h v hv
    obtain ⟨j, hj, rfl⟩ := List.getElem_of_mem hv
    have := h j (by omega)
    rw [List.getD_eq_getElem?_getD, List.getElem?_eq_getElem hj] at this
    simpa using this
theorem nod_chg {lv u0 u1 u2 u3 u4 u5 u6 u7 : Int} (h : nodOk lv [u0, u1, u2, u3, u4, u5, u6, u7] = true) {x : List Int} (hx : x.length = 4) (hb : Byt x) {p : Nat} (hp : p + 4 ≤ 64) : (nCode (chg (nodBlock lv [u0, u1, u2, u3, u4, u5, u6, u7]) p x 4) == 0) = !(chd x 4) := by
  have h0 := (nod_back rfl h).1
  have hr : readB nMag nLay (nodBlock lv [u0, u1, u2, u3, u4, u5, u6, u7]) = 0 := (read_make (mb := nMag) rfl (nod_fits rfl h) (by decide)).1
  have hc := chg_bad (x := x) (p := p) (nodBlock_byt rfl) hb hp hr
  rw [← chd_all x hx] at hc
  cases hd : chd x 4 with
  | false =>
    have e : chg (nodBlock lv [u0, u1, u2, u3, u4, u5, u6, u7]) p x 4 = nodBlock lv [u0, u1, u2, u3, u4, u5, u6, u7] := (chg_same (nodBlock_byt rfl) hb (by rw [nodBlock_len rfl]; exact hp)).2 ((chd_all x hx).1 hd)
    rw [e, h0]; rfl
  | true =>
    have hn : readB nMag nLay (chg (nodBlock lv [u0, u1, u2, u3, u4, u5, u6, u7]) p x 4) ≠ 0 := fun e => by rw [hc.1 e] at hd; cases hd
    have e : nCode (chg (nodBlock lv [u0, u1, u2, u3, u4, u5, u6, u7]) p x 4) = readB nMag nLay (chg (nodBlock lv [u0, u1, u2, u3, u4, u5, u6, u7]) p x 4) := if_neg hn
    rw [e]
    simpa using hn
set_option maxHeartbeats 4000000 in
theorem nodeBack_true {h : Heap} (lv u0 u1 u2 u3 u4 u5 u6 u7 lw y0 y1 y2 y3 y4 y5 y6 y7 at_ : Int) (x : List Int) (hx : x.length = 4) (hbx : Byt x) : RunF prog 7 [.agg ⟨nc lv [u0, u1, u2, u3, u4, u5, u6, u7]⟩, .agg ⟨nc lw [y0, y1, y2, y3, y4, y5, y6, y7]⟩, .int .i64 at_, .agg ⟨us x⟩] h fun v _ => v = .bool true := by
  refine RunF.walk func7 rfl rfl ?_
  refine RunC.seq (RunC.region (RunO.part 1 (h1 := h.push ⟨nc lv [u0, u1, u2, u3, u4, u5, u6, u7], true⟩) rfl ?_))
  have os := Ow.push h (nc lv [u0, u1, u2, u3, u4, u5, u6, u7])
  generalize h.push ⟨nc lv [u0, u1, u2, u3, u4, u5, u6, u7], true⟩ = h1 at *
  generalize h.next = p1 at *
  refine RunO.part 1 (h1 := h1.push ⟨nc lw [y0, y1, y2, y3, y4, y5, y6, y7], true⟩) rfl ?_
  replace os := os.fr (Fr.push no h1 ⟨nc lw [y0, y1, y2, y3, y4, y5, y6, y7], true⟩) (fun g => g)
  have ot := Ow.push h1 (nc lw [y0, y1, y2, y3, y4, y5, y6, y7])
  generalize h1.push ⟨nc lw [y0, y1, y2, y3, y4, y5, y6, y7], true⟩ = h2 at *
  generalize h1.next = p2 at *
  refine RunO.part 1 (h1 := h2.push ⟨us x, true⟩) rfl ?_
  replace os := os.fr (Fr.push no h2 ⟨us x, true⟩) (fun g => g)
  replace ot := ot.fr (Fr.push no h2 ⟨us x, true⟩) (fun g => g)
  have ox := Ow.push h2 (us x)
  generalize h2.push ⟨us x, true⟩ = h3 at *
  generalize h2.next = p3 at *
  have hpx : p3 < h3.next := ox.1
  refine RunO.all rfl ?_
  refine RunC.seq (RunC.region ?_)
  refine RunO.load (v := .agg ⟨nc lv [u0, u1, u2, u3, u4, u5, u6, u7]⟩) rfl (os.all.part (k := 0) rfl) rfl ?_
  refine RunO.callD (nodBytes_ok rfl) rfl rfl rfl ?_
  rintro v h4 ⟨f4, hv1⟩
  replace os := os.fr f4 (fun g => g)
  replace ot := ot.fr f4 (fun g => g)
  replace ox := ox.fr f4 (fun g => g)
  have key : ∀ (a : Value) (e : Int), v = .tuple #[a, .int .i64 e] → True := fun _ _ _ => trivial
  rcases hv1 with ⟨hs, ba, hba, rfl, oa⟩ | ⟨hs, rfl⟩
  case inr =>
    refine RunO.all rfl ?_
    refine RunC.seq (RunC.region ?_)
    refine RunO.load (v := .agg ⟨nc lw [y0, y1, y2, y3, y4, y5, y6, y7]⟩) rfl (ot.all.part (k := 0) rfl) rfl ?_
    refine RunO.callD (nodBytes_ok rfl) rfl rfl rfl ?_
    rintro v h5 ⟨f5, hv2⟩
    rcases hv2 with ⟨ht, bb, hbb, rfl, ob⟩ | ⟨ht, rfl⟩ <;>
    · refine RunO.all rfl ?_
      refine RunC.seq (RunC.seq (RunC.region (RunO.all rfl (RunC.cond rfl (fun _ => ?_) (fun g => by cases g)))))
      refine RunC.seq (RunC.region (RunO.part 17 rfl ?_))
      refine RunO.callDG rfl wakes07_ok rfl rfl rfl ?_
      rintro v h12 ⟨rfl, f12⟩
      exact RunO.all rfl (RunC.ret ⟨_, rfl, rfl⟩)
  refine RunO.all rfl ?_
  refine RunC.seq (RunC.region ?_)
  refine RunO.load (v := .agg ⟨nc lw [y0, y1, y2, y3, y4, y5, y6, y7]⟩) rfl (ot.all.part (k := 0) rfl) rfl ?_
  refine RunO.callD (nodBytes_ok rfl) rfl rfl rfl ?_
  rintro v h5 ⟨f5, hv2⟩
  replace os := os.fr f5 (fun g => g)
  replace ot := ot.fr f5 (fun g => g)
  replace ox := ox.fr f5 (fun g => g)
  have hpa := oa.1
  replace oa := oa.fr f5 (fun g => g)
  rcases hv2 with ⟨ht, bb, hbb, rfl, ob⟩ | ⟨ht, rfl⟩
  case inr =>
    refine RunO.all rfl ?_
    refine RunC.seq (RunC.seq (RunC.region (RunO.all rfl (RunC.cond rfl (fun _ => ?_) (fun g => by cases g)))))
    refine RunC.seq (RunC.region (RunO.part 17 rfl ?_))
    refine RunO.callDG rfl wakes07_ok rfl rfl rfl ?_
    rintro v h12 ⟨rfl, f12⟩
    exact RunO.all rfl (RunC.ret ⟨_, rfl, rfl⟩)
  refine RunO.all rfl ?_
  refine RunC.seq (RunC.seq (RunC.region (RunO.all rfl (RunC.cond rfl (fun g => by cases g) (fun _ => RunC.skip ?_)))))
  have hback := nod_back rfl hs
  have hba5 : ba ≠ bb := by omega
  refine RunC.seq (RunC.region (RunO.part 1 rfl ?_))
  have hparse := nodParse_ok (h := h5) (A := some ⟨ba, 0, none⟩) (c := exc 64) (l := nodBlock lv [u0, u1, u2, u3, u4, u5, u6, u7]) (fun _ => ⟨_, rfl, oa.all⟩) (nodBlock_byt rfl) (Cp.exc (by rw [nodBlock_len rfl]; exact Nat.le_refl _))
  rw [nodBlock_len rfl] at hparse
  refine RunO.callD hparse rfl rfl rfl ?_
  rintro v h6 ⟨rfl, f6⟩
  rw [hback.1, hback.2]
  replace os := os.fr f6 (fun g => g)
  replace ot := ot.fr f6 (fun g => g)
  replace ox := ox.fr f6 (fun g => g)
  replace oa := oa.fr f6 (fun g => g)
  replace ob := ob.fr f6 (fun g => g)
  refine RunO.part 4 (h1 := h6.push ⟨nc 0 nZero, true⟩) rfl ?_
  refine RunO.store rfl rfl (store_ow (s := 9) (Ow.push h6 (nc 0 nZero)) rfl rfl rfl (by decide)) ?_
  refine RunO.all rfl ?_
  change RunC _ _ _ _ ((h6.push ⟨nc 0 nZero, true⟩).put h6.next (some ⟨nc lv [u0, u1, u2, u3, u4, u5, u6, u7], true⟩)) _ _ _
  have ou : Ow ((h6.push ⟨nc 0 nZero, true⟩).put h6.next (some ⟨nc lv [u0, u1, u2, u3, u4, u5, u6, u7], true⟩)) h6.next (nc lv [u0, u1, u2, u3, u4, u5, u6, u7]) := Ow.put _ (Nat.lt_succ_self _)
  have f7 : Fr no h6 ((h6.push ⟨nc 0 nZero, true⟩).put h6.next (some ⟨nc lv [u0, u1, u2, u3, u4, u5, u6, u7], true⟩)) := (Fr.push _ _ _).trans (Fr.put (m := (· = h6.next)) _ (.inl rfl)) (fun j hj => .inr (by omega))
  generalize (h6.push ⟨nc 0 nZero, true⟩).put h6.next (some ⟨nc lv [u0, u1, u2, u3, u4, u5, u6, u7], true⟩) = h7 at *
  generalize h6.next = pu at *
  replace os := os.fr f7 (fun g => g)
  replace ot := ot.fr f7 (fun g => g)
  replace ox := ox.fr f7 (fun g => g)
  replace oa := oa.fr f7 (fun g => g)
  replace ob := ob.fr f7 (fun g => g)
  refine RunC.seq (RunC.seq (RunC.draw (l0 := min h7.low h7.next) (Nat.min_le_left _ _) rfl ?_))
  have hn : min h7.low h7.next ≤ h7.next := Nat.min_le_right _ _
  refine RunD.pure hn rfl rfl (fun _ => rfl) rfl ?_
  refine RunD.pure hn rfl rfl (fun _ => rfl) rfl ?_
  refine RunD.pure hn rfl rfl (fun _ => rfl) rfl ?_
  refine RunD.loadG (v := .agg ⟨nc lv [u0, u1, u2, u3, u4, u5, u6, u7]⟩) hn rfl rfl (ou.all.part (k := 0) rfl) rfl ?_
  refine RunD.loadG (v := .agg ⟨nc lv [u0, u1, u2, u3, u4, u5, u6, u7]⟩) hn rfl rfl (os.all.part (k := 0) rfl) rfl ?_
  refine RunD.pureG (v := .bool false) (E1 := upd _ 64 (.bool false)) hn rfl (by show pureR _ (abinop prog .neq 43 (.agg ⟨nc lv [u0, u1, u2, u3, u4, u5, u6, u7]⟩) (.agg ⟨nc lv [u0, u1, u2, u3, u4, u5, u6, u7]⟩)) = _; rw [nod_ne]; simp [pureR]) (fun _ => rfl) rfl ?_
  refine RunD.pure hn rfl rfl (fun _ => rfl) rfl ?_
  refine RunD.pure hn rfl rfl (fun _ => rfl) rfl ?_
  refine RunD.pureG hn rfl rfl (fun _ => rfl) rfl ?_
  refine RunD.pureG hn rfl rfl (fun _ => rfl) rfl ?_
  refine RunD.pureG hn rfl rfl (fun _ => rfl) rfl ?_
  refine RunD.pure hn rfl rfl (fun _ => rfl) rfl ?_
  refine RunD.pure hn rfl rfl (fun _ => rfl) rfl ?_
  refine RunD.pureG hn rfl rfl (fun _ => rfl) rfl ?_
  refine RunD.pureG hn rfl rfl (fun _ => rfl) rfl ?_
  have hkeep := keepBytes_ok (h := h7.lo h7.next) (A := some ⟨ba, 0, none⟩) (B := some ⟨bb, 0, none⟩) (c := exc 64) (d := exc 64) (l := nodBlock lv [u0, u1, u2, u3, u4, u5, u6, u7]) (m := nodBlock lw [y0, y1, y2, y3, y4, y5, y6, y7]) (fun _ => ⟨_, rfl, oa.all⟩) (fun _ => ⟨_, rfl, ob.all⟩) (by rw [nodBlock_len rfl]; omega)
  rw [nodBlock_len rfl, nodBlock_len rfl] at hkeep
  refine RunD.callG rfl hkeep rfl rfl ?_
  rintro v h8 ⟨rfl, rfl⟩
  refine ⟨hn, _, rfl, ?_⟩
  rw [show Nat.ble h7.next (h7.lo h7.next).low = true from Nat.ble_eq_true_of_le (Nat.le_refl _), nod_inj hs ht]
  refine RunD.loadG (v := .agg ⟨nc lv [u0, u1, u2, u3, u4, u5, u6, u7]⟩) hn rfl rfl (os.all.part (k := 0) rfl) rfl ?_
  refine RunD.loadG (v := .agg ⟨nc lw [y0, y1, y2, y3, y4, y5, y6, y7]⟩) hn rfl rfl (ot.all.part (k := 0) rfl) rfl ?_
  refine RunD.pureG (v := .bool (lv == lw && (u0 == y0 && (u1 == y1 && (u2 == y2 && (u3 == y3 && (u4 == y4 && (u5 == y5 && (u6 == y6 && (u7 == y7)))))))))) (E1 := upd _ 77 (.bool (lv == lw && (u0 == y0 && (u1 == y1 && (u2 == y2 && (u3 == y3 && (u4 == y4 && (u5 == y5 && (u6 == y6 && (u7 == y7))))))))))) hn rfl (by show pureR _ (abinop prog .eql 43 (.agg ⟨nc lv [u0, u1, u2, u3, u4, u5, u6, u7]⟩) (.agg ⟨nc lw [y0, y1, y2, y3, y4, y5, y6, y7]⟩)) = _; rw [nod_eq]; rfl) (fun _ => rfl) rfl ?_
  generalize (lv == lw && (u0 == y0 && (u1 == y1 && (u2 == y2 && (u3 == y3 && (u4 == y4 && (u5 == y5 && (u6 == y6 && (u7 == y7))))))))) = same
  refine RunD.pureG (v := .bool (!(same == same))) (E1 := upd _ 78 (.bool (!(same == same)))) hn rfl rfl (fun _ => rfl) rfl ?_
  rw [show (!(same == same)) = false by simp]
  refine RunD.pure hn rfl rfl (fun _ => rfl) rfl ?_
  refine RunD.nil ⟨rfl, fun lw hlw => ?_⟩
  refine RunC.cond rfl (fun g => by cases g) (fun _ => RunC.skip ?_)
  replace oa : Ow ((h7.lo h7.next).lo lw) ba (us (nodBlock lv [u0, u1, u2, u3, u4, u5, u6, u7])) := oa
  replace ox : Ow ((h7.lo h7.next).lo lw) p3 (us x) := ox
  have hxa : p3 ≠ ba := by omega
  generalize (h7.lo h7.next).lo lw = h8 at *
  refine RunC.seq (RunC.region (RunO.all rfl ?_))
  rw [fwu64']
  obtain ⟨hP0, hP1⟩ := modU at_ 61 (by decide)
  generalize (at_ % 18446744073709551616).tmod 61 = P at *
  rw [fw64 (x := P) (by omega) (by omega)]
  obtain ⟨p, rfl⟩ := Int.eq_ofNat_of_zero_le hP0
  refine RunC.seq (RunC.region (RunO.all rfl ?_))
  refine RunC.seq (RunC.seq (RunC.region (RunO.all rfl ?_)))
  refine RunC.block ?_
  have hbl : (nodBlock lv [u0, u1, u2, u3, u4, u5, u6, u7]).length = 64 := nodBlock_len rfl
  let I : Nat → Env → Heap → Prop := fun k E h' => ∃ i : Nat, i + k = 4 ∧ Ow h' ba (us (chg (nodBlock lv [u0, u1, u2, u3, u4, u5, u6, u7]) p x i)) ∧ Ow h' p3 (us x) ∧ Le (upd (upd (upd (upd (upd E0 2 (.int .i64 (p : Int))) 7 (.pointer (some ⟨p3, 0, none⟩))) 9 (.slice (some ⟨ba, 0, none⟩) 64 (exc 64))) 15 (.bool (chd x i))) 16 (.int .i64 i)) E
  refine RunC.loop I ?_ (k := 4) ?_
  · rintro k E h' ⟨i, hi, oc, ox, hE⟩
    refine RunC.le hE ?_
    clear hE
    refine RunC.seq (RunC.seq (RunC.region (RunO.all rfl ?_)))
    refine RunC.cond rfl (fun hlt => ?_) (fun hge => ?_)
    · have hlt := of_decide_eq_true hlt
      have hix : i < x.length := by omega
      have hcl : (chg (nodBlock lv [u0, u1, u2, u3, u4, u5, u6, u7]) p x i).length = 64 := by rw [chg_len, hbl]
      have hpi : p + i < (chg (nodBlock lv [u0, u1, u2, u3, u4, u5, u6, u7]) p x i).length := by omega
      have hstep : chg (nodBlock lv [u0, u1, u2, u3, u4, u5, u6, u7]) p x (i + 1) = (chg (nodBlock lv [u0, u1, u2, u3, u4, u5, u6, u7]) p x i).set (p + i) (xb (chg (nodBlock lv [u0, u1, u2, u3, u4, u5, u6, u7]) p x i)[p + i] x[i]) := by
        rw [chg, List.getD_eq_getElem?_getD, List.getElem?_eq_getElem hpi, List.getD_eq_getElem?_getD, List.getElem?_eq_getElem hix]; rfl
      have hch : chd x (i + 1) = (chd x i || x[i] != 0) := by
        unfold chd
        rw [List.take_succ_eq_append_getElem hix, List.any_append]; simp
      have hla : nth (us (chg (nodBlock lv [u0, u1, u2, u3, u4, u5, u6, u7]) p x i)) (p + i) = some (.int .u8 (chg (nodBlock lv [u0, u1, u2, u3, u4, u5, u6, u7]) p x i)[p + i]) := us_nth hpi
      generalize (chg (nodBlock lv [u0, u1, u2, u3, u4, u5, u6, u7]) p x i)[p + i] = ca at *
      generalize chg (nodBlock lv [u0, u1, u2, u3, u4, u5, u6, u7]) p x i = L at *
      refine RunC.skip ?_
      refine RunC.seq (RunC.block ?_)
      refine RunC.seq (RunC.draw0 rfl (RunO.part 8 rfl ?_))
      rw [fw64 (x := (p : Int) + i) (by omega) (by omega), show ((p : Int) + i) = ((p + i : Nat) : Int) by omega]
      refine RunO.index (s := 1) rfl rfl rfl rfl (by omega) rfl ?_
      refine RunO.load (v := .int .u8 ca) rfl (oc.all.cell1 (k := (p + i) * 1) rfl (by rw [Nat.mul_one]; exact hla)) rfl ?_
      refine RunO.part 1 rfl ?_
      refine RunO.indexA (s := 1) rfl rfl rfl rfl rfl (by omega) rfl ?_
      refine RunO.load (v := .int .u8 x[i]) rfl (ox.all.cell1 (k := i * 1) rfl (by rw [Nat.mul_one]; exact us_nth hix)) rfl ?_
      refine RunO.bin (v := .int .u8 (xb ca x[i])) rfl rfl rfl rfl ?_
      refine RunO.index (s := 1) rfl rfl rfl rfl (by omega) rfl ?_
      refine RunO.store rfl rfl (store1_ow oc rfl rfl rfl (by rw [us_len]; omega)) (RunO.nil ?_)
      have hset : (us L).set (0 + (p + i) * 1) (.int .u8 (xb ca x[i])) = us (L.set (p + i) (xb ca x[i])) := by
        rw [Nat.mul_one, Nat.zero_add]; unfold us; rw [List.map_set]
      rw [hset, ← hstep]
      have oc2 := Ow.put (us (chg (nodBlock lv [u0, u1, u2, u3, u4, u5, u6, u7]) p x (i + 1))) oc.1
      have ox2 := ox.fr (Fr.put (m := (· = ba)) (some ⟨us (chg (nodBlock lv [u0, u1, u2, u3, u4, u5, u6, u7]) p x (i + 1)), true⟩) (.inl rfl)) hxa
      generalize h'.put ba (some ⟨us (chg (nodBlock lv [u0, u1, u2, u3, u4, u5, u6, u7]) p x (i + 1)), true⟩) = h9 at *
      have hdone : ∀ E', Le (upd (upd (upd (upd (upd E0 2 (.int .i64 (p : Int))) 7 (.pointer (some ⟨p3, 0, none⟩))) 9 (.slice (some ⟨ba, 0, none⟩) 64 (exc 64))) 15 (.bool (chd x (i + 1)))) 16 (.int .i64 (i + 1 : Nat))) E' → ∃ k', k' < k ∧ I k' E' h9 := fun E' hE => ⟨k - 1, by omega, i + 1, by omega, oc2, ox2, hE⟩
      generalize chd x i = cd at *
      cases cd with
      | true =>
        refine RunC.region (RunO.all rfl ?_)
        refine RunC.region (RunO.all rfl ?_)
        refine hdone _ ?_
        rw [hch]
        exact Le.cons (inc64 (by omega)) (Le.cons rfl (Le.cons rfl (Le.cons rfl (Le.cons rfl (Le.nil _)))))
      | false =>
        refine RunC.region (RunO.part 3 rfl ?_)
        refine RunO.indexA (s := 1) rfl rfl rfl rfl rfl (by omega) rfl ?_
        refine RunO.loadG (v := .int .u8 x[i]) rfl rfl (ox2.all.cell1 (k := i * 1) rfl (by rw [Nat.mul_one]; exact us_nth hix)) rfl ?_
        refine RunO.all rfl ?_
        refine RunC.region (RunO.all rfl ?_)
        refine hdone _ ?_
        rw [hch]
        exact Le.cons (inc64 (by omega)) (Le.cons rfl (Le.cons rfl (Le.cons rfl (Le.cons rfl (Le.nil _)))))
    · have hge := of_decide_eq_false hge
      refine RunC.exit ?_
      have hi2 : i = 4 := by omega
      subst hi2
      have hcl : (chg (nodBlock lv [u0, u1, u2, u3, u4, u5, u6, u7]) p x 4).length = 64 := by rw [chg_len, hbl]
      have hchg := nod_chg hs hx hbx (p := p) (by omega)
      have hcb : Byt (chg (nodBlock lv [u0, u1, u2, u3, u4, u5, u6, u7]) p x 4) := chg_bytes (nodBlock_byt rfl) hbx p 4
      generalize chg (nodBlock lv [u0, u1, u2, u3, u4, u5, u6, u7]) p x 4 = L at *
      refine RunC.seq (RunC.region (RunO.part 1 rfl ?_))
      have hparse := nodParse_ok (h := h') (A := some ⟨ba, 0, none⟩) (c := exc 64) (l := L) (fun _ => ⟨_, rfl, oc.all⟩) hcb (Cp.exc (by omega))
      rw [hcl] at hparse
      refine RunO.callD hparse rfl rfl rfl ?_
      rintro v h10 ⟨rfl, f10⟩
      obtain ⟨w0, w1, w2, w3, w4, w5, w6, w7, w8, hw⟩ := nCells_ex L
      rw [hw]
      refine RunO.part 4 (h1 := h10.push ⟨nc 0 nZero, true⟩) rfl ?_
      refine RunO.store rfl rfl (store_ow (s := 9) (Ow.push h10 (nc 0 nZero)) rfl rfl rfl (by decide)) ?_
      refine RunO.all rfl ?_
      refine RunC.seq (RunC.region (RunO.part 4 rfl ?_))
      rw [hchg]
      generalize chd x 4 = cd at *
      refine RunO.part 1 rfl ?_
      rw [show ((!cd) == (!cd)) = true from beq_self_eq_true _]
      refine RunO.part 1 rfl ?_
      refine RunO.callDG rfl wakes07_ok rfl rfl rfl ?_
      rintro v h12 ⟨rfl, f12⟩
      exact RunO.all rfl (RunC.ret ⟨_, rfl, rfl⟩)
  · exact ⟨0, by omega, oa, ox, Le.cons rfl (Le.cons rfl (Le.cons rfl (Le.cons rfl (Le.cons rfl (Le.nil _)))))⟩
theorem mixed : prog.follows .mixedOrders = true := by kernel_rfl
theorem routines : noRoutine prog = true := by kernel_rfl
theorem byt_wf {x : Int} (h : (Lit.int .u8 x).wf = true) : 0 ≤ x ∧ x < 256 := by
  simp [Lit.wf, IntKind.min, IntKind.max, IntKind.signed, IntKind.bits] at h
  omega
theorem byt_wf4 {x0 x1 x2 x3 : Int} (h0 : (Lit.int .u8 x0).wf = true) (h1 : (Lit.int .u8 x1).wf = true) (h2 : (Lit.int .u8 x2).wf = true) (h3 : (Lit.int .u8 x3).wf = true) : Byt [x0, x1, x2, x3] := by
  intro x hx
  simp only [List.mem_cons, List.not_mem_nil, or_false] at hx
  rcases hx with rfl | rfl | rfl | rfl
  · exact byt_wf h0
  · exact byt_wf h1
  · exact byt_wf h2
  · exact byt_wf h3
theorem nodeBack_walk (s0 s1 s2 s3 s4 s5 s6 s7 s8 t0 t1 t2 t3 t4 t5 t6 t7 t8 at_ x0 x1 x2 x3 : Int) (hx : Byt [x0, x1, x2, x3]) (W : World) : Calls prog 7 #[.agg #[.int .i64 s0, .int .i64 s1, .int .i64 s2, .int .i64 s3, .int .i64 s4, .int .i64 s5, .int .i64 s6, .int .i64 s7, .int .i64 s8], .agg #[.int .i64 t0, .int .i64 t1, .int .i64 t2, .int .i64 t3, .int .i64 t4, .int .i64 t5, .int .i64 t6, .int .i64 t7, .int .i64 t8], .int .i64 at_, .agg #[.int .u8 x0, .int .u8 x1, .int .u8 x2, .int .u8 x3]] W fun e w' => e = .returned (.bool true) ∧ Below W.heap.size W w' :=
  RunF.calls mixed routines rfl (nodeBack_true s0 s1 s2 s3 s4 s5 s6 s7 s8 t0 t1 t2 t3 t4 t5 t6 t7 t8 at_ [x0, x1, x2, x3] rfl hx) W
end Go.Proofs.Ytaaemamcdhebhaa
