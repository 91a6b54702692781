/- FsckRecords: a calculus over an abstract machine that stands beside the model, and contracts of functions by it (part 7).
Conditions: what each theorem says of its arguments. -/
import Derived.Test.YtnokcbenpnmnbaaGFsckRecords6
section
set_option linter.unusedVariables false
set_option linter.unusedSectionVars false
set_option maxRecDepth 100000
open Go Go.Am Go.RowKit
namespace Go.Proofs.Ytnokcbenpnmnbaa
open Go.Proofs.Try
set_option maxHeartbeats 32000000 in
theorem fsckRecords_walk {h : Heap} (n_ at_ id_ how : Int) : RunF prog 7 [.int .i64 n_, .int .i64 at_, .int .i64 id_, .int .i64 how] h fun v _ => v = .bool true := by
  refine RunF.walk func7 rfl rfl ?_
  refine RunC.seq (RunC.region (RunO.all rfl ?_))
  obtain ⟨hn0, hn1⟩ := modU n_ 9 (by decide)
  obtain ⟨n, hn⟩ := Int.eq_ofNat_of_zero_le hn0
  obtain ⟨ha0, ha1⟩ := modU at_ 5 (by decide)
  obtain ⟨a, ha⟩ := Int.eq_ofNat_of_zero_le ha0
  obtain ⟨hi0, hi1⟩ := modU id_ 1000 (by decide)
  obtain ⟨id, hid⟩ := Int.eq_ofNat_of_zero_le hi0
  refine RunC.seq (RunC.region (RunO.part 2 rfl ?_))
  rw [fwu64']
  refine RunO.part 1 rfl ?_
  rw [hn]
  refine RunO.part 1 rfl ?_
  rw [fw64 (x := (n : Int)) (by omega) (by omega)]
  refine RunO.part 1 rfl ?_
  rw [fw64 (x := 2 + (n : Int)) (by omega) (by omega), show 2 + (n : Int) = ((2 + n : Nat) : Int) by omega]
  refine RunO.part 2 rfl ?_
  rw [fwu64']
  refine RunO.part 1 rfl ?_
  rw [ha]
  refine RunO.part 1 rfl ?_
  rw [fw64 (x := (a : Int)) (by omega) (by omega)]
  refine RunO.part 1 rfl ?_
  rw [fw64 (x := 2 + (a : Int)) (by omega) (by omega), show 2 + (a : Int) = ((2 + a : Nat) : Int) by omega]
  refine RunO.part 2 rfl ?_
  rw [fwu64']
  refine RunO.part 1 rfl ?_
  rw [hid]
  refine RunO.part 1 rfl ?_
  rw [fw64 (x := (id : Int)) (by omega) (by omega)]
  refine RunO.part 1 rfl ?_
  rw [fw64 (x := 1 + (id : Int)) (by omega) (by omega), show 1 + (id : Int) = ((1 + id : Nat) : Int) by omega]
  have hA2 : 2 ≤ 2 + a := by omega
  have hA6 : 2 + a ≤ 6 := by omega
  have hN1 : 2 ≤ 2 + n := by omega
  have hN10 : 2 + n ≤ 10 := by omega
  have hI1 : 1 ≤ 1 + id := by omega
  have hI2 : 1 + id ≤ 1000 := by omega
  generalize 2 + a = a at *
  generalize 2 + n = n at *
  generalize 1 + id = id at *
  refine RunO.all rfl ?_
  have hN2 : 1 ≤ n := by omega
  have hn19 : a + n ≤ 19 := by omega
  have hn20 : a + n ≤ 20 := by omega
  have hid9 : id ≤ 90000 := by omega
  obtain ⟨_, hlk, _, _⟩ := recI_all hA2 hn19 hN2 hI1 hid9
  have hil := recI_len hA2 hn20 hI1 hid9
  have hib := recI_byt hA2 hn20 hI1 hid9
  have hrF : rcF a n = (a : Int) := by unfold rcF; rw [if_pos (by omega)]
  -- the image
  refine RunC.seq (RunC.region (RunO.part 3 rfl ?_))
  refine RunO.callD (lawRecords_ok (at_ := a) (n := n) (id := id) hA2 hn20 hI1 hid9) rfl rfl rfl ?_
  rintro _ g1 ⟨f1, ib, ic, hib_, rfl, hic, oi⟩
  refine RunO.all rfl ?_
  refine RunC.seq (RunC.region (RunO.part 2 rfl ?_))
  refine RunO.part 1 rfl ?_
  rw [fw64 (x := (id : Int) + (n : Int)) (by omega) (by omega)]
  refine RunO.part 1 rfl ?_
  rw [fw64 (x := (id : Int) + (n : Int) - 1) (by omega) (by omega), show (id : Int) + (n : Int) - 1 = ((id + (n - 1) : Nat) : Int) by omega]
  refine RunO.part 2 (h1 := g1.push ⟨rc8 ⟨0, 0, 0, 0, 0, 0, 0, 0⟩, true⟩) rfl ?_
  refine RunO.store rfl rfl (store_ow (s := 8) (Ow.push g1 (rc8 ⟨0, 0, 0, 0, 0, 0, 0, 0⟩)) rfl rfl rfl (Nat.le_refl 8)) (RunO.nil ?_)
  have on : Ow ((g1.push ⟨rc8 ⟨0, 0, 0, 0, 0, 0, 0, 0⟩, true⟩).put g1.next (some ⟨rc8 ⟨0, ((id + (n - 1) : Nat) : Int), 0, 0, 0, 0, 0, 0⟩, true⟩)) g1.next (rc8 ⟨0, ((id + (n - 1) : Nat) : Int), 0, 0, 0, 0, 0, 0⟩) := Ow.put _ (Nat.lt_succ_self _)
  have f5 : Fr no g1 ((g1.push ⟨rc8 ⟨0, 0, 0, 0, 0, 0, 0, 0⟩, true⟩).put g1.next (some ⟨rc8 ⟨0, ((id + (n - 1) : Nat) : Int), 0, 0, 0, 0, 0, 0⟩, true⟩)) := (Fr.push _ _ _).trans (Fr.put (m := (· = g1.next)) _ (.inl rfl)) (fun j hj => .inr (by omega))
  have hib4 := oi.1
  replace oi := oi.fr f5 (fun g => g)
  show RunC prog _ _ _ ((g1.push ⟨rc8 ⟨0, 0, 0, 0, 0, 0, 0, 0⟩, true⟩).put g1.next (some ⟨rc8 ⟨0, ((id + (n - 1) : Nat) : Int), 0, 0, 0, 0, 0, 0⟩, true⟩)) _ _ _
  generalize (g1.push ⟨rc8 ⟨0, 0, 0, 0, 0, 0, 0, 0⟩, true⟩).put g1.next (some ⟨rc8 ⟨0, ((id + (n - 1) : Nat) : Int), 0, 0, 0, 0, 0, 0⟩, true⟩) = g2 at *
  obtain ⟨pb, hpb⟩ : ∃ q, q = g1.next := ⟨_, rfl⟩
  rw [← hpb] at on ⊢
  refine RunC.seq (RunC.region (RunO.all rfl ?_))
  generalize hU : how % 18446744073709551616 = U at *
  refine RunC.seqc (fun E' h' => ∃ r bad, BadE a n id r bad ∧ Ow h' pb (rc8 r) ∧ Fr (· = pb) g2 h' ∧ Le ((upd (upd (upd (upd (upd E0 0 (.int .i64 (n : Int))) 1 (.int .i64 (a : Int))) 9 (.slice (some ⟨ib, 0, none⟩) 1280 ic)) 10 (.pointer (some ⟨pb, 0, none⟩))) 11 (.int .i64 bad))) E') ?sw ?by_
  case sw =>
    refine RunC.seq (RunC.region (RunO.part 2 rfl ?_))
    rw [fwu64', hU]
    refine RunO.all rfl ?_
    generalize U.tmod 4 = m at *
    refine RunC.block ?_
    refine RunC.seq (RunC.region (RunO.all rfl ?_))
    cases (m == 0) with
    | true =>
      refine RunC.cond rfl (fun _ => ?_) (fun g => by cases g)
      refine RunC.region (RunO.part 3 rfl ?_)
      refine RunO.store rfl rfl (store1_ow on rfl rfl rfl (Nat.le_of_ble_eq_true rfl)) (RunO.all rfl ?_)
      exact ⟨_, _, bade_round hA2 hn19 hN2 hI1 hid9, Ow.put _ on.1, Fr.put _ (.inl rfl), Le.cons rfl (Le.cons rfl (Le.cons rfl (Le.cons rfl (Le.cons rfl (Le.nil _)))))⟩
    | false =>
    refine RunC.cond rfl (fun g => by cases g) (fun _ => ?_)
    refine RunC.seq (RunC.region (RunO.all rfl ?_))
    cases (m == 1) with
    | true =>
      refine RunC.cond rfl (fun _ => ?_) (fun g => by cases g)
      refine RunC.region (RunO.part 1 rfl ?_)
      refine RunO.store rfl rfl (store1_ow on rfl rfl rfl (Nat.le_of_ble_eq_true rfl)) (RunO.all rfl ?_)
      exact ⟨_, _, bade_beyond hA2 hn19 hN2 hI1 hid9, Ow.put _ on.1, Fr.put _ (.inl rfl), Le.cons rfl (Le.cons rfl (Le.cons rfl (Le.cons rfl (Le.cons rfl (Le.nil _)))))⟩
    | false =>
    refine RunC.cond rfl (fun g => by cases g) (fun _ => ?_)
    refine RunC.seq (RunC.region (RunO.all rfl ?_))
    cases (m == 2) with
    | true =>
      refine RunC.cond rfl (fun _ => ?_) (fun g => by cases g)
      refine RunC.region (RunO.part 1 rfl ?_)
      refine RunO.store rfl rfl (store1_ow on rfl rfl rfl (Nat.le_of_ble_eq_true rfl)) (RunO.all rfl ?_)
      exact ⟨_, _, bade_cut hA2 hn19 hN2 hI1 hid9, Ow.put _ on.1, Fr.put _ (.inl rfl), Le.cons rfl (Le.cons rfl (Le.cons rfl (Le.cons rfl (Le.cons rfl (Le.nil _)))))⟩
    | false =>
    refine RunC.cond rfl (fun g => by cases g) (fun _ => ?_)
    refine RunC.region (RunO.part 4 rfl ?_)
    rw [fw64 (x := (a : Int) + (n : Int)) (by omega) (by omega)]
    refine RunO.part 1 rfl ?_
    rw [fw64 (x := (a : Int) + (n : Int) - 1) (by omega) (by omega), show (a : Int) + (n : Int) - 1 = ((a + (n - 1) : Nat) : Int) by omega]
    refine RunO.part 1 rfl ?_
    refine RunO.store rfl rfl (store1_ow on rfl rfl rfl (Nat.le_of_ble_eq_true rfl)) (RunO.all rfl ?_)
    exact ⟨_, _, bade_twice hA2 hn19 hN2 hI1 hid9 hN1, Ow.put _ on.1, Fr.put _ (.inl rfl), Le.cons rfl (Le.cons rfl (Le.cons rfl (Le.cons rfl (Le.cons rfl (Le.nil _)))))⟩
  rintro E' g3 ⟨r, bad, ⟨hrok, r2, r3, r4, r5, r6, r7, rs, bl_, w2, hfb, hb0, hsub⟩, on, f6, hE⟩
  refine RunC.le hE ?_
  clear hE
  replace oi := oi.fr f6 (fun e => by have e : ib = pb := e; omega)
  have hin : n - 1 < n := by omega
  have hxl := recX_len hA2 hn20 hI1 hid9 hin hrok
  have hxb := recX_byt hA2 hn20 hI1 hid9 hin hrok
  obtain ⟨hxk, _, _⟩ := recX_lk hA2 hn20 hI1 hid9 hin hrok r2 hfb hsub
  rw [if_neg hb0] at hxk
  have hxI : setBlk (recI a n id) (a + (n - 1)) (r8B r) = recX a n id (n - 1) r := rfl
  have hrl := r8B_len r
  have hrb := r8B_byt r
  refine RunC.seq (RunC.region ?_)
  refine RunO.load (v := .agg ⟨rc8 r⟩) rfl (on.ld rfl) rfl ?_
  refine RunO.callD (recBytes_ok (n := r.nx) (id := r.id) (pa := r.pa) (ro := r.ro) (sz := r.sz) (ki := r.ki) (fr := r.fr) (di := r.di)) rfl rfl rfl ?_
  rintro _ g4 ⟨f7, ⟨_, db, hdb, rfl, od⟩ | ⟨g, _⟩⟩
  case inr =>
    have g : r8Ok r = false := g
    rw [hrok] at g; cases g
  have od : Ow g4 db (us (r8B r)) := od
  replace oi := oi.fr f7 (fun g => g)
  generalize recX a n id (n - 1) r = X at *
  generalize r8B r = RB at *
  generalize recI a n id = L at *
  refine RunO.all rfl ?_
  refine RunC.seq (RunC.region (RunO.part 4 rfl ?_))
  rw [fw64 (x := (a : Int) + (n : Int)) (by omega) (by omega)]
  refine RunO.part 1 rfl ?_
  rw [fw64 (x := (a : Int) + (n : Int) - 1) (by omega) (by omega), show (a : Int) + (n : Int) - 1 = ((a + (n - 1) : Nat) : Int) by omega]
  refine RunO.part 3 (h1 := g4.push ⟨[.int .i64 1, .int .i64 ((a + (n - 1) : Nat) : Int), .slice (some ⟨db, 0, none⟩) 64 (exc 64)], true⟩) rfl ?_
  have ol := Ow.push g4 [.int .i64 1, .int .i64 ((a + (n - 1) : Nat) : Int), .slice (some ⟨db, 0, none⟩) 64 (exc 64)]
  have f8 : Fr no g4 (g4.push ⟨[.int .i64 1, .int .i64 ((a + (n - 1) : Nat) : Int), .slice (some ⟨db, 0, none⟩) 64 (exc 64)], true⟩) := Fr.push _ _ _
  replace oi := oi.fr f8 (fun g => g)
  replace od := od.fr f8 (fun g => g)
  generalize g4.push ⟨[.int .i64 1, .int .i64 ((a + (n - 1) : Nat) : Int), .slice (some ⟨db, 0, none⟩) 64 (exc 64)], true⟩ = g5 at *
  generalize g4.next = lb at *
  have sd : Sl g5 (.slice (some ⟨db, 0, none⟩) 64 (exc 64)) 1 RB.length (us RB) := by rw [hrl]; exact od.all.sl (by rw [us_len, hrl]) (by decide) (Cp.exc (Nat.le_refl _))
  have si := sl_own oi hil hic (by decide)
  have hse : stepsE L.length [(1, ((a + (n - 1) : Nat) : Int), RB, ())] = 0 := by
    rw [hil]
    refine stepsE_ok (by decide) (Nat.le_of_ble_eq_true rfl) (fun x hx => ?_)
    rw [List.mem_singleton] at hx
    subst hx
    exact .inl ⟨rfl, ⟨a + (n - 1), rfl, by show a + (n - 1) < 20; omega⟩, hrl⟩
  refine RunO.callD (devApply_ok si (by omega) (ios_one ol sd hrb) (Nat.le_of_ble_eq_true rfl)) rfl rfl rfl ?_
  rw [hse]
  rintro _ g6 ⟨f9, ⟨_, xq, xc, hxq, rfl, hxc, ox⟩ | ⟨hno, _⟩⟩
  case inr => exact absurd rfl hno
  have ox : Ow g6 xq (us (setBlk L (a + (n - 1)) RB)) := ox
  rw [hxI] at ox
  have si6 := si.fr0 f9
  rw [hil] at hxc si6 ⊢
  refine RunO.all rfl ?_
  have slx := sl_own ox hxl hxc (by decide)
  have si6 : Sl g6 (.slice (some ⟨ib, 0, none⟩) 1280 ic) 1 L.length (us L) := by rw [hil]; exact si6
  refine RunC.seq (RunC.region (RunO.part 8 rfl ?_))
  refine RunO.callDG rfl (fsckSound_ok si6 hib (by omega)) rfl rfl rfl ?_
  rw [hlk]
  rintro _ g7 ⟨rfl, f10⟩
  refine RunO.part 3 rfl ?_
  refine RunO.callDG rfl (fsckCheck_ok (slx.fr0 f10) hxb (by omega)) rfl rfl rfl ?_
  rw [hxk]
  rintro _ g8 ⟨f11, ⟨g, _⟩ | ⟨_, fb, hfb_, rfl, of⟩⟩
  · cases g
  refine RunO.part 3 (h1 := g8.push ⟨ftc [(bad, 7)], true⟩) rfl ?_
  have on2 := Ow.push g8 (ftc [(bad, 7)])
  have f12 : Fr no g8 (g8.push ⟨ftc [(bad, 7)], true⟩) := Fr.push _ _ _
  have of8 := of.fr f12 (fun g => g)
  generalize g8.push ⟨ftc [(bad, 7)], true⟩ = g9 at *
  generalize g8.next = nb at *
  have sf : ∀ (q : Nat), Ow g9 q (ftc [(bad, 7)]) → Sl g9 (.slice (some ⟨q, 0, none⟩) 1 (exc 1)) 2 1 (ftc [(bad, 7)]) := fun q ow => ow.all.sl rfl (by decide) (Cp.exc (Nat.le_refl _))
  refine RunO.callDG rfl (keepFaults_ok (l := [(bad, 7)]) (m := [(bad, 7)]) (sf _ of8) (sf _ on2) (by show 1 ≤ _; decide)) rfl rfl rfl ?_
  rintro _ _ ⟨rfl, rfl⟩
  rw [show ([(bad, (7 : Int))] == [(bad, 7)]) = true from beq_self_eq_true _]
  refine RunO.part 2 rfl ?_
  refine RunO.callDG rfl wakes16_ok rfl rfl rfl ?_
  rintro _ h9 ⟨rfl, f9⟩
  exact RunO.all rfl (RunC.ret ⟨_, rfl, rfl⟩)
theorem fsckRecords_true : ∀ h xs avs, ArgsK [.int .i64, .int .i64, .int .i64, .int .i64] h xs avs → RunF prog 7 avs h fun v _ => v = .bool true := by
  intro h xs avs ha
  obtain ⟨n, _, _, rfl, _, ha⟩ := argInt ha
  obtain ⟨m, _, _, rfl, _, ha⟩ := argInt ha
  obtain ⟨k, _, _, rfl, _, ha⟩ := argInt ha
  obtain ⟨j, _, _, rfl, _, ha⟩ := argInt ha
  obtain rfl := argNil ha
  exact fsckRecords_walk n m k j
end Go.Proofs.Ytnokcbenpnmnbaa
end
