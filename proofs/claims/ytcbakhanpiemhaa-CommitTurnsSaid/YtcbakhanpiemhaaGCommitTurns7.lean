/- CommitTurns: a calculus over an abstract machine that stands beside the model, and contracts of functions by it (part 7).
Conditions: what each theorem says of its arguments. -/
import Derived.Test.YtcbakhanpiemhaaGCommitTurns6
section
set_option linter.unusedVariables false
set_option linter.unusedSectionVars false
set_option maxRecDepth 100000
open Go Go.Am Go.RowKit
namespace Go.Proofs.Ytcbakhanpiemhaa
open Go.Proofs.Try

theorem tmod2 (k : Nat) : (k : Int).tmod 2 = ((k % 2 : Nat) : Int) := by rw [Int.tmod_eq_emod_of_nonneg (by omega)]; omega
set_option maxHeartbeats 32000000 in
theorem commitTurns_walk {h : Heap} {b_ n_ size : Int} : RunF prog 8 [.int .i64 b_, .int .i64 n_, .int .i64 size] h fun v _ => v = .bool true := by
  refine RunF.walk func8 rfl rfl ?_
  obtain ⟨hb0, hb1⟩ := modU b_ 20 (by decide)
  obtain ⟨B, hB⟩ := Int.eq_ofNat_of_zero_le hb0
  obtain ⟨hn0, hn1⟩ := modU n_ 20 (by decide)
  obtain ⟨n, hn⟩ := Int.eq_ofNat_of_zero_le hn0
  refine RunC.seq (RunC.region (RunO.all rfl ?_))
  refine RunC.seq (RunC.region (RunO.part 2 rfl ?_))
  rw [fwu64']
  refine RunO.part 1 rfl ?_
  rw [hB]
  refine RunO.part 1 rfl ?_
  rw [fw64 (x := (B : Int)) (by omega) (by omega)]
  refine RunO.part 1 rfl ?_
  rw [fw64 (x := 4 + (B : Int)) (by omega) (by omega), show 4 + (B : Int) = ((4 + B : Nat) : Int) by omega]
  refine RunO.part 2 rfl ?_
  rw [fwu64']
  refine RunO.part 1 rfl ?_
  rw [hn]
  refine RunO.part 1 rfl ?_
  rw [fw64 (x := (n : Int)) (by omega) (by omega)]
  refine RunO.all rfl ?_
  have hB4 : 4 ≤ 4 + B := by omega
  have hB23 : 4 + B ≤ 23 := by omega
  have hn20 : n < 20 := by omega
  generalize 4 + B = B at *
  clear hb0 hb1 hn0 hn1 hB hn
  refine RunC.seq (RunC.region (RunO.part 1 rfl ?_))
  refine RunO.callD (openNew_ok (B := B) hB4 (by omega)) rfl rfl rfl ?_
  rintro _ h1 ⟨f1, ib, hib, rfl, oi⟩
  refine RunO.all rfl ?_
  refine RunC.seq (RunC.seq (RunC.region (RunO.all rfl (RunC.cond rfl (fun g => by cases g) (fun _ => RunC.skip ?_)))))
  refine RunC.seq (RunC.seq (RunC.region (RunO.all rfl ?_)))
  refine RunC.block ?_
  refine RunC.loop (fun d E h' => ∃ (k : Nat) (X : List Int) (sz : Int) (q c : Nat), k + d = n ∧ Two B ((k + 1 : Nat) : Int) (k % 2) 0 sz 0 X ∧ superOk ((k + 1 : Nat) : Int) (B : Int) 0 sz 0 = true ∧ Ow h' q (us X) ∧ Cp 1 (B * 64) c ∧ Le ((upd (upd (upd (upd E0 1 (.int .i64 (n : Int))) 2 (.int .i64 size)) 7 (.slice (some ⟨q, 0, none⟩) (B * 64) c)) 9 (.int .i64 (k : Int)))) E) ?st (k := n) ?ini
  case ini => exact ⟨0, newI B, 0, ib, _, by omega, two_new hB4, ok_new hB4 (by omega), oi, Cp.exc (Nat.le_refl _), Le.cons rfl (Le.cons rfl (Le.cons rfl (Le.cons rfl (Le.nil _))))⟩
  rintro d E g1 ⟨k, X, sz, q, c, hk, t, ok, ox, hc, hE⟩
  refine RunC.le hE ?_
  clear hE
  have hk2 : k % 2 = 0 ∨ k % 2 = 1 := by omega
  have hpk := t.pick hk2 ok
  obtain ⟨k1, k2, k3⟩ := lk_empty (by rw [t.len]; exact devOk_mul hB4 (by omega)) hpk rfl rfl
  have k0 : (lk X).2 = 0 := by rw [k1]
  have hxl := t.len
  have slx : Sl g1 (.slice (some ⟨q, 0, none⟩) (B * 64) c) 1 X.length (us X) := sl_own ox hxl hc (by omega)
  refine RunC.seq (RunC.seq (RunC.region (RunO.all rfl ?_)))
  refine RunC.cond rfl (fun hlt => RunC.skip ?go) (fun hge => RunC.exit ?ex)
  case ex =>
    have hge := of_decide_eq_false hge
    obtain rfl : k = n := by omega
    refine RunC.seq (RunC.region (RunO.part 1 rfl ?_))
    refine RunO.callD (openOpen_ok slx t.byt (by omega)) rfl rfl rfl ?_
    rintro _ g2 ⟨f2, ⟨_, rv, rfl, rl⟩ | ⟨g, _⟩⟩
    case inr => exact absurd k0 g
    rw [k3, hpk]
    refine RunO.part 4 (h1 := g2.push ⟨(stc (0, 0, 0, 0, 0) 0 (.slice none 0 0)), true⟩) rfl ?_
    refine RunO.store rfl rfl (store_ow (s := 7) (Ow.push g2 (stc (0, 0, 0, 0, 0) 0 (.slice none 0 0))) rfl rfl (stc_cells rl) (Nat.le_of_ble_eq_true rfl)) (RunO.all rfl ?_)
    rw [stc_store]
    have os : Ow ((g2.push ⟨(stc (0, 0, 0, 0, 0) 0 (.slice none 0 0)), true⟩).put g2.next (some ⟨(stc (((k + 1 : Nat) : Int), (B : Int), 0, sz, 0) ((k % 2 : Nat) : Int) rv), true⟩)) g2.next (stc (((k + 1 : Nat) : Int), (B : Int), 0, sz, 0) ((k % 2 : Nat) : Int) rv) := Ow.put _ (Nat.lt_succ_self _)
    have f3 : Fr no g2 ((g2.push ⟨(stc (0, 0, 0, 0, 0) 0 (.slice none 0 0)), true⟩).put g2.next (some ⟨(stc (((k + 1 : Nat) : Int), (B : Int), 0, sz, 0) ((k % 2 : Nat) : Int) rv), true⟩)) := (Fr.push _ _ _).trans (Fr.put (m := (· = g2.next)) _ (.inl rfl)) (fun j hj => .inr (by omega))
    show RunC prog _ _ _ ((g2.push ⟨(stc (0, 0, 0, 0, 0) 0 (.slice none 0 0)), true⟩).put g2.next (some ⟨(stc (((k + 1 : Nat) : Int), (B : Int), 0, sz, 0) ((k % 2 : Nat) : Int) rv), true⟩)) _ _ _
    generalize (g2.push ⟨(stc (0, 0, 0, 0, 0) 0 (.slice none 0 0)), true⟩).put g2.next (some ⟨(stc (((k + 1 : Nat) : Int), (B : Int), 0, sz, 0) ((k % 2 : Nat) : Int) rv), true⟩) = g3 at *
    generalize g2.next = sb at *
  
    refine RunC.seq (RunC.region (RunO.part 5 rfl ?_))
    refine RunO.loadG (v := .int .i64 ((k + 1 : Nat) : Int)) rfl rfl (os.ld rfl) rfl ?_
    refine RunO.part 2 rfl ?_
    rw [fw64 (x := (k : Int) + 1) (by omega) (by omega), show (k : Int) + 1 = ((k + 1 : Nat) : Int) by omega]
    refine RunO.part 1 rfl ?_
    rw [beq_self_eq_true ((k + 1 : Nat) : Int)]
    refine RunO.part 3 rfl ?_
    refine RunO.loadG (v := .int .i64 ((k % 2 : Nat) : Int)) rfl rfl (os.ld rfl) rfl ?_
    refine RunO.part 2 rfl ?_
    rw [tmod2]
    refine RunO.part 1 rfl ?_
    rw [beq_self_eq_true ((k % 2 : Nat) : Int)]
    refine RunO.part 2 rfl ?_
    refine RunO.callDG rfl wakes15_ok rfl rfl rfl ?_
    rintro _ h9 ⟨rfl, f9⟩
    exact RunO.all rfl (RunC.ret ⟨_, rfl, rfl⟩)
  have hlt := of_decide_eq_true hlt
  refine RunC.seq (RunC.block ?_)
  refine RunC.seq (RunC.region (RunO.part 1 rfl ?_))
  refine RunO.callD (openOpen_ok slx t.byt (by omega)) rfl rfl rfl ?_
  rintro _ g2 ⟨f2, ⟨_, rv, rfl, rl⟩ | ⟨g, _⟩⟩
  case inr => exact absurd k0 g
  rw [k3, hpk]
  refine RunO.part 4 (h1 := g2.push ⟨(stc (0, 0, 0, 0, 0) 0 (.slice none 0 0)), true⟩) rfl ?_
  refine RunO.store rfl rfl (store_ow (s := 7) (Ow.push g2 (stc (0, 0, 0, 0, 0) 0 (.slice none 0 0))) rfl rfl (stc_cells rl) (Nat.le_of_ble_eq_true rfl)) (RunO.all rfl ?_)
  rw [stc_store]
  have os : Ow ((g2.push ⟨(stc (0, 0, 0, 0, 0) 0 (.slice none 0 0)), true⟩).put g2.next (some ⟨(stc (((k + 1 : Nat) : Int), (B : Int), 0, sz, 0) ((k % 2 : Nat) : Int) rv), true⟩)) g2.next (stc (((k + 1 : Nat) : Int), (B : Int), 0, sz, 0) ((k % 2 : Nat) : Int) rv) := Ow.put _ (Nat.lt_succ_self _)
  have f3 : Fr no g2 ((g2.push ⟨(stc (0, 0, 0, 0, 0) 0 (.slice none 0 0)), true⟩).put g2.next (some ⟨(stc (((k + 1 : Nat) : Int), (B : Int), 0, sz, 0) ((k % 2 : Nat) : Int) rv), true⟩)) := (Fr.push _ _ _).trans (Fr.put (m := (· = g2.next)) _ (.inl rfl)) (fun j hj => .inr (by omega))
  show RunC prog _ _ _ ((g2.push ⟨(stc (0, 0, 0, 0, 0) 0 (.slice none 0 0)), true⟩).put g2.next (some ⟨(stc (((k + 1 : Nat) : Int), (B : Int), 0, sz, 0) ((k % 2 : Nat) : Int) rv), true⟩)) _ _ _
  generalize (g2.push ⟨(stc (0, 0, 0, 0, 0) 0 (.slice none 0 0)), true⟩).put g2.next (some ⟨(stc (((k + 1 : Nat) : Int), (B : Int), 0, sz, 0) ((k % 2 : Nat) : Int) rv), true⟩) = g3 at *
  generalize g2.next = sb at *

  have slx3 := (slx.fr0 f2).fr0 f3
  refine RunC.seq (RunC.region ?_)
  refine RunO.load (v := .agg ⟨(stc (((k + 1 : Nat) : Int), (B : Int), 0, sz, 0) ((k % 2 : Nat) : Int) rv)⟩) rfl (os.ld rfl) rfl ?_
  refine RunO.part 4 rfl ?_
  obtain ⟨hv0, hv1⟩ := modU (fwrap .i64 (size + (k : Int))) 513 (by decide)
  rw [fwu64']
  refine RunO.part 1 rfl ?_
  generalize (fwrap .i64 (size + (k : Int)) % 18446744073709551616).tmod 513 = v at *
  refine RunO.part 1 rfl ?_
  rw [fw64 (x := v) (by omega) (by omega)]
  have hok2 : superOk (((k + 1 : Nat) : Int) + 1) (B : Int) 0 v 0 = true := (superOk_iff _ _ _ _ _).2 ⟨by omega, by omega, by omega, .inl rfl, .inl rfl⟩
  have hios : Ios g3 (.slice none 0 0) [] := ⟨[], Sl.nil _ 3, fun j x hx => by cases hx⟩
  refine RunO.callD (commitSteps_ok (s := (((k + 1 : Nat) : Int), (B : Int), 0, sz, 0)) (slot := ((k % 2 : Nat) : Int)) (root := 0) (size := v) (first := 0) hios (by decide) ok (by show ((k + 1 : Nat) : Int) < _; omega) (by omega) hok2 (fun x hx => by cases hx)) rfl rfl rfl ?_
  rintro _ g4 ⟨f4, lv, rfl, ios⟩
  rw [List.nil_append] at ios
  have hct : (cmtT (((k + 1 : Nat) : Int), (B : Int), 0, sz, 0) ((k % 2 : Nat) : Int) 0 v 0).length = 3 := rfl
  have ios2 := ios.ios (by omega)
  refine RunO.all rfl ?_
  refine RunC.seq (RunC.region (RunO.part 2 rfl ?_))
  have hst := st_cmt (n := B * 64) (W := []) (s := (((k + 1 : Nat) : Int), (B : Int), 0, sz, 0)) (slot := k % 2) (root := 0) (size := v) (first := 0) (devOk_mul hB4 (by omega)) hk2 (by decide) (fun x hx => by cases hx)
  have hap := ap_cmt (o := X) (W := []) (s := (((k + 1 : Nat) : Int), (B : Int), 0, sz, 0)) (slot := k % 2) (root := 0) (size := v) (first := 0) hk2
  rw [List.nil_append] at hst hap
  rw [← hxl] at hst
  refine RunO.callD (devApply_ok (slx3.fr0 f4) (by omega) ios2 (by omega)) rfl rfl rfl ?_
  rw [hst]
  rintro _ g5 ⟨f5, ⟨_, xq, xc, hxq, rfl, hxc, ox2⟩ | ⟨hno, _⟩⟩
  case inr => exact absurd rfl hno
  rw [hap, hxl] at *
  have t2 := t.next (rt' := 0) (sz' := v) (fi' := 0) hk2 hB4 ok
  have ox2 : Ow g5 xq (us (setBlk X (1 - k % 2) (superBlock (((k + 1 : Nat) : Int) + 1) (B : Int) 0 v 0))) := ox2
  replace os := (os.fr f4 (fun g => g)).fr f5 (fun g => g)
  refine RunO.all rfl ?_
  refine RunC.seq (RunC.seq (RunC.region (RunO.part 12 rfl ?_)))
  refine RunO.loadG (v := .int .i64 ((k % 2 : Nat) : Int)) rfl rfl (os.ld rfl) rfl ?_
  refine RunO.part 2 rfl ?_
  rw [tmod2]
  refine RunO.part 1 rfl ?_
  rw [show (((k % 2 : Nat) : Int) != ((k % 2 : Nat) : Int)) = false from bne_self_eq_false _]
  refine RunO.part 4 rfl ?_
  refine RunO.loadG (v := .int .i64 ((k + 1 : Nat) : Int)) rfl rfl (os.ld rfl) rfl ?_
  refine RunO.part 2 rfl ?_
  rw [fw64 (x := (k : Int) + 1) (by omega) (by omega), show (k : Int) + 1 = ((k + 1 : Nat) : Int) by omega]
  refine RunO.part 1 rfl ?_
  rw [show (((k + 1 : Nat) : Int) != ((k + 1 : Nat) : Int)) = false from bne_self_eq_false _]
  refine RunO.all rfl (RunC.cond rfl (fun g => by cases g) (fun _ => RunC.skip ?_))
  refine RunC.region (RunO.all rfl ?_)
  refine RunC.region (RunO.all rfl ?_)
  have e1 : 1 - k % 2 = (k + 1) % 2 := by omega
  have e2 : ((k + 1 : Nat) : Int) + 1 = ((k + 1 + 1 : Nat) : Int) := by omega
  rw [e1, e2] at t2 ox2
  rw [e2] at hok2
  exact ⟨d - 1, by omega, k + 1, _, v, xq, xc, by omega, t2, hok2, ox2, hxc, Le.cons (inc64 (by omega)) (Le.cons rfl (Le.cons rfl (Le.cons rfl (Le.nil _))))⟩
theorem commitTurns_true : ∀ h xs avs, ArgsK [.int .i64, .int .i64, .int .i64] h xs avs → RunF prog 8 avs h fun v _ => v = .bool true := by
  intro h xs avs ha
  obtain ⟨a, _, _, rfl, _, ha⟩ := argInt ha
  obtain ⟨b, _, _, rfl, _, ha⟩ := argInt ha
  obtain ⟨c, _, _, rfl, _, ha⟩ := argInt ha
  obtain rfl := argNil ha
  exact commitTurns_walk
end Go.Proofs.Ytcbakhanpiemhaa
end
