/- DiffExact: a calculus over an abstract machine that stands beside the model, and contracts of functions by it (part 6).
Conditions: what each theorem says of its arguments. -/
import Derived.Test.YtimefcnagilhlaaGDiffExact5
section
set_option linter.unusedVariables false
set_option maxRecDepth 100000
open Go Go.Am Go.RowKit
namespace Go.Proofs.Ytimefcnagilhlaa
open Go.Proofs.Try
set_option maxHeartbeats 16000000 in
theorem diffExact_true : ∀ h xs avs, ArgsK [.slice (.int .u8), .int .i64, .int .i64, .slice (.int .i64), .slice (.int .i64)] h xs avs → RunF prog 7 avs h fun v _ => v = .bool true := by
  intro h xs avs ha
  obtain ⟨L, _, iv, _, rfl, sl, hLw, ha⟩ := argInts ha
  obtain ⟨a, _, _, rfl, _, ha⟩ := argInt ha
  obtain ⟨b, _, _, rfl, _, ha⟩ := argInt ha
  obtain ⟨m, _, mv, _, rfl, slm, _, ha⟩ := argInts ha
  obtain ⟨n, _, nv, _, rfl, sln, _, ha⟩ := argInts ha
  obtain rfl := argNil ha
  have hb : Byt L := fun x hx => wf_u8 (hLw x hx)
  have sl : Sl h iv 1 L.length (us L) := sl
  have slm : Sl h mv 1 m.length (is m) := slm
  have sln : Sl h nv 1 n.length (is n) := sln
  refine RunF.walk func7 rfl rfl ?_
  refine RunC.seq (RunC.region (RunO.all rfl ?_))
  have slm0 := slm
  have sln0 := sln
  obtain ⟨mA, mc, rfl, _, _⟩ := slm.form
  obtain ⟨nA, nc, rfl, _, _⟩ := sln.form
  refine RunC.seq (RunC.seqE (upd (upd (upd (upd (upd (upd E0 0 iv) 1 (.int .i64 a)) 2 (.int .i64 b)) 3 (.slice mA m.length mc)) 4 (.slice nA n.length nc)) 34 (.bool ((decide ((L.length : Int) > 19200) || decide ((m.length : Int) > 600)) || decide ((n.length : Int) > 600)))) ?_ ?_)
  · refine RunC.region (RunO.part 1 rfl ?_)
    refine RunO.callD (heavy_ok sl) rfl rfl rfl ?_
    rintro _ _ ⟨rfl, rfl⟩
    refine RunO.part 1 rfl ?_
    cases decide ((L.length : Int) > 19200) with
    | true => exact RunO.all rfl ⟨rfl, Le.cons rfl (Le.cons rfl (Le.cons rfl (Le.cons rfl (Le.cons rfl (Le.cons rfl (Le.nil _))))))⟩
    | false =>
      refine RunO.part 5 rfl ?_
      cases decide ((m.length : Int) > 600) with
      | true => exact RunO.all rfl ⟨rfl, Le.cons rfl (Le.cons rfl (Le.cons rfl (Le.cons rfl (Le.cons rfl (Le.cons rfl (Le.nil _))))))⟩
      | false => exact RunO.all rfl ⟨rfl, Le.cons rfl (Le.cons rfl (Le.cons rfl (Le.cons rfl (Le.cons rfl (Le.cons rfl (Le.nil _))))))⟩
  cases hh : (decide ((L.length : Int) > 19200) || decide ((m.length : Int) > 600)) || decide ((n.length : Int) > 600) with
  | true =>
    refine RunC.cond rfl (fun _ => ?_) (fun g => by cases g)
    exact RunC.seq (RunC.region (RunO.all rfl (RunC.ret ⟨_, rfl, rfl⟩)))
  | false =>
  rw [Bool.or_eq_false_iff, Bool.or_eq_false_iff, decide_eq_false_iff_not, decide_eq_false_iff_not, decide_eq_false_iff_not] at hh
  have hLl : L.length ≤ 19200 := by omega
  have hml : m.length ≤ 600 := by omega
  have hnl : n.length ≤ 600 := by omega
  refine RunC.cond rfl (fun g => by cases g) (fun _ => RunC.skip ?_)
  -- the twin, the changes
  refine RunC.seq (RunC.region (RunO.part 1 rfl ?_))
  refine RunO.callD (twin_ok sl (by omega)) rfl rfl rfl ?_
  rintro tv h1 ⟨rowt, f1⟩
  have slt := rowt.sl (by omega)
  refine RunO.all rfl ?_
  refine RunC.seq (RunC.region (RunO.part 3 rfl ?_))
  refine RunO.callD (diffTrees_ok (a := a) (b := b) slt hb (by omega)) rfl rfl rfl ?_
  rintro _ h2 ⟨f2, lv, rfl, rowl⟩
  have hll := diffL_len L a b
  have sll := rowl.sl (by omega)
  refine RunO.all rfl ?_
  -- the maps' changes; nothing is changed
  refine RunC.seq (RunC.seq (RunC.region (RunO.part 2 rfl ?_)))
  refine RunO.callD (diffMaps_ok (h := h2) ((slm0.fr0 f1).fr0 f2) ((sln0.fr0 f1).fr0 f2) (by omega) (by omega)) rfl rfl rfl ?_
  rintro xv h3 ⟨rowx, f3⟩
  have hcl : (mapsC m n).length ≤ 600 := Nat.le_trans (chs_len _ _ _ _) (by omega)
  have f13 := (f1.same f2).same f3
  refine RunO.part 2 rfl ?_
  refine RunO.callD (refMaps_ok (h := h3) (slm0.fr0 f13) (sln0.fr0 f13) (by omega) (by omega)) rfl rfl rfl ?_
  rintro yv h4 ⟨rowy, f4⟩
  have f14 := f13.same f4
  refine RunO.callD (keepChanges_ok ((rowx.sl (by omega)).fr0 f4) (rowy.sl (by omega)) (by omega)) rfl rfl rfl ?_
  rintro _ _ ⟨rfl, rfl⟩
  rw [show (mapsC m n == mapsC m n) = true from beq_self_eq_true _]
  replace slt := ((slt.fr0 f2).fr0 f3).fr0 f4
  replace sll := (sll.fr0 f3).fr0 f4
  replace sl := sl.fr0 f14
  refine RunO.part 4 rfl ?_
  refine RunO.callDG rfl (keepBytesS_ok slt sl (by omega)) rfl rfl rfl ?_
  rintro _ _ ⟨rfl, rfl⟩
  rw [show (L == L) = true from beq_self_eq_true _]
  refine RunO.all rfl (RunC.cond rfl (fun g => by cases g) (fun _ => RunC.skip ?_))
  clear rowx rowy rowl rowt f1 f2 f3 f4 f13 f14 slm0 sln0 slm sln slt
  -- the device
  refine RunC.seq (RunC.seq (RunC.region (RunO.part 1 rfl ?_)))
  refine RunO.callD (refBlocks_ok sl (by omega)) rfl rfl rfl ?_
  rintro _ _ ⟨rfl, rfl⟩
  refine RunO.all rfl ?_
  refine RunC.seq (RunC.region (RunO.all rfl ?_))
  have hEa : treeE L a = if devOk L.length then (if treeOk L a then 0 else 6) else 2 := rfl
  have hEb : treeE L b = if devOk L.length then (if treeOk L b then 0 else 6) else 2 := rfl
  have hnone : ∀ e : Int, diffE L a b = e → e ≠ 0 → diffL L a b = [] ∧ diffN L a b = 0 := fun e h1 h2 => by
    unfold diffL diffN
    rw [h1, if_neg h2, if_neg h2]
    exact ⟨rfl, rfl⟩
  have sll0 := sll
  obtain ⟨lA, lc, rfl, _, _⟩ := sll.form
  cases hd : devOk L.length with
  | false =>
    have hE : diffE L a b = 2 := by
      unfold diffE
      rw [hEa, hd]; rfl
    obtain ⟨z1, z2⟩ := hnone 2 hE (by decide)
    rw [hE, z1, z2]
    refine RunC.cond rfl (fun _ => ?_) (fun g => by cases g)
    refine RunC.seq (RunC.region (RunO.part 10 rfl ?_))
    refine RunO.callDG rfl wakes20_ok rfl rfl rfl ?_
    rintro _ h9 ⟨rfl, f9⟩
    exact RunO.all rfl (RunC.ret ⟨_, rfl, rfl⟩)
  | true =>
  rw [hd] at hEa hEb
  refine RunC.cond rfl (fun g => by cases g) (fun _ => RunC.skip ?_)
  have bad : treeOk L a = false ∨ treeOk L b = false → diffE L a b = 6 ∧ diffL L a b = [] ∧ diffN L a b = 0 := fun hc => by
    have hE : diffE L a b = 6 := by
      unfold diffE
      rw [hEa, hEb]
      cases h1 : treeOk L a with
      | false => rfl
      | true =>
        rcases hc with hc | hc
        · rw [h1] at hc; cases hc
        · rw [hc]; rfl
    exact ⟨hE, hnone 6 hE (by decide)⟩
  -- the page's trees
  refine RunC.seq (RunC.region (RunO.part 2 rfl ?_))
  refine RunO.callD (refTreeS_ok (root := a) sl hb hd) rfl rfl rfl ?_
  rintro _ h5 ⟨f5, xv, xw, rfl, sx⟩
  refine RunO.all rfl ?_
  refine RunC.seq (RunC.region (RunO.part 2 rfl ?_))
  refine RunO.callD (refTreeS_ok (h := h5) (root := b) (sl.fr0 f5) hb hd) rfl rfl rfl ?_
  rintro _ h6 ⟨f6, yv, yw, rfl, sy⟩
  refine RunO.all rfl ?_
  have sx6 := (sx.fr0 f6).sl
  have sy6 := sy.sl
  have sl6 := (sl.fr0 f5).fr0 f6
  have sll6 := (sll0.fr0 f5).fr0 f6
  clear sx sy sll sll0 sl f5 f6
  refine RunC.seq (RunC.seqE (upd (upd (upd (upd (upd (upd (upd (upd (upd E0 0 iv) 1 (.int .i64 a)) 2 (.int .i64 b)) 12 (.slice lA (diffL L a b).length lc)) 13 (.int .i64 (diffN L a b : Nat))) 14 (.int .i64 (diffE L a b))) 17 xv) 20 yv) 97 (.bool (!treeOk L a || !treeOk L b))) ?_ ?_)
  · refine RunC.region (RunO.part 3 rfl ?_)
    cases treeOk L a with
    | false => exact RunO.all rfl ⟨rfl, Le.cons rfl (Le.cons rfl (Le.cons rfl (Le.cons rfl (Le.cons rfl (Le.cons rfl (Le.cons rfl (Le.cons rfl (Le.cons rfl (Le.nil _)))))))))⟩
    | true => exact RunO.all rfl ⟨rfl, Le.cons rfl (Le.cons rfl (Le.cons rfl (Le.cons rfl (Le.cons rfl (Le.cons rfl (Le.cons rfl (Le.cons rfl (Le.cons rfl (Le.nil _)))))))))⟩
  cases hoks : !treeOk L a || !treeOk L b with
  | true =>
    rw [Bool.or_eq_true, Bool.not_eq_true', Bool.not_eq_true'] at hoks
    obtain ⟨z0, z1, z2⟩ := bad hoks
    rw [z0, z1, z2]
    refine RunC.cond rfl (fun _ => ?_) (fun g => by cases g)
    refine RunC.seq (RunC.region (RunO.part 10 rfl ?_))
    refine RunO.callDG rfl wakes20_ok rfl rfl rfl ?_
    rintro _ h9 ⟨rfl, f9⟩
    exact RunO.all rfl (RunC.ret ⟨_, rfl, rfl⟩)
  | false =>
    rw [Bool.or_eq_false_iff, Bool.not_eq_false', Bool.not_eq_false'] at hoks
    obtain ⟨oa, ob⟩ := hoks
    rw [oa] at hEa
    rw [ob] at hEb
    have hE : diffE L a b = 0 := by unfold diffE; rw [hEa, hEb]; rfl
    have hL := diffL_eq hE
    have hN : diffN L a b = (dgo L (L.length / 64) 3 a b 0).2 := by unfold diffN; rw [if_pos hE]
    have hx : refM L a = treeM L a := by unfold refM; rw [if_pos oa]
    have hy : refM L b = treeM L b := by unfold refM; rw [if_pos ob]
    have hml1 := treeM_len L a
    have hml2 := treeM_len L b
    have aa := tree_allOk oa
    have ab := tree_allOk ob
    rw [hx] at sx6
    rw [hy] at sy6
    rw [hE, hN]
    rw [hL] at sll6 ⊢
    refine RunC.cond rfl (fun g => by cases g) (fun _ => RunC.skip ?_)
    refine RunC.seq (RunC.region (RunO.part 6 rfl ?_))
    refine RunO.callDG rfl (refMaps_ok sx6 sy6 (by omega) (by omega)) rfl rfl rfl ?_
    rintro zv h7 ⟨rowz, f7⟩
    have hcl2 : (mapsC (treeM L a) (treeM L b)).length ≤ 512 := Nat.le_trans (chs_len _ _ _ _) (by omega)
    refine RunO.callDG rfl (keepChanges_ok (sll6.fr0 f7) (rowz.sl (by omega)) (by omega)) rfl rfl rfl ?_
    rintro _ _ ⟨rfl, rfl⟩
    rw [show (mapsC (treeM L a) (treeM L b) == mapsC (treeM L a) (treeM L b)) = true from beq_self_eq_true _]
    refine RunO.part 6 rfl ?_
    have hB : L.length / 64 * 64 ≤ L.length := Nat.div_mul_le_self _ _
    refine RunO.callDG rfl (looked_ok hb hB (by omega) 2 (Nat.le_refl 2) (sl6.fr0 f7) aa ab) rfl rfl rfl ?_
    rintro _ h8 ⟨rfl, f8⟩
    refine RunO.part 1 rfl ?_
    rw [show (((dgo L (L.length / 64) 3 a b 0).2 : Nat) : Int) = (((dgo L (L.length / 64) (2 + 1) a b 0).2 : Nat) : Int) from rfl, show ((((dgo L (L.length / 64) (2 + 1) a b 0).2 : Nat) : Int) == (((dgo L (L.length / 64) (2 + 1) a b 0).2 : Nat) : Int)) = true from beq_self_eq_true _]
    refine RunO.part 2 rfl ?_
    refine RunO.callDG rfl wakes20_ok rfl rfl rfl ?_
    rintro _ h9 ⟨rfl, f9⟩
    exact RunO.all rfl (RunC.ret ⟨_, rfl, rfl⟩)
end Go.Proofs.Ytimefcnagilhlaa
end
