/- DiffTrees: a calculus over an abstract machine that stands beside the model, and contracts of functions by it (part 6).
Conditions: what each theorem says of its arguments. -/
import Derived.Test.YtimefcnagilhlaaGDiffTrees5
section
set_option linter.unusedVariables false
set_option maxRecDepth 100000
open Go Go.Am Go.RowKit
namespace Go.Proofs.Ytimefcnagilhlaa
open Go.Proofs.Try
set_option maxHeartbeats 16000000 in
theorem diffTrees_true : ∀ h xs avs, ArgsK [.slice (.int .u8), .int .i64, .int .i64] h xs avs → RunF prog 9 avs h fun v _ => v = .bool true := by
  intro h xs avs ha
  obtain ⟨L, _, iv, _, rfl, sl, hLw, ha⟩ := argInts ha
  obtain ⟨a, _, _, rfl, _, ha⟩ := argInt ha
  obtain ⟨b, _, _, rfl, _, ha⟩ := argInt ha
  obtain rfl := argNil ha
  have hb : Byt L := fun x hx => wf_u8 (hLw x hx)
  have sl : Sl h iv 1 L.length (us L) := sl
  refine RunF.walk func9 rfl rfl ?_
  refine RunC.seq (RunC.region (RunO.all rfl ?_))
  refine RunC.seq (RunC.seq (RunC.region (RunO.part 1 rfl ?_)))
  refine RunO.callD (heavy_ok sl) rfl rfl rfl ?_
  rintro _ _ ⟨rfl, rfl⟩
  refine RunO.all rfl ?_
  cases hh : decide ((L.length : Int) > 19200) with
  | true =>
    refine RunC.cond rfl (fun _ => ?_) (fun g => by cases g)
    exact RunC.seq (RunC.region (RunO.all rfl (RunC.ret ⟨_, rfl, rfl⟩)))
  | false =>
  have hLl : L.length ≤ 19200 := by have := of_decide_eq_false hh; omega
  refine RunC.cond rfl (fun g => by cases g) (fun _ => RunC.skip ?_)
  refine RunC.seq (RunC.region (RunO.part 3 rfl ?_))
  refine RunO.callD (diffTrees_ok (a := a) (b := b) sl hb (by omega)) rfl rfl rfl ?_
  rintro _ h1 ⟨f1, lv, rfl, rowl⟩
  have hll := diffL_len L a b
  have sll := rowl.sl (by omega)
  replace sl := sl.fr0 f1
  refine RunO.all rfl ?_
  refine RunC.seq (RunC.region (RunO.part 2 rfl ?_))
  refine RunO.callD (treeMapS_ok (root := a) sl hb (by omega)) rfl rfl rfl ?_
  rintro _ h2 ⟨f2, xv, rfl, sx⟩
  replace sll := sll.fr0 f2
  replace sl := sl.fr0 f2
  replace sx := sx.sl
  refine RunO.all rfl ?_
  refine RunC.seq (RunC.region (RunO.part 2 rfl ?_))
  refine RunO.callD (treeMapS_ok (root := b) sl hb (by omega)) rfl rfl rfl ?_
  rintro _ h3 ⟨f3, yv, rfl, sy⟩
  replace sll := sll.fr0 f3
  replace sl := sl.fr0 f3
  replace sx := sx.fr0 f3
  replace sy := sy.sl
  clear rowl f1 f2 f3
  refine RunO.all rfl ?_
  refine RunC.seq (RunC.seq (RunC.region (RunO.all rfl ?_)))
  have sll0 := sll
  obtain ⟨lA, lc, rfl, _, _⟩ := sll.form
  by_cases he : diffE L a b = 0
  case neg =>
    have z1 : diffL L a b = [] := by unfold diffL; rw [if_neg he]
    have z2 : diffN L a b = 0 := by unfold diffN; rw [if_neg he]
    rw [show (diffE L a b != 0) = true from bne_iff_ne.2 he, z1, z2]
    refine RunC.cond rfl (fun _ => ?_) (fun g => by cases g)
    by_cases h1 : treeE L a = 0
    · have hE : diffE L a b = treeE L b := by unfold diffE; rw [if_pos h1]
      have h2 : treeE L b ≠ 0 := by rw [← hE]; exact he
      rw [hE, h1]
      generalize treeE L b = e at *
      refine RunC.seq (RunC.region (RunO.part 9 rfl ?_))
      rw [show ((0 : Int) == e) = false from beq_eq_false_iff_ne.2 (Ne.symm h2)]
      refine RunO.part 7 rfl ?_
      rw [show (e == e) = true from beq_self_eq_true e]
      refine RunO.part 4 rfl ?_
      refine RunO.callDG rfl wakes20_ok rfl rfl rfl ?_
      rintro _ h9 ⟨rfl, f9⟩
      exact RunO.all rfl (RunC.ret ⟨_, rfl, rfl⟩)
    · have hE : diffE L a b = treeE L a := by unfold diffE; rw [if_neg h1]
      rw [hE]
      generalize treeE L a = e at *
      generalize treeE L b = e2 at *
      refine RunC.seq (RunC.region (RunO.part 9 rfl ?_))
      rw [show (e == e) = true from beq_self_eq_true e]
      refine RunO.part 11 rfl ?_
      refine RunO.callDG rfl wakes20_ok rfl rfl rfl ?_
      rintro _ h9 ⟨rfl, f9⟩
      exact RunO.all rfl (RunC.ret ⟨_, rfl, rfl⟩)
  obtain ⟨oa, ob, ea, eb⟩ := diffE_ok he
  have hE2 : diffE L b a = 0 := by unfold diffE; rw [if_pos eb]; exact ea
  obtain ⟨s1, s2, s3⟩ := diff_self L a
  rw [ea] at s3
  have hL := diffL_eq he
  have hL2 := diffL_eq hE2
  have hN : diffN L a b = (dgo L (L.length / 64) 3 a b 0).2 := by unfold diffN; rw [if_pos he]
  have hN2 : diffN L b a = diffN L a b := by unfold diffN; rw [if_pos he, if_pos hE2, dgo_symm]
  have hcount : diffN L a b ≤ (treeN L a).length + (treeN L b).length := by rw [hN, tree_nodes oa, tree_nodes ob]; exact dgo_count ..
  have hx : mapG L a = treeM L a := by unfold mapG; rw [if_pos ea]
  have hy : mapG L b = treeM L b := by unfold mapG; rw [if_pos eb]
  have hn1 : nodG L a = treeN L a := by unfold nodG; rw [if_pos ea]
  have hn2 : nodG L b = treeN L b := by unfold nodG; rw [if_pos eb]
  have hml1 := treeM_len L a
  have hml2 := treeM_len L b
  have hnl1 := treeN_len L a
  have hnl2 := treeN_len L b
  have hlen2 : (diffL L b a).length = (diffL L a b).length := by
    rw [hL, hL2]
    unfold mapsC
    rw [hml1, hml2]; exact chs_symm_len _ _ _ _
  rw [show (diffE L a b != 0) = false by rw [he]; rfl, ea, eb, he]
  refine RunC.cond rfl (fun g => by cases g) (fun _ => RunC.skip ?_)
  rw [hx] at sx
  rw [hy] at sy
  -- the nodes
  refine RunC.seq (RunC.region (RunO.part 2 rfl ?_))
  refine RunO.callD (treeNodesS_ok (root := a) sl hb (by omega)) rfl rfl rfl ?_
  rintro _ h4 ⟨f4, nv, rfl, sn⟩
  replace sn := sn.sl
  rw [hn1] at sn
  rw [ea]
  replace sl := sl.fr0 f4
  replace sll0 := sll0.fr0 f4
  replace sx := sx.fr0 f4
  replace sy := sy.fr0 f4
  refine RunO.all rfl ?_
  refine RunC.seq (RunC.region (RunO.part 2 rfl ?_))
  refine RunO.callD (treeNodesS_ok (root := b) sl hb (by omega)) rfl rfl rfl ?_
  rintro _ h5 ⟨f5, mv, rfl, sm⟩
  replace sm := sm.sl
  rw [hn2] at sm
  rw [eb]
  replace sl := sl.fr0 f5
  replace sll0 := sll0.fr0 f5
  replace sx := sx.fr0 f5
  replace sy := sy.fr0 f5
  refine RunO.all rfl ?_
  -- a tree beside itself, the other way about
  refine RunC.seq (RunC.region (RunO.part 3 rfl ?_))
  refine RunO.callD (diffTrees_ok (a := a) (b := a) sl hb (by omega)) rfl rfl rfl ?_
  rintro _ h6 ⟨f6, pv, rfl, rowp⟩
  have slp := rowp.sl (by rw [s1]; decide)
  rw [s3, s2]
  rw [s1] at slp
  replace sl := sl.fr0 f6
  replace sll0 := sll0.fr0 f6
  replace sx := sx.fr0 f6
  replace sy := sy.fr0 f6
  refine RunO.all rfl ?_
  refine RunC.seq (RunC.region (RunO.part 3 rfl ?_))
  refine RunO.callD (diffTrees_ok (a := b) (b := a) sl hb (by omega)) rfl rfl rfl ?_
  rintro _ h7 ⟨f7, qv, rfl, rowq⟩
  have slq := rowq.sl (by omega)
  rw [hE2, hN2]
  rw [hlen2] at slq
  replace sll0 := sll0.fr0 f7
  replace sx := sx.fr0 f7
  replace sy := sy.fr0 f7
  refine RunO.all rfl ?_
  clear rowp rowq f4 f5 f6 f7 sll
  refine RunC.seq (RunC.seq (RunC.region (RunO.all rfl (RunC.cond rfl (fun g => by cases g) (fun _ => RunC.skip ?_)))))
  obtain ⟨nA, ncp, rfl, _, _⟩ := sn.form
  obtain ⟨mA, mc, rfl, _, _⟩ := sm.form
  obtain ⟨pA, pc, rfl, _, _⟩ := slp.form
  obtain ⟨qA, qc, rfl, _, _⟩ := slq.form
  have hd146 := diffN_le L a b
  refine RunC.seq (RunC.region (RunO.part 3 rfl ?_))
  refine RunO.callD (diffMaps_ok sx sy (by omega) (by omega)) rfl rfl rfl ?_
  rintro zv h8 ⟨rowz, f8⟩
  have hcl2 : (mapsC (treeM L a) (treeM L b)).length ≤ 512 := Nat.le_trans (chs_len _ _ _ _) (by omega)
  refine RunO.callD (keepChanges_ok (sll0.fr0 f8) (rowz.sl (by omega)) (by omega)) rfl rfl rfl ?_
  rintro _ _ ⟨rfl, rfl⟩
  rw [show (diffL L a b == mapsC (treeM L a) (treeM L b)) = true by rw [hL]; exact beq_self_eq_true _]
  refine RunO.part 13 rfl ?_
  refine RunO.part 1 rfl ?_
  rw [fw64 (x := ((treeN L a).length : Int) + ((treeN L b).length : Int)) (by omega) (by omega)]
  refine RunO.part 1 rfl ?_
  rw [show decide (((diffN L a b : Nat) : Int) ≤ ((treeN L a).length : Int) + ((treeN L b).length : Int)) = true from decide_eq_true (by omega)]
  refine RunO.part 5 rfl ?_
  rw [show (((diffN L a b : Nat) : Int) == ((diffN L a b : Nat) : Int)) = true from beq_self_eq_true _]
  refine RunO.part 6 rfl ?_
  refine RunO.part 1 rfl ?_
  rw [show (((diffL L a b).length : Int) == ((diffL L a b).length : Int)) = true from beq_self_eq_true _]
  refine RunO.part 2 rfl ?_
  refine RunO.callDG rfl wakes20_ok rfl rfl rfl ?_
  rintro _ h9 ⟨rfl, f9⟩
  exact RunO.all rfl (RunC.ret ⟨_, rfl, rfl⟩)
end Go.Proofs.Ytimefcnagilhlaa
end
