/- Contracts of the program's functions, as a program of this session prints them: each call comes to what the Lean function of the same name computes.
Conditions: what each theorem's hypotheses say of its arguments. -/
import Derived.Test.YtaaemamcdhebhaaRec
import Derived.Test.YtaaemamcdhebhaaPREx0
import Derived.Test.YtaaemamcdhebhaaPRExF14
import Derived.Test.YtaaemamcdhebhaaPRExF67
import Derived.Test.YtaaemamcdhebhaaPRExF72
namespace Go.Proofs.Ytaaemamcdhebhaa.PRE
open Go.RowKit Go.Proofs.YtaaemamcdhebhaaW.PrintWords Go.Proofs.YtaaemamcdhebhaaW.PrintLast Go.Proofs.YtaaemamcdhebhaaW.PrintMore
attribute [local go_sem] max2_int min2_int max_two min_two max_three min_three max_four min_four   -- for this text's walks alone
set_option linter.unusedVariables false
set_option linter.unusedSimpArgs false

/-! ### record_Parse: function 16, walked by hand -/
def record_Parse.f (l0 : List Int) : Option (Int × Int × Int × Int × Int × Int × Int × Int × Int) := if Blk.bytesOk l0 = true then some (Rec.tup8 (Rec.parseR l0).2 (Rec.parseR l0).1) else none
def record_Parse.T4 : Bool × List (List Nat × List Nat) := (true, [([], []), ([0], [0]), ([1], [1]), ([], []), ([3], [3]), ([4], [4]), ([], []), ([6], [6]), ([7], [7]), ([], []), ([9], [9]), ([10], [10]), ([], []), ([12], [12]), ([13], [13]), ([], []), ([15], [15]), ([16], [16]), ([], []), ([18], [18]), ([19], [19]), ([], []), ([21], [21]), ([22], [22]), ([2, 5, 8, 11, 14, 17, 20, 23], [2, 5, 8, 11, 14, 17, 20, 23]), ([], []), ([25, 24, 0, 1, 2, 3, 4, 5, 6, 7, 8, 9, 10, 11, 12, 13, 14, 15, 16, 17, 18, 19, 20, 21, 22, 23, 24, 25], [24, 25])])
def record_Parse.B4 : List Nat := [0, 1, 3, 0, 8, 24, 0, 64, 192, 0, 512, 1536, 0, 4096, 12288, 0, 32768, 98304, 0, 262144, 786432, 0, 2097152, 6291456, 16777215, 0, 67108863]
theorem record_Parse.tab4 : rtab .any (opsOf Try.f16 4) = record_Parse.T4 := by kernel_rfl
theorem record_Parse.bits4 : waitsOk record_Parse.T4.2 record_Parse.B4 = true := by kernel_rfl
set_option maxHeartbeats 4000000 in
set_option maxRecDepth 100000 in
theorem record_Parse_walk (A0 : Option Addr) (c0 : Nat) (l0 : List Int) (w : World) (hr0 : Kd.C (Kd.int .u8) w A0 l0.length l0) (hc0 : l0.length ≤ c0) (hb0 : Blk.bytesOk l0 = true) :
    ∃ a0 a1 a2 a3 a4 a5 a6 a7, (Rec.parseR l0).2 = [a0, a1, a2, a3, a4, a5, a6, a7] ∧
    Calls Try.prog 16 #[.slice A0 l0.length c0] w fun e w' => e = .returned (.tuple #[.agg #[.int .i64 a0, .int .i64 a1, .int .i64 a2, .int .i64 a3, .int .i64 a4, .int .i64 a5, .int .i64 a6, .int .i64 a7], .int .i64 (Rec.parseR l0).1]) ∧ Below w.heap.size w w' := by
  have HR := Aside0.mk hr0
  have HC0 := Aside0.mk hc0
  have HB := Aside0.mk (Below.refl w.heap.size w)
  obtain ⟨kl, hlay⟩ := (record_layout_ok).rounds
  obtain ⟨kr, hrd⟩ := super_Read_ok l0 (⟨#[83, 78, 65, 80]⟩ : ByteArray) (Blk.bytesOk_iff.1 hb0) recLay (by decide) (by decide)
  rw [show sizesOf recLay = Rec.sizR from rfl, show bytesOf (⟨#[83, 78, 65, 80]⟩ : ByteArray) = Rec.magR from rfl] at hrd
  generalize recLay = lay0 at *
  have HLAY := Aside0.mk hlay
  have hlen := Nod.readB_len (m := Rec.magR) (ss := Rec.sizR) (b := l0)
  unfold Rec.parseR
  generalize Blk.readB Rec.magR Rec.sizR l0 = rb at *
  obtain ⟨er, ns⟩ := rb
  simp only at hrd hlen
  have HRD := Aside0.mk hrd
  clear hr0 hc0 hb0 hlay hrd
  by_cases he : er = 0
  case neg =>
    rw [Rec.parseG_ne he]
    refine ⟨0, 0, 0, 0, 0, 0, 0, 0, rfl, ?_⟩
    have he1 : (er != 0) = true := bne_iff_ne.2 he
    clear hlen he
    go_enter Try.func16, Try.ntmps16
    go_wp2_with fail
    refine (record_layout.calls kl lay0 _ HLAY.out).mono ?_
    rintro e w1 ⟨v1, rfl, r1, hb1⟩
    obtain ⟨A1, c1, hv1⟩ := Kd.R_slice r1
    subst hv1
    have HR1 := Aside0.mk r1
    have HB1 := Aside0.mk (below_step (below_alloc HB.out _) hb1)
    have HZ1 := Aside0.mk (show w1.heap[w.heap.size]? = some (.cells #[.int .i64 0, .int .i64 0, .int .i64 0, .int .i64 0, .int .i64 0, .int .i64 0, .int .i64 0, .int .i64 0] 23 (0, 0)) from blk_below (MapKept.heap_alloc w _).1 hb1)
    clear r1 hb1
    go_wp2_with fail
    refine (super_Read.calls kr _ _ l0 _ _ _ lay0 ns er _ (Kd.C_below HR.out HB1.out) HC0.out (Kd.R_reads' HR1.out).2.2 (Kd.R_reads' HR1.out).2.1 HRD.out).mono ?_
    rintro e w2 ⟨v2, rfl, r2, hb2⟩
    have HB2 := Aside0.mk (below_step HB1.out hb2)
    have HZ2 := Aside0.mk (blk_below HZ1.out hb2)
    have HR2 := Aside0.mk (Kd.R_lower r2 HB1.out.size)
    clear r2 hb2
    have hcz0 : w2.cell? ⟨w.heap.size, 0, none⟩ = some (.int .i64 0) := (blk_cell HZ2.out 0).trans rfl
    have hcz1 : w2.cell? ⟨w.heap.size, 1, none⟩ = some (.int .i64 0) := (blk_cell HZ2.out 1).trans rfl
    have hcz2 : w2.cell? ⟨w.heap.size, 2, none⟩ = some (.int .i64 0) := (blk_cell HZ2.out 2).trans rfl
    have hcz3 : w2.cell? ⟨w.heap.size, 3, none⟩ = some (.int .i64 0) := (blk_cell HZ2.out 3).trans rfl
    have hcz4 : w2.cell? ⟨w.heap.size, 4, none⟩ = some (.int .i64 0) := (blk_cell HZ2.out 4).trans rfl
    have hcz5 : w2.cell? ⟨w.heap.size, 5, none⟩ = some (.int .i64 0) := (blk_cell HZ2.out 5).trans rfl
    have hcz6 : w2.cell? ⟨w.heap.size, 6, none⟩ = some (.int .i64 0) := (blk_cell HZ2.out 6).trans rfl
    have hcz7 : w2.cell? ⟨w.heap.size, 7, none⟩ = some (.int .i64 0) := (blk_cell HZ2.out 7).trans rfl
    have hczf0 := blk_frozen HZ2.out 0
    have hczf1 := blk_frozen HZ2.out 1
    have hczf2 := blk_frozen HZ2.out 2
    have hczf3 := blk_frozen HZ2.out 3
    have hczf4 := blk_frozen HZ2.out 4
    have hczf5 := blk_frozen HZ2.out 5
    have hczf6 := blk_frozen HZ2.out 6
    have hczf7 := blk_frozen HZ2.out 7
    go_wp2
    refine bodyPost_ret (results_ct rfl _ _ w.heap.size 23 #[.int .i64 0, .int .i64 0, .int .i64 0, .int .i64 0, .int .i64 0, .int .i64 0, .int .i64 0, .int .i64 0] (0, 0) _ rfl (Rec.put8 HZ2.out (.int .i64 0) (.int .i64 0) (.int .i64 0) (.int .i64 0) (.int .i64 0) (.int .i64 0) (.int .i64 0) (.int .i64 0)) Try.underlying23 rfl (by kernel_rfl)) rfl ?_
    exact ⟨rfl, Rec.below8 HB2.out (Nat.le_refl _) _ _ _ _ _ _ _ _⟩
  subst he
  obtain ⟨n0, n1, n2, n3, n4, n5, n6, n7, hns⟩ := Rec.list8 (hlen rfl)
  subst hns
  clear hlen
  have hcl := record_Check_ok n0 n1 n2 n3 n4 n5 n6 n7
  obtain ⟨kc, hck⟩ := hcl.rounds
  have key : ∀ ec : Int, record_Check.f kc n0 n1 n2 n3 n4 n5 n6 n7 = some ec → Calls Try.prog 16 #[.slice A0 l0.length c0] w fun e w' => ((ec = 0 ∧ e = .returned (.tuple #[.agg #[.int .i64 n0, .int .i64 n1, .int .i64 n2, .int .i64 n3, .int .i64 n4, .int .i64 n5, .int .i64 n6, .int .i64 n7], .int .i64 0])) ∨ (¬ ec = 0 ∧ e = .returned (.tuple #[.agg #[.int .i64 0, .int .i64 0, .int .i64 0, .int .i64 0, .int .i64 0, .int .i64 0, .int .i64 0, .int .i64 0], .int .i64 ec]))) ∧ Below w.heap.size w w' := by
    intro ec hck1
    have HCK := Aside0.mk hck1
    clear hck hcl hck1
    go_enter Try.func16, Try.ntmps16
    go_wp2_with fail
    refine (record_layout.calls kl lay0 _ HLAY.out).mono ?_
    rintro e w1 ⟨v1, rfl, r1, hb1⟩
    obtain ⟨A1, c1, hv1⟩ := Kd.R_slice r1
    subst hv1
    have HR1 := Aside0.mk r1
    have HB1 := Aside0.mk (below_step (below_alloc HB.out _) hb1)
    have HZ1 := Aside0.mk (show w1.heap[w.heap.size]? = some (.cells #[.int .i64 0, .int .i64 0, .int .i64 0, .int .i64 0, .int .i64 0, .int .i64 0, .int .i64 0, .int .i64 0] 23 (0, 0)) from blk_below (MapKept.heap_alloc w _).1 hb1)
    clear r1 hb1
    go_wp2_with fail
    refine (super_Read.calls kr _ _ l0 _ _ _ lay0 [n0, n1, n2, n3, n4, n5, n6, n7] 0 _ (Kd.C_below HR.out HB1.out) HC0.out (Kd.R_reads' HR1.out).2.2 (Kd.R_reads' HR1.out).2.1 HRD.out).mono ?_
    rintro e w2 ⟨v2, rfl, r2, hb2⟩
    have HB2 := Aside0.mk (below_step HB1.out hb2)
    have HZ2 := Aside0.mk (blk_below HZ1.out hb2)
    have HR2 := Aside0.mk (Kd.R_lower r2 HB1.out.size)
    clear r2 hb2
    obtain ⟨A2, c2, hv2⟩ := Kd.R_slice HR2.out
    subst hv2
    have HC2 := Aside0.mk (Cop.R_cap HR2.out)
    rw [show ([n0, n1, n2, n3, n4, n5, n6, n7] : List Int).length = 8 from rfl]
    obtain ⟨ad2, e2, y0⟩ := Kd.at_int (Kd.R_reads' HR2.out).2.2 0 (by omega) (by simp)
    subst e2
    clear y0
    go_wp2_with fail
    refine start_ (n := 27) (S := fun w' => True) (ds := []) #[false, false, false, false, false, false, false, false, false, false, false, false, false, false, false, false, false, false, false, false, false, false, false, false, false, false, false] (by kernel_rfl) rfl rfl trivial (fun hHeld => ?_); refine with_tabW record_Parse.tab4 record_Parse.bits4 (fun HT_ HW_ => ?_)
    refine inv_at [0, 1, 2, 3, 4, 5, 6, 7, 8, 9, 10, 11, 12, 13, 14, 15, 16, 17, 18, 19, 20, 21, 22, 23, 24, 25, 26] (fun a0_ b a w' => a = putSel a0_ b [(0, 17, (.slice (some ad2) 8 c2)), (1, 18, .pointer (some ad2)), (2, 19, .int .i64 n0), (3, 20, (.slice (some ad2) 8 c2)), (4, 21, .pointer (some (ad2.add 1))), (5, 22, .int .i64 n1), (6, 23, (.slice (some ad2) 8 c2)), (7, 24, .pointer (some (ad2.add 2))), (8, 25, .int .i64 n2), (9, 26, (.slice (some ad2) 8 c2)), (10, 27, .pointer (some (ad2.add 3))), (11, 28, .int .i64 n3), (12, 29, (.slice (some ad2) 8 c2)), (13, 30, .pointer (some (ad2.add 4))), (14, 31, .int .i64 n4), (15, 32, (.slice (some ad2) 8 c2)), (16, 33, .pointer (some (ad2.add 5))), (17, 34, .int .i64 n5), (18, 35, (.slice (some ad2) 8 c2)), (19, 36, .pointer (some (ad2.add 6))), (20, 37, .int .i64 n6), (21, 38, (.slice (some ad2) 8 c2)), (22, 39, .pointer (some (ad2.add 7))), (23, 40, .int .i64 n7), (24, 41, .agg #[.int .i64 n0, .int .i64 n1, .int .i64 n2, .int .i64 n3, .int .i64 n4, .int .i64 n5, .int .i64 n6, .int .i64 n7]), (25, 6, .pointer (some ⟨w2.heap.size, 0, none⟩))] ∧ (Below w2.heap.size w2 w') ∧ (b 25 = false → w'.heap.size = w2.heap.size) ∧ (b 25 = true → b 26 = false → w'.heap[w2.heap.size]? = some (.cells #[.int .i64 0, .int .i64 0, .int .i64 0, .int .i64 0, .int .i64 0, .int .i64 0, .int .i64 0, .int .i64 0] 23 (0, 0))) ∧ (b 26 = true → w'.heap[w2.heap.size]? = some (.cells #[.int .i64 n0, .int .i64 n1, .int .i64 n2, .int .i64 n3, .int .i64 n4, .int .i64 n5, .int .i64 n6, .int .i64 n7] 23 (0, 0)))) HT_.out HW_.out (by kernel_rfl) (by kernel_rfl) ?_ ?_ ?_
    · exact ⟨by simp only [putSel, Bool.false_eq_true, if_false], below_drew1 (Below.refl w2.heap.size w2), fun _ => rfl, fun h_ => absurd h_ (by decide), fun h_ => absurd h_ (by decide)⟩
    · skip
      refine steps_cons ?_ ?_
      · rintro b a w' ⟨ha, Q_HW, Q_HG, Q_HNZ, Q_HNN⟩ hb_ hon hoff
        refine ⟨_, rfl, fun K hK => ?_⟩
        have e4 : a.tmps[4]? = some ((.slice (some ad2) 8 c2)) := by rw [ha]; exact (putSel_off rfl).trans rfl
        replace ha := Aside0.mk ha
        have HW := Aside0.mk Q_HW
        refine value_ (w1 := w') (v := (.slice (some ad2) 8 c2)) (by rfl) rfl ?_ ?_
        · go_simp
          (try simp only [i64_w])
          try rfl
        refine hK.out _ _ ⟨(by rw [ha.out]; exact putSel_upk 0 hb_ rfl rfl rfl), Q_HW, Q_HG, Q_HNZ, fun h0_ => absurd ((hoff 26 (by kernel_rfl)).symm.trans h0_) (by decide)⟩
      refine steps_cons ?_ ?_
      · rintro b a w' ⟨ha, Q_HW, Q_HG, Q_HNZ, Q_HNN⟩ hb_ hon hoff
        refine ⟨_, rfl, fun K hK => ?_⟩
        have e17 : a.tmps[17]? = some ((.slice (some ad2) 8 c2)) := by rw [ha]; exact putSel_on (e := (0, 17, (.slice (some ad2) 8 c2))) 0 rfl rfl (hon 0 (by kernel_rfl)) rfl
        replace ha := Aside0.mk ha
        have HW := Aside0.mk Q_HW
        refine value_ (w1 := w') (v := .pointer (some ad2)) (by rfl) rfl ?_ ?_
        · go_simp
          (try simp only [i64_w])
          try rfl
        refine hK.out _ _ ⟨(by rw [ha.out]; exact putSel_upk 1 hb_ rfl rfl rfl), Q_HW, Q_HG, Q_HNZ, fun h0_ => absurd ((hoff 26 (by kernel_rfl)).symm.trans h0_) (by decide)⟩
      refine steps_cons ?_ ?_
      · rintro b a w' ⟨ha, Q_HW, Q_HG, Q_HNZ, Q_HNN⟩ hb_ hon hoff
        refine ⟨_, rfl, fun K hK => ?_⟩
        have e18 : a.tmps[18]? = some (.pointer (some ad2)) := by rw [ha]; exact putSel_on (e := (1, 18, .pointer (some ad2))) 1 rfl rfl (hon 1 (by kernel_rfl)) rfl
        replace ha := Aside0.mk ha
        have HW := Aside0.mk Q_HW
        have yc : w'.cell? (ad2.add 0) = some (.int .i64 n0) := Rec.at_pin (Kd.C_below (Kd.R_reads' HR2.out).2.2 HW.out) 0 (show 0 < 8 by decide)
        rw [Addr.add_zero'] at yc
        refine value_ (w1 := w') (v := .int .i64 n0) (by rfl) rfl ?_ ?_
        · go_simp
          (try simp only [i64_w])
          try rfl
        refine hK.out _ _ ⟨(by rw [ha.out]; exact putSel_upk 2 hb_ rfl rfl rfl), Q_HW, Q_HG, Q_HNZ, fun h0_ => absurd ((hoff 26 (by kernel_rfl)).symm.trans h0_) (by decide)⟩
      refine steps_cons ?_ ?_
      · rintro b a w' ⟨ha, Q_HW, Q_HG, Q_HNZ, Q_HNN⟩ hb_ hon hoff
        refine ⟨_, rfl, fun K hK => ?_⟩
        have e4 : a.tmps[4]? = some ((.slice (some ad2) 8 c2)) := by rw [ha]; exact (putSel_off rfl).trans rfl
        replace ha := Aside0.mk ha
        have HW := Aside0.mk Q_HW
        refine value_ (w1 := w') (v := (.slice (some ad2) 8 c2)) (by rfl) rfl ?_ ?_
        · go_simp
          (try simp only [i64_w])
          try rfl
        refine hK.out _ _ ⟨(by rw [ha.out]; exact putSel_upk 3 hb_ rfl rfl rfl), Q_HW, Q_HG, Q_HNZ, fun h0_ => absurd ((hoff 26 (by kernel_rfl)).symm.trans h0_) (by decide)⟩
      refine steps_cons ?_ ?_
      · rintro b a w' ⟨ha, Q_HW, Q_HG, Q_HNZ, Q_HNN⟩ hb_ hon hoff
        refine ⟨_, rfl, fun K hK => ?_⟩
        have e20 : a.tmps[20]? = some ((.slice (some ad2) 8 c2)) := by rw [ha]; exact putSel_on (e := (3, 20, (.slice (some ad2) 8 c2))) 3 rfl rfl (hon 3 (by kernel_rfl)) rfl
        replace ha := Aside0.mk ha
        have HW := Aside0.mk Q_HW
        refine value_ (w1 := w') (v := .pointer (some (ad2.add 1))) (by rfl) rfl ?_ ?_
        · go_simp
          (try simp only [i64_w])
          try rfl
        refine hK.out _ _ ⟨(by rw [ha.out]; exact putSel_upk 4 hb_ rfl rfl rfl), Q_HW, Q_HG, Q_HNZ, fun h0_ => absurd ((hoff 26 (by kernel_rfl)).symm.trans h0_) (by decide)⟩
      refine steps_cons ?_ ?_
      · rintro b a w' ⟨ha, Q_HW, Q_HG, Q_HNZ, Q_HNN⟩ hb_ hon hoff
        refine ⟨_, rfl, fun K hK => ?_⟩
        have e21 : a.tmps[21]? = some (.pointer (some (ad2.add 1))) := by rw [ha]; exact putSel_on (e := (4, 21, .pointer (some (ad2.add 1)))) 4 rfl rfl (hon 4 (by kernel_rfl)) rfl
        replace ha := Aside0.mk ha
        have HW := Aside0.mk Q_HW
        have yc : w'.cell? (ad2.add 1) = some (.int .i64 n1) := Rec.at_pin (Kd.C_below (Kd.R_reads' HR2.out).2.2 HW.out) 1 (show 1 < 8 by decide)
        replace yc : w'.cell? { block := ad2.block, off := ad2.off + 1 } = some (.int .i64 n1) := yc
        refine value_ (w1 := w') (v := .int .i64 n1) (by rfl) rfl ?_ ?_
        · go_simp
          (try simp only [i64_w])
          try rfl
        refine hK.out _ _ ⟨(by rw [ha.out]; exact putSel_upk 5 hb_ rfl rfl rfl), Q_HW, Q_HG, Q_HNZ, fun h0_ => absurd ((hoff 26 (by kernel_rfl)).symm.trans h0_) (by decide)⟩
      refine steps_cons ?_ ?_
      · rintro b a w' ⟨ha, Q_HW, Q_HG, Q_HNZ, Q_HNN⟩ hb_ hon hoff
        refine ⟨_, rfl, fun K hK => ?_⟩
        have e4 : a.tmps[4]? = some ((.slice (some ad2) 8 c2)) := by rw [ha]; exact (putSel_off rfl).trans rfl
        replace ha := Aside0.mk ha
        have HW := Aside0.mk Q_HW
        refine value_ (w1 := w') (v := (.slice (some ad2) 8 c2)) (by rfl) rfl ?_ ?_
        · go_simp
          (try simp only [i64_w])
          try rfl
        refine hK.out _ _ ⟨(by rw [ha.out]; exact putSel_upk 6 hb_ rfl rfl rfl), Q_HW, Q_HG, Q_HNZ, fun h0_ => absurd ((hoff 26 (by kernel_rfl)).symm.trans h0_) (by decide)⟩
      refine steps_cons ?_ ?_
      · rintro b a w' ⟨ha, Q_HW, Q_HG, Q_HNZ, Q_HNN⟩ hb_ hon hoff
        refine ⟨_, rfl, fun K hK => ?_⟩
        have e23 : a.tmps[23]? = some ((.slice (some ad2) 8 c2)) := by rw [ha]; exact putSel_on (e := (6, 23, (.slice (some ad2) 8 c2))) 6 rfl rfl (hon 6 (by kernel_rfl)) rfl
        replace ha := Aside0.mk ha
        have HW := Aside0.mk Q_HW
        refine value_ (w1 := w') (v := .pointer (some (ad2.add 2))) (by rfl) rfl ?_ ?_
        · go_simp
          (try simp only [i64_w])
          try rfl
        refine hK.out _ _ ⟨(by rw [ha.out]; exact putSel_upk 7 hb_ rfl rfl rfl), Q_HW, Q_HG, Q_HNZ, fun h0_ => absurd ((hoff 26 (by kernel_rfl)).symm.trans h0_) (by decide)⟩
      refine steps_cons ?_ ?_
      · rintro b a w' ⟨ha, Q_HW, Q_HG, Q_HNZ, Q_HNN⟩ hb_ hon hoff
        refine ⟨_, rfl, fun K hK => ?_⟩
        have e24 : a.tmps[24]? = some (.pointer (some (ad2.add 2))) := by rw [ha]; exact putSel_on (e := (7, 24, .pointer (some (ad2.add 2)))) 7 rfl rfl (hon 7 (by kernel_rfl)) rfl
        replace ha := Aside0.mk ha
        have HW := Aside0.mk Q_HW
        have yc : w'.cell? (ad2.add 2) = some (.int .i64 n2) := Rec.at_pin (Kd.C_below (Kd.R_reads' HR2.out).2.2 HW.out) 2 (show 2 < 8 by decide)
        replace yc : w'.cell? { block := ad2.block, off := ad2.off + 2 } = some (.int .i64 n2) := yc
        refine value_ (w1 := w') (v := .int .i64 n2) (by rfl) rfl ?_ ?_
        · go_simp
          (try simp only [i64_w])
          try rfl
        refine hK.out _ _ ⟨(by rw [ha.out]; exact putSel_upk 8 hb_ rfl rfl rfl), Q_HW, Q_HG, Q_HNZ, fun h0_ => absurd ((hoff 26 (by kernel_rfl)).symm.trans h0_) (by decide)⟩
      refine steps_cons ?_ ?_
      · rintro b a w' ⟨ha, Q_HW, Q_HG, Q_HNZ, Q_HNN⟩ hb_ hon hoff
        refine ⟨_, rfl, fun K hK => ?_⟩
        have e4 : a.tmps[4]? = some ((.slice (some ad2) 8 c2)) := by rw [ha]; exact (putSel_off rfl).trans rfl
        replace ha := Aside0.mk ha
        have HW := Aside0.mk Q_HW
        refine value_ (w1 := w') (v := (.slice (some ad2) 8 c2)) (by rfl) rfl ?_ ?_
        · go_simp
          (try simp only [i64_w])
          try rfl
        refine hK.out _ _ ⟨(by rw [ha.out]; exact putSel_upk 9 hb_ rfl rfl rfl), Q_HW, Q_HG, Q_HNZ, fun h0_ => absurd ((hoff 26 (by kernel_rfl)).symm.trans h0_) (by decide)⟩
      refine steps_cons ?_ ?_
      · rintro b a w' ⟨ha, Q_HW, Q_HG, Q_HNZ, Q_HNN⟩ hb_ hon hoff
        refine ⟨_, rfl, fun K hK => ?_⟩
        have e26 : a.tmps[26]? = some ((.slice (some ad2) 8 c2)) := by rw [ha]; exact putSel_on (e := (9, 26, (.slice (some ad2) 8 c2))) 9 rfl rfl (hon 9 (by kernel_rfl)) rfl
        replace ha := Aside0.mk ha
        have HW := Aside0.mk Q_HW
        refine value_ (w1 := w') (v := .pointer (some (ad2.add 3))) (by rfl) rfl ?_ ?_
        · go_simp
          (try simp only [i64_w])
          try rfl
        refine hK.out _ _ ⟨(by rw [ha.out]; exact putSel_upk 10 hb_ rfl rfl rfl), Q_HW, Q_HG, Q_HNZ, fun h0_ => absurd ((hoff 26 (by kernel_rfl)).symm.trans h0_) (by decide)⟩
      refine steps_cons ?_ ?_
      · rintro b a w' ⟨ha, Q_HW, Q_HG, Q_HNZ, Q_HNN⟩ hb_ hon hoff
        refine ⟨_, rfl, fun K hK => ?_⟩
        have e27 : a.tmps[27]? = some (.pointer (some (ad2.add 3))) := by rw [ha]; exact putSel_on (e := (10, 27, .pointer (some (ad2.add 3)))) 10 rfl rfl (hon 10 (by kernel_rfl)) rfl
        replace ha := Aside0.mk ha
        have HW := Aside0.mk Q_HW
        have yc : w'.cell? (ad2.add 3) = some (.int .i64 n3) := Rec.at_pin (Kd.C_below (Kd.R_reads' HR2.out).2.2 HW.out) 3 (show 3 < 8 by decide)
        replace yc : w'.cell? { block := ad2.block, off := ad2.off + 3 } = some (.int .i64 n3) := yc
        refine value_ (w1 := w') (v := .int .i64 n3) (by rfl) rfl ?_ ?_
        · go_simp
          (try simp only [i64_w])
          try rfl
        refine hK.out _ _ ⟨(by rw [ha.out]; exact putSel_upk 11 hb_ rfl rfl rfl), Q_HW, Q_HG, Q_HNZ, fun h0_ => absurd ((hoff 26 (by kernel_rfl)).symm.trans h0_) (by decide)⟩
      refine steps_cons ?_ ?_
      · rintro b a w' ⟨ha, Q_HW, Q_HG, Q_HNZ, Q_HNN⟩ hb_ hon hoff
        refine ⟨_, rfl, fun K hK => ?_⟩
        have e4 : a.tmps[4]? = some ((.slice (some ad2) 8 c2)) := by rw [ha]; exact (putSel_off rfl).trans rfl
        replace ha := Aside0.mk ha
        have HW := Aside0.mk Q_HW
        refine value_ (w1 := w') (v := (.slice (some ad2) 8 c2)) (by rfl) rfl ?_ ?_
        · go_simp
          (try simp only [i64_w])
          try rfl
        refine hK.out _ _ ⟨(by rw [ha.out]; exact putSel_upk 12 hb_ rfl rfl rfl), Q_HW, Q_HG, Q_HNZ, fun h0_ => absurd ((hoff 26 (by kernel_rfl)).symm.trans h0_) (by decide)⟩
      refine steps_cons ?_ ?_
      · rintro b a w' ⟨ha, Q_HW, Q_HG, Q_HNZ, Q_HNN⟩ hb_ hon hoff
        refine ⟨_, rfl, fun K hK => ?_⟩
        have e29 : a.tmps[29]? = some ((.slice (some ad2) 8 c2)) := by rw [ha]; exact putSel_on (e := (12, 29, (.slice (some ad2) 8 c2))) 12 rfl rfl (hon 12 (by kernel_rfl)) rfl
        replace ha := Aside0.mk ha
        have HW := Aside0.mk Q_HW
        refine value_ (w1 := w') (v := .pointer (some (ad2.add 4))) (by rfl) rfl ?_ ?_
        · go_simp
          (try simp only [i64_w])
          try rfl
        refine hK.out _ _ ⟨(by rw [ha.out]; exact putSel_upk 13 hb_ rfl rfl rfl), Q_HW, Q_HG, Q_HNZ, fun h0_ => absurd ((hoff 26 (by kernel_rfl)).symm.trans h0_) (by decide)⟩
      refine steps_cons ?_ ?_
      · rintro b a w' ⟨ha, Q_HW, Q_HG, Q_HNZ, Q_HNN⟩ hb_ hon hoff
        refine ⟨_, rfl, fun K hK => ?_⟩
        have e30 : a.tmps[30]? = some (.pointer (some (ad2.add 4))) := by rw [ha]; exact putSel_on (e := (13, 30, .pointer (some (ad2.add 4)))) 13 rfl rfl (hon 13 (by kernel_rfl)) rfl
        replace ha := Aside0.mk ha
        have HW := Aside0.mk Q_HW
        have yc : w'.cell? (ad2.add 4) = some (.int .i64 n4) := Rec.at_pin (Kd.C_below (Kd.R_reads' HR2.out).2.2 HW.out) 4 (show 4 < 8 by decide)
        replace yc : w'.cell? { block := ad2.block, off := ad2.off + 4 } = some (.int .i64 n4) := yc
        refine value_ (w1 := w') (v := .int .i64 n4) (by rfl) rfl ?_ ?_
        · go_simp
          (try simp only [i64_w])
          try rfl
        refine hK.out _ _ ⟨(by rw [ha.out]; exact putSel_upk 14 hb_ rfl rfl rfl), Q_HW, Q_HG, Q_HNZ, fun h0_ => absurd ((hoff 26 (by kernel_rfl)).symm.trans h0_) (by decide)⟩
      refine steps_cons ?_ ?_
      · rintro b a w' ⟨ha, Q_HW, Q_HG, Q_HNZ, Q_HNN⟩ hb_ hon hoff
        refine ⟨_, rfl, fun K hK => ?_⟩
        have e4 : a.tmps[4]? = some ((.slice (some ad2) 8 c2)) := by rw [ha]; exact (putSel_off rfl).trans rfl
        replace ha := Aside0.mk ha
        have HW := Aside0.mk Q_HW
        refine value_ (w1 := w') (v := (.slice (some ad2) 8 c2)) (by rfl) rfl ?_ ?_
        · go_simp
          (try simp only [i64_w])
          try rfl
        refine hK.out _ _ ⟨(by rw [ha.out]; exact putSel_upk 15 hb_ rfl rfl rfl), Q_HW, Q_HG, Q_HNZ, fun h0_ => absurd ((hoff 26 (by kernel_rfl)).symm.trans h0_) (by decide)⟩
      refine steps_cons ?_ ?_
      · rintro b a w' ⟨ha, Q_HW, Q_HG, Q_HNZ, Q_HNN⟩ hb_ hon hoff
        refine ⟨_, rfl, fun K hK => ?_⟩
        have e32 : a.tmps[32]? = some ((.slice (some ad2) 8 c2)) := by rw [ha]; exact putSel_on (e := (15, 32, (.slice (some ad2) 8 c2))) 15 rfl rfl (hon 15 (by kernel_rfl)) rfl
        replace ha := Aside0.mk ha
        have HW := Aside0.mk Q_HW
        refine value_ (w1 := w') (v := .pointer (some (ad2.add 5))) (by rfl) rfl ?_ ?_
        · go_simp
          (try simp only [i64_w])
          try rfl
        refine hK.out _ _ ⟨(by rw [ha.out]; exact putSel_upk 16 hb_ rfl rfl rfl), Q_HW, Q_HG, Q_HNZ, fun h0_ => absurd ((hoff 26 (by kernel_rfl)).symm.trans h0_) (by decide)⟩
      refine steps_cons ?_ ?_
      · rintro b a w' ⟨ha, Q_HW, Q_HG, Q_HNZ, Q_HNN⟩ hb_ hon hoff
        refine ⟨_, rfl, fun K hK => ?_⟩
        have e33 : a.tmps[33]? = some (.pointer (some (ad2.add 5))) := by rw [ha]; exact putSel_on (e := (16, 33, .pointer (some (ad2.add 5)))) 16 rfl rfl (hon 16 (by kernel_rfl)) rfl
        replace ha := Aside0.mk ha
        have HW := Aside0.mk Q_HW
        have yc : w'.cell? (ad2.add 5) = some (.int .i64 n5) := Rec.at_pin (Kd.C_below (Kd.R_reads' HR2.out).2.2 HW.out) 5 (show 5 < 8 by decide)
        replace yc : w'.cell? { block := ad2.block, off := ad2.off + 5 } = some (.int .i64 n5) := yc
        refine value_ (w1 := w') (v := .int .i64 n5) (by rfl) rfl ?_ ?_
        · go_simp
          (try simp only [i64_w])
          try rfl
        refine hK.out _ _ ⟨(by rw [ha.out]; exact putSel_upk 17 hb_ rfl rfl rfl), Q_HW, Q_HG, Q_HNZ, fun h0_ => absurd ((hoff 26 (by kernel_rfl)).symm.trans h0_) (by decide)⟩
      refine steps_cons ?_ ?_
      · rintro b a w' ⟨ha, Q_HW, Q_HG, Q_HNZ, Q_HNN⟩ hb_ hon hoff
        refine ⟨_, rfl, fun K hK => ?_⟩
        have e4 : a.tmps[4]? = some ((.slice (some ad2) 8 c2)) := by rw [ha]; exact (putSel_off rfl).trans rfl
        replace ha := Aside0.mk ha
        have HW := Aside0.mk Q_HW
        refine value_ (w1 := w') (v := (.slice (some ad2) 8 c2)) (by rfl) rfl ?_ ?_
        · go_simp
          (try simp only [i64_w])
          try rfl
        refine hK.out _ _ ⟨(by rw [ha.out]; exact putSel_upk 18 hb_ rfl rfl rfl), Q_HW, Q_HG, Q_HNZ, fun h0_ => absurd ((hoff 26 (by kernel_rfl)).symm.trans h0_) (by decide)⟩
      refine steps_cons ?_ ?_
      · rintro b a w' ⟨ha, Q_HW, Q_HG, Q_HNZ, Q_HNN⟩ hb_ hon hoff
        refine ⟨_, rfl, fun K hK => ?_⟩
        have e35 : a.tmps[35]? = some ((.slice (some ad2) 8 c2)) := by rw [ha]; exact putSel_on (e := (18, 35, (.slice (some ad2) 8 c2))) 18 rfl rfl (hon 18 (by kernel_rfl)) rfl
        replace ha := Aside0.mk ha
        have HW := Aside0.mk Q_HW
        refine value_ (w1 := w') (v := .pointer (some (ad2.add 6))) (by rfl) rfl ?_ ?_
        · go_simp
          (try simp only [i64_w])
          try rfl
        refine hK.out _ _ ⟨(by rw [ha.out]; exact putSel_upk 19 hb_ rfl rfl rfl), Q_HW, Q_HG, Q_HNZ, fun h0_ => absurd ((hoff 26 (by kernel_rfl)).symm.trans h0_) (by decide)⟩
      refine steps_cons ?_ ?_
      · rintro b a w' ⟨ha, Q_HW, Q_HG, Q_HNZ, Q_HNN⟩ hb_ hon hoff
        refine ⟨_, rfl, fun K hK => ?_⟩
        have e36 : a.tmps[36]? = some (.pointer (some (ad2.add 6))) := by rw [ha]; exact putSel_on (e := (19, 36, .pointer (some (ad2.add 6)))) 19 rfl rfl (hon 19 (by kernel_rfl)) rfl
        replace ha := Aside0.mk ha
        have HW := Aside0.mk Q_HW
        have yc : w'.cell? (ad2.add 6) = some (.int .i64 n6) := Rec.at_pin (Kd.C_below (Kd.R_reads' HR2.out).2.2 HW.out) 6 (show 6 < 8 by decide)
        replace yc : w'.cell? { block := ad2.block, off := ad2.off + 6 } = some (.int .i64 n6) := yc
        refine value_ (w1 := w') (v := .int .i64 n6) (by rfl) rfl ?_ ?_
        · go_simp
          (try simp only [i64_w])
          try rfl
        refine hK.out _ _ ⟨(by rw [ha.out]; exact putSel_upk 20 hb_ rfl rfl rfl), Q_HW, Q_HG, Q_HNZ, fun h0_ => absurd ((hoff 26 (by kernel_rfl)).symm.trans h0_) (by decide)⟩
      refine steps_cons ?_ ?_
      · rintro b a w' ⟨ha, Q_HW, Q_HG, Q_HNZ, Q_HNN⟩ hb_ hon hoff
        refine ⟨_, rfl, fun K hK => ?_⟩
        have e4 : a.tmps[4]? = some ((.slice (some ad2) 8 c2)) := by rw [ha]; exact (putSel_off rfl).trans rfl
        replace ha := Aside0.mk ha
        have HW := Aside0.mk Q_HW
        refine value_ (w1 := w') (v := (.slice (some ad2) 8 c2)) (by rfl) rfl ?_ ?_
        · go_simp
          (try simp only [i64_w])
          try rfl
        refine hK.out _ _ ⟨(by rw [ha.out]; exact putSel_upk 21 hb_ rfl rfl rfl), Q_HW, Q_HG, Q_HNZ, fun h0_ => absurd ((hoff 26 (by kernel_rfl)).symm.trans h0_) (by decide)⟩
      refine steps_cons ?_ ?_
      · rintro b a w' ⟨ha, Q_HW, Q_HG, Q_HNZ, Q_HNN⟩ hb_ hon hoff
        refine ⟨_, rfl, fun K hK => ?_⟩
        have e38 : a.tmps[38]? = some ((.slice (some ad2) 8 c2)) := by rw [ha]; exact putSel_on (e := (21, 38, (.slice (some ad2) 8 c2))) 21 rfl rfl (hon 21 (by kernel_rfl)) rfl
        replace ha := Aside0.mk ha
        have HW := Aside0.mk Q_HW
        refine value_ (w1 := w') (v := .pointer (some (ad2.add 7))) (by rfl) rfl ?_ ?_
        · go_simp
          (try simp only [i64_w])
          try rfl
        refine hK.out _ _ ⟨(by rw [ha.out]; exact putSel_upk 22 hb_ rfl rfl rfl), Q_HW, Q_HG, Q_HNZ, fun h0_ => absurd ((hoff 26 (by kernel_rfl)).symm.trans h0_) (by decide)⟩
      refine steps_cons ?_ ?_
      · rintro b a w' ⟨ha, Q_HW, Q_HG, Q_HNZ, Q_HNN⟩ hb_ hon hoff
        refine ⟨_, rfl, fun K hK => ?_⟩
        have e39 : a.tmps[39]? = some (.pointer (some (ad2.add 7))) := by rw [ha]; exact putSel_on (e := (22, 39, .pointer (some (ad2.add 7)))) 22 rfl rfl (hon 22 (by kernel_rfl)) rfl
        replace ha := Aside0.mk ha
        have HW := Aside0.mk Q_HW
        have yc : w'.cell? (ad2.add 7) = some (.int .i64 n7) := Rec.at_pin (Kd.C_below (Kd.R_reads' HR2.out).2.2 HW.out) 7 (show 7 < 8 by decide)
        replace yc : w'.cell? { block := ad2.block, off := ad2.off + 7 } = some (.int .i64 n7) := yc
        refine value_ (w1 := w') (v := .int .i64 n7) (by rfl) rfl ?_ ?_
        · go_simp
          (try simp only [i64_w])
          try rfl
        refine hK.out _ _ ⟨(by rw [ha.out]; exact putSel_upk 23 hb_ rfl rfl rfl), Q_HW, Q_HG, Q_HNZ, fun h0_ => absurd ((hoff 26 (by kernel_rfl)).symm.trans h0_) (by decide)⟩
      refine steps_cons ?_ ?_
      · rintro b a w' ⟨ha, Q_HW, Q_HG, Q_HNZ, Q_HNN⟩ hb_ hon hoff
        refine ⟨_, rfl, fun K hK => ?_⟩
        have e19 : a.tmps[19]? = some (.int .i64 n0) := by rw [ha]; exact putSel_on (e := (2, 19, .int .i64 n0)) 2 rfl rfl (hon 2 (by kernel_rfl)) rfl
        have e22 : a.tmps[22]? = some (.int .i64 n1) := by rw [ha]; exact putSel_on (e := (5, 22, .int .i64 n1)) 5 rfl rfl (hon 5 (by kernel_rfl)) rfl
        have e25 : a.tmps[25]? = some (.int .i64 n2) := by rw [ha]; exact putSel_on (e := (8, 25, .int .i64 n2)) 8 rfl rfl (hon 8 (by kernel_rfl)) rfl
        have e28 : a.tmps[28]? = some (.int .i64 n3) := by rw [ha]; exact putSel_on (e := (11, 28, .int .i64 n3)) 11 rfl rfl (hon 11 (by kernel_rfl)) rfl
        have e31 : a.tmps[31]? = some (.int .i64 n4) := by rw [ha]; exact putSel_on (e := (14, 31, .int .i64 n4)) 14 rfl rfl (hon 14 (by kernel_rfl)) rfl
        have e34 : a.tmps[34]? = some (.int .i64 n5) := by rw [ha]; exact putSel_on (e := (17, 34, .int .i64 n5)) 17 rfl rfl (hon 17 (by kernel_rfl)) rfl
        have e37 : a.tmps[37]? = some (.int .i64 n6) := by rw [ha]; exact putSel_on (e := (20, 37, .int .i64 n6)) 20 rfl rfl (hon 20 (by kernel_rfl)) rfl
        have e40 : a.tmps[40]? = some (.int .i64 n7) := by rw [ha]; exact putSel_on (e := (23, 40, .int .i64 n7)) 23 rfl rfl (hon 23 (by kernel_rfl)) rfl
        replace ha := Aside0.mk ha
        have HW := Aside0.mk Q_HW
        refine value_ (w1 := w') (v := .agg #[.int .i64 n0, .int .i64 n1, .int .i64 n2, .int .i64 n3, .int .i64 n4, .int .i64 n5, .int .i64 n6, .int .i64 n7]) (by rfl) rfl ?_ ?_
        · go_simp
          (try simp only [i64_w])
          try rfl
        refine hK.out _ _ ⟨(by rw [ha.out]; exact putSel_upk 24 hb_ rfl rfl rfl), Q_HW, Q_HG, Q_HNZ, fun h0_ => absurd ((hoff 26 (by kernel_rfl)).symm.trans h0_) (by decide)⟩
      refine steps_cons ?_ ?_
      · rintro b a w' ⟨ha, Q_HW, Q_HG, Q_HNZ, Q_HNN⟩ hb_ hon hoff
        refine ⟨_, rfl, fun K hK => ?_⟩
        replace ha := Aside0.mk ha
        have HW := Aside0.mk Q_HW
        have HG := Aside0.mk (Q_HG hb_)
        refine box_step ?hg (N := 6) ?hd (cs := #[.int .i64 0, .int .i64 0, .int .i64 0, .int .i64 0, .int .i64 0, .int .i64 0, .int .i64 0, .int .i64 0]) (t := 23) ?hr ?_; (case hd => rfl); (case hg => rfl); (case hr => first | (go_simp; done) | (go_simp; rfl))
        intro gb hg w1 hbox hb
        obtain rfl : gb = w2.heap.size := hg.trans HG.out
        have N0 := Aside0.mk hbox
        refine hK.out _ _ ⟨(by rw [ha.out]; exact putSel_upk 25 hb_ rfl rfl rfl), (below_step Q_HW hb), fun h1_ => absurd ((up_self b 25).symm.trans h1_) (by decide), fun _ => fun _ => N0.out, fun h0_ => absurd ((hoff 26 (by kernel_rfl)).symm.trans h0_) (by decide)⟩
      refine steps_cons ?_ ?_
      · rintro b a w' ⟨ha, Q_HW, Q_HG, Q_HNZ, Q_HNN⟩ hb_ hon hoff
        refine ⟨_, rfl, fun K hK => ?_⟩
        have e6 : a.tmps[6]? = some (.pointer (some ⟨w2.heap.size, 0, none⟩)) := by rw [ha]; exact putSel_on (e := (25, 6, .pointer (some ⟨w2.heap.size, 0, none⟩))) 25 rfl rfl (hon 25 (by kernel_rfl)) rfl
        have e41 : a.tmps[41]? = some (.agg #[.int .i64 n0, .int .i64 n1, .int .i64 n2, .int .i64 n3, .int .i64 n4, .int .i64 n5, .int .i64 n6, .int .i64 n7]) := by rw [ha]; exact putSel_on (e := (24, 41, .agg #[.int .i64 n0, .int .i64 n1, .int .i64 n2, .int .i64 n3, .int .i64 n4, .int .i64 n5, .int .i64 n6, .int .i64 n7])) 24 rfl rfl (hon 24 (by kernel_rfl)) rfl
        replace ha := Aside0.mk ha
        have HW := Aside0.mk Q_HW
        have HNZ := Aside0.mk (Q_HNZ (hon 25 (by kernel_rfl)) hb_)
        have hs0_ : w'.cell? ⟨w2.heap.size, 0, none⟩ = some (.int .i64 0) := (blk_cell HNZ.out 0).trans rfl
        have hs1_ : w'.cell? ⟨w2.heap.size, 1, none⟩ = some (.int .i64 0) := (blk_cell HNZ.out 1).trans rfl
        have hs2_ : w'.cell? ⟨w2.heap.size, 2, none⟩ = some (.int .i64 0) := (blk_cell HNZ.out 2).trans rfl
        have hs3_ : w'.cell? ⟨w2.heap.size, 3, none⟩ = some (.int .i64 0) := (blk_cell HNZ.out 3).trans rfl
        have hs4_ : w'.cell? ⟨w2.heap.size, 4, none⟩ = some (.int .i64 0) := (blk_cell HNZ.out 4).trans rfl
        have hs5_ : w'.cell? ⟨w2.heap.size, 5, none⟩ = some (.int .i64 0) := (blk_cell HNZ.out 5).trans rfl
        have hs6_ : w'.cell? ⟨w2.heap.size, 6, none⟩ = some (.int .i64 0) := (blk_cell HNZ.out 6).trans rfl
        have hs7_ : w'.cell? ⟨w2.heap.size, 7, none⟩ = some (.int .i64 0) := (blk_cell HNZ.out 7).trans rfl
        have hf0_ := blk_frozen HNZ.out 0
        have hf1_ := blk_frozen HNZ.out 1
        have hf2_ := blk_frozen HNZ.out 2
        have hf3_ := blk_frozen HNZ.out 3
        have hf4_ := blk_frozen HNZ.out 4
        have hf5_ := blk_frozen HNZ.out 5
        have hf6_ := blk_frozen HNZ.out 6
        have hf7_ := blk_frozen HNZ.out 7
        refine skip_ (w1 := ?_) (by rfl) rfl ?_ ?_
        rotate_left
        · go_simp
          rfl
        refine hK.out _ _ ⟨(by rw [ha.out]; exact putSel_none (v := undef) rfl), (Rec.below8 Q_HW (Nat.le_refl _) _ _ _ _ _ _ _ _), fun h1_ => absurd ((hon 25 (by kernel_rfl)).symm.trans h1_) (by decide), fun _ h1_ => absurd ((up_self b 26).symm.trans h1_) (by decide), fun _ => (Rec.put8 HNZ.out (.int .i64 n0) (.int .i64 n1) (.int .i64 n2) (.int .i64 n3) (.int .i64 n4) (.int .i64 n5) (.int .i64 n6) (.int .i64 n7))⟩
      exact steps_nil
    rintro b a wE hall ⟨ha, Q_HW, Q_HG, Q_HNZ, Q_HNN⟩
    have hb0_ := hall 0 (by kernel_rfl)
    have hb1_ := hall 1 (by kernel_rfl)
    have hb2_ := hall 2 (by kernel_rfl)
    have hb3_ := hall 3 (by kernel_rfl)
    have hb4_ := hall 4 (by kernel_rfl)
    have hb5_ := hall 5 (by kernel_rfl)
    have hb6_ := hall 6 (by kernel_rfl)
    have hb7_ := hall 7 (by kernel_rfl)
    have hb8_ := hall 8 (by kernel_rfl)
    have hb9_ := hall 9 (by kernel_rfl)
    have hb10_ := hall 10 (by kernel_rfl)
    have hb11_ := hall 11 (by kernel_rfl)
    have hb12_ := hall 12 (by kernel_rfl)
    have hb13_ := hall 13 (by kernel_rfl)
    have hb14_ := hall 14 (by kernel_rfl)
    have hb15_ := hall 15 (by kernel_rfl)
    have hb16_ := hall 16 (by kernel_rfl)
    have hb17_ := hall 17 (by kernel_rfl)
    have hb18_ := hall 18 (by kernel_rfl)
    have hb19_ := hall 19 (by kernel_rfl)
    have hb20_ := hall 20 (by kernel_rfl)
    have hb21_ := hall 21 (by kernel_rfl)
    have hb22_ := hall 22 (by kernel_rfl)
    have hb23_ := hall 23 (by kernel_rfl)
    have hb24_ := hall 24 (by kernel_rfl)
    have hb25_ := hall 25 (by kernel_rfl)
    have hb26_ := hall 26 (by kernel_rfl)
    subst ha
    have HW := Aside0.mk (Q_HW)
    clear Q_HW
    clear Q_HG
    clear Q_HNZ
    have HNN := Aside0.mk (Q_HNN hb26_)
    clear Q_HNN
    simp only [putSel, hb0_, hb1_, hb2_, hb3_, hb4_, hb5_, hb6_, hb7_, hb8_, hb9_, hb10_, hb11_, hb12_, hb13_, hb14_, hb15_, hb16_, hb17_, hb18_, hb19_, hb20_, hb21_, hb22_, hb23_, hb24_, hb25_, if_true, Act.put, List.setIfInBounds_toArray, List.set_cons_zero, List.set_cons_succ]
    clear hall hb0_ hb1_ hb2_ hb3_ hb4_ hb5_ hb6_ hb7_ hb8_ hb9_ hb10_ hb11_ hb12_ hb13_ hb14_ hb15_ hb16_ hb17_ hb18_ hb19_ hb20_ hb21_ hb22_ hb23_ hb24_ hb25_ hb26_
    have HB3 := Aside0.mk (below_step HB2.out HW.out)
    have HZ3 := Aside0.mk (blk_below HZ2.out HW.out)
    have hge := HB2.out.size
    have hn0 : wE.cell? ⟨w2.heap.size, 0, none⟩ = some (.int .i64 n0) := (blk_cell HNN.out 0).trans rfl
    have hn1 : wE.cell? ⟨w2.heap.size, 1, none⟩ = some (.int .i64 n1) := (blk_cell HNN.out 1).trans rfl
    have hn2 : wE.cell? ⟨w2.heap.size, 2, none⟩ = some (.int .i64 n2) := (blk_cell HNN.out 2).trans rfl
    have hn3 : wE.cell? ⟨w2.heap.size, 3, none⟩ = some (.int .i64 n3) := (blk_cell HNN.out 3).trans rfl
    have hn4 : wE.cell? ⟨w2.heap.size, 4, none⟩ = some (.int .i64 n4) := (blk_cell HNN.out 4).trans rfl
    have hn5 : wE.cell? ⟨w2.heap.size, 5, none⟩ = some (.int .i64 n5) := (blk_cell HNN.out 5).trans rfl
    have hn6 : wE.cell? ⟨w2.heap.size, 6, none⟩ = some (.int .i64 n6) := (blk_cell HNN.out 6).trans rfl
    have hn7 : wE.cell? ⟨w2.heap.size, 7, none⟩ = some (.int .i64 n7) := (blk_cell HNN.out 7).trans rfl
    have hnf0 := blk_frozen HNN.out 0
    have hnf1 := blk_frozen HNN.out 1
    have hnf2 := blk_frozen HNN.out 2
    have hnf3 := blk_frozen HNN.out 3
    have hnf4 := blk_frozen HNN.out 4
    have hnf5 := blk_frozen HNN.out 5
    have hnf6 := blk_frozen HNN.out 6
    have hnf7 := blk_frozen HNN.out 7
    go_wp2_with fail
    refine (record_Check.calls kc _ _ _ _ _ _ _ _ ec _ HCK.out).mono ?_
    rintro e w4 ⟨rfl, hb4⟩
    have HN4 := Aside0.mk (blk_below HNN.out hb4)
    have HB4 := Aside0.mk (below_step HB3.out hb4)
    have HZ4 := Aside0.mk (blk_below HZ3.out hb4)
    clear hb4 hn0 hnf0 hn1 hnf1 hn2 hnf2 hn3 hnf3 hn4 hnf4 hn5 hnf5 hn6 hnf6 hn7 hnf7
    have hm0 : w4.cell? ⟨w2.heap.size, 0, none⟩ = some (.int .i64 n0) := (blk_cell HN4.out 0).trans rfl
    have hm1 : w4.cell? ⟨w2.heap.size, 1, none⟩ = some (.int .i64 n1) := (blk_cell HN4.out 1).trans rfl
    have hm2 : w4.cell? ⟨w2.heap.size, 2, none⟩ = some (.int .i64 n2) := (blk_cell HN4.out 2).trans rfl
    have hm3 : w4.cell? ⟨w2.heap.size, 3, none⟩ = some (.int .i64 n3) := (blk_cell HN4.out 3).trans rfl
    have hm4 : w4.cell? ⟨w2.heap.size, 4, none⟩ = some (.int .i64 n4) := (blk_cell HN4.out 4).trans rfl
    have hm5 : w4.cell? ⟨w2.heap.size, 5, none⟩ = some (.int .i64 n5) := (blk_cell HN4.out 5).trans rfl
    have hm6 : w4.cell? ⟨w2.heap.size, 6, none⟩ = some (.int .i64 n6) := (blk_cell HN4.out 6).trans rfl
    have hm7 : w4.cell? ⟨w2.heap.size, 7, none⟩ = some (.int .i64 n7) := (blk_cell HN4.out 7).trans rfl
    have hmf0 := blk_frozen HN4.out 0
    have hmf1 := blk_frozen HN4.out 1
    have hmf2 := blk_frozen HN4.out 2
    have hmf3 := blk_frozen HN4.out 3
    have hmf4 := blk_frozen HN4.out 4
    have hmf5 := blk_frozen HN4.out 5
    have hmf6 := blk_frozen HN4.out 6
    have hmf7 := blk_frozen HN4.out 7
    have hcz0 : w4.cell? ⟨w.heap.size, 0, none⟩ = some (.int .i64 0) := (blk_cell HZ4.out 0).trans rfl
    have hcz1 : w4.cell? ⟨w.heap.size, 1, none⟩ = some (.int .i64 0) := (blk_cell HZ4.out 1).trans rfl
    have hcz2 : w4.cell? ⟨w.heap.size, 2, none⟩ = some (.int .i64 0) := (blk_cell HZ4.out 2).trans rfl
    have hcz3 : w4.cell? ⟨w.heap.size, 3, none⟩ = some (.int .i64 0) := (blk_cell HZ4.out 3).trans rfl
    have hcz4 : w4.cell? ⟨w.heap.size, 4, none⟩ = some (.int .i64 0) := (blk_cell HZ4.out 4).trans rfl
    have hcz5 : w4.cell? ⟨w.heap.size, 5, none⟩ = some (.int .i64 0) := (blk_cell HZ4.out 5).trans rfl
    have hcz6 : w4.cell? ⟨w.heap.size, 6, none⟩ = some (.int .i64 0) := (blk_cell HZ4.out 6).trans rfl
    have hcz7 : w4.cell? ⟨w.heap.size, 7, none⟩ = some (.int .i64 0) := (blk_cell HZ4.out 7).trans rfl
    have hczf0 := blk_frozen HZ4.out 0
    have hczf1 := blk_frozen HZ4.out 1
    have hczf2 := blk_frozen HZ4.out 2
    have hczf3 := blk_frozen HZ4.out 3
    have hczf4 := blk_frozen HZ4.out 4
    have hczf5 := blk_frozen HZ4.out 5
    have hczf6 := blk_frozen HZ4.out 6
    have hczf7 := blk_frozen HZ4.out 7
    by_cases hec : ec = 0
    case pos =>
      subst hec
      go_wp2
      refine bodyPost_ret (results_ct rfl _ _ w.heap.size 23 #[.int .i64 n0, .int .i64 n1, .int .i64 n2, .int .i64 n3, .int .i64 n4, .int .i64 n5, .int .i64 n6, .int .i64 n7] (0, 0) _ rfl (Rec.put8 HZ4.out (.int .i64 n0) (.int .i64 n1) (.int .i64 n2) (.int .i64 n3) (.int .i64 n4) (.int .i64 n5) (.int .i64 n6) (.int .i64 n7)) Try.underlying23 rfl (by kernel_rfl)) rfl ?_
      exact ⟨rfl, Rec.below8 HB4.out (Nat.le_refl _) _ _ _ _ _ _ _ _⟩
    case neg =>
      have hec1 : (ec != 0) = true := bne_iff_ne.2 hec
      go_wp2
      refine bodyPost_ret (results_ct rfl _ _ w.heap.size 23 #[.int .i64 0, .int .i64 0, .int .i64 0, .int .i64 0, .int .i64 0, .int .i64 0, .int .i64 0, .int .i64 0] (0, 0) _ rfl (Rec.put8 HZ4.out (.int .i64 0) (.int .i64 0) (.int .i64 0) (.int .i64 0) (.int .i64 0) (.int .i64 0) (.int .i64 0) (.int .i64 0)) Try.underlying23 rfl (by kernel_rfl)) rfl ?_
      exact ⟨Or.inr ⟨hec, rfl⟩, Rec.below8 HB4.out (Nat.le_refl _) _ _ _ _ _ _ _ _⟩
  unfold Rec.chkG at hck
  by_cases hok : Rec.okR [n0, n1, n2, n3, n4, n5, n6, n7] = true
  case neg =>
    rw [Rec.parseG_bad (Bool.eq_false_iff.2 hok)]
    refine ⟨0, 0, 0, 0, 0, 0, 0, 0, rfl, ?_⟩
    rw [if_neg hok] at hck
    exact (key 1 hck).mono fun e w' h => ⟨h.1.elim (fun h => absurd h.1 (by decide)) (fun h => h.2), h.2⟩
  rw [Rec.parseG_ok hok]
  refine ⟨n0, n1, n2, n3, n4, n5, n6, n7, rfl, ?_⟩
  rw [if_pos hok] at hck
  exact (key 0 hck).mono fun e w' h => ⟨h.1.elim (fun h => h.2) (fun h => absurd rfl h.1), h.2⟩
theorem record_Parse.calls (A0 : Option Addr) (c0 : Nat) (l0 : List Int) (r1 r2 r3 r4 r5 r6 r7 r8 r9 : Int) (w : World) (hr0 : Kd.C (Kd.int .u8) w A0 l0.length l0) (hc0 : l0.length ≤ c0) (h : record_Parse.f l0 = some (r1, r2, r3, r4, r5, r6, r7, r8, r9)) :
    Calls Try.prog 16 #[.slice A0 l0.length c0] w fun e w' => e = .returned (.tuple #[.agg #[.int .i64 r1, .int .i64 r2, .int .i64 r3, .int .i64 r4, .int .i64 r5, .int .i64 r6, .int .i64 r7, .int .i64 r8], .int .i64 r9]) ∧ Below w.heap.size w w' := by
  unfold record_Parse.f at h
  by_cases hb : Blk.bytesOk l0 = true
  · rw [if_pos hb] at h
    obtain ⟨a0, a1, a2, a3, a4, a5, a6, a7, he, hw⟩ := record_Parse_walk A0 c0 l0 w hr0 hc0 hb
    rw [he] at h
    simp only [Rec.tup8, Option.some.injEq, Prod.mk.injEq] at h
    obtain ⟨rfl, rfl, rfl, rfl, rfl, rfl, rfl, rfl, rfl⟩ := h
    exact hw
  · rw [if_neg hb] at h; cases h

/-! ### woodcutref01_In: function 52 -/
def woodcutref01_In.f (a0 : Int) (a1 : Int) (a2 : Int) : Option (Bool) := if a0 ≥ a1 then (some (decide (a0 ≤ a2))) else (some false)
set_option maxHeartbeats 8000000 in
set_option maxRecDepth 100000 in
theorem woodcutref01_In.calls (a0 : Int) (a1 : Int) (a2 : Int) (r : Bool) (w : World) (h : woodcutref01_In.f a0 a1 a2 = some r) :
    Calls Try.prog 52 #[.int .i64 a0, .int .i64 a1, .int .i64 a2] w fun e w' => e = .returned (.bool r) ∧ Drawn0 w w' := by
  have H : (if a0 ≥ a1 then (some (decide (a0 ≤ a2))) else (some false)) = some r := h
  clear h
  by_cases c4 : a0 ≥ a1
  · rw [if_pos c4] at H
    have c4b0 : decide (a1 ≤ a0) = true := decide_eq_true c4
    clear c4
    obtain rfl := Option.some.inj H
    go_enter Try.func52, Try.ntmps52
    go_wp2
    go_ret
    exact ⟨by first | rfl | (simp; done) | (simp [*]; done), by repeat (first | exact Drawn0.refl _ | apply Drawn0.step)⟩
  · rw [if_neg c4] at H
    have c4b0 : decide (a1 ≤ a0) = false := decide_eq_false c4
    clear c4
    obtain rfl := Option.some.inj H
    go_enter Try.func52, Try.ntmps52
    go_wp2
    go_ret
    exact ⟨by first | rfl | (simp; done) | (simp [*]; done), by repeat (first | exact Drawn0.refl _ | apply Drawn0.step)⟩

/-! ### woodcutref01_link: function 50 -/
def woodcutref01_link.f (a0 : Int) (a1 : Int) : Option (Bool) := if a0 = 0 then (some true) else ((woodcutref01_In.f a0 2 (wrap64 (a1 - 1))).bind fun t101 => (some t101))
set_option maxHeartbeats 8000000 in
set_option maxRecDepth 100000 in
theorem woodcutref01_link.calls (a0 : Int) (a1 : Int) (r : Bool) (w : World) (h : woodcutref01_link.f a0 a1 = some r) :
    Calls Try.prog 50 #[.int .i64 a0, .int .i64 a1] w fun e w' => e = .returned (.bool r) ∧ Drawn0 w w' := by
  have H : (if a0 = 0 then (some true) else ((woodcutref01_In.f a0 2 (wrap64 (a1 - 1))).bind fun t101 => (some t101))) = some r := h
  clear h
  by_cases c3 : a0 = 0
  · rw [if_pos c3] at H
    have c3b0 : (a0 == 0) = true := beq_iff_eq.mpr c3
    have c3b1 : (a0 != 0) = false := bne_eq_false_iff_eq.mpr c3
    clear c3
    obtain rfl := Option.some.inj H
    go_enter Try.func50, Try.ntmps50
    go_wp2
    go_ret
    exact ⟨by first | rfl | (simp; done) | (simp [*]; done), by repeat (first | exact Drawn0.refl _ | apply Drawn0.step)⟩
  · rw [if_neg c3] at H
    have c3b0 : (a0 == 0) = false := beq_eq_false_iff_ne.mpr c3
    have c3b1 : (a0 != 0) = true := bne_iff_ne.mpr c3
    replace H := Option.bind_eq_some_iff.mp H
    obtain ⟨t101, A40, H⟩ := H
    replace H : (some t101) = some r := H
    have A4 := Aside0.mk A40
    clear A40
    obtain rfl := Option.some.inj H
    go_enter Try.func50, Try.ntmps50
    go_wp2_with (first | (go_at_call 52; (with_reducible refine (woodcutref01_In.calls a0 2 (wrap64 (a1 - 1)) t101 _ A4.out).mono ?_); rintro e w' ⟨rfl, ⟨nd, rfl⟩⟩))
    go_ret
    exact ⟨by first | rfl | (simp; done) | (simp [*]; done), by repeat (first | exact Drawn0.refl _ | apply Drawn0.step)⟩

/-! ### woodcutref01_link: function 50, what it comes to -/
theorem link_f (x : Int) : woodcutref01_link.f x 4096 = some (Nod.isPtr x) := by
  unfold woodcutref01_link.f woodcutref01_In.f Nod.isPtr
  have e : wrap64 ((4096 : Int) - 1) = 4095 := by unfold wrap64; omega
  rw [e]
  by_cases h0 : x = 0
  · subst h0; rfl
  · rw [if_neg h0, show (x == 0) = false from beq_eq_false_iff_ne.2 h0, Bool.false_or]
    by_cases h1 : 2 ≤ x
    · rw [if_pos h1, decide_eq_true h1, Bool.true_and]
      simp only [Option.bind_some]
      congr 1
      exact decide_eq_decide.2 (by omega)
    · rw [if_neg h1, decide_eq_false h1]; rfl

/-! ### woodcutref01_Id: function 51 -/
def woodcutref01_Id.f (a0 : Int) : Option (Bool) := (woodcutref01_In.f a0 1 4611686018427387903).bind fun t101 => (some t101)
set_option maxHeartbeats 8000000 in
set_option maxRecDepth 100000 in
theorem woodcutref01_Id.calls (a0 : Int) (r : Bool) (w : World) (h : woodcutref01_Id.f a0 = some r) :
    Calls Try.prog 51 #[.int .i64 a0] w fun e w' => e = .returned (.bool r) ∧ Drawn0 w w' := by
  have H : ((woodcutref01_In.f a0 1 4611686018427387903).bind fun t101 => (some t101)) = some r := h
  clear h
  replace H := Option.bind_eq_some_iff.mp H
  obtain ⟨t101, A20, H⟩ := H
  replace H : (some t101) = some r := H
  have A2 := Aside0.mk A20
  clear A20
  obtain rfl := Option.some.inj H
  go_enter Try.func51, Try.ntmps51
  go_wp2_with (first | ((with_reducible refine gate_callee (f := 52) rfl ?_); refine goesL_ (some 4) rfl rfl Try.func52 (by kernel_rfl) rfl #[.int .i64 a0, .int .i64 1, .int .i64 4611686018427387903] rfl (by (try simp only [List.map_toArray, List.map_cons, List.map_nil]); first | done | rfl | (simp only [List.length_drop, List.length_take]; rfl)) ?_; (with_reducible refine (woodcutref01_In.calls a0 1 4611686018427387903 t101 _ A2.out).mono ?_); rintro e w' ⟨rfl, ⟨nd, rfl⟩⟩; refine ⟨_, rfl, ?_⟩))
  go_ret
  exact ⟨by first | rfl | (simp; done) | (simp [*]; done), by repeat (first | exact Drawn0.refl _ | apply Drawn0.step)⟩

end Go.Proofs.Ytaaemamcdhebhaa.PRE
