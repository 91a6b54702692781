/- The device's laws: what wakes them, walked. -/
import Derived.Test.YtijfghknjkegpaaDevG
namespace Go.Proofs.Ytijfghknjkegpaa.PDevExact
open Go.RowKit Go.Proofs.YtijfghknjkegpaaW.PrintWords Go.Proofs.YtijfghknjkegpaaW.PrintLast Go.Proofs.YtijfghknjkegpaaW.PrintMore
set_option linter.unusedVariables false
set_option linter.unusedSimpArgs false
def crashOf (img : List Int) (l : List S58) (keep : List Bool) (cut : Int) : List Int × Int :=
  if stepsOf img l ≠ 0 then ([], stepsOf img l) else if cut < 0 ∨ l.length < cut then ([], 1) else ((crashTo img l keep (lastTo l cut.toNat) cut.toNat).1, 0)
/-- dev.Crash of right steps. -/
theorem devCrash (A0 : Option Addr) (c0 : Nat) (img : List Int) (A1 : Option Addr) (c1 : Nat) (l : List S58) (cut : Int) (A3 : Option Addr) (c3 : Nat) (keep : List Bool) (w : World) (hr0 : Kd.C (Kd.int .u8) w A0 img.length img) (hc0 : img.length ≤ c0) (hi : img.length ≤ 140737488355328) (hr1 : Kd.C k58 w A1 l.length l) (hc1 : l.length ≤ c1) (hm1 : c1 ≤ 9223372036854775807) (hr3 : Kd.C Kd.bool w A3 keep.length keep) :
    Calls Try.prog 28 #[.slice A0 img.length c0, .slice A1 l.length c1, .int .i64 cut, .slice A3 keep.length c3] w fun e w' => ∃ v, e = .returned (.tuple #[v, .int .i64 (crashOf img l keep cut).2]) ∧ Kd.R (Kd.int .u8) 5 w' w.heap.size (fun _ => True) v (crashOf img l keep cut).1 ∧ Below w.heap.size w w' := by
  by_cases hs : stepsOf img l = 0
  · have hres : crashOf img l keep cut = if cut < 0 ∨ l.length < cut then ([], 1) else ((crashTo img l keep (lastTo l cut.toNat) cut.toNat).1, 0) := by unfold crashOf; rw [if_neg (fun h => h hs)]
    obtain ⟨hv, hll, hf⟩ := fits_of hs
    have hvl := valid_len hv
    by_cases c : cut < 0 ∨ l.length < cut
    · rw [if_pos c] at hres
      rw [hres]
      clear hres
      have HSA := Aside0.mk (devSteps A0 c0 img A1 c1 l w hr0 hc0 hi hr1)
      rw [hs] at HSA
      have hm : l.length ≤ 9223372036854775807 := Kd.C_max hr1
      clear hr0 hr1 hc0 hs hr3 hv hll hf hvl
      by_cases c1 : cut < 0
      · have h1 : decide (cut < 0) = true := decide_eq_true c1
        go_enter Try.func28, Try.ntmps28
        go_wp2_with fail
        refine HSA.out.mono ?_
        rintro e w1 ⟨rfl, hb1⟩
        have HB1 := Aside0.mk hb1
        clear hb1
        go_wp2
        go_ret2
        exact ⟨_, rfl, Kd.R_nil _ _ _ _ _, HB1.out⟩
      · have h1 : decide (cut < 0) = false := decide_eq_false c1
        obtain ⟨n, rfl⟩ := Int.eq_ofNat_of_zero_le (show 0 ≤ cut by omega)
        have h2 : decide (l.length < n) = true := decide_eq_true (by omega)
        go_enter Try.func28, Try.ntmps28
        go_wp2_with fail
        refine HSA.out.mono ?_
        rintro e w1 ⟨rfl, hb1⟩
        have HB1 := Aside0.mk hb1
        clear hb1
        go_wp2
        go_ret2
        exact ⟨_, rfl, Kd.R_nil _ _ _ _ _, HB1.out⟩
    · rw [if_neg c] at hres
      rw [hres]
      clear hres
      obtain ⟨n, rfl⟩ := Int.eq_ofNat_of_zero_le (show 0 ≤ cut by omega)
      rw [Int.toNat_natCast]
      exact crash_walk A0 c0 img A1 c1 l n A3 c3 keep w hr0 hc0 hi hr1 hc1 hm1 hr3 hs (by omega) hll hf (by omega) _ rfl
  · have hres : crashOf img l keep cut = ([], stepsOf img l) := by unfold crashOf; rw [if_pos hs]
    rw [hres]
    clear hres
    have HSA := Aside0.mk (devSteps A0 c0 img A1 c1 l w hr0 hc0 hi hr1)
    generalize stepsOf img l = s at *
    have h1 : (s != 0) = true := by rw [bne_iff_ne]; exact hs
    clear hr0 hr1 hc0 hs hr3
    go_enter Try.func28, Try.ntmps28
    go_wp2_with fail
    refine HSA.out.mono ?_
    rintro e w1 ⟨rfl, hb1⟩
    have HB1 := Aside0.mk hb1
    clear hb1
    go_wp2
    go_ret2
    exact ⟨_, rfl, Kd.R_nil _ _ _ _ _, HB1.out⟩
theorem ios2_C {w : World} {g : Nat} {a b : S58} {A2 B2 : Option Addr} {c2 d2 : Nat} (h0 : w.cell? ⟨g, 0, none⟩ = some (.int .i64 a.f0)) (h1 : w.cell? ⟨g, 1, none⟩ = some (.int .i64 a.f1)) (h2 : w.cell? ⟨g, 2, none⟩ = some (.slice A2 a.f2.length c2)) (h3 : w.cell? ⟨g, 3, none⟩ = some (.int .i64 b.f0)) (h4 : w.cell? ⟨g, 4, none⟩ = some (.int .i64 b.f1)) (h5 : w.cell? ⟨g, 5, none⟩ = some (.slice B2 b.f2.length d2))
    (ha : a.f2.length ≤ c2) (hA : Kd.C (Kd.int .u8) w A2 a.f2.length a.f2) (hb : b.f2.length ≤ d2) (hB : Kd.C (Kd.int .u8) w B2 b.f2.length b.f2) : Kd.C k58 w (some ⟨g, 0, none⟩) 2 [a, b] := by
  refine ⟨rfl, by omega, fun _ => ⟨_, rfl, fun j p hj => ?_⟩⟩
  match j, hj with
  | 0, hj =>
    injection hj with hj; subst hj
    refine ⟨_, rfl, k58_mk w a ha hA, fun i u hi => ?_⟩
    match i, hi with
    | 0, hi => injection hi with hi; subst hi; exact h0
    | 1, hi => injection hi with hi; subst hi; exact h1
    | 2, hi => injection hi with hi; subst hi; exact h2
    | n + 3, hi => simp at hi
  | 1, hj =>
    injection hj with hj; subst hj
    refine ⟨_, rfl, k58_mk w b hb hB, fun i u hi => ?_⟩
    match i, hi with
    | 0, hi => injection hi with hi; subst hi; exact h3
    | 1, hi => injection hi with hi; subst hi; exact h4
    | 2, hi => injection hi with hi; subst hi; exact h5
    | n + 3, hi => simp at hi
  | n + 2, hj => simp at hj
theorem ints1_C {w : World} {g : Nat} {a : Int} (h0 : w.cell? ⟨g, 0, none⟩ = some (.int .i64 a)) : Kd.C (Kd.int .i64) w (some ⟨g, 0, none⟩) 1 [a] := by
  refine ⟨rfl, by omega, fun _ => ⟨_, rfl, fun j p hj => ⟨[.int .i64 p], rfl, rfl, fun i u hi => ?_⟩⟩⟩
  match j, i, hj, hi with
  | 0, 0, hj, hi => injection hj with hj; injection hi with hi; subst hj; subst hi; exact h0
  | 0, n + 1, hj, hi => simp at hi
  | n + 1, i, hj, hi => simp at hj
def zeros256 : List Int := List.replicate 256 0
def seven64 : List Int := 7 :: List.replicate 63 0
def wakeIos : List S58 := [⟨1, 3, seven64⟩, ⟨2, 0, []⟩]
def wakeX : List Int := wakeIos.foldl applyIo zeros256
set_option maxHeartbeats 2000000 in
set_option maxRecDepth 100000 in
theorem wakes_calls (w : World) : Calls Try.prog 35 #[] w fun e w' => e = .returned (.bool true) ∧ Below w.heap.size w w' := by
  have HB := Aside0.mk (Below.refl w.heap.size w)
  go_enter Try.func35, Try.ntmps35
  go_upto_region 2 with (refine Kd.R_make (Kd.int .u8) (w0 := w) w.heap.size 5 rfl rfl 44 _ _ rfl _ rfl rfl Try.underlying44 (.int .u8 0) 1 info5 rfl (by decide) (by decide) (0 : Int) (ok := fun _ => True) (okp := fun _ => True) rfl (fun _ _ => trivial) trivial (by omega) (by decide) HB.out (Nat.le_refl _) ?_; intro v1 w1 ho1 hb1 hg1 hat1)
  rw [show List.replicate (Int.toNat 256) (0 : Int) = zeros256 from rfl] at ho1
  obtain ⟨A1, c1, rfl, hc1, hC1⟩ := Kd.R_reads ho1
  have HC1 := Aside0.mk hC1
  have Hc1 := Aside0.mk hc1
  have HB1 := Aside0.mk hb1
  clear ho1 hb1 hg1 hat1 hC1 hc1
  go_upto_region 3 with (refine Kd.R_make (Kd.int .u8) (w0 := w1) w1.heap.size 5 rfl rfl 44 _ _ rfl _ rfl rfl Try.underlying44 (.int .u8 0) 1 info5 rfl (by decide) (by decide) (0 : Int) (ok := fun _ => True) (okp := fun _ => True) rfl (fun _ _ => trivial) trivial (by omega) (by decide) (Below.refl _ _) (Nat.le_refl _) ?_; intro v2 w2 ho2 hb2 hg2 hat2)
  obtain ⟨g, c2, hv2, hgb, hgl, cells, hcells⟩ := Kd.R_form ho2 (by decide)
  rw [show (List.replicate (Int.toNat 64) (0 : Int)).length = 64 from by decide] at hv2
  subst hv2
  have hcell := Kd.R_cell (0 : Int) ho2 0 (by omega) (by decide)
  obtain ⟨hce, hfr⟩ := hcell
  have HO2 := Aside0.mk (Kd.R_put ho2 0 7)
  obtain ⟨-, hcap2, -⟩ := R_cap ho2
  have HB2 := Aside0.mk (Below.setCell (p := ⟨g, 0, none⟩) hb2 hgb (.int .u8 7))
  have hle2 : w1.heap.size ≤ w2.heap.size := hb2.size
  clear ho2 hb2 hg2 hat2 hcells
  simp only [Int.toNat_zero] at hce hfr HO2
  go_wp2_with fail
  have HBW := Aside0.mk (show Below w.heap.size w (w2.setCell ⟨g, 0, none⟩ (.int .u8 7)) from below_then HB1.out HB1.out.size HB2.out)
  have HI := Aside0.mk (Kd.C_below HC1.out HB2.out)
  have HS := Aside0.mk (show Kd.C (Kd.int .u8) (w2.setCell ⟨g, 0, none⟩ (.int .u8 7)) (some ⟨g, 0, none⟩) 64 seven64 by
    obtain ⟨A, c, he, _, hC⟩ := Kd.R_reads HO2.out.1
    have e2 : ((List.replicate (Int.toNat 64) (0 : Int)).set 0 7) = seven64 := by decide
    rw [e2] at he hC
    injection he with h1 h2 h3
    rw [h1]; exact hC)
  clear HO2 HC1 hce hfr HB2
  have HL := Aside0.mk (show Kd.C k58 ((w2.setCell ⟨g, 0, none⟩ (.int .u8 7)).alloc (.cells #[.int .i64 1, .int .i64 3, .slice (some ⟨g, 0, none⟩) 64 c2, .int .i64 2, .int .i64 0, .slice none 0 0] 58)) (some ⟨w2.heap.size, 0, none⟩) 2 wakeIos from
    ios2_C (a := ⟨1, 3, seven64⟩) (b := ⟨2, 0, []⟩) (A2 := some ⟨g, 0, none⟩) (c2 := c2) (B2 := none) (d2 := 0) (by go_simp) (by go_simp) (by go_simp; rfl) (by go_simp) (by go_simp) (by go_simp) hcap2 (Kd.C_alloc HS.out _) (by simp) (Kd.C_nil _ _))
  have z256 : zeros256.length = 256 := by decide
  have x256 : wakeX.length = 256 := by decide
  have s64 : seven64.length = 64 := by decide
  have hst : stepsOf zeros256 wakeIos = 0 := by decide
  have hap := devApply A1 c1 zeros256 (some ⟨w2.heap.size, 0, none⟩) 2 wakeIos _ (show Kd.C (Kd.int .u8) ((w2.setCell ⟨g, 0, none⟩ (.int .u8 7)).alloc (.cells #[.int .i64 1, .int .i64 3, .slice (some ⟨g, 0, none⟩) 64 c2, .int .i64 2, .int .i64 0, .slice none 0 0] 58)) A1 zeros256.length zeros256 from Kd.C_alloc HI.out _) Hc1.out (by rw [z256]; omega) HL.out
  rw [hst, if_pos rfl, show wakeIos.foldl applyIo zeros256 = wakeX from rfl] at hap
  refine hap.mono ?_
  clear hap hst
  rintro e w3 ⟨v4, rfl, r4, hb3⟩
  replace HI := Aside0.mk (Kd.C_below (Kd.C_alloc HI.out _) hb3)
  replace HS := Aside0.mk (Kd.C_below (Kd.C_alloc HS.out _) hb3)
  replace HL := Aside0.mk (Kd.C_below HL.out hb3)
  replace HBW := Aside0.mk (below_then (below_alloc HBW.out _) (below_alloc HBW.out _).size hb3)
  obtain ⟨A4, c4, rfl, hc4, hC4⟩ := Kd.R_reads r4
  obtain ⟨-, -, hm4⟩ := R_cap r4
  have HX := Aside0.mk hC4
  have Hc4 := Aside0.mk hc4
  clear r4 hb3 hC4 hc4
  go_wp2_with fail
  have hcr := devCrash A1 c1 zeros256 (some ⟨w2.heap.size, 0, none⟩) 2 wakeIos 1 none 0 [] w3 HI.out Hc1.out (by rw [z256]; omega) HL.out (by decide) (by omega) (Kd.C_nil _ _)
  rw [show crashOf zeros256 wakeIos [] 1 = (zeros256, 0) from by decide] at hcr
  refine hcr.mono ?_
  clear hcr
  rintro e w4 ⟨v6, rfl, r6, hb4⟩
  have hq_ := Aside0.mk (hb4)
  replace HI := Aside0.mk (Kd.C_below (by repeat (first | exact HI.out | refine Kd.C_alloc ?_ _ | refine Kd.C_drewN ?_ _ | refine Kd.C_drew ?_)) hq_.out)
  replace HS := Aside0.mk (Kd.C_below (by repeat (first | exact HS.out | refine Kd.C_alloc ?_ _ | refine Kd.C_drewN ?_ _ | refine Kd.C_drew ?_)) hq_.out)
  replace HL := Aside0.mk (Kd.C_below (by repeat (first | exact HL.out | refine Kd.C_alloc ?_ _ | refine Kd.C_drewN ?_ _ | refine Kd.C_drew ?_)) hq_.out)
  replace HX := Aside0.mk (Kd.C_below (by repeat (first | exact HX.out | refine Kd.C_alloc ?_ _ | refine Kd.C_drewN ?_ _ | refine Kd.C_drew ?_)) hq_.out)
  replace HBW := Aside0.mk (below_then (show Below w.heap.size w _ from (by repeat (first | (with_reducible first | exact HBW.out | apply below_alloc | apply pw_below_drewN | apply below_drew) | exact HBW.out))) (show Below w.heap.size w _ from (by repeat (first | (with_reducible first | exact HBW.out | apply below_alloc | apply pw_below_drewN | apply below_drew) | exact HBW.out))).size hq_.out)
  clear hq_
  obtain ⟨A6, c6, rfl, hc6, hC6⟩ := Kd.R_reads r6
  have HY := Aside0.mk hC6
  have Hc6 := Aside0.mk hc6
  clear r6 hb4 hC6 hc6
  go_wp2_with fail
  have hrd := devRead A4 c4 wakeX 3 w4 HX.out Hc4.out hm4 (by rw [x256]; omega)
  rw [show readOf wakeX 3 = (seven64, 0) from by decide] at hrd
  refine hrd.mono ?_
  clear hrd
  rintro e w5 ⟨v8, rfl, r8, hb5⟩
  have hq_ := Aside0.mk (hb5)
  replace HI := Aside0.mk (Kd.C_below (by repeat (first | exact HI.out | refine Kd.C_alloc ?_ _ | refine Kd.C_drewN ?_ _ | refine Kd.C_drew ?_)) hq_.out)
  replace HS := Aside0.mk (Kd.C_below (by repeat (first | exact HS.out | refine Kd.C_alloc ?_ _ | refine Kd.C_drewN ?_ _ | refine Kd.C_drew ?_)) hq_.out)
  replace HL := Aside0.mk (Kd.C_below (by repeat (first | exact HL.out | refine Kd.C_alloc ?_ _ | refine Kd.C_drewN ?_ _ | refine Kd.C_drew ?_)) hq_.out)
  replace HX := Aside0.mk (Kd.C_below (by repeat (first | exact HX.out | refine Kd.C_alloc ?_ _ | refine Kd.C_drewN ?_ _ | refine Kd.C_drew ?_)) hq_.out)
  replace HY := Aside0.mk (Kd.C_below (by repeat (first | exact HY.out | refine Kd.C_alloc ?_ _ | refine Kd.C_drewN ?_ _ | refine Kd.C_drew ?_)) hq_.out)
  replace HBW := Aside0.mk (below_then (show Below w.heap.size w _ from (by repeat (first | (with_reducible first | exact HBW.out | apply below_alloc | apply pw_below_drewN | apply below_drew) | exact HBW.out))) (show Below w.heap.size w _ from (by repeat (first | (with_reducible first | exact HBW.out | apply below_alloc | apply pw_below_drewN | apply below_drew) | exact HBW.out))).size hq_.out)
  clear hq_
  obtain ⟨A8, c8, rfl, hc8, hC8⟩ := Kd.R_reads r8
  have HZ := Aside0.mk hC8
  have Hc8 := Aside0.mk hc8
  clear r8 hb5 hC8 hc8
  go_wp2_with fail
  refine (show Calls Try.prog 25 #[.slice A1 256 c1] w5 _ from z256 ▸ dev_Check.calls A1 c1 zeros256 4 0 w5 HI.out Hc1.out (by rw [check_f _ (by rw [z256]; omega)]; decide)).mono ?_
  rintro e w6 ⟨rfl, hd6⟩
  have hb6 := hd6.below
  have hq_ := Aside0.mk (hb6)
  replace HI := Aside0.mk (Kd.C_below (by repeat (first | exact HI.out | refine Kd.C_alloc ?_ _ | refine Kd.C_drewN ?_ _ | refine Kd.C_drew ?_)) hq_.out)
  replace HS := Aside0.mk (Kd.C_below (by repeat (first | exact HS.out | refine Kd.C_alloc ?_ _ | refine Kd.C_drewN ?_ _ | refine Kd.C_drew ?_)) hq_.out)
  replace HL := Aside0.mk (Kd.C_below (by repeat (first | exact HL.out | refine Kd.C_alloc ?_ _ | refine Kd.C_drewN ?_ _ | refine Kd.C_drew ?_)) hq_.out)
  replace HX := Aside0.mk (Kd.C_below (by repeat (first | exact HX.out | refine Kd.C_alloc ?_ _ | refine Kd.C_drewN ?_ _ | refine Kd.C_drew ?_)) hq_.out)
  replace HY := Aside0.mk (Kd.C_below (by repeat (first | exact HY.out | refine Kd.C_alloc ?_ _ | refine Kd.C_drewN ?_ _ | refine Kd.C_drew ?_)) hq_.out)
  replace HZ := Aside0.mk (Kd.C_below (by repeat (first | exact HZ.out | refine Kd.C_alloc ?_ _ | refine Kd.C_drewN ?_ _ | refine Kd.C_drew ?_)) hq_.out)
  replace HBW := Aside0.mk (below_then (show Below w.heap.size w _ from (by repeat (first | (with_reducible first | exact HBW.out | apply below_alloc | apply pw_below_drewN | apply below_drew) | exact HBW.out))) (show Below w.heap.size w _ from (by repeat (first | (with_reducible first | exact HBW.out | apply below_alloc | apply pw_below_drewN | apply below_drew) | exact HBW.out))).size hq_.out)
  clear hq_
  clear hb6 hd6
  obtain ⟨ad4, e4, y4⟩ := Kd.at_int HX.out 192 (by omega) (by rw [x256]; omega)
  cases e4
  rw [show rd wakeX 192 = 7 from by decide, show Int.toNat 192 = 192 from rfl, show ad4.add 192 = ⟨ad4.block, ad4.off + 192, none⟩ from rfl] at y4
  have q1 : (wakeX.length == zeros256.length) = true := by decide
  have q2 : (192 : Int) < wakeX.length := by rw [x256]; omega
  have Z256 := Aside0.mk z256
  have X256 := Aside0.mk x256
  have S64 := Aside0.mk s64
  clear z256 x256 s64 q1 q2
  go_wp2_with fail
  have hbt := woodcutkeep_Bytes.calls 300 A6 c6 zeros256 A1 c1 zeros256 true w6 HY.out Hc6.out HI.out Hc1.out (by rw [bytes_k _ _ (by rw [Z256.out]; omega) _ (by rw [Z256.out]; omega)]; simp)
  rw [Z256.out] at hbt
  refine hbt.mono ?_
  clear hbt
  rintro e w7 ⟨rfl, hd7⟩
  have hb7 := hd7.below
  have hq_ := Aside0.mk (hb7)
  replace HI := Aside0.mk (Kd.C_below (by repeat (first | exact HI.out | refine Kd.C_alloc ?_ _ | refine Kd.C_drewN ?_ _ | refine Kd.C_drew ?_)) hq_.out)
  replace HS := Aside0.mk (Kd.C_below (by repeat (first | exact HS.out | refine Kd.C_alloc ?_ _ | refine Kd.C_drewN ?_ _ | refine Kd.C_drew ?_)) hq_.out)
  replace HL := Aside0.mk (Kd.C_below (by repeat (first | exact HL.out | refine Kd.C_alloc ?_ _ | refine Kd.C_drewN ?_ _ | refine Kd.C_drew ?_)) hq_.out)
  replace HZ := Aside0.mk (Kd.C_below (by repeat (first | exact HZ.out | refine Kd.C_alloc ?_ _ | refine Kd.C_drewN ?_ _ | refine Kd.C_drew ?_)) hq_.out)
  replace HBW := Aside0.mk (below_then (show Below w.heap.size w _ from (by repeat (first | (with_reducible first | exact HBW.out | apply below_alloc | apply pw_below_drewN | apply below_drew) | exact HBW.out))) (show Below w.heap.size w _ from (by repeat (first | (with_reducible first | exact HBW.out | apply below_alloc | apply pw_below_drewN | apply below_drew) | exact HBW.out))).size hq_.out)
  clear hq_
  clear hb7 hd7
  go_wp2_with fail
  have hbt := woodcutkeep_Bytes.calls 300 A8 c8 seven64 (some ⟨g, 0, none⟩) c2 seven64 true w7 HZ.out Hc8.out (by rw [S64.out]; exact HS.out) (by rw [S64.out]; exact hcap2) (by rw [bytes_k _ _ (by rw [S64.out]; omega) _ (by rw [S64.out]; omega)]; simp)
  rw [S64.out] at hbt
  refine hbt.mono ?_
  clear hbt
  rintro e w8 ⟨rfl, hd8⟩
  have hb8 := hd8.below
  have hq_ := Aside0.mk (hb8)
  replace HL := Aside0.mk (Kd.C_below (by repeat (first | exact HL.out | refine Kd.C_alloc ?_ _ | refine Kd.C_drewN ?_ _ | refine Kd.C_drew ?_)) hq_.out)
  replace HBW := Aside0.mk (below_then (show Below w.heap.size w _ from (by repeat (first | (with_reducible first | exact HBW.out | apply below_alloc | apply pw_below_drewN | apply below_drew) | exact HBW.out))) (show Below w.heap.size w _ from (by repeat (first | (with_reducible first | exact HBW.out | apply below_alloc | apply pw_below_drewN | apply below_drew) | exact HBW.out))).size hq_.out)
  clear hq_
  clear hb8 hd8
  go_wp2_with fail
  refine (dev_Flushes.calls 3 (some ⟨w2.heap.size, 0, none⟩) 2 wakeIos [1] w8 HL.out (by decide) (by rw [show 3 = wakeIos.length + 1 from rfl, flushes_f _ (by decide)]; decide)).mono ?_
  rintro e w9 ⟨v85, rfl, r85, hb9⟩
  have hq_ := Aside0.mk (hb9)
  replace HBW := Aside0.mk (below_then (show Below w.heap.size w _ from (by repeat (first | (with_reducible first | exact HBW.out | apply below_alloc | apply pw_below_drewN | apply below_drew) | exact HBW.out))) (show Below w.heap.size w _ from (by repeat (first | (with_reducible first | exact HBW.out | apply below_alloc | apply pw_below_drewN | apply below_drew) | exact HBW.out))).size hq_.out)
  clear hq_
  obtain ⟨A85, c85, rfl, hc85, hC85⟩ := Kd.R_reads r85
  have HFL := Aside0.mk hC85
  have HcFL := Aside0.mk hc85
  clear r85 hb9 hC85 hc85
  go_wp2_with fail
  refine (woodcutkeep_Ints.calls 3 A85 c85 [1] (some ⟨w9.heap.size, 0, none⟩) 1 [1] true _ (Kd.C_alloc HFL.out _) HcFL.out (ints1_C (by go_simp)) (Nat.le_refl _) (by rw [ints_k _ _ (by decide) _ (by decide)]; rfl)).mono ?_
  rintro e w10 ⟨rfl, hd10⟩
  have HBX := Aside0.mk (below_then (below_alloc HBW.out _) (below_alloc HBW.out _).size hd10.below)
  clear hd10
  go_wp2_with fail
  go_ret
  exact ⟨rfl, HBX.out⟩
end Go.Proofs.Ytijfghknjkegpaa.PDevExact
