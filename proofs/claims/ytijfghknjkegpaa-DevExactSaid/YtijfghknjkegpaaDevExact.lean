/- DevExact, walked (written by genexact.py). -/
import Derived.Test.YtijfghknjkegpaaDevQ
namespace Go.Proofs.Ytijfghknjkegpaa.PDevExact
open Go.RowKit Go.Proofs.YtijfghknjkegpaaW.PrintWords Go.Proofs.YtijfghknjkegpaaW.PrintLast Go.Proofs.YtijfghknjkegpaaW.PrintMore
set_option linter.unusedVariables false
set_option linter.unusedSimpArgs false
theorem heavy_no {img : List Int} {l : List S58} (h : heavy img l = false) : img.length ≤ 19200 ∧ l.length ≤ 400 ∧ ∀ x ∈ l, x.f2.length ≤ 300 := by
  unfold heavy at h
  simp only [Bool.or_eq_false_iff, decide_eq_false_iff_not, List.any_eq_false, decide_eq_true_eq] at h
  obtain ⟨⟨h1, h2⟩, h3⟩ := h
  exact ⟨by omega, by omega, fun x hx => by have := h3 x hx; omega⟩
theorem readOf_bad {img : List Int} {k : Int} (h : validDev img = false) : readOf img k = ([], 2) := by unfold readOf; rw [if_pos h]
theorem readOf_out {img : List Int} {k : Int} (h : validDev img = true) (h2 : k < 0 ∨ (img.length / 64 : Nat) ≤ k) : readOf img k = ([], 3) := by unfold readOf; rw [if_neg (by rw [h]; decide), if_pos h2]
theorem readOf_in {img : List Int} {k : Int} (h : validDev img = true) (h2 : ¬ (k < 0 ∨ ((img.length / 64 : Nat) : Int) ≤ k)) : readOf img k = (blockAt img k.toNat, 0) := by unfold readOf; rw [if_neg (by rw [h]; decide), if_neg h2]
theorem stepsOf_bad {img : List Int} {l : List S58} (h : validDev img = false) : stepsOf img l = 2 := by unfold stepsOf; rw [if_pos h]
theorem crashOf_bad {img : List Int} {l : List S58} {keep : List Bool} {t : Int} (h : stepsOf img l ≠ 0) : crashOf img l keep t = ([], stepsOf img l) := by unfold crashOf; rw [if_pos h]
theorem crashOf_out {img : List Int} {l : List S58} {keep : List Bool} {t : Int} (h : stepsOf img l = 0) (h2 : t < 0 ∨ (l.length : Int) < t) : crashOf img l keep t = ([], 1) := by unfold crashOf; rw [if_neg (fun g => g h), if_pos h2]
set_option maxHeartbeats 8000000 in
set_option maxRecDepth 100000 in
theorem devExact_walk (A0 : Option Addr) (c0 : Nat) (img : List Int) (A1 : Option Addr) (c1 : Nat) (l : List S58) (a2 a3 : Int) (A4 : Option Addr) (c4 : Nat) (keep : List Bool) (w : World) (hr0 : Kd.C (Kd.int .u8) w A0 img.length img) (hc0 : img.length ≤ c0) (hm0 : c0 ≤ 9223372036854775807) (hi : img.length ≤ 140737488355328) (hr1 : Kd.C k58 w A1 l.length l) (hc1 : l.length ≤ c1) (hm1 : c1 ≤ 9223372036854775807) (hz1 : l.length * 40 ≤ 140737488351232) (hr4 : Kd.C Kd.bool w A4 keep.length keep) :
    Calls Try.prog 7 #[.slice A0 img.length c0, .slice A1 l.length c1, .int .i64 a2, .int .i64 a3, .slice A4 keep.length c4] w fun e w' => e = .returned (.bool true) ∧ Below w.heap.size w w' := by
  have hm : l.length ≤ 9223372036854775807 := Kd.C_max hr1
  have hmk : keep.length ≤ 9223372036854775807 := Kd.C_max hr4
  have HH := Aside0.mk (woodcutlaw05_Heavy.calls (l.length + 2) A0 c0 img A1 c1 l (heavy img l) w hr0 hc0 hr1 hc1)
  cases hh : heavy img l with
  | true =>
    rw [hh] at HH
    have HE := Aside0.mk hh
    clear hh hr0 hc0 hr1 hc1 hr4
    go_enter Try.func7, Try.ntmps7
    go_wp2_with fail
    refine (HH.out (by rw [heavy_f _ _ (by omega), HE.out])).mono ?_
    rintro e w1 ⟨rfl, hd1⟩
    have HB1 := Aside0.mk hd1.below
    clear hd1
    go_wp2
    go_ret
    exact ⟨rfl, HB1.out⟩
  | false =>
    rw [hh] at HH
    have HE := Aside0.mk hh
    clear hh
    have HR0 := Aside0.mk hr0
    have HR1 := Aside0.mk hr1
    have HR4 := Aside0.mk hr4
    have HC0 := Aside0.mk hc0
    have HC1 := Aside0.mk hc1
    clear hr0 hr1 hr4
    have HHF := Aside0.mk (show woodcutlaw05_Heavy.f (l.length + 2) img l = some false by rw [heavy_f _ _ (by omega), HE.out])
    by_cases hk500 : 500 < keep.length
    · have hx1 : decide ((keep.length : Int) > 500) = true := decide_eq_true (by omega)
      have hx2 : decide (500 < keep.length) = true := decide_eq_true (by omega)
      have hx3 : decide ((500 : Int) < keep.length) = true := decide_eq_true (by omega)
      go_enter Try.func7, Try.ntmps7
      go_wp2_with fail
      refine (HH.out HHF.out).mono ?_
      rintro e w1 ⟨rfl, hd1⟩
      have HB1 := Aside0.mk hd1.below
      clear hd1 HH
      go_wp2
      go_ret
      exact ⟨rfl, HB1.out⟩
    have hx1 : decide ((keep.length : Int) > 500) = false := decide_eq_false (by omega)
    have hx2 : decide (500 < keep.length) = false := decide_eq_false (by omega)
    have hx3 : decide ((500 : Int) < keep.length) = false := decide_eq_false (by omega)
    obtain ⟨hi2, hl400, hd300⟩ := heavy_no HE.out
    have HD300 := Aside0.mk hd300
    have HTW := Aside0.mk (twin_f img (by omega))
    have HTI := Aside0.mk (twinIos_f l (by omega) (fun x hx => by have := HD300.out x hx; omega))
    have HCF := Aside0.mk (check_f img hi)
    have HSF := Aside0.mk (rsteps_f img l hi (by omega))
    have HBF := Aside0.mk (blocks_f img hi)
    have HFF := Aside0.mk (flushes_f l (by omega))
    have HIS := Aside0.mk (ios_self l (by omega) 300 (by omega) HD300.out)
    have HFLL := Aside0.mk (flTo_len l l.length)
    clear hd300
    obtain ⟨n0, hn0⟩ : ∃ n0, n0 = (if validDev img = true then ((img.length / 64 : Nat) : Int) else 0) := ⟨_, rfl⟩
    obtain ⟨e0, he0⟩ : ∃ e0 : Int, e0 = (if validDev img = true then 0 else 2) := ⟨_, rfl⟩
    rw [← hn0, ← he0] at HCF
    have HN0 := Aside0.mk hn0
    have HE0 := Aside0.mk he0
    clear hn0 he0
    obtain ⟨s, hs⟩ : ∃ s, stepsOf img l = s := ⟨_, rfl⟩
    rw [hs] at HSF
    have HS := Aside0.mk hs
    have hss : (s != s) = false := by simp
    have hss2 : (s == s) = true := by simp
    clear hs
    obtain ⟨ok, hok⟩ : ∃ ok, validDev img = ok := ⟨_, rfl⟩
    rw [hok] at HBF
    have HOK := Aside0.mk hok
    clear hok
    obtain ⟨N, hN⟩ : ∃ N, img.length / 64 = N := ⟨_, rfl⟩
    rw [hN] at HBF
    have HN := Aside0.mk hN
    clear hN
    go_enter Try.func7, Try.ntmps7
    go_wp2_with fail
    refine (HH.out HHF.out).mono ?_
    rintro e w1 ⟨rfl, hd1⟩
    have HB1 := Aside0.mk hd1.below
    clear hd1 HH
    go_wp2_with fail
    refine (woodcutkeep_Twin.calls A0 c0 img img w1 (Kd.C_below HR0.out HB1.out) HC0.out HTW.out).mono ?_
    rintro e w2 ⟨v11, rfl, hr11, hb2⟩
    obtain ⟨A11, c11, rfl, hc11, hC11⟩ := Kd.R_reads hr11
    have hm11 := (R_cap hr11).2.2
    have HC11 := Aside0.mk hC11
    have HCAP11 := Aside0.mk hc11
    have HB2 := Aside0.mk (below_then HB1.out HB1.out.size hb2)
    clear hr11 hb2 hC11 hc11 HB1 hx1 hx2 hx3
    go_wp2_with fail
    refine (woodcutkeep_TwinIos.calls (l.length + 1) A1 c1 l l w2 (Kd.C_below HR1.out HB2.out) HC1.out HTI.out).mono ?_
    rintro e w3 ⟨v12, rfl, hr12, hb3⟩
    obtain ⟨A12, c12, rfl, hc12, hC12⟩ := Kd.S_reads hr12
    have hm12 := (R_cap (Kd.S_R hr12)).2.2
    have HC12 := Aside0.mk hC12
    have HCAP12 := Aside0.mk hc12
    have HB3 := Aside0.mk (below_then HB2.out HB2.out.size hb3)
    replace HC11 := Aside0.mk (Kd.C_below HC11.out hb3)
    clear hr12 hb3 hC12 HB2
    go_wp2_with fail
    refine (dev_Check.calls A11 c11 img n0 e0 w3 HC11.out HCAP11.out HCF.out).mono ?_
    rintro e w4 ⟨rfl, hd4⟩
    have HB4 := Aside0.mk (below_then HB3.out HB3.out.size hd4.below)
    replace HC11 := Aside0.mk (Kd.C_below HC11.out hd4.below)
    replace HC12 := Aside0.mk (Kd.C_below HC12.out hd4.below)
    clear hd4 HB3
    go_wp2_with fail
    obtain ⟨b, f, hbf⟩ : ∃ b f, readOf img a2 = (b, f) := ⟨_, _, rfl⟩
    have hdr := devRead A11 c11 img a2 w4 HC11.out HCAP11.out hm11 hi
    rw [hbf] at hdr
    have HRD := Aside0.mk hbf
    clear hbf
    refine hdr.mono ?_
    clear hdr
    rintro e w5 ⟨v15, rfl, hr15, hb5⟩
    obtain ⟨A15, c15, rfl, hc15, hC15⟩ := Kd.R_reads hr15
    have HC15 := Aside0.mk hC15
    have HCAP15 := Aside0.mk hc15
    have HB5 := Aside0.mk (below_then HB4.out HB4.out.size hb5)
    replace HC11 := Aside0.mk (Kd.C_below HC11.out hb5)
    replace HC12 := Aside0.mk (Kd.C_below HC12.out hb5)
    clear hr15 hb5 hC15 hc15 HB4
    go_wp2_with fail
    obtain ⟨X, hX⟩ : ∃ X, (if s = 0 then l.foldl applyIo img else []) = X := ⟨_, rfl⟩
    have hap := devApply A11 c11 img A12 c12 l w5 HC11.out HCAP11.out hi HC12.out
    rw [HS.out, hX] at hap
    have HX := Aside0.mk hX
    clear hX
    refine hap.mono ?_
    clear hap
    rintro e w6 ⟨v17, rfl, hr17, hb6⟩
    obtain ⟨A17, c17, rfl, hc17, hC17⟩ := Kd.R_reads hr17
    have HC17 := Aside0.mk hC17
    have HCAP17 := Aside0.mk hc17
    have HB6 := Aside0.mk (below_then HB5.out HB5.out.size hb6)
    replace HC11 := Aside0.mk (Kd.C_below HC11.out hb6)
    replace HC12 := Aside0.mk (Kd.C_below HC12.out hb6)
    replace HC15 := Aside0.mk (Kd.C_below HC15.out hb6)
    clear hr17 hb6 hC17 hc17 HB5
    go_wp2_with fail
    obtain ⟨Y, h, hY⟩ : ∃ Y h, crashOf img l keep a3 = (Y, h) := ⟨_, _, rfl⟩
    have hcr := devCrash A11 c11 img A12 c12 l a3 A4 c4 keep w6 HC11.out HCAP11.out hi HC12.out HCAP12.out hm12 (Kd.C_below HR4.out HB6.out)
    rw [hY] at hcr
    have HY := Aside0.mk hY
    clear hY
    refine hcr.mono ?_
    clear hcr
    rintro e w7 ⟨v19, rfl, hr19, hb7⟩
    obtain ⟨A19, c19, rfl, hc19, hC19⟩ := Kd.R_reads hr19
    have HC19 := Aside0.mk hC19
    have HCAP19 := Aside0.mk hc19
    have HB7 := Aside0.mk (below_then HB6.out HB6.out.size hb7)
    replace HC11 := Aside0.mk (Kd.C_below HC11.out hb7)
    replace HC12 := Aside0.mk (Kd.C_below HC12.out hb7)
    replace HC15 := Aside0.mk (Kd.C_below HC15.out hb7)
    replace HC17 := Aside0.mk (Kd.C_below HC17.out hb7)
    clear hr19 hb7 hC19 hc19 HB6
    go_wp2_with fail
    refine (dev_Flushes.calls (l.length + 1) A12 c12 l (flTo l l.length) w7 HC12.out HCAP12.out HFF.out).mono ?_
    rintro e w8 ⟨v21, rfl, hr21, hb8⟩
    obtain ⟨A21, c21, rfl, hc21, hC21⟩ := Kd.R_reads hr21
    have HC21 := Aside0.mk hC21
    have HCAP21 := Aside0.mk hc21
    have HB8 := Aside0.mk (below_then HB7.out HB7.out.size hb8)
    replace HC11 := Aside0.mk (Kd.C_below HC11.out hb8)
    replace HC12 := Aside0.mk (Kd.C_below HC12.out hb8)
    replace HC15 := Aside0.mk (Kd.C_below HC15.out hb8)
    replace HC17 := Aside0.mk (Kd.C_below HC17.out hb8)
    replace HC19 := Aside0.mk (Kd.C_below HC19.out hb8)
    have HCI := Aside0.mk (Kd.C_below HR0.out HB8.out)
    have HCL := Aside0.mk (Kd.C_below HR1.out HB8.out)
    have HCK := Aside0.mk (Kd.C_below HR4.out HB8.out)
    clear hr21 hb8 hC21 hc21 HB7
    go_wp2_with fail
    go_loopw [22, 23] (fun v22 i w' => ∃ k : Nat, k ≤ l.length ∧ i = .int .i64 k ∧ ∃ A c, v22 = .slice A (flTo l k).length c ∧ Aside0 (Kd.R (Kd.int .i64) 3 w' w8.heap.size (fun _ => True) (.slice A (flTo l k).length c) (flTo l k)) ∧ Aside0 (Below w8.heap.size w8 w')) (fun _ i _ => l.length - (intOf i).toNat)
    case atStart => exact ⟨0, Nat.zero_le _, rfl, _, _, rfl, ⟨Kd.R_nil _ _ _ _ _⟩, ⟨Below.refl _ _⟩⟩
    case round =>
      obtain ⟨k, hk, rfl, A, c, rfl, HO, HB⟩ := hrel
      by_cases hlt : k < l.length
      · obtain ⟨ad, A2, c2, ee, x0, x1, x2, hl2, hC2⟩ := at_T58 HR1.out (k : Int) (by omega) (by omega)
        cases ee
        simp only [Int.toNat_natCast] at x0
        replace x0 := (HB.out.cell (World.block_lt_of_cell? w8 _ ((HB8.out.cell (World.block_lt_of_cell? w _ x0)).trans x0))).trans ((HB8.out.cell (World.block_lt_of_cell? w _ x0)).trans x0)
        have HT := Aside0.mk (show flTo l (k + 1) = if (rd_T58 l (k : Int)).f0 = 2 then flTo l k ++ [(k : Int)] else flTo l k from rfl)
        have hfk := flTo_len l k
        clear x1 x2 hl2 hC2
        generalize rd_T58 l (k : Int) = x at *
        by_cases cc : x.f0 = 2
        · have h1 : (x.f0 == 2) = true := beq_iff_eq.2 cc
          have HT2 := Aside0.mk (show flTo l (k + 1) = flTo l k ++ [(k : Int)] by rw [HT.out, if_pos cc])
          clear cc
          go_wp2_with (at_builtin; refine Kd.R_append (Kd.int .i64) (w0 := w8) w8.heap.size rfl (.tmp 78) (.tmp 80) 22 3 (.int .i64 0) 8 rfl Try.underlying22 info3 rfl (by decide) (by omega) _ (flTo l k) (k : Int) [.int .i64 k] (fun _ => True) (fun _ => False) rfl (by first | (go_simp; done) | (go_simp; rfl)) rfl (fun _ hk => hk.elim) (fun _ _ => trivial) HO.out HB.out HB.out.size (by omega) ?_; intro v22 w9 ho9 hb9 hg9 hat9)
          rw [← HT2.out] at ho9
          obtain ⟨A', c', rfl⟩ := Kd.R_slice ho9
          have HO9 := Aside0.mk ho9
          have HB9 := Aside0.mk hb9
          clear ho9 hb9 hg9 hat9
          go_roundw
          case rel => exact ⟨k + 1, by omega, by go_num, _, _, rfl, HO9, HB9⟩
          case measure => simp [intOf]; omega
        · have h1 : (x.f0 == 2) = false := beq_eq_false_iff_ne.2 cc
          have HT2 := Aside0.mk (show flTo l (k + 1) = flTo l k by rw [HT.out, if_neg cc])
          clear cc
          rw [← HT2.out] at HO ⊢
          go_wp2_with fail
          go_roundw
          case rel => exact ⟨k + 1, by omega, by go_num, _, _, rfl, HO, HB⟩
          case measure => simp [intOf]; omega
      · obtain rfl : k = l.length := by omega
        have HWC := Aside0.mk (Kd.R_reads' HO.out)
        have HB9 := Aside0.mk HB.out
        clear HO HB hlt hk
        go_wp2_with fail
        refine (woodcutref01_Blocks.calls A0 c0 img N ok wr (Kd.C_below HCI.out HB9.out) HC0.out HBF.out).mono ?_
        rintro e wa ⟨rfl, hda⟩
        have HBA := Aside0.mk (below_then HB9.out HB9.out.size hda.below)
        have HWA := Aside0.mk (Kd.C_below HWC.out.2.2 hda.below)
        clear hda
        go_wp2_with fail
        refine (woodcutref01_Steps.calls (l.length + 2) A0 c0 img A1 c1 l s wa (Kd.C_below HCI.out HBA.out) HC0.out (Kd.C_below HCL.out HBA.out) HC1.out HSF.out).mono ?_
        rintro e wb ⟨rfl, hdb⟩
        have HBB := Aside0.mk (below_then HBA.out HBA.out.size hdb.below)
        replace HWA := Aside0.mk (Kd.C_below HWA.out hdb.below)
        clear hdb HBA HB9
        go_wp2_with fail
        refine (woodcutkeep_Ints.calls (l.length + 1) A21 c21 (flTo l l.length) A c (flTo l l.length) true wb (Kd.C_below HC21.out HBB.out) HCAP21.out HWA.out HWC.out.2.1 (by rw [ints_k _ _ (by have := HFLL.out; omega) _ (by have := HFLL.out; omega)]; simp)).mono ?_
        rintro e wc ⟨rfl, hdc⟩
        have HBC := Aside0.mk (below_then HBB.out HBB.out.size hdc.below)
        clear hdc HBB HWA HWC
        go_wp2_with fail
        have hst := devSteps A11 c11 img A12 c12 l wc (Kd.C_below HC11.out HBC.out) HCAP11.out hi (Kd.C_below HC12.out HBC.out)
        rw [HS.out] at hst
        refine hst.mono ?_
        clear hst
        rintro e wd ⟨rfl, hbd⟩
        have HBD := Aside0.mk (below_then HBC.out HBC.out.size hbd)
        clear hbd HBC
        go_wp2_with fail
        refine (woodcutkeep_Bytes.calls (img.length + 1) A11 c11 img A0 c0 img true wd (Kd.C_below HC11.out HBD.out) HCAP11.out (Kd.C_below HCI.out HBD.out) HC0.out (by rw [bytes_k _ _ (by omega) _ (by omega)]; simp)).mono ?_
        rintro e we ⟨rfl, hde⟩
        have HBEE := Aside0.mk (below_then HBD.out HBD.out.size hde.below)
        clear hde HBD
        go_wp2_with fail
        refine (woodcutkeep_Ios.calls (l.length + 300 + 2) A12 c12 l A1 c1 l true we (Kd.C_below HC12.out HBEE.out) HCAP12.out (Kd.C_below HCL.out HBEE.out) HC1.out HIS.out).mono ?_
        rintro e wf ⟨rfl, hbf⟩
        have HBX := Aside0.mk (below_then HBEE.out HBEE.out.size hbf)
        clear hbf HBEE HFF HIS HFLL HCF HSF HBF HTW HTI HD300
        cases ok with
        | false =>
          have q1 := HE0.out
          have q2 := HN0.out
          have q3 : s = 2 := by rw [← HS.out]; exact stepsOf_bad HOK.out
          have q4 := HRD.out
          have q5 := HX.out
          have q6 := HY.out
          rw [HOK.out] at q1 q2
          rw [readOf_bad HOK.out] at q4
          rw [crashOf_bad (by rw [HS.out, q3]; decide), HS.out, q3] at q6
          rw [if_neg (by rw [q3]; decide)] at q5
          simp only [Prod.mk.injEq] at q4 q6
          obtain ⟨rfl, rfl⟩ := q4
          obtain ⟨rfl, rfl⟩ := q6
          subst q5
          obtain rfl : e0 = 2 := q1
          obtain rfl : n0 = 0 := q2
          subst q3
          clear hss hss2
          go_wp2_with fail
          refine (wakes_calls wf).mono ?_
          rintro e wz ⟨rfl, hbz⟩
          have HZ := Aside0.mk (below_then HB8.out HB8.out.size (below_then HBX.out HBX.out.size hbz))
          clear hbz
          go_wp2
          go_ret
          exact ⟨rfl, HZ.out⟩
        | true =>
          have q1 := HE0.out
          have q2 := HN0.out
          rw [HOK.out, if_pos rfl] at q1 q2
          rw [HN.out] at q2
          obtain rfl : e0 = 0 := q1
          subst q2
          have qn : ((N : Int) != (N : Int)) = false := by simp
          obtain ⟨hv1, hv2, hv3⟩ := valid_len HOK.out
          have hlen : img.length = N * 64 := by have := HN.out; omega
          have HLEN := Aside0.mk hlen
          have hN4 : 4 ≤ N ∧ N ≤ 4096 := by have := HN.out; omega
          obtain ⟨hN4, hN5⟩ := hN4
          clear hlen hv1 hv2 hv3
          by_cases ca : a2 < 0 ∨ (N : Int) ≤ a2
          · have q4 := HRD.out
            rw [readOf_out HOK.out (by rw [HN.out]; exact ca)] at q4
            simp only [Prod.mk.injEq] at q4
            obtain ⟨rfl, rfl⟩ := q4
            by_cases ca1 : a2 < 0
            · have d7 : decide (a2 < 0) = true := decide_eq_true ca1
              clear ca ca1
              by_cases hs0 : s = 0
              · subst hs0
                have q5 := HX.out
                rw [if_pos rfl] at q5
                obtain ⟨-, -, hfit⟩ := fits_of HS.out
                have HFIT := Aside0.mk hfit
                have HLX := Aside0.mk (show X.length = img.length by have := fold_len hfit l.length (Nat.le_refl _); rw [List.take_length, q5] at this; exact this)
                have HXE := Aside0.mk q5
                clear q5 hfit hss hss2
                go_wp2_with fail
                have hra := refApply A0 c0 img A1 c1 l wf (Kd.C_below HCI.out HBX.out) HC0.out hi (Kd.C_below HCL.out HBX.out) (by have := HLEN.out; omega) HFIT.out
                rw [HXE.out] at hra
                refine hra.mono ?_
                clear hra
                rintro e wg ⟨v205, rfl, hr205, hbg⟩
                obtain ⟨A205, c205, rfl, hc205, hC205⟩ := Kd.R_reads hr205
                have HC205 := Aside0.mk hC205
                have HCAP205 := Aside0.mk hc205
                have HBG := Aside0.mk (below_then HBX.out HBX.out.size hbg)
                clear hr205 hbg hC205 hc205
                go_wp2_with fail
                refine (woodcutkeep_Bytes.calls (img.length + 1) A17 c17 X A205 c205 X true wg (Kd.C_below HC17.out HBG.out) HCAP17.out HC205.out HCAP205.out (by rw [bytes_k _ _ (by rw [HLX.out]; omega) _ (by rw [HLX.out]; omega)]; simp)).mono ?_
                rintro e wh ⟨rfl, hdh⟩
                have HBH := Aside0.mk (below_then HBG.out HBG.out.size hdh.below)
                clear hdh HBG HC205 HCAP205
                by_cases ct : a3 < 0 ∨ (l.length : Int) < a3
                · have q6 := HY.out
                  rw [crashOf_out HS.out ct] at q6
                  simp only [Prod.mk.injEq] at q6
                  obtain ⟨rfl, rfl⟩ := q6
                  by_cases ct1 : a3 < 0
                  · have d1 : decide (a3 < 0) = true := decide_eq_true ct1
                    clear ct
                    go_wp2_with fail
                    refine (wakes_calls wh).mono ?_
                    rintro e wz ⟨rfl, hbz⟩
                    have HZ := Aside0.mk (below_then HB8.out HB8.out.size (below_then HBH.out HBH.out.size hbz))
                    clear hbz
                    go_wp2
                    go_ret
                    exact ⟨rfl, HZ.out⟩
                  · have d1 : decide (a3 < 0) = false := decide_eq_false ct1
                    have d2 : decide ((l.length : Int) < a3) = true := decide_eq_true (by omega)
                    have d3 : decide (a3 > (l.length : Int)) = true := decide_eq_true (by omega)
                    clear ct
                    go_wp2_with fail
                    refine (wakes_calls wh).mono ?_
                    rintro e wz ⟨rfl, hbz⟩
                    have HZ := Aside0.mk (below_then HB8.out HB8.out.size (below_then HBH.out HBH.out.size hbz))
                    clear hbz
                    go_wp2
                    go_ret
                    exact ⟨rfl, HZ.out⟩
                · obtain ⟨t, rfl⟩ := Int.eq_ofNat_of_zero_le (show 0 ≤ a3 by omega)
                  have ht : t ≤ l.length := by omega
                  have q6 := HY.out
                  rw [crashOf_ok HS.out ht] at q6
                  simp only [Prod.mk.injEq] at q6
                  obtain ⟨q6, rfl⟩ := q6
                  have HLY := Aside0.mk (show Y.length = img.length by rw [← q6]; exact (blk_law HS.out keep 0 t ht t (Nat.le_refl _)).1)
                  have HYE := Aside0.mk q6
                  have d1 : decide ((t : Int) < 0) = false := decide_eq_false (by omega)
                  have d2 : decide ((l.length : Int) < t) = false := decide_eq_false (by omega)
                  have d3 : decide ((t : Int) > (l.length : Int)) = false := decide_eq_false (by omega)
                  have d4 : decide (l.length < t) = false := decide_eq_false (by omega)
                  clear ct q6
                  go_wp2_with fail
                  have hrc := refCrash A0 c0 img A1 c1 l t A4 c4 keep wh (Kd.C_below HCI.out HBH.out) HC0.out hi (Kd.C_below HCL.out HBH.out) (Kd.C_below HCK.out HBH.out) (by have := HLEN.out; omega) HFIT.out ht _ rfl
                  rw [HYE.out] at hrc
                  refine hrc.mono ?_
                  clear hrc
                  rintro e wi ⟨v235, rfl, hr235, hbi⟩
                  obtain ⟨A235, c235, rfl, hc235, hC235⟩ := Kd.R_reads hr235
                  have HC235 := Aside0.mk hC235
                  have HCAP235 := Aside0.mk hc235
                  have HBI := Aside0.mk (below_then HBH.out HBH.out.size hbi)
                  clear hr235 hbi hC235 hc235
                  go_wp2_with fail
                  refine (woodcutkeep_Bytes.calls (img.length + 1) A19 c19 Y A235 c235 Y true wi (Kd.C_below HC19.out HBI.out) HCAP19.out HC235.out HCAP235.out (by rw [bytes_k _ _ (by rw [HLY.out]; omega) _ (by rw [HLY.out]; omega)]; simp)).mono ?_
                  rintro e wj ⟨rfl, hdj⟩
                  have HBJ := Aside0.mk (below_then HBI.out HBI.out.size hdj.below)
                  clear hdj HBI HC235 HCAP235
                  go_wp2_with fail
                  refine (wakes_calls wj).mono ?_
                  rintro e wz ⟨rfl, hbz⟩
                  have HZ := Aside0.mk (below_then HB8.out HB8.out.size (below_then HBJ.out HBJ.out.size hbz))
                  clear hbz
                  go_wp2
                  go_ret
                  exact ⟨rfl, HZ.out⟩
              · have q5 := HX.out
                have q6 := HY.out
                rw [if_neg hs0] at q5
                rw [crashOf_bad (by rw [HS.out]; exact hs0), HS.out] at q6
                simp only [Prod.mk.injEq] at q6
                obtain ⟨rfl, rfl⟩ := q6
                subst q5
                have h0 : (s != 0) = true := by rw [bne_iff_ne]; exact hs0
                clear hs0
                go_wp2_with fail
                refine (wakes_calls wf).mono ?_
                rintro e wz ⟨rfl, hbz⟩
                have HZ := Aside0.mk (below_then HB8.out HB8.out.size (below_then HBX.out HBX.out.size hbz))
                clear hbz
                go_wp2
                go_ret
                exact ⟨rfl, HZ.out⟩
            · have d7 : decide (a2 < 0) = false := decide_eq_false ca1
              have d8 : decide ((N : Int) ≤ a2) = true := decide_eq_true (by omega)
              have d9 : decide (a2 ≥ (N : Int)) = true := decide_eq_true (by omega)
              clear ca ca1
              by_cases hs0 : s = 0
              · subst hs0
                have q5 := HX.out
                rw [if_pos rfl] at q5
                obtain ⟨-, -, hfit⟩ := fits_of HS.out
                have HFIT := Aside0.mk hfit
                have HLX := Aside0.mk (show X.length = img.length by have := fold_len hfit l.length (Nat.le_refl _); rw [List.take_length, q5] at this; exact this)
                have HXE := Aside0.mk q5
                clear q5 hfit hss hss2
                go_wp2_with fail
                have hra := refApply A0 c0 img A1 c1 l wf (Kd.C_below HCI.out HBX.out) HC0.out hi (Kd.C_below HCL.out HBX.out) (by have := HLEN.out; omega) HFIT.out
                rw [HXE.out] at hra
                refine hra.mono ?_
                clear hra
                rintro e wg ⟨v205, rfl, hr205, hbg⟩
                obtain ⟨A205, c205, rfl, hc205, hC205⟩ := Kd.R_reads hr205
                have HC205 := Aside0.mk hC205
                have HCAP205 := Aside0.mk hc205
                have HBG := Aside0.mk (below_then HBX.out HBX.out.size hbg)
                clear hr205 hbg hC205 hc205
                go_wp2_with fail
                refine (woodcutkeep_Bytes.calls (img.length + 1) A17 c17 X A205 c205 X true wg (Kd.C_below HC17.out HBG.out) HCAP17.out HC205.out HCAP205.out (by rw [bytes_k _ _ (by rw [HLX.out]; omega) _ (by rw [HLX.out]; omega)]; simp)).mono ?_
                rintro e wh ⟨rfl, hdh⟩
                have HBH := Aside0.mk (below_then HBG.out HBG.out.size hdh.below)
                clear hdh HBG HC205 HCAP205
                by_cases ct : a3 < 0 ∨ (l.length : Int) < a3
                · have q6 := HY.out
                  rw [crashOf_out HS.out ct] at q6
                  simp only [Prod.mk.injEq] at q6
                  obtain ⟨rfl, rfl⟩ := q6
                  by_cases ct1 : a3 < 0
                  · have d1 : decide (a3 < 0) = true := decide_eq_true ct1
                    clear ct
                    go_wp2_with fail
                    refine (wakes_calls wh).mono ?_
                    rintro e wz ⟨rfl, hbz⟩
                    have HZ := Aside0.mk (below_then HB8.out HB8.out.size (below_then HBH.out HBH.out.size hbz))
                    clear hbz
                    go_wp2
                    go_ret
                    exact ⟨rfl, HZ.out⟩
                  · have d1 : decide (a3 < 0) = false := decide_eq_false ct1
                    have d2 : decide ((l.length : Int) < a3) = true := decide_eq_true (by omega)
                    have d3 : decide (a3 > (l.length : Int)) = true := decide_eq_true (by omega)
                    clear ct
                    go_wp2_with fail
                    refine (wakes_calls wh).mono ?_
                    rintro e wz ⟨rfl, hbz⟩
                    have HZ := Aside0.mk (below_then HB8.out HB8.out.size (below_then HBH.out HBH.out.size hbz))
                    clear hbz
                    go_wp2
                    go_ret
                    exact ⟨rfl, HZ.out⟩
                · obtain ⟨t, rfl⟩ := Int.eq_ofNat_of_zero_le (show 0 ≤ a3 by omega)
                  have ht : t ≤ l.length := by omega
                  have q6 := HY.out
                  rw [crashOf_ok HS.out ht] at q6
                  simp only [Prod.mk.injEq] at q6
                  obtain ⟨q6, rfl⟩ := q6
                  have HLY := Aside0.mk (show Y.length = img.length by rw [← q6]; exact (blk_law HS.out keep 0 t ht t (Nat.le_refl _)).1)
                  have HYE := Aside0.mk q6
                  have d1 : decide ((t : Int) < 0) = false := decide_eq_false (by omega)
                  have d2 : decide ((l.length : Int) < t) = false := decide_eq_false (by omega)
                  have d3 : decide ((t : Int) > (l.length : Int)) = false := decide_eq_false (by omega)
                  have d4 : decide (l.length < t) = false := decide_eq_false (by omega)
                  clear ct q6
                  go_wp2_with fail
                  have hrc := refCrash A0 c0 img A1 c1 l t A4 c4 keep wh (Kd.C_below HCI.out HBH.out) HC0.out hi (Kd.C_below HCL.out HBH.out) (Kd.C_below HCK.out HBH.out) (by have := HLEN.out; omega) HFIT.out ht _ rfl
                  rw [HYE.out] at hrc
                  refine hrc.mono ?_
                  clear hrc
                  rintro e wi ⟨v235, rfl, hr235, hbi⟩
                  obtain ⟨A235, c235, rfl, hc235, hC235⟩ := Kd.R_reads hr235
                  have HC235 := Aside0.mk hC235
                  have HCAP235 := Aside0.mk hc235
                  have HBI := Aside0.mk (below_then HBH.out HBH.out.size hbi)
                  clear hr235 hbi hC235 hc235
                  go_wp2_with fail
                  refine (woodcutkeep_Bytes.calls (img.length + 1) A19 c19 Y A235 c235 Y true wi (Kd.C_below HC19.out HBI.out) HCAP19.out HC235.out HCAP235.out (by rw [bytes_k _ _ (by rw [HLY.out]; omega) _ (by rw [HLY.out]; omega)]; simp)).mono ?_
                  rintro e wj ⟨rfl, hdj⟩
                  have HBJ := Aside0.mk (below_then HBI.out HBI.out.size hdj.below)
                  clear hdj HBI HC235 HCAP235
                  go_wp2_with fail
                  refine (wakes_calls wj).mono ?_
                  rintro e wz ⟨rfl, hbz⟩
                  have HZ := Aside0.mk (below_then HB8.out HB8.out.size (below_then HBJ.out HBJ.out.size hbz))
                  clear hbz
                  go_wp2
                  go_ret
                  exact ⟨rfl, HZ.out⟩
              · have q5 := HX.out
                have q6 := HY.out
                rw [if_neg hs0] at q5
                rw [crashOf_bad (by rw [HS.out]; exact hs0), HS.out] at q6
                simp only [Prod.mk.injEq] at q6
                obtain ⟨rfl, rfl⟩ := q6
                subst q5
                have h0 : (s != 0) = true := by rw [bne_iff_ne]; exact hs0
                clear hs0
                go_wp2_with fail
                refine (wakes_calls wf).mono ?_
                rintro e wz ⟨rfl, hbz⟩
                have HZ := Aside0.mk (below_then HB8.out HB8.out.size (below_then HBX.out HBX.out.size hbz))
                clear hbz
                go_wp2
                go_ret
                exact ⟨rfl, HZ.out⟩
          · have q4 := HRD.out
            rw [readOf_in HOK.out (by rw [HN.out]; exact ca)] at q4
            simp only [Prod.mk.injEq] at q4
            obtain ⟨rfl, rfl⟩ := q4
            obtain ⟨q, rfl⟩ := Int.eq_ofNat_of_zero_le (show 0 ≤ a2 by omega)
            rw [Int.toNat_natCast] at HC15 HCAP15 ⊢
            have hq : q < N := by omega
            have d7 : decide ((q : Int) < 0) = false := decide_eq_false (by omega)
            have d8 : decide ((N : Int) ≤ q) = false := decide_eq_false (by omega)
            have d9 : decide ((q : Int) ≥ (N : Int)) = false := decide_eq_false (by omega)
            have d10 : decide (N ≤ q) = false := decide_eq_false (by omega)
            have HBL := Aside0.mk (show (blockAt img q).length = 64 by have := HLEN.out; unfold blockAt; rw [List.length_take, List.length_drop]; omega)
            clear ca
            obtain ⟨A0', hA0⟩ : ∃ a, A0 = some a := by
              have := HLEN.out
              obtain ⟨a, e, _⟩ := C_cells HR0.out (by omega)
              exact ⟨a, e⟩
            subst hA0
            rw [HBL.out]
            go_wp2_with fail
            refine (refBlock A0' img.length c0 q wf (by have := HLEN.out; omega) HC0.out hm0).mono ?_
            rintro e wf2 ⟨rfl, rfl⟩
            have HB0' := Aside0.mk (Kd.C_below (block_C HCI.out q (by have := HLEN.out; omega)) HBX.out)
            go_wp2_with fail
            have hbt := woodcutkeep_Bytes.calls 65 A15 c15 (blockAt img q) (some (A0'.add (q * 64))) (c0 - q * 64) (blockAt img q) true wf (Kd.C_below HC15.out HBX.out) HCAP15.out (by rw [HBL.out]; exact HB0'.out) (by have := HC0.out; have := HLEN.out; rw [HBL.out]; omega) (by rw [bytes_k _ _ (by rw [HBL.out]; omega) _ (by rw [HBL.out]; omega)]; simp)
            rw [HBL.out] at hbt
            refine hbt.mono ?_
            clear hbt
            rintro e wk ⟨rfl, hdk⟩
            have HBK := Aside0.mk (below_then HBX.out HBX.out.size hdk.below)
            clear hdk HB0' HBX
            by_cases hs0 : s = 0
            · subst hs0
              have q5 := HX.out
              rw [if_pos rfl] at q5
              obtain ⟨-, -, hfit⟩ := fits_of HS.out
              have HFIT := Aside0.mk hfit
              have HLX := Aside0.mk (show X.length = img.length by have := fold_len hfit l.length (Nat.le_refl _); rw [List.take_length, q5] at this; exact this)
              have HXE := Aside0.mk q5
              clear q5 hfit hss hss2
              go_wp2_with fail
              have hra := refApply (some A0') c0 img A1 c1 l wk (Kd.C_below HCI.out HBK.out) HC0.out hi (Kd.C_below HCL.out HBK.out) (by have := HLEN.out; omega) HFIT.out
              rw [HXE.out] at hra
              refine hra.mono ?_
              clear hra
              rintro e wg ⟨v205, rfl, hr205, hbg⟩
              obtain ⟨A205, c205, rfl, hc205, hC205⟩ := Kd.R_reads hr205
              have HC205 := Aside0.mk hC205
              have HCAP205 := Aside0.mk hc205
              have HBG := Aside0.mk (below_then HBK.out HBK.out.size hbg)
              clear hr205 hbg hC205 hc205
              go_wp2_with fail
              refine (woodcutkeep_Bytes.calls (img.length + 1) A17 c17 X A205 c205 X true wg (Kd.C_below HC17.out HBG.out) HCAP17.out HC205.out HCAP205.out (by rw [bytes_k _ _ (by rw [HLX.out]; omega) _ (by rw [HLX.out]; omega)]; simp)).mono ?_
              rintro e wh ⟨rfl, hdh⟩
              have HBH := Aside0.mk (below_then HBG.out HBG.out.size hdh.below)
              clear hdh HBG HC205 HCAP205
              by_cases ct : a3 < 0 ∨ (l.length : Int) < a3
              · have q6 := HY.out
                rw [crashOf_out HS.out ct] at q6
                simp only [Prod.mk.injEq] at q6
                obtain ⟨rfl, rfl⟩ := q6
                by_cases ct1 : a3 < 0
                · have d1 : decide (a3 < 0) = true := decide_eq_true ct1
                  clear ct
                  go_wp2_with fail
                  refine (wakes_calls wh).mono ?_
                  rintro e wz ⟨rfl, hbz⟩
                  have HZ := Aside0.mk (below_then HB8.out HB8.out.size (below_then HBH.out HBH.out.size hbz))
                  clear hbz
                  go_wp2
                  go_ret
                  exact ⟨rfl, HZ.out⟩
                · have d1 : decide (a3 < 0) = false := decide_eq_false ct1
                  have d2 : decide ((l.length : Int) < a3) = true := decide_eq_true (by omega)
                  have d3 : decide (a3 > (l.length : Int)) = true := decide_eq_true (by omega)
                  clear ct
                  go_wp2_with fail
                  refine (wakes_calls wh).mono ?_
                  rintro e wz ⟨rfl, hbz⟩
                  have HZ := Aside0.mk (below_then HB8.out HB8.out.size (below_then HBH.out HBH.out.size hbz))
                  clear hbz
                  go_wp2
                  go_ret
                  exact ⟨rfl, HZ.out⟩
              · obtain ⟨t, rfl⟩ := Int.eq_ofNat_of_zero_le (show 0 ≤ a3 by omega)
                have ht : t ≤ l.length := by omega
                have q6 := HY.out
                rw [crashOf_ok HS.out ht] at q6
                simp only [Prod.mk.injEq] at q6
                obtain ⟨q6, rfl⟩ := q6
                have HLY := Aside0.mk (show Y.length = img.length by rw [← q6]; exact (blk_law HS.out keep 0 t ht t (Nat.le_refl _)).1)
                have HYE := Aside0.mk q6
                have d1 : decide ((t : Int) < 0) = false := decide_eq_false (by omega)
                have d2 : decide ((l.length : Int) < t) = false := decide_eq_false (by omega)
                have d3 : decide ((t : Int) > (l.length : Int)) = false := decide_eq_false (by omega)
                have d4 : decide (l.length < t) = false := decide_eq_false (by omega)
                clear ct q6
                go_wp2_with fail
                have hrc := refCrash (some A0') c0 img A1 c1 l t A4 c4 keep wh (Kd.C_below HCI.out HBH.out) HC0.out hi (Kd.C_below HCL.out HBH.out) (Kd.C_below HCK.out HBH.out) (by have := HLEN.out; omega) HFIT.out ht _ rfl
                rw [HYE.out] at hrc
                refine hrc.mono ?_
                clear hrc
                rintro e wi ⟨v235, rfl, hr235, hbi⟩
                obtain ⟨A235, c235, rfl, hc235, hC235⟩ := Kd.R_reads hr235
                have HC235 := Aside0.mk hC235
                have HCAP235 := Aside0.mk hc235
                have HBI := Aside0.mk (below_then HBH.out HBH.out.size hbi)
                clear hr235 hbi hC235 hc235
                go_wp2_with fail
                refine (woodcutkeep_Bytes.calls (img.length + 1) A19 c19 Y A235 c235 Y true wi (Kd.C_below HC19.out HBI.out) HCAP19.out HC235.out HCAP235.out (by rw [bytes_k _ _ (by rw [HLY.out]; omega) _ (by rw [HLY.out]; omega)]; simp)).mono ?_
                rintro e wj ⟨rfl, hdj⟩
                have HBJ := Aside0.mk (below_then HBI.out HBI.out.size hdj.below)
                clear hdj HBI HC235 HCAP235
                go_wp2_with fail
                refine (wakes_calls wj).mono ?_
                rintro e wz ⟨rfl, hbz⟩
                have HZ := Aside0.mk (below_then HB8.out HB8.out.size (below_then HBJ.out HBJ.out.size hbz))
                clear hbz
                go_wp2
                go_ret
                exact ⟨rfl, HZ.out⟩
            · have q5 := HX.out
              have q6 := HY.out
              rw [if_neg hs0] at q5
              rw [crashOf_bad (by rw [HS.out]; exact hs0), HS.out] at q6
              simp only [Prod.mk.injEq] at q6
              obtain ⟨rfl, rfl⟩ := q6
              subst q5
              have h0 : (s != 0) = true := by rw [bne_iff_ne]; exact hs0
              clear hs0
              go_wp2_with fail
              refine (wakes_calls wk).mono ?_
              rintro e wz ⟨rfl, hbz⟩
              have HZ := Aside0.mk (below_then HB8.out HB8.out.size (below_then HBK.out HBK.out.size hbz))
              clear hbz
              go_wp2
              go_ret
              exact ⟨rfl, HZ.out⟩
end Go.Proofs.Ytijfghknjkegpaa.PDevExact
