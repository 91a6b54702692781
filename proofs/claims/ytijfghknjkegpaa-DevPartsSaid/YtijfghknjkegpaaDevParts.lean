/- DevParts, walked. -/
import Derived.Test.YtijfghknjkegpaaDevP
namespace Go.Proofs.Ytijfghknjkegpaa.PDevExact
open Go.RowKit Go.Proofs.YtijfghknjkegpaaW.PrintWords Go.Proofs.YtijfghknjkegpaaW.PrintLast Go.Proofs.YtijfghknjkegpaaW.PrintMore
set_option linter.unusedVariables false
set_option linter.unusedSimpArgs false
set_option maxHeartbeats 4000000 in
set_option maxRecDepth 100000 in
theorem devParts_walk (A0 : Option Addr) (c0 : Nat) (img : List Int) (A1 : Option Addr) (c1 : Nat) (l : List S58) (a2 : Int) (w : World) (hr0 : Kd.C (Kd.int .u8) w A0 img.length img) (hc0 : img.length ≤ c0) (hm0 : c0 ≤ 9223372036854775807) (hi : img.length ≤ 140737488355328) (hr1 : Kd.C k58 w A1 l.length l) (hc1 : l.length ≤ c1) (hm1 : c1 ≤ 9223372036854775807) (hz1 : l.length * 40 ≤ 140737488351232) :
    Calls Try.prog 8 #[.slice A0 img.length c0, .slice A1 l.length c1, .int .i64 a2] w fun e w' => e = .returned (.bool true) ∧ Below w.heap.size w w' := by
  have hm : l.length ≤ 9223372036854775807 := Kd.C_max hr1
  have HH := Aside0.mk (woodcutlaw05_Heavy.calls (l.length + 2) A0 c0 img A1 c1 l (heavy img l) w hr0 hc0 hr1 hc1)
  cases hh : heavy img l with
  | true =>
    rw [hh] at HH
    have HE := Aside0.mk hh
    clear hh hr0 hc0 hr1 hc1
    go_enter Try.func8, Try.ntmps8
    go_wp2_with fail
    refine (HH.out (by rw [heavy_f _ _ (by omega), HE.out])).mono ?_
    rintro e w1 ⟨rfl, hd1⟩
    have HB1 := Aside0.mk hd1.below
    clear hd1
    go_wp2
    go_ret
    exact ⟨rfl, HB1.out⟩
  | false =>
    rw [hh] at HH
    have HE := Aside0.mk hh
    clear hh
    have HR0 := Aside0.mk hr0
    have HR1 := Aside0.mk hr1
    have HC0 := Aside0.mk hc0
    have HC1 := Aside0.mk hc1
    clear hr0 hr1 hc0
    have HSF := Aside0.mk (rsteps_f img l hi (by omega))
    have HHF := Aside0.mk (show woodcutlaw05_Heavy.f (l.length + 2) img l = some false by rw [heavy_f _ _ (by omega), HE.out])
    by_cases hs : stepsOf img l = 0
    · obtain ⟨hv, hll, hf⟩ := fits_of hs
      obtain ⟨hv1, hv2, hv3⟩ := valid_len hv
      have HFIT := Aside0.mk hf
      have HS := Aside0.mk hs
      clear hs hv hf
      rw [HS.out] at HSF
      have hl1 : ∀ n, n ≤ l.length → (l.take n).length = n := fun n h => List.length_take_of_le h
      have hl2 : ∀ n, (l.drop n).length = l.length - n := fun n => List.length_drop
      have HL1 := Aside0.mk hl1
      have HL2 := Aside0.mk hl2
      clear hl1 hl2
      have he1 : IntKind.u64.wrap ((l.length : Int) + 1) = (l.length : Int) + 1 := by unfold IntKind.wrap; simp [IntKind.signed, IntKind.bits]; omega
      obtain ⟨q, hq⟩ := Int.eq_ofNat_of_zero_le (umod a2 (l.length + 1) (by omega) (by omega)).1
      have hq2 := (umod a2 (l.length + 1) (by omega) (by omega)).2
      rw [hq] at hq2
      have hq3 : q ≤ l.length := by omega
      rw [show ((l.length + 1 : Nat) : Int) = (l.length : Int) + 1 from rfl] at hq
      have he2 : IntKind.i64.wrap (q : Int) = q := by unfold IntKind.wrap; simp [IntKind.signed, IntKind.bits]; omega
      have he3 : wrap64 (q : Int) = q := w64 (by omega) (by omega)
      have hn0 : (l.length : Int) + 1 ≠ 0 := by omega
      have hqc : q ≤ c1 := by omega
      clear hq2
      go_enter Try.func8, Try.ntmps8
      go_wp2_with fail
      refine (HH.out HHF.out).mono ?_
      rintro e w1 ⟨rfl, hd1⟩
      have HB1 := Aside0.mk hd1.below
      clear hd1 HH
      go_wp2_with fail
      refine (woodcutref01_Steps.calls (l.length + 2) A0 c0 img A1 c1 l 0 w1 (Kd.C_below HR0.out HB1.out) HC0.out (Kd.C_below HR1.out HB1.out) HC1.out HSF.out).mono ?_
      rintro e w2 ⟨rfl, hd2⟩
      have HB2 := Aside0.mk (below_then HB1.out HB1.out.size hd2.below)
      clear hd2 HB1 HSF
      go_wp2_with fail
      have hap := devApply A0 c0 img A1 c1 (l.take q) w2 (Kd.C_below HR0.out HB2.out) HC0.out hi (Kd.C_below (Kd.C_take HR1.out hq3) HB2.out)
      rw [steps_take q HS.out, if_pos rfl, HL1.out q hq3] at hap
      refine hap.mono ?_
      clear hap
      rintro e w3 ⟨v7, rfl, hr7, hb3⟩
      have HB3 := Aside0.mk (below_then HB2.out HB2.out.size hb3)
      obtain ⟨A7, c7, rfl, hc7, hC7⟩ := Kd.R_reads hr7
      have hm7 := (R_cap hr7).2.2
      have hl7 : ((l.take q).foldl applyIo img).length = img.length := fold_len HFIT.out q hq3
      have hs2 : stepsOf ((l.take q).foldl applyIo img) (l.drop q) = 0 := steps_sub HS.out hl7 (fun x hx => List.mem_of_mem_drop hx) (by simp)
      have HPF := Aside0.mk (parts_fold img l q)
      have HX7 := Aside0.mk (show (l.take q).foldl applyIo img = (l.take q).foldl applyIo img from rfl)
      have HL7 := Aside0.mk hl7
      have HS2 := Aside0.mk hs2
      have HC7 := Aside0.mk hC7
      have HCAP7 := Aside0.mk hc7
      clear hr7 hb3 HB2 hl7 hs2 hC7 hc7
      rw [HL7.out]
      obtain ⟨AD, hAD⟩ : ∃ AD, (if c1 = q then A1 else A1.map (fun x => x.add (q * 3))) = AD := ⟨_, rfl⟩
      go_wp2_with fail
      have hap := devApply A7 c7 ((l.take q).foldl applyIo img) _ (c1 - q) (l.drop q) w3 HC7.out HCAP7.out (by rw [HL7.out]; exact hi) (Kd.C_below (Kd.C_drop HR1.out hq3 hc1) HB3.out)
      rw [HS2.out, if_pos rfl, HPF.out, HL2.out, HL7.out, show Kd.sz k58 = 3 from rfl] at hap
      rw [hAD] at hap
      refine hap.mono ?_
      clear hap
      rintro e w4 ⟨v9, rfl, hr9, hb4⟩
      have HB4 := Aside0.mk (below_then HB3.out HB3.out.size hb4)
      have HC7' := Aside0.mk (Kd.C_below HC7.out hb4)
      clear hAD
      obtain ⟨A9, c9, rfl, hc9, hC9⟩ := Kd.R_reads hr9
      have HC9 := Aside0.mk hC9
      have HCAP9 := Aside0.mk hc9
      clear hr9 hb4 HB3 HC7 hC9 hc9
      have HLN := Aside0.mk (show (l.foldl applyIo img).length = img.length by have := fold_len HFIT.out l.length (Nat.le_refl _); rw [List.take_length] at this; exact this)
      rw [HLN.out]
      go_wp2_with fail
      have hap := devApply A0 c0 img A1 c1 l w4 (Kd.C_below HR0.out HB4.out) HC0.out hi (Kd.C_below HR1.out HB4.out)
      rw [HS.out, if_pos rfl] at hap
      refine hap.mono ?_
      clear hap
      rintro e w5 ⟨v11, rfl, hr11, hb5⟩
      have HB5 := Aside0.mk (below_then HB4.out HB4.out.size hb5)
      have HC7 := Aside0.mk (Kd.C_below HC7'.out hb5)
      replace HC9 := Aside0.mk (Kd.C_below HC9.out hb5)
      obtain ⟨A11, c11, rfl, hc11, hC11⟩ := Kd.R_reads hr11
      have HC11 := Aside0.mk hC11
      have HCAP11 := Aside0.mk hc11
      clear hr11 hb5 HB4 HC7' hC11 hc11
      rw [HLN.out]
      go_wp2_with fail
      have hbt := woodcutkeep_Bytes.calls (img.length + 1) A9 c9 (l.foldl applyIo img) A11 c11 (l.foldl applyIo img) true w5 HC9.out HCAP9.out HC11.out HCAP11.out (by rw [bytes_k _ _ (by rw [HLN.out]; omega) _ (by rw [HLN.out]; omega)]; simp)
      rw [HLN.out] at hbt
      refine hbt.mono ?_
      clear hbt
      rintro e w6 ⟨rfl, hd6⟩
      have HB6 := Aside0.mk (below_then HB5.out HB5.out.size hd6.below)
      replace HC7 := Aside0.mk (Kd.C_below HC7.out hd6.below)
      clear hd6 HB5 HC9 HC11 HCAP9 HCAP11
      go_upto_region 10 with (refine Kd.R_make Kd.bool (w0 := w6) w6.heap.size 4 rfl rfl 46 _ _ rfl (l.length : Int) rfl rfl Try.underlying46 (.bool false) 1 info4 rfl (by decide) (by decide) false (ok := fun _ => True) (okp := fun _ => True) rfl (fun _ _ => trivial) trivial (by omega) (by omega) (Below.refl _ _) (Nat.le_refl _) ?_; intro v13 w7 ho7 hb7 hg7 hat7)
      rw [Int.toNat_natCast, ← allTo_none] at ho7
      obtain ⟨A13, c13, rfl⟩ := Kd.R_slice ho7
      have HO7 := Aside0.mk ho7
      have HB7 := Aside0.mk hb7
      have HALN := Aside0.mk (fun k h => allTo_len (n := l.length) (k := k) h)
      clear ho7 hb7 hg7 hat7
      rw [HALN.out 0 (Nat.zero_le _)] at HO7 ⊢
      go_wp2_with fail
      go_loopw [14] (fun i w' => ∃ k : Nat, k ≤ l.length ∧ i = .int .i64 k ∧ Aside0 (Kd.R Kd.bool 4 w' w6.heap.size (fun _ => True) (.slice A13 l.length c13) (allTo l.length k)) ∧ Aside0 (Below w6.heap.size w6 w')) (fun i _ => l.length - (intOf i).toNat)
      case atStart => exact ⟨0, Nat.zero_le _, rfl, HO7, HB7⟩
      case round =>
        obtain ⟨k, hk, rfl, HO, HB⟩ := hrel
        by_cases hlt : k < l.length
        · obtain ⟨g, cap, hv, hgb, hgl, cells, hcells⟩ := Kd.R_form HO.out (by rw [HALN.out k hk]; omega)
          injection hv with hv1 hv0 hv2
          clear hv0
          subst hv1
          obtain ⟨hce, hfr⟩ := Kd.R_celln false HO.out (k : Int) (by omega) (by omega)
          have HP := Aside0.mk (Kd.R_putn HO.out (k : Int) true)
          have HBS := Aside0.mk (Below.setCell (p := ⟨g, k, none⟩) HB.out hgb (.bool true))
          rw [Int.toNat_natCast] at hce hfr HP
          rw [allTo_set hlt] at HP
          clear hcells hv2
          go_wp2
          go_roundw
          case rel => exact ⟨k + 1, by omega, by go_num, HP, HBS⟩
          case measure => simp [intOf]; omega
        · obtain rfl : k = l.length := by omega
          rw [allTo_all] at HO
          have HK := Aside0.mk (show Kd.C Kd.bool wr A13 (List.replicate l.length true).length (List.replicate l.length true) by
            obtain ⟨A, c, he, _, hC⟩ := Kd.R_reads HO.out
            injection he with he1 he2 he3
            rw [he1]; exact hC)
          have HKL := Aside0.mk (show (List.replicate l.length true).length = l.length from List.length_replicate)
          have HB8 := Aside0.mk (below_then HB6.out HB6.out.size HB.out)
          have HC8 := Aside0.mk (Kd.C_below HC7.out HB.out)
          clear HO HO7 HB7 HB HB6 HC7
          go_wp2_with fail
          have hcr := devCrash A0 c0 img A1 c1 l (q : Int) A13 c13 (List.replicate l.length true) wr (Kd.C_below HR0.out HB8.out) HC0.out hi (Kd.C_below HR1.out HB8.out) hc1 hm1 HK.out
          rw [HKL.out, crashOf_all HS.out hq3] at hcr
          refine hcr.mono ?_
          clear hcr
          rintro e w9 ⟨v15, rfl, hr15, hb9⟩
          have HB9 := Aside0.mk (below_then HB8.out HB8.out.size hb9)
          have HC9 := Aside0.mk (Kd.C_below HC8.out hb9)
          obtain ⟨A15, c15, rfl, hc15, hC15⟩ := Kd.R_reads hr15
          have HC15 := Aside0.mk hC15
          have HCAP15 := Aside0.mk hc15
          clear hr15 hb9 HB8 hC15 hc15 HK HC8
          rw [HL7.out]
          go_wp2_with fail
          have hcr := devCrash A0 c0 img A1 c1 l (q : Int) none 0 [] w9 (Kd.C_below HR0.out HB9.out) HC0.out hi (Kd.C_below HR1.out HB9.out) hc1 hm1 (Kd.C_nil _ _)
          rw [crashOf_none HS.out hq3] at hcr
          refine hcr.mono ?_
          clear hcr
          have hnl := last_lt l q
          have HN := Aside0.mk (show (lastTo l 0).toNat = 0 from rfl)
          rintro e w10 ⟨v17, rfl, hr17, hb10⟩
          have HB10 := Aside0.mk (below_then HB9.out HB9.out.size hb10)
          replace HC9 := Aside0.mk (Kd.C_below HC9.out hb10)
          replace HC15 := Aside0.mk (Kd.C_below HC15.out hb10)
          obtain ⟨A17, c17, rfl, hc17, hC17⟩ := Kd.R_reads hr17
          have HC17 := Aside0.mk hC17
          have HCAP17 := Aside0.mk hc17
          have HL17 := Aside0.mk (fold_len HFIT.out (lastTo l q).toNat (by omega))
          clear hr17 hb10 HB9 hC17 hc17
          rw [HL17.out]
          go_wp2_with fail
          go_loop [19, 20] (fun v i => ∃ k : Nat, k ≤ q ∧ i = .int .i64 k ∧ v = .int .i64 (lastTo l k).toNat) (fun _ i => q - (intOf i).toNat)
          case atStart => exact ⟨0, Nat.zero_le _, rfl, rfl⟩
          case round =>
            clear hk
            obtain ⟨k, hk, rfl, rfl⟩ := hrel
            by_cases hlt : k < q
            · obtain ⟨ad, A2, c2, e0, x0, x1, x2, hl2, hC2⟩ := at_T58 HR1.out (k : Int) (by omega) (by omega)
              cases e0
              simp only [Int.toNat_natCast] at x0
              replace x0 := (HB10.out.cell (World.block_lt_of_cell? w _ x0)).trans x0
              have HT := Aside0.mk (show lastTo l (k + 1) = if (rd_T58 l (k : Int)).f0 = 2 then (k : Int) else lastTo l k from rfl)
              clear x1 x2 hl2 hC2
              generalize rd_T58 l (k : Int) = x at *
              by_cases c : x.f0 = 2
              · have h1 : (x.f0 == 2) = true := beq_iff_eq.2 c
                have HCC := Aside0.mk c
                clear c
                go_wp2
                go_round
                case rel => exact ⟨k + 1, by omega, by go_num, by rw [HT.out, if_pos HCC.out]; rfl⟩
                case measure => simp [intOf]; omega
              · have h1 : (x.f0 == 2) = false := beq_eq_false_iff_ne.2 c
                have HCC := Aside0.mk c
                clear c
                go_wp2
                go_round
                case rel => exact ⟨k + 1, by omega, by go_num, by rw [HT.out, if_neg HCC.out]⟩
                case measure => simp [intOf]; omega
            · obtain rfl : q = k := by omega
              have HSL := Aside0.mk (steps_take (lastTo l q).toNat HS.out)
              have hnl2 : (lastTo l q).toNat ≤ l.length := by omega
              generalize (lastTo l q).toNat = n at *
              have hnc : n ≤ c1 := by omega
              go_wp2_with fail
              have hap := devApply A0 c0 img A1 c1 (l.take n) w10 (Kd.C_below HR0.out HB10.out) HC0.out hi (Kd.C_below (Kd.C_take HR1.out hnl2) HB10.out)
              rw [HSL.out, if_pos rfl, HL1.out n hnl2] at hap
              refine hap.mono ?_
              clear hap
              rintro e w11 ⟨v21, rfl, hr21, hb11⟩
              have HB11 := Aside0.mk (below_then HB10.out HB10.out.size hb11)
              replace HC9 := Aside0.mk (Kd.C_below HC9.out hb11)
              replace HC15 := Aside0.mk (Kd.C_below HC15.out hb11)
              replace HC17 := Aside0.mk (Kd.C_below HC17.out hb11)
              obtain ⟨A21, c21, rfl, hc21, hC21⟩ := Kd.R_reads hr21
              have HC21 := Aside0.mk hC21
              have HCAP21 := Aside0.mk hc21
              clear hr21 hb11 HB10 hC21 hc21
              rw [HL17.out]
              go_wp2_with fail
              have hbt := woodcutkeep_Bytes.calls (img.length + 1) A15 c15 ((l.take q).foldl applyIo img) A7 c7 ((l.take q).foldl applyIo img) true w11 HC15.out HCAP15.out HC9.out HCAP7.out (by rw [bytes_k _ _ (by rw [HL7.out]; omega) _ (by rw [HL7.out]; omega)]; simp)
              rw [HL7.out] at hbt
              refine hbt.mono ?_
              clear hbt
              rintro e w12 ⟨rfl, hd12⟩
              have HB12 := Aside0.mk (below_then HB11.out HB11.out.size hd12.below)
              replace HC17 := Aside0.mk (Kd.C_below HC17.out hd12.below)
              replace HC21 := Aside0.mk (Kd.C_below HC21.out hd12.below)
              clear hd12 HB11 HC9 HC15
              go_wp2_with fail
              have hbt := woodcutkeep_Bytes.calls (img.length + 1) A17 c17 ((l.take n).foldl applyIo img) A21 c21 ((l.take n).foldl applyIo img) true w12 HC17.out HCAP17.out HC21.out HCAP21.out (by rw [bytes_k _ _ (by rw [HL17.out]; omega) _ (by rw [HL17.out]; omega)]; simp)
              rw [HL17.out] at hbt
              refine hbt.mono ?_
              clear hbt
              rintro e w13 ⟨rfl, hd13⟩
              have HB13 := Aside0.mk (below_then HB12.out HB12.out.size hd13.below)
              clear hd13 HB12 HC17 HC21
              go_wp2_with fail
              refine (wakes_calls w13).mono ?_
              rintro e w14 ⟨rfl, hb14⟩
              have HB14 := Aside0.mk (below_then HB13.out HB13.out.size hb14)
              clear hb14
              go_wp2
              go_ret
              exact ⟨rfl, HB14.out⟩
    · have h1 : (stepsOf img l != 0) = true := by rw [bne_iff_ne]; exact hs
      generalize stepsOf img l = s at *
      clear hs
      go_enter Try.func8, Try.ntmps8
      go_wp2_with fail
      refine (HH.out HHF.out).mono ?_
      rintro e w1 ⟨rfl, hd1⟩
      have HB1 := Aside0.mk hd1.below
      clear hd1 HH
      go_wp2_with fail
      refine (woodcutref01_Steps.calls (l.length + 2) A0 c0 img A1 c1 l s w1 (Kd.C_below HR0.out HB1.out) HC0.out (Kd.C_below HR1.out HB1.out) HC1.out HSF.out).mono ?_
      rintro e w2 ⟨rfl, hd2⟩
      have HB2 := Aside0.mk (below_then HB1.out HB1.out.size hd2.below)
      clear hd2 HB1
      go_wp2
      go_ret
      exact ⟨rfl, HB2.out⟩
end Go.Proofs.Ytijfghknjkegpaa.PDevExact
