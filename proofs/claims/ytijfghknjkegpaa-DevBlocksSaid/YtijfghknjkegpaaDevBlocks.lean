/- DevBlocks, walked. -/
import Derived.Test.YtijfghknjkegpaaDevQ
namespace Go.Proofs.Ytijfghknjkegpaa.PDevExact
open Go.RowKit Go.Proofs.YtijfghknjkegpaaW.PrintWords Go.Proofs.YtijfghknjkegpaaW.PrintLast Go.Proofs.YtijfghknjkegpaaW.PrintMore
set_option linter.unusedVariables false
set_option linter.unusedSimpArgs false
set_option maxHeartbeats 4000000 in
set_option maxRecDepth 100000 in
theorem devBlocks_walk (A0 : Option Addr) (c0 : Nat) (img : List Int) (A1 : Option Addr) (c1 : Nat) (l : List S58) (a2 : Int) (A3 : Option Addr) (c3 : Nat) (keep : List Bool) (a4 : Int) (w : World) (hr0 : Kd.C (Kd.int .u8) w A0 img.length img) (hc0 : img.length ≤ c0) (hm0 : c0 ≤ 9223372036854775807) (hi : img.length ≤ 140737488355328) (hr1 : Kd.C k58 w A1 l.length l) (hc1 : l.length ≤ c1) (hm1 : c1 ≤ 9223372036854775807) (hz1 : l.length * 40 ≤ 140737488351232) (hr3 : Kd.C Kd.bool w A3 keep.length keep) :
    Calls Try.prog 9 #[.slice A0 img.length c0, .slice A1 l.length c1, .int .i64 a2, .slice A3 keep.length c3, .int .i64 a4] w fun e w' => e = .returned (.bool true) ∧ Below w.heap.size w w' := by
  have hm : l.length ≤ 9223372036854775807 := Kd.C_max hr1
  have hmk : keep.length ≤ 9223372036854775807 := Kd.C_max hr3
  have HH := Aside0.mk (woodcutlaw05_Heavy.calls (l.length + 2) A0 c0 img A1 c1 l (heavy img l) w hr0 hc0 hr1 hc1)
  have HR3 := Aside0.mk hr3
  clear hr3
  cases hh : heavy img l with
  | true =>
    rw [hh] at HH
    have HE := Aside0.mk hh
    clear hh hr0 hc0 hr1 hc1
    go_enter Try.func9, Try.ntmps9
    go_wp2_with fail
    refine (HH.out (by rw [heavy_f _ _ (by omega), HE.out])).mono ?_
    rintro e w1 ⟨rfl, hd1⟩
    have HB1 := Aside0.mk hd1.below
    clear hd1
    go_wp2
    go_ret
    exact ⟨rfl, HB1.out⟩
  | false =>
    rw [hh] at HH
    have HE := Aside0.mk hh
    clear hh
    have HR0 := Aside0.mk hr0
    have HR1 := Aside0.mk hr1
    have HC0 := Aside0.mk hc0
    have HC1 := Aside0.mk hc1
    clear hr0 hr1 hc0
    have HSF := Aside0.mk (rsteps_f img l hi (by omega))
    have HBF := Aside0.mk (blocks_f img hi)
    have HHF := Aside0.mk (show woodcutlaw05_Heavy.f (l.length + 2) img l = some false by rw [heavy_f _ _ (by omega), HE.out])
    by_cases hk500 : 500 < keep.length
    · have hx1 : decide ((keep.length : Int) > 500) = true := decide_eq_true (by omega)
      have hx2 : decide (500 < keep.length) = true := decide_eq_true (by omega)
      have hx3 : decide ((500 : Int) < keep.length) = true := decide_eq_true (by omega)
      go_enter Try.func9, Try.ntmps9
      go_wp2_with fail
      refine (HH.out HHF.out).mono ?_
      rintro e w1 ⟨rfl, hd1⟩
      have HB1 := Aside0.mk hd1.below
      clear hd1 HH
      go_wp2
      go_ret
      exact ⟨rfl, HB1.out⟩
    have hx1 : decide ((keep.length : Int) > 500) = false := decide_eq_false (by omega)
    have hx2 : decide (500 < keep.length) = false := decide_eq_false (by omega)
    have hx3 : decide ((500 : Int) < keep.length) = false := decide_eq_false (by omega)
    by_cases hs : stepsOf img l = 0
    · obtain ⟨hv, hll, hf⟩ := fits_of hs
      obtain ⟨hv1, hv2, hv3⟩ := valid_len hv
      have HFIT := Aside0.mk hf
      have HS := Aside0.mk hs
      have HV := Aside0.mk hv
      clear hs hv hf
      rw [HS.out] at HSF
      rw [HV.out] at HBF
      obtain ⟨N, hN⟩ : ∃ N, N = img.length / 64 := ⟨_, rfl⟩
      have hlen : img.length = N * 64 := by omega
      rw [← hN] at HBF hv2 hv3
      have HLEN := Aside0.mk hlen
      clear hN hlen hv1
      obtain ⟨q, hq⟩ := Int.eq_ofNat_of_zero_le (umod a4 N (by omega) (by omega)).1
      have hq2 := (umod a4 N (by omega) (by omega)).2
      rw [hq] at hq2
      have hq3 : q < N := by omega
      have he1 : IntKind.u64.wrap (N : Int) = N := by unfold IntKind.wrap; simp [IntKind.signed, IntKind.bits]; omega
      have he2 : IntKind.i64.wrap (q : Int) = q := by unfold IntKind.wrap; simp [IntKind.signed, IntKind.bits]; omega
      have he3 : wrap64 (q : Int) = q := w64 (by omega) (by omega)
      have hn0 : (N : Int) ≠ 0 := by omega
      have he1' : IntKind.u64.wrap ((l.length : Int) + 1) = (l.length : Int) + 1 := by unfold IntKind.wrap; simp [IntKind.signed, IntKind.bits]; omega
      obtain ⟨t, ht⟩ := Int.eq_ofNat_of_zero_le (umod a2 (l.length + 1) (by omega) (by omega)).1
      have ht2 := (umod a2 (l.length + 1) (by omega) (by omega)).2
      rw [ht] at ht2
      have ht3 : t ≤ l.length := by omega
      rw [show ((l.length + 1 : Nat) : Int) = (l.length : Int) + 1 from rfl] at ht
      have he2' : IntKind.i64.wrap (t : Int) = t := by unfold IntKind.wrap; simp [IntKind.signed, IntKind.bits]; omega
      have he3' : wrap64 (t : Int) = t := w64 (by omega) (by omega)
      have hn0' : (l.length : Int) + 1 ≠ 0 := by omega
      clear ht2 hq2
      go_enter Try.func9, Try.ntmps9
      go_wp2_with fail
      refine (HH.out HHF.out).mono ?_
      rintro e w1 ⟨rfl, hd1⟩
      have HB1 := Aside0.mk hd1.below
      clear hd1 HH
      go_wp2_with fail
      refine (woodcutref01_Steps.calls (l.length + 2) A0 c0 img A1 c1 l 0 w1 (Kd.C_below HR0.out HB1.out) HC0.out (Kd.C_below HR1.out HB1.out) HC1.out HSF.out).mono ?_
      rintro e w2 ⟨rfl, hd2⟩
      have HB2 := Aside0.mk (below_then HB1.out HB1.out.size hd2.below)
      clear hd2 HB1 HSF hx1 hx2 hx3
      go_wp2_with fail
      refine (woodcutref01_Blocks.calls A0 c0 img N true w2 (Kd.C_below HR0.out HB2.out) HC0.out HBF.out).mono ?_
      rintro e w3 ⟨rfl, hd3⟩
      have HB3 := Aside0.mk (below_then HB2.out HB2.out.size hd3.below)
      clear hd3 HB2 HBF
      go_wp2_with fail
      go_region
      clear hq ht he1 he2 he3 he1' he2' he3' hn0 hn0'
      have HK3 := Aside0.mk (Kd.C_below HR3.out HB3.out)
      have hcr := devCrash A0 c0 img A1 c1 l (t : Int) A3 c3 keep (World.drew w3) (Kd.C_drew (Kd.C_below HR0.out HB3.out)) HC0.out hi (Kd.C_drew (Kd.C_below HR1.out HB3.out)) hc1 hm1 (Kd.C_drew HK3.out)
      rw [crashOf_ok HS.out ht3] at hcr
      go_wp2_with fail
      refine hcr.mono ?_
      clear hcr
      rintro e w4 ⟨v13, rfl, hr13, hb4⟩
      have HB4 := Aside0.mk (below_then (below_drew HB3.out) (below_drew HB3.out).size hb4)
      have HBE := Aside0.mk (blk_end HS.out keep q t ht3)
      have hlx := (blk_law HS.out keep q t ht3 t (Nat.le_refl _)).1
      have HBL := Aside0.mk (fun k hk => blk_len HS.out q (by have := HLEN.out; omega) k hk)
      have hvx : validDev (crashTo img l keep (lastTo l t) t).1 = true := by rw [← HV.out]; unfold validDev; rw [hlx]
      obtain ⟨A13, c13, rfl, hc13, hC13⟩ := Kd.R_reads hr13
      have hm13 := (R_cap hr13).2.2
      generalize (crashTo img l keep (lastTo l t) t).1 = X at *
      have HRD := Aside0.mk (show readOf X (q : Int) = (blockAt X q, 0) by have := HLEN.out; unfold readOf; rw [if_neg (by rw [hvx]; decide), if_neg (by rw [hlx]; omega), Int.toNat_natCast])
      have HC13 := Aside0.mk hC13
      have HCAP13 := Aside0.mk hc13
      have HLX := Aside0.mk hlx
      clear hr13 hb4 hvx hC13 hc13 HK3 HB3 hlx
      rw [HLX.out]
      go_wp2_with fail
      have hdr := devRead A13 c13 X (q : Int) w4 HC13.out HCAP13.out hm13 (by rw [HLX.out]; exact hi)
      rw [HRD.out, HLX.out] at hdr
      refine hdr.mono ?_
      clear hdr
      rintro e w5 ⟨v15, rfl, hr15, hb5⟩
      have HB5 := Aside0.mk (below_then HB4.out HB4.out.size hb5)
      have HBL15 := Aside0.mk (show (blockAt X q).length = 64 by have := HLEN.out; have := HLX.out; unfold blockAt; rw [List.length_take, List.length_drop]; omega)
      obtain ⟨A15, c15, rfl, hc15, hC15⟩ := Kd.R_reads hr15
      have HC15 := Aside0.mk hC15
      have HCAP15 := Aside0.mk hc15
      clear hr15 hb5 hC15 hc15 HB4 HC13 HCAP13
      generalize blockAt X q = b at *
      rw [HBL15.out]
      obtain ⟨A0', hA0⟩ : ∃ a, A0 = some a := by
        have := HLEN.out
        obtain ⟨a, e, _⟩ := C_cells HR0.out (by omega)
        exact ⟨a, e⟩
      subst hA0
      go_wp2_with fail
      refine (refBlock A0' img.length c0 q w5 (by have := HLEN.out; omega) HC0.out hm0).mono ?_
      rintro e w6 ⟨rfl, rfl⟩
      have HB0' := Aside0.mk (Kd.C_below (block_C HR0.out q (by have := HLEN.out; omega)) HB5.out)
      go_wp2_with fail
      go_loopw [17, 18, 19] (fun v17 v18 i w' => ∃ k : Nat, k ≤ t ∧ i = .int .i64 k ∧ ∃ A c ms A18 c18, v17 = .slice A 64 c ∧ 64 ≤ c ∧ v18 = .slice A18 ms.length c18 ∧ Aside0 (Kd.C (Kd.int .u8) w5 A 64 (blkTo img l q k).1) ∧ Aside0 (SlOk w5 ms (blkTo img l q k).2) ∧ Aside0 (Kd.R SL 44 w' w5.heap.size (fun _ => True) (.slice A18 ms.length c18) ms) ∧ Aside0 (Below w5.heap.size w5 w')) (fun _ _ i _ => t - (intOf i).toNat)
      case atStart => exact ⟨0, Nat.zero_le _, rfl, _, _, [], _, _, rfl, by have := HC0.out; have := HLEN.out; omega, rfl, HB0', ⟨SlOk.nil _⟩, ⟨Kd.R_nil _ _ _ _ _⟩, ⟨Below.refl _ _⟩⟩
      case round =>
        obtain ⟨k, hk, rfl, A, c, ms, A18, c18, rfl, hc, rfl, HCS, HSL, HO, HB⟩ := hrel
        by_cases hlt : k < t
        · have hkl : k < l.length := by omega
          obtain ⟨ad, A2, c2, e0, x0, x1, x2, hl2, hC2⟩ := at_T58 HR1.out (k : Int) (by omega) (by omega)
          cases e0
          simp only [Int.toNat_natCast] at x0 x1 x2
          replace x0 := (HB.out.cell (World.block_lt_of_cell? w5 _ ((HB5.out.cell (World.block_lt_of_cell? w _ x0)).trans x0))).trans ((HB5.out.cell (World.block_lt_of_cell? w _ x0)).trans x0)
          replace x1 := (HB.out.cell (World.block_lt_of_cell? w5 _ ((HB5.out.cell (World.block_lt_of_cell? w _ x1)).trans x1))).trans ((HB5.out.cell (World.block_lt_of_cell? w _ x1)).trans x1)
          replace x2 := (HB.out.cell (World.block_lt_of_cell? w5 _ ((HB5.out.cell (World.block_lt_of_cell? w _ x2)).trans x2))).trans ((HB5.out.cell (World.block_lt_of_cell? w _ x2)).trans x2)
          have HT := Aside0.mk (show blkTo img l q (k + 1) = blkStep q (blkTo img l q k) (rd_T58 l (k : Int)) from rfl)
          have HF := Aside0.mk (show Fits img.length (rd_T58 l (k : Int)) by rw [rdT_eq hkl]; exact HFIT.out l[k] (List.getElem_mem hkl))
          have HKD := Aside0.mk (show (rd_T58 l (k : Int)).f0 = 1 ∨ (rd_T58 l (k : Int)).f0 = 2 by rw [rdT_eq hkl]; exact kind_of HS.out l[k] (List.getElem_mem hkl))
          have HC2 := Aside0.mk (Kd.C_below hC2 HB5.out)
          have hml : ms.length ≤ k := by rw [HSL.out.1]; exact (HBL.out k (by omega)).2.2
          clear hC2 hkl
          generalize rd_T58 l (k : Int) = x at *
          obtain ⟨st, hst⟩ : ∃ st, st = blkTo img l q k := ⟨_, rfl⟩
          rw [← hst] at HT HCS HSL
          have HSTL := Aside0.mk (show st.2.length = ms.length from HSL.out.1.symm)
          clear hst
          by_cases cc : x.f0 = 2
          · have h1 : (x.f0 == 2) = true := beq_iff_eq.2 cc
            have HCC := Aside0.mk cc
            clear cc
            by_cases cm : 0 < ms.length
            · obtain ⟨m', hm'⟩ : ∃ m', ms.length = m' + 1 := ⟨ms.length - 1, by omega⟩
              obtain ⟨g, cap, hv, hgb, hgl, cells, hcells⟩ := Kd.R_form HO.out cm
              injection hv with hv1 hv0 hv2
              subst hv1
              clear hv0 hv2 hcells
              obtain ⟨hce, -⟩ := Kd.R_celln (none, 0) HO.out (m' : Int) (by omega) (by omega)
              have HEL := Aside0.mk (HSL.out.2 m' (by omega) (by rw [HSTL.out]; omega))
              have hrd : rdOf (none, 0) ms (m' : Int) = ms[m']'(by omega) := by unfold rdOf; rw [Int.toNat_natCast, List.getD_eq_getElem?_getD, List.getElem?_eq_getElem (by omega)]; rfl
              rw [hrd, Int.toNat_natCast] at hce
              rw [show blkStep q st x = (st.2[m']'(by rw [HSTL.out]; omega), []) by
                unfold blkStep; rw [if_pos HCC.out, if_pos (by rw [HSTL.out]; exact cm), List.getD_eq_getElem?_getD, List.getElem?_eq_getElem (by rw [HSTL.out]; omega)]
                simp only [HSTL.out, hm', Nat.add_sub_cancel]; rfl] at HT
              generalize hel : ms[m']'(by omega) = el at *
              obtain ⟨Ae, ce⟩ := el
              have hcen := HEL.out.2
              have HELC := Aside0.mk HEL.out.1
              replace hce : wr.cell? ⟨g, m', none⟩ = some (.slice Ae 64 ce) := hce
              clear hrd hel
              have hml2 : m' + 1 ≤ k := by omega
              rw [hm']
              clear cm hml HO
              go_wp2_with fail
              go_roundw
              case rel => exact ⟨k + 1, by omega, by go_num, _, _, [], _, _, rfl, hcen, rfl, by rw [HT.out]; exact HELC, ⟨by rw [HT.out]; exact SlOk.nil _⟩, ⟨Kd.R_nil _ _ _ _ _⟩, HB⟩
              case measure => simp [intOf]; omega
            · have hms : ms = [] := List.eq_nil_of_length_eq_zero (by omega)
              subst hms
              clear cm hml
              have HT2 := Aside0.mk (show blkTo img l q (k + 1) = st by rw [HT.out]; unfold blkStep; rw [if_pos HCC.out, if_neg (by rw [HSTL.out]; simp)])
              rw [show ([] : List (Option Addr × Nat)).length = 0 from rfl]
              go_wp2_with fail
              go_roundw
              case rel => exact ⟨k + 1, by omega, by go_num, _, _, [], _, _, rfl, hc, rfl, by rw [HT2.out]; exact HCS, ⟨by rw [HT2.out]; exact HSL.out⟩, HO, HB⟩
              case measure => simp [intOf]; omega
          · have h1 : (x.f0 == 2) = false := beq_eq_false_iff_ne.2 cc
            have HCC := Aside0.mk cc
            have cc1 : x.f0 = 1 := by rcases HKD.out with h | h; exact h; exact absurd h cc
            have hl64 := HF.out.len cc1
            clear cc cc1
            rw [hl64] at x2 hl2
            by_cases cq : x.f1 = q
            · have h2 : (x.f1 == (q : Int)) = true := beq_iff_eq.2 cq
              have HT2 := Aside0.mk (show blkTo img l q (k + 1) = (st.1, st.2 ++ [x.f2]) by rw [HT.out]; unfold blkStep; rw [if_neg HCC.out, if_pos cq])
              have HC2' := Aside0.mk (show Kd.C (Kd.int .u8) w5 A2 64 x.f2 by have := HC2.out; rw [hl64] at this; exact this)
              clear cq
              go_wp2_with (at_builtin; refine Kd.R_append SL (w0 := w5) w5.heap.size rfl (.tmp 106) (.tmp 112) 69 44 (.slice none 0 0) 24 rfl Try.underlying69 infoSL rfl (by decide) (by omega) _ ms (A2, c2) [.slice A2 64 c2] (fun _ => True) (fun _ => False) rfl (by first | (go_simp; done) | (go_simp; rfl)) rfl (fun _ hk => hk.elim) (fun _ _ => trivial) HO.out HB.out HB.out.size (by omega) ?_; intro v18 w7 ho7 hb7 hg7 hat7)
              obtain ⟨A18', c18', rfl⟩ := Kd.R_slice ho7
              have HO7 := Aside0.mk ho7
              have HB7 := Aside0.mk hb7
              clear ho7 hb7 hg7 hat7
              go_roundw
              case rel => exact ⟨k + 1, by omega, by go_num, _, _, ms ++ [(A2, c2)], _, _, rfl, hc, rfl, by rw [HT2.out]; exact HCS, ⟨by rw [HT2.out]; exact SlOk.snoc HSL.out HC2'.out hl2⟩, HO7, HB7⟩
              case measure => simp [intOf]; omega
            · have h2 : (x.f1 == (q : Int)) = false := beq_eq_false_iff_ne.2 cq
              have HT2 := Aside0.mk (show blkTo img l q (k + 1) = st by rw [HT.out]; unfold blkStep; rw [if_neg HCC.out, if_neg cq])
              clear cq
              go_wp2_with fail
              go_roundw
              case rel => exact ⟨k + 1, by omega, by go_num, _, _, ms, _, _, rfl, hc, rfl, by rw [HT2.out]; exact HCS, ⟨by rw [HT2.out]; exact HSL.out⟩, HO, HB⟩
              case measure => simp [intOf]; omega
        · obtain rfl : t = k := by omega
          have HBE' := Aside0.mk HBE.out
          have HSTL := Aside0.mk HSL.out.1
          have HS64 := Aside0.mk (HBL.out t ht3).1
          have HM64 := Aside0.mk (HBL.out t ht3).2.1
          have hml : ms.length ≤ t := by rw [HSL.out.1]; exact (HBL.out t ht3).2.2
          have hll' : t ≤ 1048576 := by omega
          have HB6 := Aside0.mk (below_then HB5.out HB5.out.size HB.out)
          have HC15' := Aside0.mk (Kd.C_below HC15.out HB.out)
          have HCS' := Aside0.mk (Kd.C_below HCS.out HB.out)
          have HSL' := Aside0.mk (HSL.out.below HB.out)
          clear hlt hk HCS HSL HC15 HBE HBL
          generalize blkTo img l q t = st at *
          obtain ⟨sure, may⟩ := st
          simp only [] at HBE' HSTL HS64 HM64 HCS' HSL'
          have hcap15 := HCAP15.out
          have hbl15 := HBL15.out
          have hs64 := HS64.out
          have HBT := Aside0.mk (woodcutkeep_Bytes.calls 65 A15 c15 b A c sure (decide (b = sure)) wr HC15'.out hcap15 (by rw [hs64]; exact HCS'.out) (by rw [hs64]; exact hc) (by rw [bytes_k _ _ (by rw [hbl15]; omega) _ (by rw [hbl15]; omega)]))
          rw [hbl15, hs64] at HBT
          clear hcap15 hbl15 hs64
          by_cases cb : b = sure
          · rw [decide_eq_true cb] at HBT
            clear cb
            go_wp2_with fail
            refine HBT.out.mono ?_
            rintro e w7 ⟨rfl, hd7⟩
            have HB7 := Aside0.mk (below_then HB6.out HB6.out.size hd7.below)
            clear hd7
            go_wp2_with fail
            refine (wakes_calls w7).mono ?_
            rintro e w8 ⟨rfl, hb8⟩
            have HB8 := Aside0.mk (below_then HB7.out HB7.out.size hb8)
            clear hb8
            go_wp2
            go_ret
            exact ⟨rfl, HB8.out⟩
          · rw [decide_eq_false cb] at HBT
            have HIN := Aside0.mk (show b ∈ may by rcases HBE'.out with h | h; exact absurd h cb; exact h)
            clear cb
            go_wp2_with fail
            refine HBT.out.mono ?_
            rintro e w7 ⟨rfl, hd7⟩
            have HB7 := Aside0.mk (below_then HB6.out HB6.out.size hd7.below)
            have HO7 := Aside0.mk (Kd.R_below HO.out hd7.below)
            have HSL7 := Aside0.mk (HSL'.out.below hd7.below)
            have HC7 := Aside0.mk (Kd.C_below HC15'.out hd7.below)
            clear hd7 HO HSL' HC15'
            go_wp2_with fail
            go_loopw [20] (fun i w' => ∃ k : Nat, k ≤ ms.length ∧ i = .int .i64 k ∧ Aside0 (∀ j (h : j < may.length), j < k → may[j] ≠ b) ∧ Aside0 (Below w7.heap.size w7 w')) (fun i _ => ms.length - (intOf i).toNat)
            case atStart => exact ⟨0, Nat.zero_le _, rfl, ⟨fun j _ h => absurd h (Nat.not_lt_zero _)⟩, ⟨Below.refl _ _⟩⟩
            case round =>
              obtain ⟨k, hk, rfl, HNE, HB⟩ := hrel
              by_cases hlt : k < ms.length
              · obtain ⟨g, cap, hv, hgb, hgl, cells, hcells⟩ := Kd.R_form HO7.out (by omega)
                injection hv with hv1 hv0 hv2
                subst hv1
                clear hv0 hv2 hcells
                obtain ⟨hce, -⟩ := Kd.R_celln (none, 0) HO7.out (k : Int) (by omega) (by omega)
                have hkm : k < may.length := by have := HSTL.out; omega
                have HEL := Aside0.mk (HSL7.out.2 k hlt hkm)
                have hrd : rdOf (none, 0) ms (k : Int) = ms[k] := by unfold rdOf; rw [Int.toNat_natCast, List.getD_eq_getElem?_getD, List.getElem?_eq_getElem hlt]; rfl
                rw [hrd, Int.toNat_natCast] at hce
                have HBK := Aside0.mk (HM64.out k hkm)
                have HNK := Aside0.mk (fun (h : may[k] ≠ b) j (hj : j < may.length) (h2 : j < k + 1) => show may[j] ≠ b from by
                  by_cases e : j = k
                  · subst e; exact h
                  · exact HNE.out j hj (by omega))
                generalize ms[k] = el at *
                obtain ⟨Ae, ce⟩ := el
                have hcen := HEL.out.2
                replace hce : w7.cell? ⟨g, k, none⟩ = some (.slice Ae 64 ce) := hce
                replace hce := (HB.out.cell (World.block_lt_of_cell? w7 _ hce)).trans hce
                clear hrd
                generalize may[k] = mk at *
                have hcap15 := HCAP15.out
                have hbl15 := HBL15.out
                have hs64 := HBK.out
                have HBT := Aside0.mk (woodcutkeep_Bytes.calls 65 A15 c15 b Ae ce mk (decide (b = mk)) wr (Kd.C_below HC7.out HB.out) hcap15 (by rw [hs64]; exact Kd.C_below HEL.out.1 HB.out) (by rw [hs64]; exact hcen) (by rw [bytes_k _ _ (by rw [hbl15]; omega) _ (by rw [hbl15]; omega)]))
                rw [hbl15, hs64] at HBT
                clear hcap15 hbl15 hs64
                by_cases cb : b = mk
                · rw [decide_eq_true cb] at HBT
                  clear cb
                  go_wp2_with fail
                  refine HBT.out.mono ?_
                  rintro e w8 ⟨rfl, hd8⟩
                  have HB8 := Aside0.mk (below_then (below_then HB7.out HB7.out.size HB.out) (by have := HB7.out.size; have := HB.out.size; omega) hd8.below)
                  clear hd8
                  go_wp2_with fail
                  refine (wakes_calls w8).mono ?_
                  rintro e w9 ⟨rfl, hb9⟩
                  have HB9 := Aside0.mk (below_then HB8.out HB8.out.size hb9)
                  clear hb9
                  go_wp2
                  go_ret
                  exact ⟨rfl, HB9.out⟩
                · rw [decide_eq_false cb] at HBT
                  have HNK2 := Aside0.mk (HNK.out (fun h => cb h.symm))
                  clear cb
                  go_wp2_with fail
                  refine HBT.out.mono ?_
                  rintro e w8 ⟨rfl, hd8⟩
                  have HB8 := Aside0.mk (below_then HB.out HB.out.size hd8.below)
                  clear hd8
                  go_wp2
                  go_roundw
                  case rel => exact ⟨k + 1, by omega, by go_num, HNK2, HB8⟩
                  case measure => simp [intOf]; omega
              · exfalso
                obtain ⟨j, hj, he⟩ := List.getElem_of_mem HIN.out
                exact HNE.out j hj (by have := HSTL.out; omega) he
    · have h1 : (stepsOf img l != 0) = true := by rw [bne_iff_ne]; exact hs
      generalize stepsOf img l = s at *
      clear hs
      go_enter Try.func9, Try.ntmps9
      go_wp2_with fail
      refine (HH.out HHF.out).mono ?_
      rintro e w1 ⟨rfl, hd1⟩
      have HB1 := Aside0.mk hd1.below
      clear hd1 HH
      go_wp2_with fail
      refine (woodcutref01_Steps.calls (l.length + 2) A0 c0 img A1 c1 l s w1 (Kd.C_below HR0.out HB1.out) HC0.out (Kd.C_below HR1.out HB1.out) HC1.out HSF.out).mono ?_
      rintro e w2 ⟨rfl, hd2⟩
      have HB2 := Aside0.mk (below_then HB1.out HB1.out.size hd2.below)
      clear hd2 HB1
      go_wp2
      go_ret
      exact ⟨rfl, HB2.out⟩
end Go.Proofs.Ytijfghknjkegpaa.PDevExact
