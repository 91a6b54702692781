/- DevLast, walked. -/
import Derived.Test.YtijfghknjkegpaaDevH
namespace Go.Proofs.Ytijfghknjkegpaa.PDevExact
open Go.RowKit Go.Proofs.YtijfghknjkegpaaW.PrintWords Go.Proofs.YtijfghknjkegpaaW.PrintLast Go.Proofs.YtijfghknjkegpaaW.PrintMore
set_option linter.unusedVariables false
set_option linter.unusedSimpArgs false
theorem splice_get {α : Type} (L cs : List α) (off i : Nat) (h : off + cs.length ≤ L.length) : (splice L off cs)[i]? = if off ≤ i ∧ i < off + cs.length then cs[i - off]? else L[i]? := by
  unfold splice
  by_cases c1 : i < off
  · rw [List.getElem?_append_left (by simp; omega), List.getElem?_take_of_lt c1, if_neg (by omega)]
  · rw [List.getElem?_append_right (by simp; omega), List.length_take, Nat.min_eq_left (by omega)]
    by_cases c2 : i < off + cs.length
    · rw [List.getElem?_append_left (by omega), if_pos (by omega)]
    · rw [List.getElem?_append_right (by omega), List.getElem?_drop, if_neg (by omega)]
      congr 1; omega
theorem blockAt_get (L : List Int) (k i : Nat) : (blockAt L k)[i]? = if i < 64 then L[k * 64 + i]? else none := by
  unfold blockAt
  by_cases c : i < 64
  · rw [List.getElem?_take_of_lt c, List.getElem?_drop, if_pos c]
  · rw [List.getElem?_eq_none (by simp; omega), if_neg c]
theorem blockAt_put {out data : List Int} {q k : Nat} (hd : data.length = 64) (hq : q * 64 + 64 ≤ out.length) : blockAt (putAt out (q * 64) data) k = if q = k then data else blockAt out k := by
  apply List.ext_getElem?
  intro i
  rw [blockAt_get]
  unfold putAt
  rw [splice_get _ _ _ _ (by omega), hd]
  by_cases c : q = k
  · subst c
    rw [if_pos rfl]
    by_cases h : i < 64
    · rw [if_pos h, if_pos (by omega)]; congr 1; omega
    · rw [if_neg h, List.getElem?_eq_none (by omega)]
  · rw [if_neg c, blockAt_get]
    by_cases h : i < 64
    · rw [if_pos h, if_neg (by omega), if_pos h]
    · rw [if_neg h, if_neg h]
def wantTo (img : List Int) (l : List S58) (k : Nat) : Nat → List Int
  | 0 => blockAt img k
  | n + 1 => if (rd_T58 l (n : Int)).f0 = 1 ∧ (rd_T58 l (n : Int)).f1 = k then (rd_T58 l (n : Int)).f2 else wantTo img l k n
theorem want_apply (img : List Int) (l : List S58) (k : Nat) (hf : ∀ x ∈ l, Fits img.length x) : ∀ n, n ≤ l.length → ((l.take n).foldl applyIo img).length = img.length ∧ blockAt ((l.take n).foldl applyIo img) k = wantTo img l k n := by
  intro n
  induction n with
  | zero => intro _; exact ⟨rfl, rfl⟩
  | succ n ih =>
    intro hn
    obtain ⟨h1, h2⟩ := ih (by omega)
    have hlt : n < l.length := by omega
    have hfx := hf l[n] (List.getElem_mem hlt)
    rw [List.take_succ_eq_append_getElem hlt, List.foldl_append, List.foldl_cons, List.foldl_nil]
    refine ⟨by rw [applyIo_len (by rw [h1]; exact hfx), h1], ?_⟩
    rw [wantTo, rdT_eq hlt]
    generalize (l.take n).foldl applyIo img = out at *
    unfold applyIo
    by_cases c : l[n].f0 = 1
    · rw [if_pos c, blockAt_put (hfx.len c) (by rw [h1]; exact hfx.at1 c), h2]
      have := hfx.at0 c
      by_cases c2 : l[n].f1.toNat = k
      · rw [if_pos c2, if_pos ⟨c, by omega⟩]
      · rw [if_neg c2, if_neg (by rintro ⟨_, h⟩; omega)]
    · rw [if_neg c, if_neg (fun h => c h.1), h2]
theorem umod (a : Int) (n : Nat) (hn : 0 < n) (h2 : n ≤ 2000000) : 0 ≤ Int.tmod (IntKind.u64.wrap a) (n : Int) ∧ Int.tmod (IntKind.u64.wrap a) (n : Int) < n := by
  have h0 : 0 ≤ IntKind.u64.wrap a := by
    have e : IntKind.u64.wrap a = a % 18446744073709551616 := by unfold IntKind.wrap; simp [IntKind.signed, IntKind.bits]
    omega
  rw [Int.tmod_eq_emod_of_nonneg h0]
  exact ⟨Int.emod_nonneg _ (by omega), Int.emod_lt_of_pos _ (by omega)⟩
set_option maxHeartbeats 2000000 in
set_option maxRecDepth 100000 in
theorem devLast_walk (A0 : Option Addr) (c0 : Nat) (img : List Int) (A1 : Option Addr) (c1 : Nat) (l : List S58) (a2 : Int) (w : World) (hr0 : Kd.C (Kd.int .u8) w A0 img.length img) (hc0 : img.length ≤ c0) (hm0 : c0 ≤ 9223372036854775807) (hi : img.length ≤ 140737488355328) (hr1 : Kd.C k58 w A1 l.length l) (hc1 : l.length ≤ c1) (hz1 : l.length * 40 ≤ 140737488351232) :
    Calls Try.prog 11 #[.slice A0 img.length c0, .slice A1 l.length c1, .int .i64 a2] w fun e w' => e = .returned (.bool true) ∧ Below w.heap.size w w' := by
  have hm : l.length ≤ 9223372036854775807 := Kd.C_max hr1
  have HH := Aside0.mk (woodcutlaw05_Heavy.calls (l.length + 2) A0 c0 img A1 c1 l (heavy img l) w hr0 hc0 hr1 hc1)
  cases hh : heavy img l with
  | true =>
    rw [hh] at HH
    have HE := Aside0.mk hh
    clear hh hr0 hc0 hr1 hc1
    go_enter Try.func11, Try.ntmps11
    go_wp2_with fail
    refine (HH.out (by rw [heavy_f _ _ (by omega), HE.out])).mono ?_
    rintro e w1 ⟨rfl, hd1⟩
    have HB1 := Aside0.mk hd1.below
    clear hd1
    go_wp2
    go_ret
    exact ⟨rfl, HB1.out⟩
  | false =>
    rw [hh] at HH
    have HE := Aside0.mk hh
    clear hh
    have HR0 := Aside0.mk hr0
    have HR1 := Aside0.mk hr1
    have HC0 := Aside0.mk hc0
    have HC1 := Aside0.mk hc1
    clear hr0 hr1 hc0 hc1
    have HSF := Aside0.mk (rsteps_f img l hi (by omega))
    have HBF := Aside0.mk (blocks_f img hi)
    by_cases hs : stepsOf img l = 0
    · obtain ⟨hv, -, hf⟩ := fits_of hs
      obtain ⟨hv1, hv2, hv3⟩ := valid_len hv
      have HFIT := Aside0.mk hf
      have HS := Aside0.mk hs
      have HV := Aside0.mk hv
      clear hs hv hf
      rw [HS.out] at HSF
      rw [HV.out] at HBF
      obtain ⟨N, hN⟩ : ∃ N, N = img.length / 64 := ⟨_, rfl⟩
      have hlen : img.length = N * 64 := by omega
      rw [← hN] at HBF hv2 hv3
      have HLEN := Aside0.mk hlen
      clear hN hlen
      obtain ⟨q, hq⟩ := Int.eq_ofNat_of_zero_le (umod a2 N (by omega) (by omega)).1
      have hq2 := (umod a2 N (by omega) (by omega)).2
      rw [hq] at hq2
      have hq3 : q < N := by omega
      have he1 : IntKind.u64.wrap (N : Int) = N := by unfold IntKind.wrap; simp [IntKind.signed, IntKind.bits]; omega
      have he2 : IntKind.i64.wrap (q : Int) = q := by unfold IntKind.wrap; simp [IntKind.signed, IntKind.bits]; omega
      have he3 : wrap64 (q : Int) = q := w64 (by omega) (by omega)
      have hn0 : (N : Int) ≠ 0 := by omega
      have HW := Aside0.mk (want_apply img l q HFIT.out l.length (Nat.le_refl _))
      rw [List.take_length] at HW
      have HWL : Aside0 (∀ n, n ≤ l.length → (wantTo img l q n).length = 64) := ⟨fun n hn => by
        have h1 := want_apply img l q HFIT.out n hn
        rw [← h1.2]; have := HLEN.out; unfold blockAt; rw [List.length_take, List.length_drop, h1.1]; omega⟩
      clear hq2
      go_enter Try.func11, Try.ntmps11
      go_wp2_with fail
      refine (HH.out (by rw [heavy_f _ _ (by omega), HE.out])).mono ?_
      rintro e w1 ⟨rfl, hd1⟩
      have HB1 := Aside0.mk hd1.below
      clear hd1 HH
      go_wp2_with fail
      refine (woodcutref01_Steps.calls (l.length + 2) A0 c0 img A1 c1 l 0 w1 (Kd.C_below HR0.out HB1.out) HC0.out (Kd.C_below HR1.out HB1.out) HC1.out HSF.out).mono ?_
      rintro e w2 ⟨rfl, hd2⟩
      have HB2 := Aside0.mk (below_then HB1.out HB1.out.size hd2.below)
      clear hd2 HB1 HSF
      go_wp2_with fail
      refine (woodcutref01_Blocks.calls A0 c0 img N true w2 (Kd.C_below HR0.out HB2.out) HC0.out HBF.out).mono ?_
      rintro e w3 ⟨rfl, hd3⟩
      have HB3 := Aside0.mk (below_then HB2.out HB2.out.size hd3.below)
      clear hd3 HB2 HBF
      go_wp2_with fail
      have hap := devApply A0 c0 img A1 c1 l w3 (Kd.C_below HR0.out HB3.out) HC0.out hi (Kd.C_below HR1.out HB3.out)
      rw [HS.out, if_pos rfl] at hap
      refine hap.mono ?_
      clear hap
      rintro e w4 ⟨v9, rfl, hr9, hb4⟩
      have HB4 := Aside0.mk (below_then HB3.out HB3.out.size hb4)
      obtain ⟨A9, c9, rfl, hc9, hC9⟩ := Kd.R_reads hr9
      have hm9 := (R_cap hr9).2.2
      have hl9 : (l.foldl applyIo img).length = img.length := HW.out.1
      clear hr9 hb4 HB3
      have hvd : validDev (l.foldl applyIo img) = true := by rw [← HV.out]; unfold validDev; rw [hl9]
      have hrd : readOf (l.foldl applyIo img) (q : Int) = (wantTo img l q l.length, 0) := by
        have := HLEN.out
        unfold readOf; rw [if_neg (by rw [hvd]; decide), if_neg (by rw [hl9]; omega), Int.toNat_natCast, HW.out.2]
      have HRD := Aside0.mk hrd
      clear hrd hvd HW
      have HC9 := Aside0.mk hC9
      have HCAP := Aside0.mk hc9
      have HL9 := Aside0.mk hl9
      clear hC9 hc9 hl9
      generalize l.foldl applyIo img = X at *
      go_wp2_with fail
      have hdr := devRead A9 c9 X q w4 HC9.out HCAP.out hm9 (by rw [HL9.out]; exact hi)
      rw [HRD.out] at hdr
      refine hdr.mono ?_
      clear hdr
      rintro e w5 ⟨v11, rfl, hr11, hb5⟩
      have HB5 := Aside0.mk (below_then HB4.out HB4.out.size hb5)
      obtain ⟨A11, c11, rfl, hc11, hC11⟩ := Kd.R_reads hr11
      have HC11 := Aside0.mk hC11
      have HCAP11 := Aside0.mk hc11
      clear hr11 hb5 hC11 hc11 HB4
      have HWN := Aside0.mk (HWL.out l.length (Nat.le_refl _))
      obtain ⟨A0', hA0⟩ : ∃ a, A0 = some a := by
        have := HLEN.out
        obtain ⟨a, e, _⟩ := C_cells HR0.out (by omega)
        exact ⟨a, e⟩
      subst hA0
      go_wp2_with fail
      refine (refBlock A0' img.length c0 q w5 (by have := HLEN.out; omega) HC0.out hm0).mono ?_
      rintro e w6 ⟨rfl, rfl⟩
      have HB0 := Aside0.mk (block_C HR0.out q (by have := HLEN.out; omega))
      have hw0 : wantTo img l q 0 = (img.drop (q * 64)).take 64 := rfl
      rw [← hw0] at HB0
      have HB0' := Aside0.mk (Kd.C_below HB0.out HB5.out)
      clear HB0 hw0
      go_wp2_with fail
      go_loop [13, 14] (fun v i => ∃ k : Nat, k ≤ l.length ∧ i = .int .i64 k ∧ ∃ A c, v = .slice A 64 c ∧ 64 ≤ c ∧ Aside0 (Kd.C (Kd.int .u8) w5 A 64 (wantTo img l q k))) (fun _ i => l.length - (intOf i).toNat)
      case atStart => exact ⟨0, Nat.zero_le _, rfl, _, _, rfl, by have := HC0.out; have := HLEN.out; omega, HB0'⟩
      case round =>
        obtain ⟨k, hk, rfl, A, c, rfl, hc, HCW⟩ := hrel
        by_cases hlt : k < l.length
        · obtain ⟨ad, A2, c2, e0, x0, x1, x2, hl2, hC2⟩ := at_T58 HR1.out (k : Int) (by omega) (by omega)
          cases e0
          simp only [Int.toNat_natCast] at x0 x1 x2
          replace x0 := (HB5.out.cell (World.block_lt_of_cell? w _ x0)).trans x0
          replace x1 := (HB5.out.cell (World.block_lt_of_cell? w _ x1)).trans x1
          replace x2 := (HB5.out.cell (World.block_lt_of_cell? w _ x2)).trans x2
          have HT := Aside0.mk (show wantTo img l q (k + 1) = if (rd_T58 l (k : Int)).f0 = 1 ∧ (rd_T58 l (k : Int)).f1 = q then (rd_T58 l (k : Int)).f2 else wantTo img l q k from rfl)
          have HF := Aside0.mk (show Fits img.length (rd_T58 l (k : Int)) by rw [rdT_eq hlt]; exact HFIT.out l[k] (List.getElem_mem hlt))
          have HC2 := Aside0.mk (Kd.C_below hC2 HB5.out)
          clear hC2
          generalize rd_T58 l (k : Int) = x at *
          by_cases cc : x.f0 = 1
          · have h1 : (x.f0 == 1) = true := beq_iff_eq.2 cc
            have HCC := Aside0.mk cc
            clear cc
            have hl64 := HF.out.len HCC.out
            rw [hl64] at x2
            by_cases cq : x.f1 = q
            · have h2 : (x.f1 == (q : Int)) = true := beq_iff_eq.2 cq
              have HQ := Aside0.mk cq
              clear cq
              go_wp2
              go_round
              case rel => exact ⟨k + 1, by omega, by go_num, _, _, rfl, by omega, ⟨by rw [HT.out, if_pos ⟨HCC.out, HQ.out⟩]; have := HC2.out; rw [hl64] at this; exact this⟩⟩
              case measure => simp [intOf]; omega
            · have h2 : (x.f1 == (q : Int)) = false := beq_eq_false_iff_ne.2 cq
              have HQ := Aside0.mk cq
              clear cq
              go_wp2
              go_round
              case rel => exact ⟨k + 1, by omega, by go_num, _, _, rfl, hc, ⟨by rw [HT.out, if_neg (fun h => HQ.out h.2)]; exact HCW.out⟩⟩
              case measure => simp [intOf]; omega
          · have h1 : (x.f0 == 1) = false := beq_eq_false_iff_ne.2 cc
            have HCC := Aside0.mk cc
            clear cc
            go_wp2
            go_round
            case rel => exact ⟨k + 1, by omega, by go_num, _, _, rfl, hc, ⟨by rw [HT.out, if_neg (fun h => HCC.out h.1)]; exact HCW.out⟩⟩
            case measure => simp [intOf]; omega
        · obtain rfl : k = l.length := by omega
          rw [HL9.out, HWN.out]
          go_wp2_with fail
          have hcw := HCW.out
          have hc11 := HC11.out
          have hcap := HCAP11.out
          have hwn := HWN.out
          have hbt := woodcutkeep_Bytes.calls 65 A11 c11 (wantTo img l q l.length) A c (wantTo img l q l.length) true w5 hc11 hcap (by rw [hwn]; exact hcw) (by rw [hwn]; exact hc) (by rw [bytes_k _ _ (by rw [hwn]; omega) _ (by rw [hwn]; omega)]; simp)
          rw [hwn] at hbt
          clear hcw hc11 hcap hwn
          refine hbt.mono ?_
          clear hbt
          rintro e w6 ⟨rfl, hd6⟩
          have HB6 := Aside0.mk (below_then HB5.out HB5.out.size hd6.below)
          clear hd6
          go_wp2_with fail
          refine (wakes_calls w6).mono ?_
          rintro e w7 ⟨rfl, hb7⟩
          have HB7 := Aside0.mk (below_then HB6.out HB6.out.size hb7)
          clear hb7
          go_wp2
          go_ret
          exact ⟨rfl, HB7.out⟩
    · have h1 : (stepsOf img l != 0) = true := by rw [bne_iff_ne]; exact hs
      generalize stepsOf img l = s at *
      clear hs
      go_enter Try.func11, Try.ntmps11
      go_wp2_with fail
      refine (HH.out (by rw [heavy_f _ _ (by omega), HE.out])).mono ?_
      rintro e w1 ⟨rfl, hd1⟩
      have HB1 := Aside0.mk hd1.below
      clear hd1 HH
      go_wp2_with fail
      refine (woodcutref01_Steps.calls (l.length + 2) A0 c0 img A1 c1 l s w1 (Kd.C_below HR0.out HB1.out) HC0.out (Kd.C_below HR1.out HB1.out) HC1.out HSF.out).mono ?_
      rintro e w2 ⟨rfl, hd2⟩
      have HB2 := Aside0.mk (below_then HB1.out HB1.out.size hd2.below)
      clear hd2 HB1
      go_wp2
      go_ret
      exact ⟨rfl, HB2.out⟩
end Go.Proofs.Ytijfghknjkegpaa.PDevExact
