/- The page's device, walked: a block, all steps. -/
import Derived.Test.YtijfghknjkegpaaDevD
namespace Go.Proofs.Ytijfghknjkegpaa.PDevExact
open Go.RowKit Go.Proofs.YtijfghknjkegpaaW.PrintWords Go.Proofs.YtijfghknjkegpaaW.PrintLast Go.Proofs.YtijfghknjkegpaaW.PrintMore
set_option linter.unusedVariables false
set_option linter.unusedSimpArgs false
theorem refBlock (ad : Addr) (n c : Nat) (k : Nat) (w : World) (h1 : k * 64 + 64 ≤ n) (hc : n ≤ c) (hm : c ≤ 9223372036854775807) :
    Calls Try.prog 36 #[.slice (some ad) n c, .int .i64 k] w fun e w' => e = .returned (.slice (some (ad.add (k * 64))) 64 (c - k * 64)) ∧ w = w' := by
  go_enter Try.func36, Try.ntmps36
  go_wp2
  go_ret
  exact ⟨ret_slice rfl (by omega) rfl, rfl⟩
theorem R_max {α : Type} {d : Kd α} {e : Nat} {w : World} {base : Nat} {ok : Nat → Prop} {v : Value} {xs : List α} (h : Kd.R d e w base ok v xs) : xs.length ≤ 9223372036854775807 := by
  obtain ⟨A, c, _, _, hC⟩ := Kd.R_reads h
  exact Kd.C_max hC
theorem refApply (A0 : Option Addr) (c0 : Nat) (img : List Int) (A1 : Option Addr) (c1 : Nat) (l : List S58) (w : World) (hr0 : Kd.C (Kd.int .u8) w A0 img.length img) (hc0 : img.length ≤ c0) (hi : img.length ≤ 140737488355328) (hr1 : Kd.C k58 w A1 l.length l)
    (hpos : 0 < img.length) (hfit : ∀ x ∈ l, Fits img.length x) :
    Calls Try.prog 37 #[.slice A0 img.length c0, .slice A1 l.length c1] w fun e w' => ∃ v, e = .returned v ∧ Kd.R (Kd.int .u8) 5 w' w.heap.size (fun _ => True) v (l.foldl applyIo img) ∧ Below w.heap.size w w' := by
  have HR0 := Aside0.mk hr0
  have HR1 := Aside0.mk hr1
  have HC0 := Aside0.mk hc0
  have HFIT := Aside0.mk hfit
  have HB := Aside0.mk (Below.refl w.heap.size w)
  have hm : l.length ≤ 9223372036854775807 := Kd.C_max hr1
  clear hr0 hr1 hc0 hfit
  go_enter Try.func37, Try.ntmps37
  go_wp2_with (at_builtin; refine Kd.R_append_rows (Kd.int .u8) (w0 := w) w.heap.size rfl (.tmp 7) (.tmp 8) 44 5 (.int .u8 0) 1 rfl Try.underlying44 info5 rfl (by decide) (by omega) (.slice none 0 0) ([] : List Int) img _ _ _ (fun _ => True) (fun _ => False) rfl rfl (Kd.R_nil _ _ _ _ _) HR0.out (fun _ _ h => h) (fun _ h => h.elim) (fun _ _ => trivial) HB.out (Nat.le_refl _) (by simpa using hi) ?_; intro v5 w2 ho hb hg hat; have HO2 := Aside0.mk (show Kd.R (Kd.int .u8) 5 w2 w.heap.size (fun _ => True) v5 img from by simpa using ho); have HB2 := Aside0.mk hb; clear ho hb hg hat)
  go_loopw [6] (fun i w' => ∃ k : Nat, k ≤ l.length ∧ i = .int .i64 k ∧ Aside0 (Kd.R (Kd.int .u8) 5 w' w.heap.size (fun _ => True) v5 ((l.take k).foldl applyIo img)) ∧ Aside0 (((l.take k).foldl applyIo img).length = img.length) ∧ Aside0 (Below w.heap.size w w')) (fun i _ => l.length - (intOf i).toNat)
  case atStart => exact ⟨0, Nat.zero_le _, rfl, HO2, ⟨rfl⟩, HB2⟩
  case round =>
    obtain ⟨k, hk, rfl, HO, HL, HB⟩ := hrel
    by_cases hlt : k < l.length
    · obtain ⟨ad, A2, c2, e0, x0, x1, x2, hl2, hC2⟩ := at_T58 HR1.out (k : Int) (by omega) (by omega)
      cases e0
      simp only [Int.toNat_natCast] at x0 x1 x2
      replace x0 := (HB.out.cell (World.block_lt_of_cell? w _ x0)).trans x0
      replace x1 := (HB.out.cell (World.block_lt_of_cell? w _ x1)).trans x1
      replace x2 := (HB.out.cell (World.block_lt_of_cell? w _ x2)).trans x2
      have HX : rd_T58 l (k : Int) = l[k] := by unfold rd_T58; rw [Int.toNat_natCast, List.getD_eq_getElem?_getD, List.getElem?_eq_getElem hlt]; rfl
      rw [HX] at x0 x1 x2 hl2 hC2
      have HT := Aside0.mk (show (l.take (k + 1)).foldl applyIo img = applyIo ((l.take k).foldl applyIo img) l[k] by rw [List.take_succ_eq_append_getElem hlt, List.foldl_append]; rfl)
      have HF := Aside0.mk (HFIT.out l[k] (List.getElem_mem hlt))
      have HC2 := Aside0.mk (Kd.C_below hC2 HB.out)
      clear HX hC2
      generalize l[k] = x at *
      by_cases c : x.f0 = 1
      · have h1 : (x.f0 == 1) = true := beq_iff_eq.2 c
        have HCC := Aside0.mk c
        clear c
        obtain ⟨g, cap, hv, hgb, hgl, cells, hcells⟩ := Kd.R_form HO.out (by rw [HL.out]; exact hpos)
        rw [HL.out] at hv
        subst hv
        obtain ⟨-, hcap, hcmax⟩ := R_cap HO.out
        have HCELLS := Aside0.mk hcells
        have hl64 := HF.out.len HCC.out
        rw [hl64] at x2
        have hat := HF.out.at1 HCC.out
        have hat0 := HF.out.at0 HCC.out
        obtain ⟨q, hq⟩ := Int.eq_ofNat_of_zero_le hat0
        rw [hq, Int.toNat_natCast] at hat
        rw [hq] at x1
        clear hcells hat0
        have hmx := R_max HO.out
        rw [HL.out] at hmx
        go_wp2_with fail
        have hw1 : IntKind.i64.wrap ((q : Int) * 64) = (q : Int) * 64 := IntWalk.i64_in _ (by omega)
        have hw2 : 0 ≤ (q : Int) * 64 := by omega
        have hw3 : ((q : Int) * 64).toNat = q * 64 := by omega
        have hcut : ∀ W : World, (Instr.slice 44 (.slice (some ⟨g, 0, none⟩) img.length cap) (some (.int .i64 ((q : Int) * 64))) none none).run Try.prog W = .ok (.slice (some ⟨g, q * 64, none⟩) (img.length - q * 64) (cap - q * 64)) W := by
          intro W
          obtain ⟨i0, hi0, hi1⟩ := Option.map_eq_some_iff.1 info5
          simp only [Prod.mk.injEq] at hi1
          rw [cut_from 44 5 .i64 Try.underlying44 hi0 1 hi1.2.1 _ _ _ _ hw2 (by omega), hw3, if_neg (by omega)]
          simp [Addr.add]
          omega
        refine wp_region_still_tail 13 (by kernel_rfl) (by kernel_rfl) ?_
        show wpStill _ _ (World.drew wr) _ _ _
        simp only [List.take_succ_cons, List.take_zero, List.drop_succ_cons, List.drop_zero]
        repeat still_step
        refine wpStill_nil ?_
        clear hw1 hw2 hw3 hcut
        have hg2 : wr.drew.heap[g]? = some (.cells cells.toList.toArray 5 (0, 0)) := by show wr.heap[g]? = _; rw [HCELLS.out]
        have hsp := fun (w' : World) (hq : w'.heap[g]? = some (.cells (splice cells.toList (q * 64) (nums .u8 x.f2)).toArray 5 (0, 0))) => R_splice (w' := w') (ys := x.f2) (off := q * 64) (Kd.R_drew HO.out) hg2 hq (by rw [HL.out, hl64]; exact hat)
        have hfit := R_fit (Kd.R_drew HO.out) hg2
        rw [HL.out] at hfit
        refine wpList_copy_splice rfl (.tmp 29) (.tmp 34) 44 44 rfl 5 Try.underlying44 (by kernel_rfl) _ _ _ _ _ _ rfl rfl g (q * 64) cells.toList 5 hg2 (nums .u8 x.f2) (by rw [nums_length, hl64]; exact (Nat.min_eq_left (by omega)).symm)
          (fun hp => ⟨rfl, C_cells (Kd.C_drew HC2.out) (by rw [hl64]; decide)⟩) (by rw [nums_length, hl64]; omega) (nums_one _ _) w.heap.size w (below_drew HB.out) hgb ?_
        intro w3 hq3 hb3
        have HQ3 := Aside0.mk (hsp w3 hq3).1
        have HB3 := Aside0.mk hb3
        have HQ := Aside0.mk hq
        clear hsp hfit hg2 hat x0 x1 x2 hl64 hq3 hb3 hq
        go_wp2
        go_roundw
        case rel => exact ⟨k + 1, by omega, by go_num, ⟨by rw [HT.out]; unfold applyIo; rw [if_pos HCC.out, HQ.out, Int.toNat_natCast]; exact HQ3.out⟩, ⟨by rw [HT.out, applyIo_len (by rw [HL.out]; exact HF.out), HL.out]⟩, HB3⟩
        case measure => simp [intOf]; omega
      · have h1 : (x.f0 == 1) = false := beq_eq_false_iff_ne.2 c
        have HCC := Aside0.mk c
        clear c
        go_wp2
        go_roundw
        case rel => exact ⟨k + 1, by omega, by go_num, ⟨by rw [HT.out]; unfold applyIo; rw [if_neg HCC.out]; exact HO.out⟩, ⟨by rw [HT.out, applyIo_len (by rw [HL.out]; exact HF.out), HL.out]⟩, HB⟩
        case measure => simp [intOf]; omega
    · go_wp2
      go_ret
      exact ⟨_, rfl, by rw [show l.foldl applyIo img = (l.take k).foldl applyIo img by rw [List.take_of_length_le (by omega)]]; exact HO.out, HB.out⟩
end Go.Proofs.Ytijfghknjkegpaa.PDevExact
