/- What a crash leaves, walked: dev.Crash and the page's. -/
import Derived.Test.YtijfghknjkegpaaDevE
namespace Go.Proofs.Ytijfghknjkegpaa.PDevExact
open Go.RowKit Go.Proofs.YtijfghknjkegpaaW.PrintWords Go.Proofs.YtijfghknjkegpaaW.PrintLast Go.Proofs.YtijfghknjkegpaaW.PrintMore
set_option linter.unusedVariables false
set_option linter.unusedSimpArgs false
/-- The flushes among the first steps; the last one of them, or -1. -/
def flTo (l : List S58) : Nat → List Int
  | 0 => []
  | k + 1 => if (rd_T58 l (k : Int)).f0 = 2 then flTo l k ++ [(k : Int)] else flTo l k
def lastTo (l : List S58) : Nat → Int
  | 0 => -1
  | k + 1 => if (rd_T58 l (k : Int)).f0 = 2 then (k : Int) else lastTo l k
theorem flTo_len (l : List S58) : ∀ k, (flTo l k).length ≤ k := by
  intro k; induction k with
  | zero => exact Nat.le_refl _
  | succ k ih => unfold flTo; split
                 · rw [List.length_append, List.length_singleton]; omega
                 · omega
theorem flTo_last (l : List S58) : ∀ k, (flTo l k = [] ∧ lastTo l k = -1) ∨ (0 < (flTo l k).length ∧ rd (flTo l k) ((flTo l k).length - 1) = lastTo l k ∧ 0 ≤ lastTo l k ∧ lastTo l k < k ∧ (rd_T58 l (lastTo l k)).f0 = 2) := by
  intro k; induction k with
  | zero => exact .inl ⟨rfl, rfl⟩
  | succ k ih =>
    unfold flTo lastTo
    by_cases c : (rd_T58 l (k : Int)).f0 = 2
    · rw [if_pos c, if_pos c]
      refine .inr ⟨by simp, ?_, by omega, by omega, c⟩
      unfold rd
      rw [List.length_append, List.length_singleton, show (((flTo l k).length + 1 : Nat) - 1 : Int).toNat = (flTo l k).length by omega]
      simp
    · rw [if_neg c, if_neg c]
      rcases ih with h | h
      · exact .inl h
      · exact .inr ⟨h.1, h.2.1, h.2.2.1, by omega, h.2.2.2.2⟩
theorem last_ne (l : List S58) (cut k : Nat) (h1 : (rd_T58 l (k : Int)).f0 = 1) : (k : Int) ≠ lastTo l cut := by
  intro e
  rcases flTo_last l cut with h | h
  · omega
  · rw [← e] at h; omega
theorem flushes_l0 (l : List S58) (hl : l.length < 8796093022208) : ∀ (d i k : Nat), l.length - i = d → i ≤ l.length → d < k → dev_Flushes.l0 k (flTo l i) l (l.length : Int) (i : Int) = some (flTo l l.length) := by
  intro d
  induction d with
  | zero =>
    intro i k hd hi hk
    obtain ⟨k, rfl⟩ : ∃ m, k = m + 1 := ⟨k - 1, by omega⟩
    rw [dev_Flushes.l0, if_neg (by omega), show i = l.length by omega]
  | succ d ih =>
    intro i k hd hi hk
    obtain ⟨k, rfl⟩ : ∃ m, k = m + 1 := ⟨k - 1, by omega⟩
    have h := ih (i + 1) k (by omega) (by omega) (by omega)
    have hlen := flTo_len l i
    rw [dev_Flushes.l0, if_pos (by omega), if_pos (by omega), if_pos (by omega), w64 (x := (i : Int) + 1) (by omega) (by omega)]
    rw [flTo] at h
    by_cases c : (rd_T58 l (i : Int)).f0 = 2
    · rw [if_pos c, if_pos (by omega)]
      rw [if_pos c] at h; exact h
    · rw [if_neg c]
      rw [if_neg c] at h; exact h
theorem flushes_f (l : List S58) (hl : l.length < 8796093022208) : dev_Flushes.f (l.length + 1) l = some (flTo l l.length) := by
  unfold dev_Flushes.f
  exact flushes_l0 l hl l.length 0 _ (by omega) (by omega) (by omega)
theorem rdT_take (l : List S58) (n i : Nat) (h : i < n) : rd_T58 (l.take n) (i : Int) = rd_T58 l (i : Int) := by
  unfold rd_T58
  rw [Int.toNat_natCast, List.getD_eq_getElem?_getD, List.getD_eq_getElem?_getD, List.getElem?_take_of_lt h]
theorem flTo_take (l : List S58) (n : Nat) : ∀ k, k ≤ n → flTo (l.take n) k = flTo l k ∧ lastTo (l.take n) k = lastTo l k := by
  intro k; induction k with
  | zero => intro _; exact ⟨rfl, rfl⟩
  | succ k ih =>
    intro hk
    obtain ⟨h1, h2⟩ := ih (by omega)
    unfold flTo lastTo
    rw [rdT_take l n k (by omega), h1, h2]; exact ⟨rfl, rfl⟩
def crashStep (keep : List Bool) (safe : Int) (k : Nat) (st : List Int × Nat) (x : S58) : List Int × Nat :=
  if x.f0 = 1 then (if (k : Int) < safe then (applyIo st.1 x, st.2) else (if rdOf false keep (st.2 : Int) = true then applyIo st.1 x else st.1, st.2 + 1)) else st
def crashTo (img : List Int) (l : List S58) (keep : List Bool) (safe : Int) : Nat → List Int × Nat
  | 0 => (img, 0)
  | k + 1 => crashStep keep safe k (crashTo img l keep safe k) (rd_T58 l (k : Int))
theorem crashStep_len {keep : List Bool} {safe : Int} {k : Nat} {st : List Int × Nat} {x : S58} (h : Fits st.1.length x) : (crashStep keep safe k st x).1.length = st.1.length := by
  unfold crashStep
  split
  · split
    · exact applyIo_len h
    · simp only; split
      · exact applyIo_len h
      · rfl
  · rfl
theorem crashTo_n (img : List Int) (l : List S58) (keep : List Bool) (safe : Int) : ∀ k, (crashTo img l keep safe k).2 ≤ k := by
  intro k; induction k with
  | zero => exact Nat.le_refl _
  | succ k ih =>
    rw [crashTo]; unfold crashStep
    split
    · split
      · simp only; omega
      · simp only; omega
    · omega
set_option maxHeartbeats 2000000 in
theorem crash_walk (A0 : Option Addr) (c0 : Nat) (img : List Int) (A1 : Option Addr) (c1 : Nat) (l : List S58) (cut : Nat) (A3 : Option Addr) (c3 : Nat) (keep : List Bool) (w : World) (hr0 : Kd.C (Kd.int .u8) w A0 img.length img) (hc0 : img.length ≤ c0) (hi : img.length ≤ 140737488355328) (hr1 : Kd.C k58 w A1 l.length l) (hc1 : l.length ≤ c1) (hm1 : c1 ≤ 9223372036854775807) (hr3 : Kd.C Kd.bool w A3 keep.length keep)
    (hs : stepsOf img l = 0) (hpos : 0 < img.length) (hll : l.length ≤ 1048576) (hfit : ∀ x ∈ l, Fits img.length x) (hcut : cut ≤ l.length) (safe : Int) (hsafe : safe = lastTo l cut) :
    Calls Try.prog 28 #[.slice A0 img.length c0, .slice A1 l.length c1, .int .i64 cut, .slice A3 keep.length c3] w fun e w' => ∃ v, e = .returned (.tuple #[v, .int .i64 0]) ∧ Kd.R (Kd.int .u8) 5 w' w.heap.size (fun _ => True) v (crashTo img l keep safe cut).1 ∧ Below w.heap.size w w' := by
  have HR0 := Aside0.mk hr0
  have HR1 := Aside0.mk hr1
  have HR3 := Aside0.mk hr3
  have HC0 := Aside0.mk hc0
  have HS := devSteps A0 c0 img A1 c1 l w hr0 hc0 hi hr1
  rw [hs] at HS
  have HSA := Aside0.mk HS
  have HFIT := Aside0.mk hfit
  have hmk : keep.length ≤ 9223372036854775807 := Kd.C_max hr3
  have htl : (l.take cut).length = cut := by simp; omega
  have HTL := Aside0.mk htl
  have HFL := Aside0.mk (flushes_f (l.take cut) (by omega))
  rw [htl, (flTo_take l cut cut (Nat.le_refl _)).1] at HFL
  have HLAST := Aside0.mk (flTo_last l cut)
  have HSF := Aside0.mk hsafe
  have hdn : decide (l.length < cut) = false := decide_eq_false (by omega)
  have hdc : decide ((cut : Int) < 0) = false := decide_eq_false (by omega)
  have hfl := flTo_len l cut
  clear hr0 hr1 hr3 hc0 HS hs hfit htl hsafe
  go_enter Try.func28, Try.ntmps28
  go_wp2_with fail
  refine HSA.out.mono ?_
  rintro e w1 ⟨rfl, hb1⟩
  have HB1 := Aside0.mk hb1
  have HR0' := Aside0.mk (Kd.C_below HR0.out hb1)
  have HR1' := Aside0.mk (Kd.C_below HR1.out hb1)
  clear hb1
  go_wp2_with fail
  have hcl := dev_Flushes.calls (cut + 1) A1 c1 (l.take cut) (flTo l cut) w1 (Kd.C_take HR1'.out hcut) (by rw [HTL.out]; omega) HFL.out
  rw [HTL.out] at hcl
  refine hcl.mono ?_
  rintro e w2 ⟨v12, rfl, r12, hb2⟩
  have HB2 := Aside0.mk (below_then HB1.out HB1.out.size hb2)
  have HR2 := Aside0.mk (Kd.C_below HR0'.out hb2)
  obtain ⟨A12, c12, rfl, -, hC12⟩ := Kd.R_reads r12
  obtain ⟨fn, hfn⟩ : ∃ fn, fn = (flTo l cut).length := ⟨_, rfl⟩
  rw [← hfn] at hC12 hfl ⊢
  have HFN := Aside0.mk hfn
  clear r12 hb2 hcl hfn
  go_upto_if 40 with (fail)
  go_cut [11] (fun v11 wc => v11 = .int .i64 safe ∧ w2 = wc)
  case first =>
    rcases HLAST.out with h | h
    · obtain rfl : fn = 0 := by rw [HFN.out, h.1]; rfl
      have HH := Aside0.mk h
      clear h
      go_wp2
      go_meet
      exact ⟨by rw [HSF.out, HH.out.2], rfl⟩
    · have HX12 := Aside0.mk (show rd (flTo l cut) ((fn : Int) - 1) = safe by rw [HSF.out, HFN.out]; exact h.2.1)
      obtain ⟨m, rfl⟩ : ∃ m, fn = m + 1 := ⟨fn - 1, by have := h.1; have := HFN.out; omega⟩
      clear h
      rw [show (((m + 1 : Nat) : Int) - 1) = (m : Int) by omega] at HX12
      obtain ⟨ad12, e12, hx12⟩ := Kd.at_int hC12 (m : Int) (by omega) (by omega)
      cases e12
      rw [Int.toNat_natCast, HX12.out] at hx12
      clear hC12
      go_wp2
      go_meet
      exact ⟨rfl, rfl⟩
  case rest =>
    obtain ⟨rfl, rfl⟩ := hcut
    clear hC12 hfl hdc hdn
    go_wp2_with fail
    refine (clone_calls A0 c0 img _ HR2.out HC0.out hi).mono ?_
    rintro e w3 ⟨v13, rfl, r13, hb3⟩
    have HB3 := Aside0.mk (below_then HB2.out HB2.out.size hb3)
    have HO3 := Aside0.mk (Kd.R_lower r13 HB2.out.size)
    clear r13 hb3
    go_wp2
    go_loopw [14, 15, 16, 17, 53] (fun v14 _ _ _ i w' => ∃ k : Nat, k ≤ cut ∧ i = .int .i64 k ∧ Aside0 (Kd.R (Kd.int .u8) 5 w' w.heap.size (fun _ => True) v13 (crashTo img l keep safe k).1) ∧ Aside0 ((crashTo img l keep safe k).1.length = img.length) ∧ Aside0 (Below w.heap.size w w') ∧ v14 = .int .i64 (crashTo img l keep safe k).2) (fun _ _ _ _ i _ => cut - (intOf i).toNat)
    case atStart => exact ⟨0, Nat.zero_le _, rfl, HO3, ⟨rfl⟩, HB3, rfl⟩
    case round =>
     obtain ⟨k, hk, rfl, HO, HL, HB, rfl⟩ := hrel
     by_cases hlt : k < cut
     · skip
       obtain ⟨ad, A2, c2, e0, x0, x1, x2, hl2, hC2⟩ := at_T58 HR1.out (k : Int) (by omega) (by omega)
       cases e0
       simp only [Int.toNat_natCast] at x0 x1 x2
       replace x0 := (HB.out.cell (World.block_lt_of_cell? w _ x0)).trans x0
       replace x1 := (HB.out.cell (World.block_lt_of_cell? w _ x1)).trans x1
       replace x2 := (HB.out.cell (World.block_lt_of_cell? w _ x2)).trans x2
       have HT := Aside0.mk (show crashTo img l keep safe (k + 1) = crashStep keep safe k (crashTo img l keep safe k) (rd_T58 l (k : Int)) from rfl)
       have hkl : k < l.length := by omega
       have HX : rd_T58 l (k : Int) = l[k] := by unfold rd_T58; rw [Int.toNat_natCast, List.getD_eq_getElem?_getD, List.getElem?_eq_getElem hkl]; rfl
       have HF := Aside0.mk (show Fits img.length (rd_T58 l (k : Int)) by rw [HX]; exact HFIT.out l[k] (List.getElem_mem hkl))
       have HC2 := Aside0.mk (Kd.C_below hC2 HB.out)
       have hnk := crashTo_n img l keep safe k
       have HNE := Aside0.mk (fun h => last_ne l cut k h)
       clear HX hC2 hkl
       generalize rd_T58 l (k : Int) = x at *
       obtain ⟨st, hst⟩ : ∃ st, st = crashTo img l keep safe k := ⟨_, rfl⟩
       rw [← hst] at HT HO HL hnk ⊢
       obtain ⟨cur, n⟩ := st
       have HST := Aside0.mk hst
       clear hst
       simp only [] at HO HL hnk ⊢

       by_cases c : x.f0 = 1
       · have h1 : (x.f0 != 1) = false := by rw [bne_eq_false_iff_eq]; exact c
         have HCC := Aside0.mk c
         clear c
         by_cases cs : (k : Int) < safe
         · have h2 : decide ((k : Int) < safe) = true := decide_eq_true cs
           have HS1 := Aside0.mk cs
           clear cs
           obtain ⟨g, cap, hv, hgb, hgl, cells, hcells⟩ := Kd.R_form HO.out (by rw [HL.out]; exact hpos)
           rw [HL.out] at hv
           subst hv
           obtain ⟨-, hcap, hcmax⟩ := R_cap HO.out
           have HCELLS := Aside0.mk hcells
           have hl64 := HF.out.len HCC.out
           rw [hl64] at x2
           have hat := HF.out.at1 HCC.out
           have hat0 := HF.out.at0 HCC.out
           obtain ⟨q, hq⟩ := Int.eq_ofNat_of_zero_le hat0
           rw [hq, Int.toNat_natCast] at hat
           rw [hq] at x1
           clear hcells hat0
           have hmx := R_max HO.out
           rw [HL.out] at hmx
           go_wp2_with fail
           refine wp_region_still_tail 6 (by kernel_rfl) (by kernel_rfl) ?_
           show wpStill _ _ (World.drew (wr.alloc (.cells #[.int .i64 x.f0, .int .i64 (q : Int), .slice A2 64 c2] 58))) _ _ _
           simp only [List.take_succ_cons, List.take_zero, List.drop_succ_cons, List.drop_zero]
           repeat still_step
           still_call ((devOf' ⟨g, 0, none⟩ img.length cap (q : Int) _ (by omega) (by rw [Int.toNat_natCast]; exact hat) hcap hcmax))
           repeat still_step
           refine wpStill_nil ?_
           have hg2 : (World.drew (wr.alloc (.cells #[.int .i64 x.f0, .int .i64 (q : Int), .slice A2 64 c2] 58))).heap[g]? = some (.cells cells.toList.toArray 5 (0, 0)) := (Below.heap_alloc wr _ g hgl).trans (by rw [HCELLS.out])
           have hsp := fun (w' : World) (hq : w'.heap[g]? = some (.cells (splice cells.toList (q * 64) (nums .u8 x.f2)).toArray 5 (0, 0))) => R_splice (w' := w') (ys := x.f2) (off := q * 64) (Kd.R_drew (Kd.R_alloc HO.out _)) hg2 hq (by rw [HL.out, hl64]; exact hat)
           have hfit := R_fit (Kd.R_drew (Kd.R_alloc HO.out _)) hg2
           rw [HL.out] at hfit
           refine wpList_copy_splice rfl (.tmp 82) (.tmp 84) 44 44 rfl 5 Try.underlying44 (by kernel_rfl) _ _ _ _ _ _ rfl rfl g (q * 64) cells.toList 5 hg2 (nums .u8 x.f2) (by rw [nums_length, hl64]; exact (Nat.min_eq_left (by omega)).symm)
             (fun hp => ⟨rfl, C_cells (Kd.C_drew (Kd.C_alloc HC2.out _)) (by rw [hl64]; decide)⟩) (by rw [nums_length, hl64]; omega) (nums_one _ _) w.heap.size w (below_drew (below_alloc HB.out _)) hgb ?_
           intro w3 hq3 hb3
           have HQ3 := Aside0.mk (hsp w3 hq3).1
           have HB3 := Aside0.mk hb3
           have HQ := Aside0.mk hq
           clear hsp hfit hg2 hat x0 x1 x2 hl64 hq3 hb3 hq
           go_wp2
           go_roundw
           case rel => exact ⟨k + 1, by omega, by go_num, ⟨by rw [HT.out]; unfold crashStep; rw [if_pos HCC.out, if_pos HS1.out]; show Kd.R _ _ _ _ _ _ (applyIo cur x); unfold applyIo; rw [if_pos HCC.out, HQ.out, Int.toNat_natCast]; exact HQ3.out⟩, ⟨by rw [HT.out, crashStep_len (by rw [HL.out]; exact HF.out)]; exact HL.out⟩, HB3, by rw [HT.out]; unfold crashStep; rw [if_pos HCC.out, if_pos HS1.out]⟩
           case measure => simp [intOf]; omega
         · have h2 : decide ((k : Int) < safe) = false := decide_eq_false cs
           have HS1 := Aside0.mk cs
           clear cs
           by_cases cn : n < keep.length
           · have h3 : decide (n < keep.length) = true := decide_eq_true cn
             obtain ⟨ad3, e3, y3⟩ := Kd.at_bool HR3.out (n : Int) (by omega) (by omega)
             cases e3
             rw [Int.toNat_natCast] at y3
             replace y3 := (HB.out.cell (World.block_lt_of_cell? w _ y3)).trans y3
             cases hkb : rdOf false keep (n : Int) with
             | true =>
               rw [hkb] at y3
               have y4 := fun o : Obj => ((below_alloc (Below.refl wr.heap.size wr) o).cell (World.block_lt_of_cell? wr _ y3)).trans y3
               have HKB := Aside0.mk hkb
               clear hkb
               obtain ⟨g, cap, hv, hgb, hgl, cells, hcells⟩ := Kd.R_form HO.out (by rw [HL.out]; exact hpos)
               rw [HL.out] at hv
               subst hv
               obtain ⟨-, hcap, hcmax⟩ := R_cap HO.out
               have HCELLS := Aside0.mk hcells
               have hl64 := HF.out.len HCC.out
               rw [hl64] at x2
               have hat := HF.out.at1 HCC.out
               have hat0 := HF.out.at0 HCC.out
               obtain ⟨q, hq⟩ := Int.eq_ofNat_of_zero_le hat0
               rw [hq, Int.toNat_natCast] at hat
               rw [hq] at x1
               clear hcells hat0
               have hmx := R_max HO.out
               rw [HL.out] at hmx
               go_wp2_with fail
               refine wp_region_still_tail 6 (by kernel_rfl) (by kernel_rfl) ?_
               show wpStill _ _ (World.drew (wr.alloc (.cells #[.int .i64 x.f0, .int .i64 (q : Int), .slice A2 64 c2] 58))) _ _ _
               simp only [List.take_succ_cons, List.take_zero, List.drop_succ_cons, List.drop_zero]
               repeat still_step
               still_call ((devOf' ⟨g, 0, none⟩ img.length cap (q : Int) _ (by omega) (by rw [Int.toNat_natCast]; exact hat) hcap hcmax))
               repeat still_step
               refine wpStill_nil ?_
               have hg2 : (World.drew (wr.alloc (.cells #[.int .i64 x.f0, .int .i64 (q : Int), .slice A2 64 c2] 58))).heap[g]? = some (.cells cells.toList.toArray 5 (0, 0)) := (Below.heap_alloc wr _ g hgl).trans (by rw [HCELLS.out])
               have hsp := fun (w' : World) (hq : w'.heap[g]? = some (.cells (splice cells.toList (q * 64) (nums .u8 x.f2)).toArray 5 (0, 0))) => R_splice (w' := w') (ys := x.f2) (off := q * 64) (Kd.R_drew (Kd.R_alloc HO.out _)) hg2 hq (by rw [HL.out, hl64]; exact hat)
               have hfit := R_fit (Kd.R_drew (Kd.R_alloc HO.out _)) hg2
               rw [HL.out] at hfit
               refine wpList_copy_splice rfl (.tmp 82) (.tmp 84) 44 44 rfl 5 Try.underlying44 (by kernel_rfl) _ _ _ _ _ _ rfl rfl g (q * 64) cells.toList 5 hg2 (nums .u8 x.f2) (by rw [nums_length, hl64]; exact (Nat.min_eq_left (by omega)).symm)
                 (fun hp => ⟨rfl, C_cells (Kd.C_drew (Kd.C_alloc HC2.out _)) (by rw [hl64]; decide)⟩) (by rw [nums_length, hl64]; omega) (nums_one _ _) w.heap.size w (below_drew (below_alloc HB.out _)) hgb ?_
               intro w3 hq3 hb3
               have HQ3 := Aside0.mk (hsp w3 hq3).1
               have HB3 := Aside0.mk hb3
               have HQ := Aside0.mk hq
               clear hsp hfit hg2 hat x0 x1 x2 hl64 hq3 hb3 hq
               go_wp2
               go_roundw
               case rel => exact ⟨k + 1, by omega, by go_num, ⟨by rw [HT.out]; unfold crashStep; rw [if_pos HCC.out, if_neg (by have := HS1.out; omega), if_pos HKB.out]; show Kd.R _ _ _ _ _ _ (applyIo cur x); unfold applyIo; rw [if_pos HCC.out, HQ.out, Int.toNat_natCast]; exact HQ3.out⟩, ⟨by rw [HT.out, crashStep_len (by rw [HL.out]; exact HF.out)]; exact HL.out⟩, HB3, by rw [HT.out]; unfold crashStep; rw [if_pos HCC.out, if_neg (by have := HS1.out; omega)]; go_num⟩
               case measure => simp [intOf]; omega
             | false =>
               rw [hkb] at y3
               have y4 := fun o : Obj => ((below_alloc (Below.refl wr.heap.size wr) o).cell (World.block_lt_of_cell? wr _ y3)).trans y3
               have HKB := Aside0.mk hkb
               clear hkb
               go_wp2
               go_roundw
               case rel => exact ⟨k + 1, by omega, by go_num, ⟨by rw [HT.out]; unfold crashStep; rw [if_pos HCC.out, if_neg (by have := HS1.out; omega), if_neg (by rw [HKB.out]; decide)]; exact Kd.R_alloc HO.out _⟩, ⟨by rw [HT.out, crashStep_len (by rw [HL.out]; exact HF.out)]; exact HL.out⟩, ⟨below_alloc HB.out _⟩, by rw [HT.out]; unfold crashStep; rw [if_pos HCC.out, if_neg (by have := HS1.out; omega)]; go_num⟩
               case measure => simp [intOf]; omega
           · have h3 : decide (n < keep.length) = false := decide_eq_false cn
             have HKB := Aside0.mk (show rdOf false keep (n : Int) = false by unfold rdOf; rw [Int.toNat_natCast, List.getD_eq_getElem?_getD, List.getElem?_eq_none (by omega)]; rfl)
             go_wp2
             go_roundw
             case rel => exact ⟨k + 1, by omega, by go_num, ⟨by rw [HT.out]; unfold crashStep; rw [if_pos HCC.out, if_neg (by have := HS1.out; omega), if_neg (by rw [HKB.out]; decide)]; exact Kd.R_alloc HO.out _⟩, ⟨by rw [HT.out, crashStep_len (by rw [HL.out]; exact HF.out)]; exact HL.out⟩, ⟨below_alloc HB.out _⟩, by rw [HT.out]; unfold crashStep; rw [if_pos HCC.out, if_neg (by have := HS1.out; omega)]; go_num⟩
             case measure => simp [intOf]; omega
       · have h1 : (x.f0 != 1) = true := by rw [bne_iff_ne]; exact c
         have HCC := Aside0.mk c
         clear c
         go_wp2
         go_roundw
         case rel => exact ⟨k + 1, by omega, by go_num, ⟨by rw [HT.out]; unfold crashStep; rw [if_neg HCC.out]; exact Kd.R_alloc HO.out _⟩, ⟨by rw [HT.out, crashStep_len (by rw [HL.out]; exact HF.out)]; exact HL.out⟩, ⟨below_alloc HB.out _⟩, by rw [HT.out]; unfold crashStep; rw [if_neg HCC.out]⟩
         case measure => simp [intOf]; omega
     · go_wp2
       go_ret2
       have hkc : k = cut := by omega
       exact ⟨v13, rfl, by rw [← hkc]; exact HO.out, HB.out⟩
set_option maxHeartbeats 2000000 in
theorem refCrash (A0 : Option Addr) (c0 : Nat) (img : List Int) (A1 : Option Addr) (c1 : Nat) (l : List S58) (cut : Nat) (A3 : Option Addr) (c3 : Nat) (keep : List Bool) (w : World) (hr0 : Kd.C (Kd.int .u8) w A0 img.length img) (hc0 : img.length ≤ c0) (hi : img.length ≤ 140737488355328) (hr1 : Kd.C k58 w A1 l.length l) (hr3 : Kd.C Kd.bool w A3 keep.length keep)
    (hpos : 0 < img.length) (hfit : ∀ x ∈ l, Fits img.length x) (hcut : cut ≤ l.length) (safe : Int) (hsafe : safe = lastTo l cut) :
    Calls Try.prog 38 #[.slice A0 img.length c0, .slice A1 l.length c1, .int .i64 cut, .slice A3 keep.length c3] w fun e w' => ∃ v, e = .returned v ∧ Kd.R (Kd.int .u8) 5 w' w.heap.size (fun _ => True) v (crashTo img l keep safe cut).1 ∧ Below w.heap.size w w' := by
  have HR0 := Aside0.mk hr0
  have HR1 := Aside0.mk hr1
  have HR3 := Aside0.mk hr3
  have HC0 := Aside0.mk hc0
  have HFIT := Aside0.mk hfit
  have HB := Aside0.mk (Below.refl w.heap.size w)
  have hm : l.length ≤ 9223372036854775807 := Kd.C_max hr1
  have hmk : keep.length ≤ 9223372036854775807 := Kd.C_max hr3
  have HLAST := Aside0.mk (flTo_last l cut)
  have HSF := Aside0.mk hsafe
  clear hr0 hr1 hr3 hc0 hfit hsafe
  go_enter Try.func38, Try.ntmps38
  go_wp2_with (at_builtin; refine Kd.R_append_rows (Kd.int .u8) (w0 := w) w.heap.size rfl (.tmp 14) (.tmp 15) 44 5 (.int .u8 0) 1 rfl Try.underlying44 info5 rfl (by decide) (by omega) (.slice none 0 0) ([] : List Int) img _ _ _ (fun _ => True) (fun _ => False) rfl rfl (Kd.R_nil _ _ _ _ _) HR0.out (fun _ _ h => h) (fun _ h => h.elim) (fun _ _ => trivial) HB.out (Nat.le_refl _) (by simpa using hi) ?_; intro v9 w2 ho hb hg hat; have HO2 := Aside0.mk (show Kd.R (Kd.int .u8) 5 w2 w.heap.size (fun _ => True) v9 img from by simpa using ho); have HB2 := Aside0.mk hb; clear ho hb hg hat)
  go_loop [10, 11] (fun v10 i => ∃ k : Nat, k ≤ cut ∧ i = .int .i64 k ∧ v10 = .int .i64 (lastTo l k)) (fun _ i => cut - (intOf i).toNat)
  case atStart => exact ⟨0, Nat.zero_le _, rfl, rfl⟩
  case round =>
    obtain ⟨k, hk, rfl, rfl⟩ := hrel
    by_cases hlt : k < cut
    · obtain ⟨ad, A2, c2, e0, x0, x1, x2, hl2, hC2⟩ := at_T58 HR1.out (k : Int) (by omega) (by omega)
      cases e0
      simp only [Int.toNat_natCast] at x0
      replace x0 := (HB2.out.cell (World.block_lt_of_cell? w _ x0)).trans x0
      have HT := Aside0.mk (show lastTo l (k + 1) = if (rd_T58 l (k : Int)).f0 = 2 then (k : Int) else lastTo l k from rfl)
      clear x1 x2 hl2 hC2
      generalize rd_T58 l (k : Int) = x at *
      by_cases c : x.f0 = 2
      · have h1 : (x.f0 == 2) = true := beq_iff_eq.2 c
        have HCC := Aside0.mk c
        clear c
        go_wp2
        go_round
        case rel => exact ⟨k + 1, by omega, by go_num, by rw [HT.out, if_pos HCC.out]⟩
        case measure => simp [intOf]; omega
      · have h1 : (x.f0 == 2) = false := beq_eq_false_iff_ne.2 c
        have HCC := Aside0.mk c
        clear c
        go_wp2
        go_round
        case rel => exact ⟨k + 1, by omega, by go_num, by rw [HT.out, if_neg HCC.out]⟩
        case measure => simp [intOf]; omega
    · obtain rfl : cut = k := by omega
      rw [← HSF.out]
      go_wp2
      go_loopw [12, 13] (fun v12 i w' => ∃ k' : Nat, k' ≤ cut ∧ i = .int .i64 k' ∧ Aside0 (Kd.R (Kd.int .u8) 5 w' w.heap.size (fun _ => True) v9 (crashTo img l keep safe k').1) ∧ Aside0 ((crashTo img l keep safe k').1.length = img.length) ∧ Aside0 (Below w.heap.size w w') ∧ v12 = .int .i64 (crashTo img l keep safe k').2) (fun _ i _ => cut - (intOf i).toNat)
      case atStart => exact ⟨0, Nat.zero_le _, rfl, HO2, ⟨rfl⟩, HB2, rfl⟩
      case round =>
       clear hlt hk
       obtain ⟨k, hk, rfl, HO, HL, HB, rfl⟩ := hrel
       by_cases hlt : k < cut
       · skip
         obtain ⟨ad, A2, c2, e0, x0, x1, x2, hl2, hC2⟩ := at_T58 HR1.out (k : Int) (by omega) (by omega)
         cases e0
         simp only [Int.toNat_natCast] at x0 x1 x2
         replace x0 := (HB.out.cell (World.block_lt_of_cell? w _ x0)).trans x0
         replace x1 := (HB.out.cell (World.block_lt_of_cell? w _ x1)).trans x1
         replace x2 := (HB.out.cell (World.block_lt_of_cell? w _ x2)).trans x2
         have HT := Aside0.mk (show crashTo img l keep safe (k + 1) = crashStep keep safe k (crashTo img l keep safe k) (rd_T58 l (k : Int)) from rfl)
         have hkl : k < l.length := by omega
         have HX : rd_T58 l (k : Int) = l[k] := by unfold rd_T58; rw [Int.toNat_natCast, List.getD_eq_getElem?_getD, List.getElem?_eq_getElem hkl]; rfl
         have HF := Aside0.mk (show Fits img.length (rd_T58 l (k : Int)) by rw [HX]; exact HFIT.out l[k] (List.getElem_mem hkl))
         have HC2 := Aside0.mk (Kd.C_below hC2 HB.out)
         have hnk := crashTo_n img l keep safe k
         have HNE := Aside0.mk (fun h => last_ne l cut k h)
         clear HX hC2 hkl
         generalize rd_T58 l (k : Int) = x at *
         obtain ⟨st, hst⟩ : ∃ st, st = crashTo img l keep safe k := ⟨_, rfl⟩
         rw [← hst] at HT HO HL hnk ⊢
         obtain ⟨cur, n⟩ := st
         have HST := Aside0.mk hst
         clear hst
         simp only [] at HO HL hnk ⊢
         have hkl : k < l.length := by omega
         by_cases c : x.f0 = 1
         · have h1 : (x.f0 != 1) = false := by rw [bne_eq_false_iff_eq]; exact c
           have HCC := Aside0.mk c
           clear c
           by_cases cs : (k : Int) < safe
           · have h2 : decide (safe < (k : Int)) = false := decide_eq_false (by omega)
             have HS1 := Aside0.mk cs
             clear cs
             obtain ⟨g, cap, hv, hgb, hgl, cells, hcells⟩ := Kd.R_form HO.out (by rw [HL.out]; exact hpos)
             rw [HL.out] at hv
             subst hv
             obtain ⟨-, hcap, hcmax⟩ := R_cap HO.out
             have HCELLS := Aside0.mk hcells
             have hl64 := HF.out.len HCC.out
             rw [hl64] at x2
             have hat := HF.out.at1 HCC.out
             have hat0 := HF.out.at0 HCC.out
             obtain ⟨q, hq⟩ := Int.eq_ofNat_of_zero_le hat0
             rw [hq, Int.toNat_natCast] at hat
             rw [hq] at x1
             clear hcells hat0
             have hmx := R_max HO.out
             rw [HL.out] at hmx
             go_wp2_with fail
             have hw1 : IntKind.i64.wrap ((q : Int) * 64) = (q : Int) * 64 := IntWalk.i64_in _ (by omega)
             have hw2 : 0 ≤ (q : Int) * 64 := by omega
             have hw3 : ((q : Int) * 64).toNat = q * 64 := by omega
             have hcut : ∀ W : World, (Instr.slice 44 (.slice (some ⟨g, 0, none⟩) img.length cap) (some (.int .i64 ((q : Int) * 64))) none none).run Try.prog W = .ok (.slice (some ⟨g, q * 64, none⟩) (img.length - q * 64) (cap - q * 64)) W := by
               intro W
               obtain ⟨i0, hi0, hi1⟩ := Option.map_eq_some_iff.1 info5
               simp only [Prod.mk.injEq] at hi1
               rw [cut_from 44 5 .i64 Try.underlying44 hi0 1 hi1.2.1 _ _ _ _ hw2 (by omega), hw3, if_neg (by omega)]
               simp [Addr.add]
               omega
             refine wp_region_still_tail 13 (by kernel_rfl) (by kernel_rfl) ?_
             show wpStill _ _ (World.drew wr) _ _ _
             simp only [List.take_succ_cons, List.take_zero, List.drop_succ_cons, List.drop_zero]
             repeat still_step
             refine wpStill_nil ?_
             clear hw1 hw2 hw3 hcut
             have hg2 : (World.drew wr).heap[g]? = some (.cells cells.toList.toArray 5 (0, 0)) := by show wr.heap[g]? = _; rw [HCELLS.out]
             have hsp := fun (w' : World) (hq : w'.heap[g]? = some (.cells (splice cells.toList (q * 64) (nums .u8 x.f2)).toArray 5 (0, 0))) => R_splice (w' := w') (ys := x.f2) (off := q * 64) (Kd.R_drew HO.out) hg2 hq (by rw [HL.out, hl64]; exact hat)
             have hfit := R_fit (Kd.R_drew HO.out) hg2
             rw [HL.out] at hfit
             refine wpList_copy_splice rfl (.tmp 64) (.tmp 69) 44 44 rfl 5 Try.underlying44 (by kernel_rfl) _ _ _ _ _ _ rfl rfl g (q * 64) cells.toList 5 hg2 (nums .u8 x.f2) (by rw [nums_length, hl64]; exact (Nat.min_eq_left (by omega)).symm)
               (fun hp => ⟨rfl, C_cells (Kd.C_drew HC2.out) (by rw [hl64]; decide)⟩) (by rw [nums_length, hl64]; omega) (nums_one _ _) w.heap.size w (below_drew HB.out) hgb ?_
             intro w3 hq3 hb3
             have HQ3 := Aside0.mk (hsp w3 hq3).1
             have HB3 := Aside0.mk hb3
             have HQ := Aside0.mk hq
             clear hsp hfit hg2 hat x0 x1 x2 hl64 hq3 hb3 hq
             go_wp2
             go_roundw
             case rel => exact ⟨k + 1, by omega, by go_num, ⟨by rw [HT.out]; unfold crashStep; rw [if_pos HCC.out, if_pos HS1.out]; show Kd.R _ _ _ _ _ _ (applyIo cur x); unfold applyIo; rw [if_pos HCC.out, HQ.out, Int.toNat_natCast]; exact HQ3.out⟩, ⟨by rw [HT.out, crashStep_len (by rw [HL.out]; exact HF.out)]; exact HL.out⟩, HB3, by rw [HT.out]; unfold crashStep; rw [if_pos HCC.out, if_pos HS1.out]⟩
             case measure => simp [intOf]; omega
           · have h2 : decide (safe < (k : Int)) = true := decide_eq_true (by have := HNE.out HCC.out; have := HSF.out; omega)
             have HS1 := Aside0.mk cs
             clear cs
             by_cases cn : n < keep.length
             · have h3 : decide (keep.length < n + 1) = false := decide_eq_false (by omega)
               obtain ⟨ad3, e3, y3⟩ := Kd.at_bool HR3.out (n : Int) (by omega) (by omega)
               cases e3
               rw [Int.toNat_natCast] at y3
               replace y3 := (HB.out.cell (World.block_lt_of_cell? w _ y3)).trans y3
               cases hkb : rdOf false keep (n : Int) with
               | true =>
                 rw [hkb] at y3
                 have HKB := Aside0.mk hkb
                 clear hkb
                 obtain ⟨g, cap, hv, hgb, hgl, cells, hcells⟩ := Kd.R_form HO.out (by rw [HL.out]; exact hpos)
                 rw [HL.out] at hv
                 subst hv
                 obtain ⟨-, hcap, hcmax⟩ := R_cap HO.out
                 have HCELLS := Aside0.mk hcells
                 have hl64 := HF.out.len HCC.out
                 rw [hl64] at x2
                 have hat := HF.out.at1 HCC.out
                 have hat0 := HF.out.at0 HCC.out
                 obtain ⟨q, hq⟩ := Int.eq_ofNat_of_zero_le hat0
                 rw [hq, Int.toNat_natCast] at hat
                 rw [hq] at x1
                 clear hcells hat0
                 have hmx := R_max HO.out
                 rw [HL.out] at hmx
                 go_wp2_with fail
                 have hw1 : IntKind.i64.wrap ((q : Int) * 64) = (q : Int) * 64 := IntWalk.i64_in _ (by omega)
                 have hw2 : 0 ≤ (q : Int) * 64 := by omega
                 have hw3 : ((q : Int) * 64).toNat = q * 64 := by omega
                 have hcut : ∀ W : World, (Instr.slice 44 (.slice (some ⟨g, 0, none⟩) img.length cap) (some (.int .i64 ((q : Int) * 64))) none none).run Try.prog W = .ok (.slice (some ⟨g, q * 64, none⟩) (img.length - q * 64) (cap - q * 64)) W := by
                   intro W
                   obtain ⟨i0, hi0, hi1⟩ := Option.map_eq_some_iff.1 info5
                   simp only [Prod.mk.injEq] at hi1
                   rw [cut_from 44 5 .i64 Try.underlying44 hi0 1 hi1.2.1 _ _ _ _ hw2 (by omega), hw3, if_neg (by omega)]
                   simp [Addr.add]
                   omega
                 refine wp_region_still_tail 13 (by kernel_rfl) (by kernel_rfl) ?_
                 show wpStill _ _ (World.drew wr) _ _ _
                 simp only [List.take_succ_cons, List.take_zero, List.drop_succ_cons, List.drop_zero]
                 repeat still_step
                 refine wpStill_nil ?_
                 clear hw1 hw2 hw3 hcut
                 have hg2 : (World.drew wr).heap[g]? = some (.cells cells.toList.toArray 5 (0, 0)) := by show wr.heap[g]? = _; rw [HCELLS.out]
                 have hsp := fun (w' : World) (hq : w'.heap[g]? = some (.cells (splice cells.toList (q * 64) (nums .u8 x.f2)).toArray 5 (0, 0))) => R_splice (w' := w') (ys := x.f2) (off := q * 64) (Kd.R_drew HO.out) hg2 hq (by rw [HL.out, hl64]; exact hat)
                 have hfit := R_fit (Kd.R_drew HO.out) hg2
                 rw [HL.out] at hfit
                 refine wpList_copy_splice rfl (.tmp 64) (.tmp 69) 44 44 rfl 5 Try.underlying44 (by kernel_rfl) _ _ _ _ _ _ rfl rfl g (q * 64) cells.toList 5 hg2 (nums .u8 x.f2) (by rw [nums_length, hl64]; exact (Nat.min_eq_left (by omega)).symm)
                   (fun hp => ⟨rfl, C_cells (Kd.C_drew HC2.out) (by rw [hl64]; decide)⟩) (by rw [nums_length, hl64]; omega) (nums_one _ _) w.heap.size w (below_drew HB.out) hgb ?_
                 intro w3 hq3 hb3
                 have HQ3 := Aside0.mk (hsp w3 hq3).1
                 have HB3 := Aside0.mk hb3
                 have HQ := Aside0.mk hq
                 clear hsp hfit hg2 hat x0 x1 x2 hl64 hq3 hb3 hq
                 go_wp2
                 go_roundw
                 case rel => exact ⟨k + 1, by omega, by go_num, ⟨by rw [HT.out]; unfold crashStep; rw [if_pos HCC.out, if_neg (by have := HS1.out; omega), if_pos HKB.out]; show Kd.R _ _ _ _ _ _ (applyIo cur x); unfold applyIo; rw [if_pos HCC.out, HQ.out, Int.toNat_natCast]; exact HQ3.out⟩, ⟨by rw [HT.out, crashStep_len (by rw [HL.out]; exact HF.out)]; exact HL.out⟩, HB3, by rw [HT.out]; unfold crashStep; rw [if_pos HCC.out, if_neg (by have := HS1.out; omega)]; go_num⟩
                 case measure => simp [intOf]; omega
               | false =>
                 rw [hkb] at y3
                 have HKB := Aside0.mk hkb
                 clear hkb
                 go_wp2
                 go_roundw
                 case rel => exact ⟨k + 1, by omega, by go_num, ⟨by rw [HT.out]; unfold crashStep; rw [if_pos HCC.out, if_neg (by have := HS1.out; omega), if_neg (by rw [HKB.out]; decide)]; exact HO.out⟩, ⟨by rw [HT.out, crashStep_len (by rw [HL.out]; exact HF.out)]; exact HL.out⟩, HB, by rw [HT.out]; unfold crashStep; rw [if_pos HCC.out, if_neg (by have := HS1.out; omega)]; go_num⟩
                 case measure => simp [intOf]; omega
             · have h3 : decide (keep.length < n + 1) = true := decide_eq_true (by omega)
               have HKB := Aside0.mk (show rdOf false keep (n : Int) = false by unfold rdOf; rw [Int.toNat_natCast, List.getD_eq_getElem?_getD, List.getElem?_eq_none (by omega)]; rfl)
               go_wp2
               go_roundw
               case rel => exact ⟨k + 1, by omega, by go_num, ⟨by rw [HT.out]; unfold crashStep; rw [if_pos HCC.out, if_neg (by have := HS1.out; omega), if_neg (by rw [HKB.out]; decide)]; exact HO.out⟩, ⟨by rw [HT.out, crashStep_len (by rw [HL.out]; exact HF.out)]; exact HL.out⟩, HB, by rw [HT.out]; unfold crashStep; rw [if_pos HCC.out, if_neg (by have := HS1.out; omega)]; go_num⟩
               case measure => simp [intOf]; omega
         · have h1 : (x.f0 != 1) = true := by rw [bne_iff_ne]; exact c
           have HCC := Aside0.mk c
           clear c
           go_wp2
           go_roundw
           case rel => exact ⟨k + 1, by omega, by go_num, ⟨by rw [HT.out]; unfold crashStep; rw [if_neg HCC.out]; exact HO.out⟩, ⟨by rw [HT.out, crashStep_len (by rw [HL.out]; exact HF.out)]; exact HL.out⟩, HB, by rw [HT.out]; unfold crashStep; rw [if_neg HCC.out]⟩
           case measure => simp [intOf]; omega
       · go_wp2
         go_ret
         have hkc : k = cut := by omega
         exact ⟨_, rfl, by rw [← hkc]; exact HO.out, HB.out⟩
end Go.Proofs.Ytijfghknjkegpaa.PDevExact
