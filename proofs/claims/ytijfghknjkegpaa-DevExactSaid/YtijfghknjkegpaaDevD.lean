/- Package dev, walked: what all steps leave. -/
import Derived.Test.YtijfghknjkegpaaDevC
namespace Go.Proofs.Ytijfghknjkegpaa.PDevExact
open Go.RowKit Go.Proofs.YtijfghknjkegpaaW.PrintWords Go.Proofs.YtijfghknjkegpaaW.PrintLast Go.Proofs.YtijfghknjkegpaaW.PrintMore
set_option linter.unusedVariables false
set_option linter.unusedSimpArgs false
/-- Bytes with others put upon them, from a place on. -/
def putAt (out : List Int) (off : Nat) (data : List Int) : List Int := splice out off data
theorem putAt_len {out : List Int} {off : Nat} {data : List Int} (h : off + data.length ≤ out.length) : (putAt out off data).length = out.length := length_splice _ _ _ h
theorem splice_take {α : Type} (L cs : List α) (off n : Nat) (h : off + cs.length ≤ n) (h2 : off ≤ L.length) : (splice L off cs).take n = splice (L.take n) off cs := by
  unfold splice
  rw [List.take_append, List.take_append, List.length_take, Nat.min_eq_left h2, List.take_take, List.take_take, List.drop_take]
  congr 1
  · congr 1; omega
  · congr 1
    · exact List.take_of_length_le (by omega)
    · congr 1; omega
theorem nums_splice (k : IntKind) (xs ys : List Int) (off : Nat) : nums k (splice xs off ys) = splice (nums k xs) off (nums k ys) := by
  unfold splice nums; simp
def applyIo (out : List Int) (x : S58) : List Int := if x.f0 = 1 then putAt out (x.f1.toNat * 64) x.f2 else out
/-- Is a step right, of a device of so many bytes: what the walk needs of it. -/
structure Fits (n : Nat) (x : S58) : Prop where
  at0 : x.f0 = 1 → 0 ≤ x.f1
  at1 : x.f0 = 1 → x.f1.toNat * 64 + 64 ≤ n
  len : x.f0 = 1 → x.f2.length = 64
theorem applyIo_len {out : List Int} {x : S58} (h : Fits out.length x) : (applyIo out x).length = out.length := by
  unfold applyIo
  split
  · rename_i c; exact putAt_len (by have := h.at1 c; have := h.len c; omega)
  · rfl
theorem devOf' (ad : Addr) (n c : Nat) (k : Int) (w : World) (h0 : 0 ≤ k) (h1 : k.toNat * 64 + 64 ≤ n) (hc : n ≤ c) (hm : c ≤ 9223372036854775807) :
    Calls Try.prog 42 #[.slice (some ad) n c, .int .i64 k] w fun e w' => e = .returned (.slice (some (ad.add (k.toNat * 64))) 64 (c - k.toNat * 64)) ∧ w' = w := by
  obtain ⟨j, rfl⟩ := Int.eq_ofNat_of_zero_le h0
  rw [Int.toNat_natCast] at h1 ⊢
  exact (devOf ad n c j w h1 hc hm).mono fun e w' ⟨he, hw⟩ => ⟨he, hw.symm⟩
theorem R_splice {w w' : World} {base e g n cap : Nat} {ok : Nat → Prop} {xs ys : List Int} {cur : List Value} {off : Nat} (h : Kd.R (Kd.int .u8) e w base ok (.slice (some ⟨g, 0, none⟩) n cap) xs) (hg : w.heap[g]? = some (.cells cur.toArray e (0, 0)))
    (hg' : w'.heap[g]? = some (.cells (splice cur off (nums .u8 ys)).toArray e (0, 0))) (hfit : off + ys.length ≤ xs.length) : Kd.R (Kd.int .u8) e w' base ok (.slice (some ⟨g, 0, none⟩) n cap) (putAt xs off ys) ∧ off + ys.length ≤ cur.length := by
  obtain ⟨hok, inner, ho, hr⟩ := h
  have hown := Kd.own_of_R (h1 := fun _ => rfl) ⟨hok, inner, ho, hr⟩
  obtain ⟨hl, hh⟩ := hown
  rcases hh with ⟨h1, _⟩ | ⟨g', cap', cur', hv, hb, hheap, hcap, hmax, hsz, htake⟩
  · cases h1
  · injection hv with e1 e2 e3
    injection e1 with e1
    injection e1 with e1
    subst e1; subst e3
    rw [hg] at hheap
    injection hheap with hheap
    injection hheap with hc
    have hc' : cur'.toList = cur := by rw [← hc]
    rw [hc'] at htake
    have hcl : cur.length = cap * 1 := by rw [← hc', ← hsz, Array.length_toList]
    have hxl : xs.length = n := e2.symm
    have hle : off + ys.length ≤ cur.length := by omega
    refine ⟨Kd.R_of_own ?_ hok, hle⟩
    have hpl : (putAt xs off ys).length = xs.length := putAt_len hfit
    rw [hpl]
    refine ⟨by rw [encs_length, hpl]; omega, .inr ⟨g, cap, _, by rw [hxl], hb, hg', by omega, hmax, by rw [List.size_toArray, length_splice _ _ _ (by rw [nums_length]; exact hle)]; exact hcl, ?_⟩⟩
    simp only [Nat.mul_one] at htake ⊢
    rw [splice_take _ _ _ _ (by rw [nums_length]; omega) (by omega)]
    have e4 : encs (Value.int .u8) (putAt xs off ys) = splice (nums .u8 xs) off (nums .u8 ys) := nums_splice .u8 xs ys off
    have e5 : encs (Value.int .u8) xs = nums .u8 xs := rfl
    rw [e4, ← e5, ← htake]
theorem R_cap {α : Type} {d : Kd α} {e : Nat} {w : World} {base : Nat} {ok : Nat → Prop} {A : Option Addr} {n c : Nat} {xs : List α} (h : Kd.R d e w base ok (.slice A n c) xs) : n = xs.length ∧ n ≤ c ∧ c ≤ 9223372036854775807 := by
  obtain ⟨inner, hl, hh⟩ := Kd.R_own h
  obtain ⟨h1, h2, _⟩ := Kd.R_reads' h
  rcases hh with ⟨h3, _⟩ | ⟨g', cap', cur', hv, hb, hheap, hcap, hmax, hsz, htake⟩
  · injection h3 with _ _ h3; subst h3; exact ⟨h1, h2, by omega⟩
  · injection hv with _ _ h3; subst h3; exact ⟨h1, h2, by unfold maxLen at hmax; omega⟩
theorem nums_one (k : IntKind) (xs : List Int) : ∀ v ∈ nums k xs, v.oneCell' = true := by
  intro v hv; unfold nums at hv; obtain ⟨x, _, rfl⟩ := List.mem_map.1 hv; rfl
/-- The cells that a row of bytes is read from. -/
theorem C_cells {w : World} {A : Option Addr} {n : Nat} {xs : List Int} {k : IntKind} (h : Kd.C (Kd.int k) w A n xs) (hp : 0 < n) : ∃ ad, A = some ad ∧ ∀ j v, (nums k xs)[j]? = some v → w.cell? (ad.add j) = some v := by
  obtain ⟨ad, ha, hc⟩ := h.2.2 hp
  refine ⟨ad, ha, fun j v hv => ?_⟩
  unfold nums at hv
  rw [List.getElem?_map, Option.map_eq_some_iff] at hv
  obtain ⟨p, hp, rfl⟩ := hv
  obtain ⟨c, h1, h2, h3⟩ := hc j p hp
  have h2' : c = [.int k p] := h2
  subst h2'
  have := h3 0 _ rfl
  have hs : (Kd.int k).sz = 1 := rfl
  rw [hs, Nat.mul_one, Nat.add_zero] at this
  exact this
theorem R_fit {w : World} {base e g n cap : Nat} {ok : Nat → Prop} {xs : List Int} {cur : List Value} (h : Kd.R (Kd.int .u8) e w base ok (.slice (some ⟨g, 0, none⟩) n cap) xs) (hg : w.heap[g]? = some (.cells cur.toArray e (0, 0))) : xs.length ≤ cur.length := by
  obtain ⟨inner, hl, hh⟩ := Kd.R_own h
  rcases hh with ⟨h3, _⟩ | ⟨g', cap', cur', hv, hb, hheap, hcap, hmax, hsz, htake⟩
  · cases h3
  · injection hv with e1 e2 e3
    injection e1 with e1
    injection e1 with e1
    subst e1; subst e3
    rw [hg] at hheap
    injection hheap with hheap
    injection hheap with hc
    have hc' : cur'.toList = cur := by rw [← hc]
    have h4 := congrArg List.length htake
    rw [List.length_take, hl, hc'] at h4
    have h5 : (Kd.int IntKind.u8).sz = 1 := rfl
    rw [h5, Nat.mul_one] at h4
    omega
theorem apply_walk (A0 : Option Addr) (c0 : Nat) (img : List Int) (A1 : Option Addr) (c1 : Nat) (l : List S58) (w : World) (hr0 : Kd.C (Kd.int .u8) w A0 img.length img) (hc0 : img.length ≤ c0) (hi : img.length ≤ 140737488355328) (hr1 : Kd.C k58 w A1 l.length l)
    (hs : stepsOf img l = 0) (hpos : 0 < img.length) (hfit : ∀ x ∈ l, Fits img.length x) :
    Calls Try.prog 27 #[.slice A0 img.length c0, .slice A1 l.length c1] w fun e w' => ∃ v, e = .returned (.tuple #[v, .int .i64 0]) ∧ Kd.R (Kd.int .u8) 5 w' w.heap.size (fun _ => True) v (l.foldl applyIo img) ∧ Below w.heap.size w w' := by
  have HR0 := Aside0.mk hr0
  have HR1 := Aside0.mk hr1
  have HC0 := Aside0.mk hc0
  have HS := devSteps A0 c0 img A1 c1 l w hr0 hc0 hi hr1
  rw [hs] at HS
  have HSA := Aside0.mk HS
  have HFIT := Aside0.mk hfit
  have hm : l.length ≤ 9223372036854775807 := Kd.C_max hr1
  clear hr0 hr1 hc0 HS hs hfit
  go_enter Try.func27, Try.ntmps27
  go_wp2_with fail
  refine HSA.out.mono ?_
  rintro e w1 ⟨rfl, hb1⟩
  have HB1 := Aside0.mk hb1
  have HR0' := Aside0.mk (Kd.C_below HR0.out hb1)
  have HR1' := Aside0.mk (Kd.C_below HR1.out hb1)
  clear hb1
  go_wp2_with fail
  refine (clone_calls A0 c0 img w1 HR0'.out HC0.out hi).mono ?_
  rintro e w2 ⟨v7, rfl, r7, hb2⟩
  have HB2 := Aside0.mk (below_then HB1.out HB1.out.size hb2)
  have HR2 := Aside0.mk (Kd.C_below HR1'.out hb2)
  have HO2 := Aside0.mk (Kd.R_lower r7 HB1.out.size)
  clear r7 hb2
  go_wp2
  go_loopw [9, 20] (fun _ i w' => ∃ k : Nat, k ≤ l.length ∧ i = .int .i64 k ∧ Aside0 (Kd.R (Kd.int .u8) 5 w' w.heap.size (fun _ => True) v7 ((l.take k).foldl applyIo img)) ∧ Aside0 (((l.take k).foldl applyIo img).length = img.length) ∧ Aside0 (Below w.heap.size w w')) (fun _ i _ => l.length - (intOf i).toNat)
  case atStart => exact ⟨0, Nat.zero_le _, rfl, HO2, ⟨rfl⟩, HB2⟩
  case round =>
    obtain ⟨k, hk, rfl, HO, HL, HB⟩ := hrel
    by_cases hlt : k < l.length
    · obtain ⟨ad, A2, c2, e0, x0, x1, x2, hl2, hC2⟩ := at_T58 HR1.out (k : Int) (by omega) (by omega)
      cases e0
      simp only [Int.toNat_natCast] at x0 x1 x2
      replace x0 := (HB.out.cell (World.block_lt_of_cell? w _ x0)).trans x0
      replace x1 := (HB.out.cell (World.block_lt_of_cell? w _ x1)).trans x1
      replace x2 := (HB.out.cell (World.block_lt_of_cell? w _ x2)).trans x2
      have HX : rd_T58 l (k : Int) = l[k] := by unfold rd_T58; rw [Int.toNat_natCast, List.getD_eq_getElem?_getD, List.getElem?_eq_getElem hlt]; rfl
      rw [HX] at x0 x1 x2 hl2 hC2
      have HT := Aside0.mk (show (l.take (k + 1)).foldl applyIo img = applyIo ((l.take k).foldl applyIo img) l[k] by rw [List.take_succ_eq_append_getElem hlt, List.foldl_append]; rfl)
      have HF := Aside0.mk (HFIT.out l[k] (List.getElem_mem hlt))
      have HC2 := Aside0.mk (Kd.C_below hC2 HB.out)
      clear HX hC2
      generalize l[k] = x at *
      by_cases c : x.f0 = 1
      · have h1 : (x.f0 == 1) = true := beq_iff_eq.2 c
        have HCC := Aside0.mk c
        clear c
        obtain ⟨g, cap, hv, hgb, hgl, cells, hcells⟩ := Kd.R_form HO.out (by rw [HL.out]; exact hpos)
        rw [HL.out] at hv
        subst hv
        obtain ⟨-, hcap, hcmax⟩ := R_cap HO.out
        have HCELLS := Aside0.mk hcells
        have hl64 := HF.out.len HCC.out
        rw [hl64] at x2
        clear hcells
        go_wp2_with fail
        refine wp_region_still_tail 6 (by kernel_rfl) (by kernel_rfl) ?_
        show wpStill _ _ (World.drew (wr.alloc (.cells #[.int .i64 x.f0, .int .i64 x.f1, .slice A2 64 c2] 58))) _ _ _
        simp only [List.take_succ_cons, List.take_zero, List.drop_succ_cons, List.drop_zero]
        repeat still_step
        still_call (devOf' ⟨g, 0, none⟩ img.length cap x.f1 _ (HF.out.at0 HCC.out) (HF.out.at1 HCC.out) hcap hcmax)
        repeat still_step
        refine wpStill_nil ?_
        have hat := HF.out.at1 HCC.out
        have hg2 : (wr.alloc (.cells #[.int .i64 x.f0, .int .i64 x.f1, .slice A2 64 c2] 58)).heap[g]? = some (.cells cells.toList.toArray 5 (0, 0)) := (Below.heap_alloc wr _ g hgl).trans (by rw [HCELLS.out])
        have hsp := fun (w' : World) (hq : w'.heap[g]? = some (.cells (splice cells.toList (x.f1.toNat * 64) (nums .u8 x.f2)).toArray 5 (0, 0))) => R_splice (w' := w') (ys := x.f2) (off := x.f1.toNat * 64) (Kd.R_alloc HO.out _) hg2 hq (by rw [HL.out, hl64]; exact hat)
        have hfit := R_fit (Kd.R_alloc HO.out _) hg2
        rw [HL.out] at hfit
        refine wpList_copy_splice rfl (.tmp 30) (.tmp 32) 44 44 rfl 5 Try.underlying44 (by kernel_rfl) _ _ _ _ _ _ rfl rfl g (x.f1.toNat * 64) cells.toList 5 hg2 (nums .u8 x.f2) (by rw [nums_length, hl64]; rfl)
          (fun hp => ⟨rfl, C_cells (Kd.C_drew (Kd.C_alloc HC2.out _)) (by rw [hl64]; decide)⟩) (by rw [nums_length, hl64]; omega) (nums_one _ _) w.heap.size w (below_drew (below_alloc HB.out _)) hgb ?_
        intro w3 hq3 hb3
        have HQ3 := Aside0.mk (hsp w3 hq3).1
        have HB3 := Aside0.mk hb3
        clear hsp hfit hg2 hat x0 x1 x2 hl64 hq3 hb3
        go_wp2
        go_roundw
        case rel => exact ⟨k + 1, by omega, by go_num, ⟨by rw [HT.out]; unfold applyIo; rw [if_pos HCC.out]; exact HQ3.out⟩, ⟨by rw [HT.out, applyIo_len (by rw [HL.out]; exact HF.out), HL.out]⟩, HB3⟩
        case measure => simp [intOf]; omega
      · have h1 : (x.f0 == 1) = false := beq_eq_false_iff_ne.2 c
        have HCC := Aside0.mk c
        clear c
        go_wp2
        go_roundw
        case rel => exact ⟨k + 1, by omega, by go_num, ⟨by rw [HT.out]; unfold applyIo; rw [if_neg HCC.out]; exact Kd.R_alloc HO.out _⟩, ⟨by rw [HT.out, applyIo_len (by rw [HL.out]; exact HF.out), HL.out]⟩, ⟨below_alloc HB.out _⟩⟩
        case measure => simp [intOf]; omega
    · go_wp2
      go_ret2
      exact ⟨v7, rfl, by rw [show l.foldl applyIo img = (l.take k).foldl applyIo img by rw [List.take_of_length_le (by omega)]]; exact HO.out, HB.out⟩
/-- Right steps fit. -/
theorem fits_of {img : List Int} {l : List S58} (h : stepsOf img l = 0) : validDev img = true ∧ l.length ≤ 1048576 ∧ ∀ x ∈ l, Fits img.length x := by
  unfold stepsOf at h
  cases hv : validDev img with
  | false => rw [hv, if_pos rfl] at h; cases h
  | true =>
    rw [hv, if_neg (by decide)] at h
    by_cases c : 1048576 < l.length
    · rw [if_pos c] at h; cases h
    · rw [if_neg c] at h
      cases ha : l.any (fun x => !rightIo x (img.length / 64 : Nat)) with
      | true => rw [ha] at h; cases h
      | false =>
        refine ⟨rfl, by omega, fun x hx => ?_⟩
        have hr := List.any_eq_false.1 ha x hx
        have hlen := valid_len hv
        have key : x.f0 = 1 → 0 ≤ x.f1 ∧ x.f1 < (img.length / 64 : Nat) ∧ x.f2.length = 64 := fun h1 => by
          unfold rightIo at hr
          rw [if_pos h1] at hr
          simpa using hr
        exact ⟨fun h1 => (key h1).1, fun h1 => by have := key h1; omega, fun h1 => (key h1).2.2⟩
/-- dev.Apply of right steps. -/
theorem devApply (A0 : Option Addr) (c0 : Nat) (img : List Int) (A1 : Option Addr) (c1 : Nat) (l : List S58) (w : World) (hr0 : Kd.C (Kd.int .u8) w A0 img.length img) (hc0 : img.length ≤ c0) (hi : img.length ≤ 140737488355328) (hr1 : Kd.C k58 w A1 l.length l) :
    Calls Try.prog 27 #[.slice A0 img.length c0, .slice A1 l.length c1] w fun e w' => ∃ v, e = .returned (.tuple #[v, .int .i64 (stepsOf img l)]) ∧ Kd.R (Kd.int .u8) 5 w' w.heap.size (fun _ => True) v (if stepsOf img l = 0 then l.foldl applyIo img else []) ∧ Below w.heap.size w w' := by
  by_cases hs : stepsOf img l = 0
  · rw [if_pos hs, hs]
    obtain ⟨hv, _, hf⟩ := fits_of hs
    have := valid_len hv
    exact apply_walk A0 c0 img A1 c1 l w hr0 hc0 hi hr1 hs (by omega) hf
  · rw [if_neg hs]
    have HSA := Aside0.mk (devSteps A0 c0 img A1 c1 l w hr0 hc0 hi hr1)
    generalize stepsOf img l = s at *
    have h1 : (s != 0) = true := by rw [bne_iff_ne]; exact hs
    clear hr0 hr1 hc0 hs
    go_enter Try.func27, Try.ntmps27
    go_wp2_with fail
    refine HSA.out.mono ?_
    rintro e w1 ⟨rfl, hb1⟩
    have HB1 := Aside0.mk hb1
    clear hb1
    go_wp2
    go_ret2
    exact ⟨_, rfl, Kd.R_nil _ _ _ _ _, HB1.out⟩
end Go.Proofs.Ytijfghknjkegpaa.PDevExact
