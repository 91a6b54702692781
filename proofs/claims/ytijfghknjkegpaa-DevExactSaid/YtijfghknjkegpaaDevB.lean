/- Package dev, walked: whether steps are right. -/
import Derived.Test.YtijfghknjkegpaaDevA
namespace Go.Proofs.Ytijfghknjkegpaa.PDevExact
open Go.RowKit Go.Proofs.YtijfghknjkegpaaW.PrintWords Go.Proofs.YtijfghknjkegpaaW.PrintLast Go.Proofs.YtijfghknjkegpaaW.PrintMore
set_option linter.unusedVariables false
set_option linter.unusedSimpArgs false
def rightIo (x : S58) (blocks : Int) : Bool := if x.f0 = 1 then decide (0 ≤ x.f1 ∧ x.f1 < blocks ∧ x.f2.length = 64) else if x.f0 = 2 then decide (x.f1 = 0 ∧ x.f2.length = 0) else false
theorem ret_int {k : IntKind} {a b : Int} (h : a = b) : Ending.returned (.int k a) = .returned (.int k b) := by rw [h]
theorem right_calls (x : S58) (blocks : Int) (A : Option Addr) (c : Nat) (w : World) :
    Calls Try.prog 46 #[.agg #[.int .i64 x.f0, .int .i64 x.f1, .slice A x.f2.length c], .int .i64 blocks] w fun e w' => e = .returned (.bool (rightIo x blocks)) ∧ Below w.heap.size w w' := by
  obtain ⟨k, a, d⟩ := x
  simp only [rightIo]
  generalize d.length = n
  have HB := Aside0.mk (Below.refl w.heap.size w)
  by_cases c1 : k = 1
  · subst c1
    simp only [if_true]
    by_cases c2 : 0 ≤ a
    · by_cases c3 : a < blocks
      · have h2 : decide (0 ≤ a) = true := decide_eq_true c2
        have h3 : decide (a < blocks) = true := decide_eq_true c3
        rw [show decide (0 ≤ a ∧ a < blocks ∧ n = 64) = ((n : Int) == 64) from by rw [Bool.eq_iff_iff]; simp; omega]
        go_enter Try.func46, Try.ntmps46
        go_wp2
        go_ret
        exact ⟨by simp, below_alloc HB.out _⟩
      · have h2 : decide (0 ≤ a) = true := decide_eq_true c2
        have h3 : decide (a < blocks) = false := decide_eq_false c3
        rw [show decide (0 ≤ a ∧ a < blocks ∧ n = 64) = false from decide_eq_false (by omega)]
        go_enter Try.func46, Try.ntmps46
        go_wp2
        go_ret
        exact ⟨by simp, below_alloc HB.out _⟩
    · have h2 : decide (0 ≤ a) = false := decide_eq_false c2
      rw [show decide (0 ≤ a ∧ a < blocks ∧ n = 64) = false from decide_eq_false (by omega)]
      go_enter Try.func46, Try.ntmps46
      go_wp2
      go_ret
      exact ⟨by simp, below_alloc HB.out _⟩
  · rw [if_neg c1]
    have h1 : (k == 1) = false := beq_eq_false_iff_ne.2 c1
    by_cases c2 : k = 2
    · subst c2
      rw [if_pos rfl]
      by_cases c3 : a = 0
      · subst c3
        rw [show decide ((0 : Int) = 0 ∧ n = 0) = ((n : Int) == 0) from by rw [Bool.eq_iff_iff]; simp]
        go_enter Try.func46, Try.ntmps46
        go_wp2
        go_ret
        exact ⟨by simp, below_alloc HB.out _⟩
      · have h3 : (a == 0) = false := beq_eq_false_iff_ne.2 c3
        rw [show decide (a = 0 ∧ n = 0) = false from decide_eq_false (by omega)]
        go_enter Try.func46, Try.ntmps46
        go_wp2
        go_ret
        exact ⟨by simp, below_alloc HB.out _⟩
    · have h2 : (k == 2) = false := beq_eq_false_iff_ne.2 c2
      rw [if_neg c2]
      go_enter Try.func46, Try.ntmps46
      go_wp2
      go_ret
      exact ⟨by simp, below_alloc HB.out _⟩
theorem steps1_calls (x : S58) (blocks : Int) (A : Option Addr) (c : Nat) (b : Nat) (w : World) (hb : w.cell? ⟨b, 0, none⟩ = some (.int .i64 blocks)) (hlt : b < w.heap.size) :
    Calls Try.prog 45 #[.agg #[.int .i64 x.f0, .int .i64 x.f1, .slice A x.f2.length c], .pointer (some ⟨b, 0, none⟩)] w fun e w' => e = .returned (.bool (!rightIo x blocks)) ∧ Below w.heap.size w w' := by
  have HB := Aside0.mk (Below.refl w.heap.size w)
  go_enter Try.func45, Try.ntmps45
  go_wp2_with fail
  refine (right_calls x blocks A c _).mono ?_
  rintro e w1 ⟨rfl, hb1⟩
  have HB1 := Aside0.mk (below_then (below_alloc HB.out _) (by simp) hb1)
  clear hb1
  go_wp2
  go_ret
  exact ⟨rfl, HB1.out⟩
def idxOf {α : Type} (p : α → Bool) (l : List α) : Int := match l.findIdx? p with | some i => (i : Int) | none => -1
theorem indexFunc_calls (A0 : Option Addr) (c0 : Nat) (l : List S58) (p : S58 → Bool) (cap : Value) (w : World) (hr0 : Kd.C k58 w A0 l.length l)
    (hcall : ∀ (x : S58) (A : Option Addr) (c : Nat) (W : World), Below w.heap.size w W → Calls Try.prog 45 #[.agg #[.int .i64 x.f0, .int .i64 x.f1, .slice A x.f2.length c], cap] W fun e w' => e = .returned (.bool (p x)) ∧ Below W.heap.size W w') :
    Calls Try.prog 47 #[.slice A0 l.length c0, .func (.func 45) #[] #[cap]] w fun e w' => e = .returned (.int .i64 (idxOf p l)) ∧ Below w.heap.size w w' := by
  have HR0 := Aside0.mk hr0
  have HC := Aside0.mk hcall
  have HB := Aside0.mk (Below.refl w.heap.size w)
  have hm : l.length ≤ 9223372036854775807 := Kd.C_max hr0
  clear hr0 hcall
  go_enter Try.func47, Try.ntmps47
  go_wp2
  go_loopw [5, 8] (fun _ i w' => ∃ k : Nat, k ≤ l.length ∧ i = .int .i64 k ∧ Aside0 ((l.take k).all (fun x => !p x) = true) ∧ Aside0 (Below w.heap.size w w')) (fun _ i _ => l.length - (intOf i).toNat)
  case atStart => exact ⟨0, Nat.zero_le _, rfl, ⟨by simp⟩, HB⟩
  case round =>
    obtain ⟨k, hk, rfl, hall, HB1⟩ := hrel
    by_cases hlt : k < l.length
    · obtain ⟨ad, A2, c2, e0, x0, x1, x2, hl2, hC2⟩ := at_T58 HR0.out (k : Int) (by omega) (by omega)
      cases e0
      simp only [Int.toNat_natCast] at x0 x1 x2
      replace x0 := (HB1.out.cell (World.block_lt_of_cell? w _ x0)).trans x0
      replace x1 := (HB1.out.cell (World.block_lt_of_cell? w _ x1)).trans x1
      replace x2 := (HB1.out.cell (World.block_lt_of_cell? w _ x2)).trans x2
      have HX : rd_T58 l (k : Int) = l[k] := by unfold rd_T58; rw [Int.toNat_natCast, List.getD_eq_getElem?_getD, List.getElem?_eq_getElem hlt]; rfl
      rw [HX] at x0 x1 x2
      have HT : l.take (k + 1) = l.take k ++ [l[k]] := by rw [List.take_succ_eq_append_getElem hlt]
      have HL := Aside0.mk HT
      clear HX hl2 hC2 HT
      go_wp2_with fail
      refine (HC.out l[k] A2 c2 _ HB1.out).mono ?_
      rintro e w1 ⟨rfl, hb1⟩
      have HB2 := Aside0.mk (below_then HB1.out HB1.out.size hb1)
      clear hb1 x0 x1 x2
      cases hp : p l[k] with
      | true =>
        have HP := Aside0.mk hp
        clear hp
        go_wp2
        go_ret
        refine ⟨ret_int ?_, HB2.out⟩
        unfold idxOf
        have : l.findIdx? p = some k := by
          rw [List.findIdx?_eq_some_iff_getElem]
          refine ⟨hlt, HP.out, fun j hj => ?_⟩
          have := List.all_eq_true.1 hall.out (l[j]'(by omega)) (by rw [List.mem_take_iff_getElem]; exact ⟨j, by omega, rfl⟩)
          simpa using this
        rw [this]
      | false =>
        have HP := Aside0.mk hp
        clear hp
        go_wp2
        go_roundw
        case rel => exact ⟨k + 1, by omega, by go_num, ⟨by rw [HL.out, List.all_append, hall.out]; simp [HP.out]⟩, HB2⟩
        case measure => simp [intOf]; omega
    · go_wp2
      go_ret
      refine ⟨ret_int ?_, HB1.out⟩
      unfold idxOf
      have : l.findIdx? p = none := by
        rw [List.findIdx?_eq_none_iff]
        intro x hx
        have h := hall.out
        rw [List.take_of_length_le (by omega)] at h
        have := List.all_eq_true.1 h x hx
        simpa using this
      rw [this]
theorem idx_any {α : Type} (p : α → Bool) (l : List α) : decide (0 ≤ idxOf p l) = l.any p := by
  unfold idxOf
  cases h : l.findIdx? p with
  | some i =>
    obtain ⟨hi, hp, _⟩ := List.findIdx?_eq_some_iff_getElem.1 h
    rw [show l.any p = true from List.any_eq_true.2 ⟨_, List.getElem_mem hi, hp⟩]
    exact decide_eq_true (by simp)
  | none =>
    have := List.findIdx?_eq_none_iff.1 h
    rw [show l.any p = false from by rw [List.any_eq_false]; intro x hx; simp [this x hx]]
    rfl
theorem idx_range {α : Type} (p : α → Bool) (l : List α) : -1 ≤ idxOf p l ∧ idxOf p l ≤ l.length := by
  unfold idxOf
  cases h : l.findIdx? p with
  | some i =>
    obtain ⟨hi, _, _⟩ := List.findIdx?_eq_some_iff_getElem.1 h
    simp only; omega
  | none => simp only; omega
theorem containsFunc_calls (A0 : Option Addr) (c0 : Nat) (l : List S58) (p : S58 → Bool) (cap : Value) (w : World) (hr0 : Kd.C k58 w A0 l.length l)
    (hcall : ∀ (x : S58) (A : Option Addr) (c : Nat) (W : World), Below w.heap.size w W → Calls Try.prog 45 #[.agg #[.int .i64 x.f0, .int .i64 x.f1, .slice A x.f2.length c], cap] W fun e w' => e = .returned (.bool (p x)) ∧ Below W.heap.size W w') :
    Calls Try.prog 44 #[.slice A0 l.length c0, .func (.func 45) #[] #[cap]] w fun e w' => e = .returned (.bool (l.any p)) ∧ Below w.heap.size w w' := by
  have HC := Aside0.mk hcall
  have HI := Aside0.mk (idx_any p l)
  have HR0 := Aside0.mk hr0
  clear hcall hr0
  go_enter Try.func44, Try.ntmps44
  go_wp2_with fail
  refine (indexFunc_calls A0 c0 l p cap w HR0.out HC.out).mono ?_
  rintro e w1 ⟨rfl, hb1⟩
  have HB1 := Aside0.mk hb1
  clear hb1
  go_wp2
  go_ret
  exact ⟨by rw [← HI.out]; rfl, HB1.out⟩
/-- Why steps are not a device's: 0, if they are. -/
def stepsOf (img : List Int) (l : List S58) : Int :=
  if validDev img = false then 2 else if 1048576 < l.length then 2 else if l.any (fun x => !rightIo x (img.length / 64 : Nat)) then 1 else 0
theorem devSteps (A0 : Option Addr) (c0 : Nat) (img : List Int) (A1 : Option Addr) (c1 : Nat) (l : List S58) (w : World) (hr0 : Kd.C (Kd.int .u8) w A0 img.length img) (hc0 : img.length ≤ c0) (hi : img.length ≤ 140737488355328) (hr1 : Kd.C k58 w A1 l.length l) :
    Calls Try.prog 32 #[.slice A0 img.length c0, .slice A1 l.length c1] w fun e w' => e = .returned (.int .i64 (stepsOf img l)) ∧ Below w.heap.size w w' := by
  have HR0 := Aside0.mk hr0
  have HR1 := Aside0.mk hr1
  have HC0 := Aside0.mk hc0
  have HF := Aside0.mk (check_f img hi)
  have hm : l.length ≤ 9223372036854775807 := Kd.C_max hr1
  clear hr0 hr1 hc0
  cases hv : validDev img with
  | false =>
    have HV := Aside0.mk hv
    clear hv
    go_enter Try.func32, Try.ntmps32
    go_wp2_with fail
    refine (dev_Check.calls A0 c0 img 0 2 w HR0.out HC0.out (by rw [HF.out, HV.out]; rfl)).mono ?_
    rintro e w1 ⟨rfl, hd1⟩
    have HB1 := Aside0.mk (below_alloc hd1.below (.cells #[.int .i64 0] 3))
    clear hd1
    go_wp2
    go_ret
    exact ⟨ret_int (by unfold stepsOf; rw [if_pos HV.out]), HB1.out⟩
  | true =>
    have HV := Aside0.mk hv
    clear hv
    generalize hn : img.length / 64 = n
    rw [hn] at HF
    have HN := Aside0.mk hn
    have hnb : n ≤ 4096 := by have := HV.out; unfold validDev at this; simp at this; omega
    clear hn
    by_cases c : 1048576 < l.length
    · go_enter Try.func32, Try.ntmps32
      go_wp2_with fail
      refine (dev_Check.calls A0 c0 img n 0 w HR0.out HC0.out (by rw [HF.out, HV.out]; rfl)).mono ?_
      rintro e w1 ⟨rfl, hd1⟩
      have HB1 := Aside0.mk (below_alloc hd1.below (.cells #[.int .i64 n] 3))
      clear hd1
      go_wp2
      go_ret
      exact ⟨ret_int (by unfold stepsOf; rw [if_neg (by rw [HV.out]; decide), if_pos c]), HB1.out⟩
    · go_enter Try.func32, Try.ntmps32
      go_wp2_with fail
      refine (dev_Check.calls A0 c0 img n 0 w HR0.out HC0.out (by rw [HF.out, HV.out]; rfl)).mono ?_
      rintro e w1 ⟨rfl, hd1⟩
      have HB1 := Aside0.mk (below_alloc hd1.below (.cells #[.int .i64 n] 3))
      have hsz : w.heap.size ≤ w1.heap.size := hd1.below.size
      have HR1' := Aside0.mk (Kd.C_below HR1.out hd1.below)
      clear hd1
      go_wp2_with fail
      refine (containsFunc_calls A1 c1 l (fun x => !rightIo x n) _ _ (Kd.C_alloc HR1'.out _) (fun x A c W hW => steps1_calls x n A c _ W (by rw [bcell hW _ _ (by simp)]; go_simp) (by have := hW.size; simp at this; omega))).mono ?_
      rintro e w2 ⟨rfl, hb2⟩
      have HB2 := Aside0.mk (below_then HB1.out (by simp; omega) hb2)
      clear hb2
      cases ha : l.any (fun x => !rightIo x n) with
      | true =>
        have HA := Aside0.mk ha
        clear ha
        go_wp2
        go_ret
        exact ⟨ret_int (by unfold stepsOf; rw [if_neg (by rw [HV.out]; decide), if_neg c, HN.out, if_pos HA.out]), HB2.out⟩
      | false =>
        have HA := Aside0.mk ha
        clear ha
        go_wp2
        go_ret
        exact ⟨ret_int (by unfold stepsOf; rw [if_neg (by rw [HV.out]; decide), if_neg c, HN.out, if_neg (by rw [HA.out]; decide)]), HB2.out⟩
end Go.Proofs.Ytijfghknjkegpaa.PDevExact
