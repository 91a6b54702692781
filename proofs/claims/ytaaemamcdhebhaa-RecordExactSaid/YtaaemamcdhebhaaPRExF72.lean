/- Contracts of the program's functions, as a program of this session prints them: each call comes to what the Lean function of the same name computes.
Conditions: what each theorem's hypotheses say of its arguments. -/
import Derived.Test.YtaaemamcdhebhaaPREx0
import Derived.Test.YtaaemamcdhebhaaPRExF67
import Derived.Test.YtaaemamcdhebhaaPRExF15
namespace Go.Proofs.Ytaaemamcdhebhaa.PRE
open Go.RowKit Go.Proofs.YtaaemamcdhebhaaW.PrintWords Go.Proofs.YtaaemamcdhebhaaW.PrintLast Go.Proofs.YtaaemamcdhebhaaW.PrintMore
attribute [local go_sem] max2_int min2_int max_two min_two max_three min_three max_four min_four   -- for this text's walks alone
set_option linter.unusedVariables false
set_option linter.unusedSimpArgs false

/-! ### le_Zeros: function 72 -/
def le_Zeros.l0 : Nat → List Int → Int → Int → Option (Bool)
  | 0, _, _, _ => none
  | k + 1, x0, x2, x7 => if x7 < (mn x2 (x0.length : Int)) then (if 0 ≤ x7 then (if x7 < (x0.length : Int) then (if (rd x0 x7) = 0 then (le_Zeros.l0 k x0 x2 (wrap64 (x7 + 1))) else (some false)) else (none)) else (none)) else (some true)
def le_Zeros.f (k : Nat) (l0 : List Int) (a1 : Int) (a2 : Int) : Option (Bool) := le_Zeros.l0 k l0 a2 (mx a1 0)
theorem le_Zeros.mono_l : ∀ k, (∀ y0 y1 y2, LeO (le_Zeros.l0 k y0 y1 y2) (le_Zeros.l0 (k + 1) y0 y1 y2))
  | 0 => fun _ _ _ r h => by simp [le_Zeros.l0] at h
  | k + 1 => by
    have ih0 := le_Zeros.mono_l k
    · intro y0 y1 y2
      unfold le_Zeros.l0
      repeat' first
      | (with_reducible exact ih0 _ _ _)
      | (with_reducible exact LeO.refl _)
      | (with_reducible exact LeO.none _)
      | (with_reducible refine LeO.ite ?_ ?_)
      | (with_reducible refine LeO.bind ?_ (fun _ => ?_))
      | exact ih0 _ _ _
      | exact LeO.none _
      | refine LeO.ite ?_ ?_
      | refine LeO.bind ?_ (fun _ => ?_)
theorem le_Zeros.mono : ∀ a0 a1 a2 k, LeO (le_Zeros.f k a0 a1 a2) (le_Zeros.f (k + 1) a0 a1 a2) := by
  intro a0 a1 a2 k
  have ih0 := le_Zeros.mono_l k
  unfold le_Zeros.f
  repeat' first
      | (with_reducible exact ih0 _ _ _)
      | (with_reducible exact LeO.refl _)
      | (with_reducible exact LeO.none _)
      | (with_reducible refine LeO.ite ?_ ?_)
      | (with_reducible refine LeO.bind ?_ (fun _ => ?_))
      | exact ih0 _ _ _
      | exact LeO.none _
      | refine LeO.ite ?_ ?_
      | refine LeO.bind ?_ (fun _ => ?_)
set_option maxHeartbeats 8000000 in
set_option maxRecDepth 100000 in
theorem le_Zeros.calls (k : Nat) (A0 : Option Addr) (c0 : Nat) (l0 : List Int) (a1 : Int) (a2 : Int) (r : Bool) (w : World) (hr0 : Kd.C (Kd.int .u8) w A0 l0.length l0) (hc0 : l0.length ≤ c0) (h : le_Zeros.f k l0 a1 a2 = some r) :
    Calls Try.prog 72 #[.slice A0 l0.length c0, .int .i64 a1, .int .i64 a2] w fun e w' => e = .returned (.bool r) ∧ Below w.heap.size w w' := by
  have HR0 := Aside0.mk hr0
  have HC0 := Aside0.mk hc0
  clear hr0 hc0
  have HB := Aside0.mk (Below.refl w.heap.size w)
  have H : (le_Zeros.l0 k l0 a2 (mx a1 0)) = some r := h
  clear h
  obtain ⟨ji4, hji4⟩ : ∃ j_ : Int, (mx a1 0) = j_ := ⟨_, rfl⟩
  replace H : (le_Zeros.l0 k l0 a2 ji4) = some r := by first | (rw [hji4] at H; exact H) | (simp only [hji4] at H ⊢; exact H)
  (try (have hji4l : 0 ≤ ji4 := by (rw [← hji4]; unfold mx; (repeat' split) <;> omega)))
  (try (have hji4m : 0 ≤ ji4 := by omega))
  have hji4_ : (if a1 < 0 then 0 else a1) = ji4 := hji4
  have H' := Aside0.mk H
  clear H
  go_enter Try.func72, Try.ntmps72
  go_wp2
  go_loopg [7] k (fun kq v7 w' => ∃ (x7_1 : Int), v7 = .int .i64 x7_1 ∧ Aside0 (le_Zeros.l0 kq l0 a2 x7_1 = some r) ∧ Aside0 (kq ≤ k) ∧ Aside0 (Below w.heap.size w w'))
  case atStart => exact ⟨(ji4), (by first | rfl | (simp; done) | (simp only [← hji4] <;> (first | rfl | simp)) | (simp [*]; done)), H', ⟨Nat.le_refl _⟩, ⟨by repeat (first | (with_reducible first | exact HB.out | apply below_alloc | apply pw_below_drewN | apply below_drew1) | exact HB.out)⟩⟩
  case round =>
    clear H'
    try clear p2
    obtain ⟨x7_1, rfl, HA, HK1, HB⟩ := hrel
    cases gk with
    | zero => exact absurd HA.out (by simp [le_Zeros.l0])
    | succ k1 =>
      have H := HA.out
      clear HA
      simp only [le_Zeros.l0] at H
      obtain ⟨ji5, hji5⟩ : ∃ j_ : Int, (mn a2 (l0.length : Int)) = j_ := ⟨_, rfl⟩
      replace H : (if x7_1 < (ji5) then (if 0 ≤ x7_1 then (if x7_1 < (l0.length : Int) then (if (rd l0 x7_1) = 0 then (le_Zeros.l0 k1 l0 a2 (wrap64 (x7_1 + 1))) else (some false)) else (none)) else (none)) else (some true)) = some r := by first | (rw [hji5] at H; exact H) | (simp only [hji5] at H ⊢; exact H)
      have hji5_ : (if (l0.length : Int) < a2 then (l0.length : Int) else a2) = ji5 := hji5
      by_cases c6 : x7_1 < (ji5)
      · rw [if_pos c6] at H
        have c6b0 : decide (x7_1 < (ji5)) = true := decide_eq_true c6
        clear c6
        by_cases c7 : 0 ≤ x7_1
        · rw [if_pos c7] at H
          have c7b0 : decide (0 ≤ x7_1) = true := decide_eq_true c7
          clear c7
          by_cases c8 : x7_1 < (l0.length : Int)
          · rw [if_pos c8] at H
            have c8b0 : decide (x7_1 < (l0.length : Int)) = true := decide_eq_true c8
            clear c8
            by_cases c9 : (rd l0 x7_1) = 0
            · rw [if_pos c9] at H
              have c9b0 : ((rd l0 x7_1) == 0) = true := beq_iff_eq.mpr c9
              have c9b1 : ((rd l0 x7_1) != 0) = false := bne_eq_false_iff_eq.mpr c9
              clear c9
              have H' := Aside0.mk H
              clear H
              have p101 : 0 ≤ (x7_1 : Int) := of_decide_eq_true (by first | (with_reducible assumption) | assumption)
              have q101 : x7_1 < (l0.length : Int) := of_decide_eq_true (by first | (with_reducible assumption) | assumption)
              obtain ⟨ad101, e101, hx101_0⟩ := Kd.at_int HR0.out x7_1 p101 q101
              cases e101
              replace hx101_0 := (HB.out.cell (World.block_lt_of_cell? w _ hx101_0)).trans hx101_0
              replace p101 := eq_true p101
              replace q101 := eq_true q101
              go_wp2
              go_roundg k1
              case measure => have := HK1.out; omega
              case rel => exact ⟨(wrap64 (x7_1 + 1)), (by first | rfl | (simp; done) | (simp [*]; done)), H', ⟨by have := HK1.out; omega⟩, ⟨by repeat (first | (with_reducible first | exact HB.out | apply below_alloc | apply pw_below_drewN | apply below_drew1) | exact HB.out)⟩⟩
            · rw [if_neg c9] at H
              have c9b0 : ((rd l0 x7_1) == 0) = false := beq_eq_false_iff_ne.mpr c9
              have c9b1 : ((rd l0 x7_1) != 0) = true := bne_iff_ne.mpr c9
              obtain rfl := Option.some.inj H
              have p101 : 0 ≤ (x7_1 : Int) := of_decide_eq_true (by first | (with_reducible assumption) | assumption)
              have q101 : x7_1 < (l0.length : Int) := of_decide_eq_true (by first | (with_reducible assumption) | assumption)
              obtain ⟨ad101, e101, hx101_0⟩ := Kd.at_int HR0.out x7_1 p101 q101
              cases e101
              replace hx101_0 := (HB.out.cell (World.block_lt_of_cell? w _ hx101_0)).trans hx101_0
              replace p101 := eq_true p101
              replace q101 := eq_true q101
              go_wp2
              go_ret
              exact ⟨by first | rfl | (simp [errW_none, errW_some] <;> rfl) | (simp only [← hji4, ← hji5]; first | rfl | (simp [errW_none, errW_some] <;> rfl)) | (simp [*, errW_none, errW_some] <;> rfl), by repeat (first | (with_reducible first | exact HB.out | apply below_alloc | apply pw_below_drewN | apply below_drew1) | exact HB.out)⟩
          · rw [if_neg c8] at H
            exact absurd H (by simp)
        · rw [if_neg c7] at H
          exact absurd H (by simp)
      · rw [if_neg c6] at H
        have c6b0 : decide (x7_1 < (ji5)) = false := decide_eq_false c6
        clear c6
        obtain rfl := Option.some.inj H
        go_wp2
        go_ret
        exact ⟨by first | rfl | (simp [errW_none, errW_some] <;> rfl) | (simp only [← hji4, ← hji5]; first | rfl | (simp [errW_none, errW_some] <;> rfl)) | (simp [*, errW_none, errW_some] <;> rfl), by repeat (first | (with_reducible first | exact HB.out | apply below_alloc | apply pw_below_drewN | apply below_drew1) | exact HB.out)⟩

/-! ### le_Zeros: function 72, what it comes to -/
theorem zerosB_at (l : List Int) (a b : Nat) (h : a < b) (hl : a < l.length) : Blk.zerosB l a b = (l[a] == 0 && Blk.zerosB l (a + 1) b) := by
  unfold Blk.zerosB
  have h1 : a < (l.take b).length := by simp; omega
  rw [List.drop_eq_getElem_cons h1, List.all_cons, List.getElem_take]
theorem zerosB_end (l : List Int) (a b : Nat) (h : min b l.length ≤ a) : Blk.zerosB l a b = true := by
  unfold Blk.zerosB
  rw [List.drop_of_length_le (by simp; omega)]; rfl
theorem mn_nat (a b : Nat) : mn (a : Int) (b : Int) = ((min a b : Nat) : Int) := by unfold mn; split <;> omega
theorem le_Zeros_loop (l : List Int) (b : Nat) (hm : l.length ≤ 140737488355328) : ∀ (d k a : Nat), min b l.length - a ≤ d → d < k → le_Zeros.l0 k l (b : Int) (a : Int) = some (Blk.zerosB l a b) := by
  intro d
  induction d with
  | zero =>
    intro k a hd hk
    obtain ⟨k, rfl⟩ : ∃ m, k = m + 1 := ⟨k - 1, by omega⟩
    simp only [le_Zeros.l0]; rw [mn_nat, if_neg (by omega), zerosB_end l a b (by omega)]
  | succ d ih =>
    intro k a hd hk
    obtain ⟨k, rfl⟩ : ∃ m, k = m + 1 := ⟨k - 1, by omega⟩
    simp only [le_Zeros.l0]; rw [mn_nat]
    by_cases c : a < min b l.length
    · rw [if_pos (by omega), if_pos (by omega), if_pos (by omega), rd_nat l a (by omega), zerosB_at l a b (by omega) (by omega)]
      by_cases c0 : l[a]'(by omega) = 0
      · rw [if_pos c0, w64' (by omega) (by omega), c0]
        exact ih k (a + 1) (by omega) (by omega)
      · rw [if_neg c0, show (l[a]'(by omega) == 0) = false from beq_eq_false_iff_ne.2 c0]; rfl
    · rw [if_neg (by omega), zerosB_end l a b (by omega)]
/-- What le.Zeros tells. -/
theorem le_Zeros_ok (l : List Int) (a b : Nat) (hm : l.length ≤ 140737488355328) : ∃ k, le_Zeros.f k l (a : Int) (b : Int) = some (Blk.zerosB l a b) := by
  refine ⟨l.length + 1, ?_⟩
  unfold le_Zeros.f
  rw [show mx (a : Int) 0 = (a : Int) by unfold mx; split <;> omega]
  exact le_Zeros_loop l b hm l.length _ a (by omega) (by omega)

/-! ### super_Read: function 45 -/
def super_Read.l0 : Nat → List Int → List Int → Int → List (S95) → Int → Int → Option (List Int × Int)
  | 0, _, _, _, _, _, _ => none
  | k + 1, x0, x8, x9, x28, x29, x30 => if x30 < x29 then (if 0 ≤ x30 then (if x30 < (x28.length : Int) then ((le_Get.f k x0 ((rd_T95 x28 x30).f0) ((rd_T95 x28 x30).f1)).bind fun bt105 => (if bt105.2 = 0 then (if x8.length < 17592186044416 then (super_Read.l0 k x0 (x8 ++ [bt105.1]) (wrap64 (((rd_T95 x28 x30).f0) + ((rd_T95 x28 x30).f1))) x28 x29 (wrap64 (x30 + 1))) else (none)) else (some (([] : List Int), 1)))) else (none)) else (none)) else ((le_Zeros.f k x0 x9 60).bind fun t110 => (if t110 = true then (some (x8, 0)) else (some (([] : List Int), 1))))
def super_Read.f (k : Nat) (l0 : List Int) (a1 : ByteArray) (l2 : List (S95)) : Option (List Int × Int) := if (l0.length : Int) = 64 then (if 4 ≤ (l0.length : Int) then (if (strOfNums (l0.take 4)).toList = a1.toList then ((crc_Good.f k l0).bind fun t102 => (if t102 = true then (super_Read.l0 k l0 ([] : List Int) 4 l2 (l2.length : Int) 0) else (some (([] : List Int), 5)))) else (some (([] : List Int), 4))) else (none)) else (some (([] : List Int), 2))
theorem super_Read.mono_l : ∀ k, (∀ y0 y1 y2 y3 y4 y5, LeO (super_Read.l0 k y0 y1 y2 y3 y4 y5) (super_Read.l0 (k + 1) y0 y1 y2 y3 y4 y5))
  | 0 => fun _ _ _ _ _ _ r h => by simp [super_Read.l0] at h
  | k + 1 => by
    have ih0 := super_Read.mono_l k
    · intro y0 y1 y2 y3 y4 y5
      unfold super_Read.l0
      repeat' first
      | (with_reducible exact ih0 _ _ _ _ _ _)
      | (with_reducible exact crc_Good.mono _ _)
      | (with_reducible exact le_Get.mono _ _ _ _)
      | (with_reducible exact le_Zeros.mono _ _ _ _)
      | (with_reducible exact LeO.refl _)
      | (with_reducible exact LeO.none _)
      | (with_reducible refine LeO.ite ?_ ?_)
      | (with_reducible refine LeO.bind ?_ (fun _ => ?_))
      | exact ih0 _ _ _ _ _ _
      | exact crc_Good.mono _ _
      | exact le_Get.mono _ _ _ _
      | exact le_Zeros.mono _ _ _ _
      | exact LeO.none _
      | refine LeO.ite ?_ ?_
      | refine LeO.bind ?_ (fun _ => ?_)
theorem super_Read.mono : ∀ a0 a1 a2 k, LeO (super_Read.f k a0 a1 a2) (super_Read.f (k + 1) a0 a1 a2) := by
  intro a0 a1 a2 k
  have ih0 := super_Read.mono_l k
  unfold super_Read.f
  repeat' first
      | (with_reducible exact ih0 _ _ _ _ _ _)
      | (with_reducible exact crc_Good.mono _ _)
      | (with_reducible exact le_Get.mono _ _ _ _)
      | (with_reducible exact le_Zeros.mono _ _ _ _)
      | (with_reducible exact LeO.refl _)
      | (with_reducible exact LeO.none _)
      | (with_reducible refine LeO.ite ?_ ?_)
      | (with_reducible refine LeO.bind ?_ (fun _ => ?_))
      | exact ih0 _ _ _ _ _ _
      | exact crc_Good.mono _ _
      | exact le_Get.mono _ _ _ _
      | exact le_Zeros.mono _ _ _ _
      | exact LeO.none _
      | refine LeO.ite ?_ ?_
      | refine LeO.bind ?_ (fun _ => ?_)
set_option maxHeartbeats 8000000 in
set_option maxRecDepth 100000 in
theorem super_Read.calls (k : Nat) (A0 : Option Addr) (c0 : Nat) (l0 : List Int) (a1 : ByteArray) (A2 : Option Addr) (c2 : Nat) (l2 : List (S95)) (r1 : List Int) (r2 : Int) (w : World) (hr0 : Kd.C (Kd.int .u8) w A0 l0.length l0) (hc0 : l0.length ≤ c0) (hr2 : Kd.C k95 w A2 l2.length l2) (hc2 : l2.length ≤ c2) (h : super_Read.f k l0 a1 l2 = some (r1, r2)) :
    Calls Try.prog 45 #[.slice A0 l0.length c0, .string a1, .slice A2 l2.length c2] w fun e w' => ∃ v0_ : Value, e = .returned (.tuple #[v0_, .int .i64 r2]) ∧ Kd.R (Kd.int .i64) 3 w' w.heap.size (fun _ => True) v0_ r1 ∧ Below w.heap.size w w' := by
  have hu95 := Try.underlying95
  have HR0 := Aside0.mk hr0
  have HC0 := Aside0.mk hc0
  clear hr0 hc0
  have HR2 := Aside0.mk hr2
  have HC2 := Aside0.mk hc2
  clear hr2 hc2
  have HB := Aside0.mk (Below.refl w.heap.size w)
  have H : (if (l0.length : Int) = 64 then (if 4 ≤ (l0.length : Int) then (if (strOfNums (l0.take 4)).toList = a1.toList then ((crc_Good.f k l0).bind fun t102 => (if t102 = true then (super_Read.l0 k l0 ([] : List Int) 4 l2 (l2.length : Int) 0) else (some (([] : List Int), 5)))) else (some (([] : List Int), 4))) else (none)) else (some (([] : List Int), 2))) = some (r1, r2) := h
  clear h
  by_cases c4 : (l0.length : Int) = 64
  · rw [if_pos c4] at H
    have c4b0 : ((l0.length : Int) == 64) = true := beq_iff_eq.mpr c4
    have c4b1 : ((l0.length : Int) != 64) = false := bne_eq_false_iff_eq.mpr c4
    clear c4
    by_cases c5 : 4 ≤ (l0.length : Int)
    · rw [if_pos c5] at H
      have c5b0 := eq_true c5
      have c5b1 : decide (4 ≤ (l0.length : Int)) = true := decide_eq_true c5
      clear c5
      by_cases c6 : (strOfNums (l0.take 4)).toList = a1.toList
      · rw [if_pos c6] at H
        have c6b0 : ((strOfNums (l0.take 4)).toList == a1.toList) = true := beq_iff_eq.mpr c6
        have c6b1 : ((strOfNums (l0.take 4)).toList != a1.toList) = false := bne_eq_false_iff_eq.mpr c6
        clear c6
        replace H := Option.bind_eq_some_iff.mp H
        obtain ⟨t102, A70, H⟩ := H
        replace H : (if t102 = true then (super_Read.l0 k l0 ([] : List Int) 4 l2 (l2.length : Int) 0) else (some (([] : List Int), 5))) = some (r1, r2) := H
        have A7 := Aside0.mk A70
        clear A70
        by_cases c8 : t102 = true
        · subst c8
          have H1 : (super_Read.l0 k l0 ([] : List Int) 4 l2 (l2.length : Int) 0) = some (r1, r2) := by rw [if_pos rfl] at H; exact H
          clear H
          have H := H1
          clear H1
          have H' := Aside0.mk H
          clear H
          obtain ⟨i09, hi09, _, hsz9, _⟩ := info_parts info5
          obtain ⟨hcut9, hA9, hC9⟩ := print_take_of (P := Try.prog) (Value.int .u8) 0 24 5 .i64 Try.underlying24 hi09 hsz9 A0 c0 l0 4 (by omega) (of_decide_eq_true (by first | (with_reducible assumption) | assumption)) HC0.out
          have HR101 := Aside0.mk (Kd.C_of_reads (h1 := fun _ => rfl) (hA9 _ (Kd.reads_of_C HR0.out)))
          have HC101 := Aside0.mk hC9
          clear hA9 hC9 hi09 hsz9
          have hcv10 := Kd.C_string (P := Try.prog) (A := A0) (c := c0) Try.underlying24 Try.underlying5 Try.underlying9 HR101.out
          try simp only [Int.reduceToNat, List.length_take] at hcv10
          go_enter Try.func45, Try.ntmps45
          go_wp2_with (first | ((with_reducible refine gate_callee (f := 70) rfl ?_); refine goesL_ (some 26) rfl rfl Try.func70 (by kernel_rfl) rfl #[.slice A0 l0.length c0] rfl (by (try simp only [List.map_toArray, List.map_cons, List.map_nil]); first | done | rfl | (simp only [List.length_drop, List.length_take]; rfl)) ?_; (with_reducible refine (crc_Good.calls k _ _ l0 true _ ?side1 ?side2 A7.out).mono ?_); (case side1 => repeat (first | exact HR0.out | (with_reducible refine Kd.C_alloc ?_ _) | (with_reducible refine Kd.C_drewN ?_ _) | (with_reducible refine Kd.C_drew ?_))); (case side2 => exact HC0.out); rintro e w' ⟨rfl, ⟨nd, rfl⟩⟩; refine ⟨_, rfl, ?_⟩))
          go_loopg [8, 9, 30] k (fun kq v8 v9 v30 w' => ∃ (x8_1 : List Int) (x9_1 : Int) (x30_1 : Int), v9 = .int .i64 x9_1 ∧ v30 = .int .i64 x30_1 ∧ Aside0 (super_Read.l0 kq l0 x8_1 x9_1 l2 (l2.length : Int) x30_1 = some (r1, r2)) ∧ Aside0 (kq ≤ k) ∧ Aside0 (Kd.R (Kd.int .i64) 3 w' w.heap.size (fun _ => True) v8 x8_1) ∧ Aside0 (Below w.heap.size w w'))
          case atStart => exact ⟨(([] : List Int)), (4), (0), (by first | rfl | (simp; done) | (simp [*]; done)), (by first | rfl | (simp; done) | (simp [*]; done)), H', ⟨Nat.le_refl _⟩, ⟨by first | exact Kd.R_nil _ _ _ _ _ | exact Kd.N_nil _ _ _ _ _ | exact Kd.V_nil _ _ _ _ _ | exact Kd.Q_nil _ _ _ _ _ | exact Kd.S_nil _ _ _ _ _⟩, ⟨by repeat (first | (with_reducible first | exact HB.out | apply below_alloc | apply pw_below_drewN | apply below_drew1) | exact HB.out)⟩⟩
          case round =>
            clear H'
            try clear hcv1
            try clear c2
            try clear p2
            try clear c4
            try clear c4b0
            try clear c4b1
            try clear c5
            try clear c5b0
            try clear c5b1
            try clear c6
            try clear c6b0
            try clear c6b1
            try clear c7
            try clear c8
            try clear hcv10
            obtain ⟨x8_1, x9_1, x30_1, rfl, rfl, HA, HK1, HO_8, HB⟩ := hrel
            cases gk with
            | zero => exact absurd HA.out (by simp [super_Read.l0])
            | succ k1 =>
              have H := HA.out
              clear HA
              simp only [super_Read.l0] at H
              by_cases c11 : x30_1 < (l2.length : Int)
              · rw [if_pos c11] at H
                have c11b0 : decide (x30_1 < (l2.length : Int)) = true := decide_eq_true c11
                clear c11
                by_cases c12 : 0 ≤ x30_1
                · rw [if_pos c12] at H
                  have c12b0 : decide (0 ≤ x30_1) = true := decide_eq_true c12
                  clear c12
                  by_cases c13 : x30_1 < (l2.length : Int)
                  · rw [if_pos c13] at H
                    have c13b0 : decide (x30_1 < (l2.length : Int)) = true := decide_eq_true c13
                    clear c13
                    replace H := Option.bind_eq_some_iff.mp H
                    obtain ⟨⟨t105, t106⟩, A140, H⟩ := H
                    replace H : (if t106 = 0 then (if x8_1.length < 17592186044416 then (super_Read.l0 k1 l0 (x8_1 ++ [t105]) (wrap64 (((rd_T95 l2 x30_1).f0) + ((rd_T95 l2 x30_1).f1))) l2 (l2.length : Int) (wrap64 (x30_1 + 1))) else (none)) else (some (([] : List Int), 1))) = some (r1, r2) := H
                    have A14 := Aside0.mk A140
                    clear A140
                    by_cases c15 : t106 = 0
                    · rw [if_pos c15] at H
                      have c15b0 : (t106 == 0) = true := beq_iff_eq.mpr c15
                      have c15b1 : (t106 != 0) = false := bne_eq_false_iff_eq.mpr c15
                      clear c15
                      by_cases c16 : x8_1.length < 17592186044416
                      · rw [if_pos c16] at H
                        have LMc16 := Aside0.mk c16
                        clear c16
                        obtain ⟨y107, hy107⟩ : ∃ y_ : List Int, y_ = (x8_1 ++ [t105]) := ⟨_, rfl⟩
                        replace H : (super_Read.l0 k1 l0 y107 (wrap64 (((rd_T95 l2 x30_1).f0) + ((rd_T95 l2 x30_1).f1))) l2 (l2.length : Int) (wrap64 (x30_1 + 1))) = some (r1, r2) := by first | (rw [hy107]; with_reducible exact H) | (have H2_ := (Option.bind_some _ _).symm.trans H; rw [hy107]; with_reducible exact H2_) | (have H2_ := (Option.bind_some _ _).symm.trans H; with_reducible exact H2_) | with_reducible exact H | (rw [hy107]; exact H) | exact H
                        have Ny107 := Aside0.mk hy107
                        clear hy107
                        have H' := Aside0.mk H
                        clear H
                        have p103 : 0 ≤ (x30_1 : Int) := of_decide_eq_true (by first | (with_reducible assumption) | assumption)
                        have q103 : x30_1 < (l2.length : Int) := of_decide_eq_true (by first | (with_reducible assumption) | assumption)
                        obtain ⟨ad103, e103, hx103_0, hx103_1⟩ := at_T95 HR2.out x30_1 p103 q103
                        cases e103
                        replace hx103_0 := (HB.out.cell (World.block_lt_of_cell? w _ hx103_0)).trans hx103_0
                        replace hx103_1 := (HB.out.cell (World.block_lt_of_cell? w _ hx103_1)).trans hx103_1
                        replace p103 := eq_true p103
                        replace q103 := eq_true q103
                        go_wp2_with (first | ((with_reducible refine gate_dst (N := 11) rfl ?_); refine box_event ?hg (N := 11) ?hd (cs := #[.int .i64 0, .int .i64 0]) (t := 95) ?hr ?_; (case hd => rfl); (case hg => rfl); (case hr => first | (go_simp; done) | (go_simp; rfl)); intro gb104 hg w17 hbox hb; have n0_ := Aside0.mk (Kd.R_below (by (with_reducible repeat (first | apply Kd.R_alloc | apply Kd.R_drewN | apply Kd.R_drew)); exact HO_8.out) hb); have n1_ := Aside0.mk (below_step (by repeat (first | (with_reducible first | exact HB.out | apply below_alloc | apply pw_below_drewN | apply below_drew1) | exact HB.out)) hb); have n2_ := Aside0.mk (hbox); have n3_ := Aside0.mk ((by rw [hg]; exact (below_size (by repeat (first | (with_reducible first | exact HB.out | apply below_alloc | apply pw_below_drewN | apply below_drew1) | exact HB.out))) : w.heap.size ≤ gb104)); have n4_ := Aside0.mk ((by rw [hg]; exact (below_size (by repeat (first | (with_reducible first | exact HB.out | apply below_alloc | apply pw_below_drewN | apply below_drew1) | exact HB.out))) : w.heap.size ≤ gb104)); clear HO_8; clear HB; have HO_8 := n0_; have HB := n1_; have BK104 := n2_; have GW104 := n3_; have GE104 := n4_; clear n0_ n1_ n2_ n3_ n4_; clear hb hbox hg; have hcz18_0 : w17.cell? ⟨gb104, 0, none⟩ = some (.int .i64 0) := (blk_cell BK104.out 0).trans rfl; have hcz18_1 : w17.cell? ⟨gb104, 1, none⟩ = some (.int .i64 0) := (blk_cell BK104.out 1).trans rfl; have hfz18_0 := blk_frozen BK104.out 0; have hfz18_1 := blk_frozen BK104.out 1) | ((with_reducible refine gate_callee (f := 71) rfl ?_); refine goesL_ (some 40) rfl rfl Try.func71 (by kernel_rfl) rfl #[.slice A0 l0.length c0, .int .i64 ((rd_T95 l2 x30_1).f0), .int .i64 ((rd_T95 l2 x30_1).f1)] rfl (by (try simp only [List.map_toArray, List.map_cons, List.map_nil]); first | done | rfl | (simp only [List.length_drop, List.length_take]; rfl)) ?_; (with_reducible refine (le_Get.calls k1 _ _ l0 ((rd_T95 l2 x30_1).f0) ((rd_T95 l2 x30_1).f1) t105 t106 _ ?side1 ?side2 A14.out).mono ?_); (case side1 => exact Kd.C_below HR0.out (by repeat (first | (with_reducible first | exact HB.out | apply below_alloc | apply pw_below_drewN | apply below_drew1 | refine below_set ?_ GE104.out) | exact HB.out))); (case side2 => exact HC0.out); rintro e w' ⟨rfl, ⟨nd, rfl⟩⟩; refine ⟨_, rfl, ?_⟩) | ((with_reducible refine gate_builtin (b := .append) (xs := #[.tmp 45, .tmp 47]) rfl ?_); at_builtin; refine Kd.R_append (Kd.int .i64) (w0 := w) w.heap.size rfl (.tmp 45) (.tmp 47) 80 3 (.int .i64 0) 8 rfl Try.underlying80 info3 rfl (by decide) (by omega) u8 x8_1 t105 [.int .i64 t105] (fun _ => True) (fun _ => False) rfl (by first | (go_simp; done) | (go_simp; rfl)) ?aP (fun _ hk => hk.elim) ?aF ?aO ?aB ?aS ?aL ?_; (case aP => exact rfl); (case aB => exact (by repeat (first | (with_reducible first | exact HB.out | apply below_alloc | apply pw_below_drewN | apply below_drew1 | refine below_set ?_ GE104.out) | exact HB.out))); (case aF => exact (fun _ _ => trivial)); (case aO => exact (by (with_reducible repeat (first | apply Kd.R_alloc | apply Kd.R_drewN | apply Kd.R_drew)); exact Kd.R_mono (Kd.R_far (p := ⟨gb104, 1, none⟩) (Kd.R_far (p := ⟨gb104, 0, none⟩) (Kd.R_types HO_8.out BK104.out (by decide)) (fun _ hk => hk.2) (.int .i64 ((rd_T95 l2 x30_1).f0))) (fun _ hk => hk.2) (.int .i64 ((rd_T95 l2 x30_1).f1))) (fun _ hk => trivial))); (case aS => exact (below_size (by repeat (first | (with_reducible first | exact HB.out | apply below_alloc | apply pw_below_drewN | apply below_drew1 | refine below_set ?_ GE104.out) | exact HB.out)))); (case aL => have := LMc16.out; omega); intro v108 w19 ho hb hg hat; rw [← Ny107.out] at ho; have n0_ := Aside0.mk (blk_grown (g := gb104) (o := .cells #[.int .i64 ((rd_T95 l2 x30_1).f0), .int .i64 ((rd_T95 l2 x30_1).f1)] 95 (0, 0)) (by (with_reducible repeat (first | refine blk_drewN ?_ _ | refine blk_drew ?_ | refine blk_alloc ?_ _)); refine blk_put (cs := #[.int .i64 ((rd_T95 l2 x30_1).f0), .int .i64 0]) ?_ 1 _ rfl; (with_reducible repeat (first | refine blk_drewN ?_ _ | refine blk_drew ?_ | refine blk_alloc ?_ _)); refine blk_put (cs := #[.int .i64 0, .int .i64 0]) ?_ 0 _ rfl; (with_reducible repeat (first | refine blk_drewN ?_ _ | refine blk_drew ?_ | refine blk_alloc ?_ _)); exact BK104.out) hg (Kd.R_ne HO_8.out BK104.out (by decide))); have n1_ := Aside0.mk (hb); have n2_ := Aside0.mk (ho); clear BK104; clear HB; clear HO_8; have BK104 := n0_; have HB := n1_; have HO109 := n2_; clear n0_ n1_ n2_; clear ho hb hg hat; have hcz20_0 : w19.cell? ⟨gb104, 0, none⟩ = some (.int .i64 ((rd_T95 l2 x30_1).f0)) := (blk_cell BK104.out 0).trans rfl; have hcz20_1 : w19.cell? ⟨gb104, 1, none⟩ = some (.int .i64 ((rd_T95 l2 x30_1).f1)) := (blk_cell BK104.out 1).trans rfl; have hfz20_0 := blk_frozen BK104.out 0; have hfz20_1 := blk_frozen BK104.out 1))
                        go_roundg k1
                        case measure => have := HK1.out; omega
                        case rel => exact ⟨(y107), (wrap64 (((rd_T95 l2 x30_1).f0) + ((rd_T95 l2 x30_1).f1))), (wrap64 (x30_1 + 1)), (by first | rfl | (simp; done) | (simp [*]; done)), (by first | rfl | (simp; done) | (simp [*]; done)), H', ⟨by have := HK1.out; omega⟩, ⟨by (with_reducible repeat (first | apply Kd.R_alloc | apply Kd.R_drewN | apply Kd.R_drew)); exact HO109.out⟩, ⟨by repeat (first | (with_reducible first | exact HB.out | apply below_alloc | apply pw_below_drewN | apply below_drew1 | refine below_set ?_ GE104.out) | exact HB.out)⟩⟩
                      · rw [if_neg c16] at H
                        exact absurd H (by simp)
                    · rw [if_neg c15] at H
                      have c15b0 : (t106 == 0) = false := beq_eq_false_iff_ne.mpr c15
                      have c15b1 : (t106 != 0) = true := bne_iff_ne.mpr c15
                      simp only [Option.some.injEq, Prod.mk.injEq] at H
                      obtain ⟨rfl, rfl⟩ := H
                      have p103 : 0 ≤ (x30_1 : Int) := of_decide_eq_true (by first | (with_reducible assumption) | assumption)
                      have q103 : x30_1 < (l2.length : Int) := of_decide_eq_true (by first | (with_reducible assumption) | assumption)
                      obtain ⟨ad103, e103, hx103_0, hx103_1⟩ := at_T95 HR2.out x30_1 p103 q103
                      cases e103
                      replace hx103_0 := (HB.out.cell (World.block_lt_of_cell? w _ hx103_0)).trans hx103_0
                      replace hx103_1 := (HB.out.cell (World.block_lt_of_cell? w _ hx103_1)).trans hx103_1
                      replace p103 := eq_true p103
                      replace q103 := eq_true q103
                      go_wp2_with (first | ((with_reducible refine gate_dst (N := 11) rfl ?_); refine box_event ?hg (N := 11) ?hd (cs := #[.int .i64 0, .int .i64 0]) (t := 95) ?hr ?_; (case hd => rfl); (case hg => rfl); (case hr => first | (go_simp; done) | (go_simp; rfl)); intro gb104 hg w21 hbox hb; have n0_ := Aside0.mk (Kd.R_below (by (with_reducible repeat (first | apply Kd.R_alloc | apply Kd.R_drewN | apply Kd.R_drew)); exact HO_8.out) hb); have n1_ := Aside0.mk (below_step (by repeat (first | (with_reducible first | exact HB.out | apply below_alloc | apply pw_below_drewN | apply below_drew1) | exact HB.out)) hb); have n2_ := Aside0.mk (hbox); have n3_ := Aside0.mk ((by rw [hg]; exact (below_size (by repeat (first | (with_reducible first | exact HB.out | apply below_alloc | apply pw_below_drewN | apply below_drew1) | exact HB.out))) : w.heap.size ≤ gb104)); have n4_ := Aside0.mk ((by rw [hg]; exact (below_size (by repeat (first | (with_reducible first | exact HB.out | apply below_alloc | apply pw_below_drewN | apply below_drew1) | exact HB.out))) : w.heap.size ≤ gb104)); clear HO_8; clear HB; have HO_8 := n0_; have HB := n1_; have BK104 := n2_; have GW104 := n3_; have GE104 := n4_; clear n0_ n1_ n2_ n3_ n4_; clear hb hbox hg; have hcz22_0 : w21.cell? ⟨gb104, 0, none⟩ = some (.int .i64 0) := (blk_cell BK104.out 0).trans rfl; have hcz22_1 : w21.cell? ⟨gb104, 1, none⟩ = some (.int .i64 0) := (blk_cell BK104.out 1).trans rfl; have hfz22_0 := blk_frozen BK104.out 0; have hfz22_1 := blk_frozen BK104.out 1) | ((with_reducible refine gate_callee (f := 71) rfl ?_); refine goesL_ (some 40) rfl rfl Try.func71 (by kernel_rfl) rfl #[.slice A0 l0.length c0, .int .i64 ((rd_T95 l2 x30_1).f0), .int .i64 ((rd_T95 l2 x30_1).f1)] rfl (by (try simp only [List.map_toArray, List.map_cons, List.map_nil]); first | done | rfl | (simp only [List.length_drop, List.length_take]; rfl)) ?_; (with_reducible refine (le_Get.calls k1 _ _ l0 ((rd_T95 l2 x30_1).f0) ((rd_T95 l2 x30_1).f1) t105 t106 _ ?side1 ?side2 A14.out).mono ?_); (case side1 => exact Kd.C_below HR0.out (by repeat (first | (with_reducible first | exact HB.out | apply below_alloc | apply pw_below_drewN | apply below_drew1 | refine below_set ?_ GE104.out) | exact HB.out))); (case side2 => exact HC0.out); rintro e w' ⟨rfl, ⟨nd, rfl⟩⟩; refine ⟨_, rfl, ?_⟩))
                      go_ret2
                      exact ⟨_, by first | rfl | (simp [errW_none, errW_some] <;> rfl) | (simp [*, errW_none, errW_some] <;> rfl), by first | exact Kd.R_nil _ _ _ _ _ | exact Kd.N_nil _ _ _ _ _ | exact Kd.V_nil _ _ _ _ _ | exact Kd.Q_nil _ _ _ _ _ | exact Kd.S_nil _ _ _ _ _, by repeat (first | (with_reducible first | exact HB.out | apply below_alloc | apply pw_below_drewN | apply below_drew1 | refine below_set ?_ GE104.out) | exact HB.out)⟩
                  · rw [if_neg c13] at H
                    exact absurd H (by simp)
                · rw [if_neg c12] at H
                  exact absurd H (by simp)
              · rw [if_neg c11] at H
                have c11b0 : decide (x30_1 < (l2.length : Int)) = false := decide_eq_false c11
                clear c11
                replace H := Option.bind_eq_some_iff.mp H
                obtain ⟨t110, A230, H⟩ := H
                replace H : (if t110 = true then (some (x8_1, 0)) else (some (([] : List Int), 1))) = some (r1, r2) := H
                have A23 := Aside0.mk A230
                clear A230
                by_cases c24 : t110 = true
                · subst c24
                  have H1 : (some (x8_1, 0)) = some (r1, r2) := by rw [if_pos rfl] at H; exact H
                  clear H
                  have H := H1
                  clear H1
                  simp only [Option.some.injEq, Prod.mk.injEq] at H
                  obtain ⟨rfl, rfl⟩ := H
                  go_wp2_with (first | ((with_reducible refine gate_callee (f := 72) rfl ?_); refine goesL_ (some 57) rfl rfl Try.func72 (by kernel_rfl) rfl #[.slice A0 l0.length c0, .int .i64 x9_1, .int .i64 60] rfl (by (try simp only [List.map_toArray, List.map_cons, List.map_nil]); first | done | rfl | (simp only [List.length_drop, List.length_take]; rfl)) ?_; (with_reducible refine (le_Zeros.calls k1 _ _ l0 x9_1 60 true _ ?side1 ?side2 A23.out).mono ?_); (case side1 => repeat (first | exact (Kd.C_below HR0.out HB.out) | (with_reducible refine Kd.C_alloc ?_ _) | (with_reducible refine Kd.C_drewN ?_ _) | (with_reducible refine Kd.C_drew ?_))); (case side2 => exact HC0.out); rintro e w25 ⟨rfl, hb⟩; refine ⟨_, rfl, ?_⟩; have n0_ := Aside0.mk (Kd.R_below (by (with_reducible repeat (first | apply Kd.R_alloc | apply Kd.R_drewN | apply Kd.R_drew)); exact HO_8.out) hb); have n1_ := Aside0.mk (below_step (by repeat (first | (with_reducible first | exact HB.out | apply below_alloc | apply pw_below_drewN | apply below_drew1) | exact HB.out)) hb); clear HO_8; clear HB; have HO_8 := n0_; have HB := n1_; clear n0_ n1_; (try clear hb); (try clear hb2); (try clear hk); (try clear hi)))
                  go_ret2
                  exact ⟨_, by first | rfl | (simp [errW_none, errW_some] <;> rfl) | (simp [*, errW_none, errW_some] <;> rfl), by (with_reducible repeat (first | apply Kd.R_alloc | apply Kd.R_drewN | apply Kd.R_drew)); exact HO_8.out, by repeat (first | (with_reducible first | exact HB.out | apply below_alloc | apply pw_below_drewN | apply below_drew1) | exact HB.out)⟩
                · replace c24 := Bool.eq_false_iff.mpr c24
                  subst c24
                  have H1 : (some (([] : List Int), 1)) = some (r1, r2) := by rw [if_neg (show ¬ (false = true) by decide)] at H; exact H
                  clear H
                  have H := H1
                  clear H1
                  simp only [Option.some.injEq, Prod.mk.injEq] at H
                  obtain ⟨rfl, rfl⟩ := H
                  go_wp2_with (first | ((with_reducible refine gate_callee (f := 72) rfl ?_); refine goesL_ (some 57) rfl rfl Try.func72 (by kernel_rfl) rfl #[.slice A0 l0.length c0, .int .i64 x9_1, .int .i64 60] rfl (by (try simp only [List.map_toArray, List.map_cons, List.map_nil]); first | done | rfl | (simp only [List.length_drop, List.length_take]; rfl)) ?_; (with_reducible refine (le_Zeros.calls k1 _ _ l0 x9_1 60 false _ ?side1 ?side2 A23.out).mono ?_); (case side1 => repeat (first | exact (Kd.C_below HR0.out HB.out) | (with_reducible refine Kd.C_alloc ?_ _) | (with_reducible refine Kd.C_drewN ?_ _) | (with_reducible refine Kd.C_drew ?_))); (case side2 => exact HC0.out); rintro e w26 ⟨rfl, hb⟩; refine ⟨_, rfl, ?_⟩; have n0_ := Aside0.mk (Kd.R_below (by (with_reducible repeat (first | apply Kd.R_alloc | apply Kd.R_drewN | apply Kd.R_drew)); exact HO_8.out) hb); have n1_ := Aside0.mk (below_step (by repeat (first | (with_reducible first | exact HB.out | apply below_alloc | apply pw_below_drewN | apply below_drew1) | exact HB.out)) hb); clear HO_8; clear HB; have HO_8 := n0_; have HB := n1_; clear n0_ n1_; (try clear hb); (try clear hb2); (try clear hk); (try clear hi)))
                  go_ret2
                  exact ⟨_, by first | rfl | (simp [errW_none, errW_some] <;> rfl) | (simp [*, errW_none, errW_some] <;> rfl), by first | exact Kd.R_nil _ _ _ _ _ | exact Kd.N_nil _ _ _ _ _ | exact Kd.V_nil _ _ _ _ _ | exact Kd.Q_nil _ _ _ _ _ | exact Kd.S_nil _ _ _ _ _, by repeat (first | (with_reducible first | exact HB.out | apply below_alloc | apply pw_below_drewN | apply below_drew1) | exact HB.out)⟩
        · replace c8 := Bool.eq_false_iff.mpr c8
          subst c8
          have H1 : (some (([] : List Int), 5)) = some (r1, r2) := by rw [if_neg (show ¬ (false = true) by decide)] at H; exact H
          clear H
          have H := H1
          clear H1
          simp only [Option.some.injEq, Prod.mk.injEq] at H
          obtain ⟨rfl, rfl⟩ := H
          obtain ⟨i027, hi027, _, hsz27, _⟩ := info_parts info5
          obtain ⟨hcut27, hA27, hC27⟩ := print_take_of (P := Try.prog) (Value.int .u8) 0 24 5 .i64 Try.underlying24 hi027 hsz27 A0 c0 l0 4 (by omega) (of_decide_eq_true (by first | (with_reducible assumption) | assumption)) HC0.out
          have HR101 := Aside0.mk (Kd.C_of_reads (h1 := fun _ => rfl) (hA27 _ (Kd.reads_of_C HR0.out)))
          have HC101 := Aside0.mk hC27
          clear hA27 hC27 hi027 hsz27
          have hcv28 := Kd.C_string (P := Try.prog) (A := A0) (c := c0) Try.underlying24 Try.underlying5 Try.underlying9 HR101.out
          try simp only [Int.reduceToNat, List.length_take] at hcv28
          go_enter Try.func45, Try.ntmps45
          go_wp2_with (first | ((with_reducible refine gate_callee (f := 70) rfl ?_); refine goesL_ (some 26) rfl rfl Try.func70 (by kernel_rfl) rfl #[.slice A0 l0.length c0] rfl (by (try simp only [List.map_toArray, List.map_cons, List.map_nil]); first | done | rfl | (simp only [List.length_drop, List.length_take]; rfl)) ?_; (with_reducible refine (crc_Good.calls k _ _ l0 false _ ?side1 ?side2 A7.out).mono ?_); (case side1 => repeat (first | exact HR0.out | (with_reducible refine Kd.C_alloc ?_ _) | (with_reducible refine Kd.C_drewN ?_ _) | (with_reducible refine Kd.C_drew ?_))); (case side2 => exact HC0.out); rintro e w' ⟨rfl, ⟨nd, rfl⟩⟩; refine ⟨_, rfl, ?_⟩))
          go_ret2
          exact ⟨_, by first | rfl | (simp [errW_none, errW_some] <;> rfl) | (simp [*, errW_none, errW_some] <;> rfl), by first | exact Kd.R_nil _ _ _ _ _ | exact Kd.N_nil _ _ _ _ _ | exact Kd.V_nil _ _ _ _ _ | exact Kd.Q_nil _ _ _ _ _ | exact Kd.S_nil _ _ _ _ _, by repeat (first | (with_reducible first | exact HB.out | apply below_alloc | apply pw_below_drewN | apply below_drew1) | exact HB.out)⟩
      · rw [if_neg c6] at H
        have c6b0 : ((strOfNums (l0.take 4)).toList == a1.toList) = false := beq_eq_false_iff_ne.mpr c6
        have c6b1 : ((strOfNums (l0.take 4)).toList != a1.toList) = true := bne_iff_ne.mpr c6
        simp only [Option.some.injEq, Prod.mk.injEq] at H
        obtain ⟨rfl, rfl⟩ := H
        obtain ⟨i029, hi029, _, hsz29, _⟩ := info_parts info5
        obtain ⟨hcut29, hA29, hC29⟩ := print_take_of (P := Try.prog) (Value.int .u8) 0 24 5 .i64 Try.underlying24 hi029 hsz29 A0 c0 l0 4 (by omega) (of_decide_eq_true (by first | (with_reducible assumption) | assumption)) HC0.out
        have HR101 := Aside0.mk (Kd.C_of_reads (h1 := fun _ => rfl) (hA29 _ (Kd.reads_of_C HR0.out)))
        have HC101 := Aside0.mk hC29
        clear hA29 hC29 hi029 hsz29
        have hcv30 := Kd.C_string (P := Try.prog) (A := A0) (c := c0) Try.underlying24 Try.underlying5 Try.underlying9 HR101.out
        try simp only [Int.reduceToNat, List.length_take] at hcv30
        go_enter Try.func45, Try.ntmps45
        go_wp2
        go_ret2
        exact ⟨_, by first | rfl | (simp [errW_none, errW_some] <;> rfl) | (simp [*, errW_none, errW_some] <;> rfl), by first | exact Kd.R_nil _ _ _ _ _ | exact Kd.N_nil _ _ _ _ _ | exact Kd.V_nil _ _ _ _ _ | exact Kd.Q_nil _ _ _ _ _ | exact Kd.S_nil _ _ _ _ _, by repeat (first | (with_reducible first | exact HB.out | apply below_alloc | apply pw_below_drewN | apply below_drew1) | exact HB.out)⟩
    · rw [if_neg c5] at H
      exact absurd H (by simp)
  · rw [if_neg c4] at H
    have c4b0 : ((l0.length : Int) == 64) = false := beq_eq_false_iff_ne.mpr c4
    have c4b1 : ((l0.length : Int) != 64) = true := bne_iff_ne.mpr c4
    simp only [Option.some.injEq, Prod.mk.injEq] at H
    obtain ⟨rfl, rfl⟩ := H
    go_enter Try.func45, Try.ntmps45
    go_wp2
    go_ret2
    exact ⟨_, by first | rfl | (simp [errW_none, errW_some] <;> rfl) | (simp [*, errW_none, errW_some] <;> rfl), by first | exact Kd.R_nil _ _ _ _ _ | exact Kd.N_nil _ _ _ _ _ | exact Kd.V_nil _ _ _ _ _ | exact Kd.Q_nil _ _ _ _ _ | exact Kd.S_nil _ _ _ _ _, by repeat (first | (with_reducible first | exact HB.out | apply below_alloc | apply pw_below_drewN | apply below_drew1) | exact HB.out)⟩

/-! ### super_Read: function 45, what it comes to -/
theorem strOf_eq (l : List Int) (m : ByteArray) (hb : ∀ x ∈ l, 0 ≤ x ∧ x < 256) : (strOfNums l).toList = m.toList ↔ l = bytesOf m := by
  rw [ByteArray.toList_eq, ByteArray.toList_eq]
  unfold strOfNums bytesOf
  simp only
  constructor
  · intro h
    have h2 := congrArg (List.map (fun b : UInt8 => (b.toNat : Int))) h
    rw [List.map_map] at h2
    rw [← h2]
    conv => lhs; rw [← List.map_id l]
    apply List.map_congr_left
    intro x hx
    have := hb x hx
    simp only [id, Function.comp]
    rw [UInt8.toNat_ofNat']; omega
  · intro h
    rw [h, List.map_map]
    conv => rhs; rw [← List.map_id m.data.toList]
    apply List.map_congr_left
    intro x hx
    simp only [id, Function.comp, Int.toNat_natCast]
    exact UInt8.ofNat_toNat
theorem okSizes_at {l : List S95} (h : l.all (fun x => x.f1 == 4 || x.f1 == 8) = true) {k : Nat} (hk : k < l.length) : l[k].f1 = 4 ∨ l[k].f1 = 8 := by
  have := List.all_eq_true.1 h l[k] (List.getElem_mem hk)
  simpa using this
theorem okSizes_len : ∀ {l : List S95}, l.all (fun x => x.f1 == 4 || x.f1 == 8) = true → l.length ≤ (sizesOf l).sum := by
  intro l
  induction l with
  | nil => intro _; exact Nat.le_refl _
  | cons x t ih =>
    intro h
    rw [List.all_cons, Bool.and_eq_true] at h
    have h1 := ih h.2
    have h2 := h.1
    simp only [Bool.or_eq_true, beq_iff_eq] at h2
    simp only [sizesOf, List.map_cons, List.sum_cons, List.length_cons] at h1 ⊢
    omega
def numAll (l : List Int) : Bool := l.all (fun n => decide (n ≤ Blk.maxId))
theorem numAll_cons (x : Int) (l : List Int) : numAll (x :: l) = (decide (x ≤ Blk.maxId) && numAll l) := rfl
theorem super_Read_loop (b : List Int) (h : b.length = 64) (hb : ∀ x ∈ b, 0 ≤ x ∧ x < 256) (f : List S95) (hl : isLay 4 f = true) (hs : f.all (fun x => x.f1 == 4 || x.f1 == 8) = true) :
    ∀ (d i : Nat) (acc : List Int) (e : Nat), i + d = f.length → acc.length = i → e = 4 + (sizesOf (f.take i)).sum → ∃ k, super_Read.l0 k b acc (e : Int) f (f.length : Int) (i : Int) =
      some (if (numAll (Blk.numsB (sizesOf (f.drop i)) (b.drop e)) && Blk.zerosB b (4 + (sizesOf f).sum) 60) = true then (acc ++ Blk.numsB (sizesOf (f.drop i)) (b.drop e), (0 : Int)) else ([], (1 : Int))) := by
  have hsum := isLay_sum _ _ hl
  have hfl := okSizes_len hs
  intro d
  induction d with
  | zero =>
    intro i acc e hi ha he
    obtain ⟨k, hk⟩ := le_Zeros_ok b e 60 (by omega)
    refine ⟨k + 1, ?_⟩
    simp only [super_Read.l0]
    have hd : f.drop i = [] := List.drop_of_length_le (by omega)
    have ht : f.take i = f := List.take_of_length_le (by omega)
    rw [ht] at he
    subst he
    rw [if_neg (by omega)]
    have e60 : ((60 : Nat) : Int) = 60 := rfl
    rw [e60] at hk
    rw [at_rounds (fun k => le_Zeros.mono _ _ _ k) (Nat.le_refl k) hk, hd]
    simp only [Option.bind_some, sizesOf, List.map_nil, Blk.numsB, List.append_nil]
    cases Blk.zerosB b (4 + (List.map (fun x => x.f1.toNat) f).sum) 60 <;> rfl
  | succ d ih =>
    intro i acc e hi ha he
    have hlt : i < f.length := by omega
    obtain ⟨h0, h1, h2, h3⟩ := isLay_at _ _ hl i hlt
    have hsz := okSizes_at hs hlt
    obtain ⟨s, hS⟩ := Int.eq_ofNat_of_zero_le h1
    have hs48 : s = 4 ∨ s = 8 := by omega
    rw [hS, Int.toNat_natCast] at h3
    rw [← he] at h0 h3
    obtain ⟨k1, hk1⟩ := le_Get_ok b e s hb (by omega) (by omega) (by omega)
    have hrd : rd_T95 f (i : Int) = f[i] := by unfold rd_T95; rw [Int.toNat_natCast, List.getD_eq_getElem?_getD, List.getElem?_eq_getElem hlt]; rfl
    have hdr : f.drop i = f[i] :: f.drop (i + 1) := List.drop_eq_getElem_cons hlt
    have htk : sizesOf (f.take (i + 1)) = sizesOf (f.take i) ++ [s] := by
      rw [List.take_succ_eq_append_getElem hlt]; unfold sizesOf; rw [List.map_append]; simp [hS]
    have hnb : Blk.numsB (sizesOf (f.drop i)) (b.drop e) = Blk.leN ((b.drop e).take s) :: Blk.numsB (sizesOf (f.drop (i + 1))) (b.drop (e + s)) := by
      rw [hdr]; unfold sizesOf; rw [List.map_cons, hS, Int.toNat_natCast, Blk.numsB, List.drop_drop]
    rw [hnb, numAll_cons]
    generalize hn : Blk.leN ((b.drop e).take s) = n at *
    by_cases c : n > 4611686018427387903
    · rw [if_pos c] at hk1
      refine ⟨k1 + 1, ?_⟩
      simp only [super_Read.l0]
      rw [if_pos (by omega), if_pos (by omega), if_pos (by omega), hrd, h0, hS, hk1]
      simp only [Option.bind_some]
      rw [if_neg (by decide), decide_eq_false (by unfold Blk.maxId; omega)]
      rfl
    · rw [if_neg c] at hk1
      obtain ⟨k2, hk2⟩ := ih (i + 1) (acc ++ [n]) (e + s) (by omega) (by simp [ha]) (by rw [htk, List.sum_append, he]; simp; omega)
      refine ⟨max k1 k2 + 1, ?_⟩
      simp only [super_Read.l0]
      rw [if_pos (by omega), if_pos (by omega), if_pos (by omega), hrd, h0, hS, at_rounds (fun k => le_Get.mono _ _ _ k) (Nat.le_max_left k1 k2) hk1]
      simp only [Option.bind_some]
      rw [if_pos trivial, if_pos (by omega), w64' (x := (e : Int) + s) (by omega) (by omega), w64' (x := (i : Int) + 1) (by omega) (by omega)]
      have hmono : ∀ k, LeO (super_Read.l0 k b (acc ++ [n]) ((e : Int) + s) f (f.length : Int) ((i : Int) + 1)) (super_Read.l0 (k + 1) b (acc ++ [n]) ((e : Int) + s) f (f.length : Int) ((i : Int) + 1)) := fun k => super_Read.mono_l k _ _ _ _ _ _
      have := at_rounds hmono (Nat.le_max_right k1 k2) (r := _) (by
        have e1 : ((e : Int) + s) = ((e + s : Nat) : Int) := by omega
        have e2 : ((i : Int) + 1) = ((i + 1 : Nat) : Int) := by omega
        rw [e1, e2]; exact hk2)
      rw [this, decide_eq_true (by unfold Blk.maxId; omega), Bool.true_and, List.append_assoc]
      rfl
/-- What super.Read tells. -/
theorem super_Read_ok (b : List Int) (m : ByteArray) (hb : ∀ x ∈ b, 0 ≤ x ∧ x < 256) (f : List S95) (hl : isLay 4 f = true) (hs : f.all (fun x => x.f1 == 4 || x.f1 == 8) = true) :
    ∃ k, super_Read.f k b m f = some ((Blk.readB (bytesOf m) (sizesOf f) b).2, (Blk.readB (bytesOf m) (sizesOf f) b).1) := by
  by_cases c1 : b.length = 64
  · have hst := strOf_eq (b.take 4) m (fun x hx => hb x (List.mem_of_mem_take hx))
    have h1 : ((b.length : Nat) : Int) = 64 := by omega
    by_cases c2 : b.take 4 = bytesOf m
    · obtain ⟨k1, hk1⟩ := crc_Good_ok b c1 hb
      cases hg : Blk.goodB b with
      | false =>
        refine ⟨k1, ?_⟩
        unfold super_Read.f Blk.readB
        rw [if_pos h1, if_pos (by omega), if_pos (hst.2 c2), hk1, hg, if_neg (by omega), if_neg (by simpa using c2), if_pos rfl]
        rfl
      | true =>
        obtain ⟨k2, hk2⟩ := super_Read_loop b c1 hb f hl hs f.length 0 [] 4 (by omega) rfl (by simp [sizesOf])
        refine ⟨max k1 k2, ?_⟩
        unfold super_Read.f Blk.readB
        rw [if_pos h1, if_pos (by omega), if_pos (hst.2 c2), at_rounds (fun k => crc_Good.mono _ k) (Nat.le_max_left k1 k2) hk1, hg, if_neg (by omega), if_neg (by simpa using c2), if_neg (by decide)]
        simp only [Option.bind_some, if_true]
        have hmono : ∀ k, LeO (super_Read.l0 k b ([] : List Int) 4 f (f.length : Int) 0) (super_Read.l0 (k + 1) b ([] : List Int) 4 f (f.length : Int) 0) := fun k => super_Read.mono_l k _ _ _ _ _ _
        rw [List.drop_zero, List.nil_append] at hk2
        rw [at_rounds hmono (Nat.le_max_right k1 k2) hk2]
        show some (if (numAll _ && _) = true then _ else _) = some _
        unfold numAll
        congr 1
        split <;> rfl
    · refine ⟨0, ?_⟩
      unfold super_Read.f Blk.readB
      rw [if_pos h1, if_pos (by omega), if_neg (fun h => c2 (hst.1 h)), if_neg (by omega), if_pos c2]
  · refine ⟨0, ?_⟩
    unfold super_Read.f Blk.readB
    rw [if_neg (by omega), if_pos c1]

end Go.Proofs.Ytaaemamcdhebhaa.PRE
