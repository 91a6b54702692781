-- PRINTED BY print.sh 35421559b90ae4d0a3588c463048766b98c2df88dd9212a6774a882060cdf62d: not written by this session
import Derived.Test.YtijfghknjkegpaaPRunsExactx0
import Derived.Test.YtijfghknjkegpaaPRunsExactx2
import Derived.Test.YtijfghknjkegpaaPRunsExactx3
import Derived.Test.YtijfghknjkegpaaPRunsExactx4
import Derived.Test.YtijfghknjkegpaaPRunsExactx5
namespace Go.Proofs.Ytijfghknjkegpaa.PRunsExact
open Go.RowKit Go.Proofs.YtijfghknjkegpaaW.PrintWords Go.Proofs.YtijfghknjkegpaaW.PrintLast Go.Proofs.YtijfghknjkegpaaW.PrintMore
attribute [local go_sem] max2_int min2_int max_two min_two max_three min_three max_four min_four   -- for this text's walks alone
set_option linter.unusedVariables false
set_option linter.unusedSimpArgs false

/-! ### woodcutlaw21_RunsExact: function 3 -/
mutual
def woodcutlaw21_RunsExact.j0 : Nat → List Int → Int → List (S40) → Bool → Option (Bool)
  | 0, _, _, _, _ => none
  | k + 1, x0, x1, x2, x21 => if x21 = true then (some true) else ((woodcutkeep_TwinInts.f x0).bind fun t185 => ((runs_Of.f k t185 x1).bind fun bt188 => ((runs_List.f k x2).bind fun bt192 => ((woodcutref18_Listed.f k x2).bind fun bt196 => (if (bt196.2 != (bt192.2 == 0)) = true then (woodcutlaw21_RunsExact.j1 k x0 x1 bt188.1 bt188.2 true) else (if bt196.2 = true then ((woodcutkeep_Ints.f k bt192.1 bt196.1).bind fun t200 => (if t200 = true then ((woodcutkeep_Ints.f k t185 x0).bind fun t201 => (woodcutlaw21_RunsExact.j1 k x0 x1 bt188.1 bt188.2 (!t201))) else (woodcutlaw21_RunsExact.j1 k x0 x1 bt188.1 bt188.2 true))) else (if bt192.2 = 1 then (if (bt192.1.length : Int) > 0 then (woodcutlaw21_RunsExact.j1 k x0 x1 bt188.1 bt188.2 true) else ((woodcutkeep_Ints.f k t185 x0).bind fun t202 => (woodcutlaw21_RunsExact.j1 k x0 x1 bt188.1 bt188.2 (!t202)))) else (woodcutlaw21_RunsExact.j1 k x0 x1 bt188.1 bt188.2 true))))))))
def woodcutlaw21_RunsExact.j1 : Nat → List Int → Int → List (S40) → Int → Bool → Option (Bool)
  | 0, _, _, _, _, _ => none
  | k + 1, x0, x1, x8, x9, x71 => if x71 = true then (some false) else (if x1 < 1 then (woodcutlaw21_RunsExact.j2 k x0 x1 x8 x9 true) else ((woodcutref18_Rising.f k x0).bind fun t203 => (woodcutlaw21_RunsExact.j2 k x0 x1 x8 x9 (!t203))))
def woodcutlaw21_RunsExact.j2 : Nat → List Int → Int → List (S40) → Int → Bool → Option (Bool)
  | 0, _, _, _, _, _ => none
  | k + 1, x0, x1, x8, x9, x78 => if x78 = true then (if x9 = 1 then (if (x8.length : Int) = 0 then ((woodcutlaw21_wakes.f k).bind fun t204 => (some t204)) else (some false)) else (some false)) else (if x9 = 0 then ((woodcutref18_Runs.f k x0 x1).bind fun t205 => ((woodcutkeep_Runs.f k x8 t205).bind fun t208 => (if t208 = true then ((woodcutlaw21_wakes.f k).bind fun t209 => (some t209)) else (some false)))) else (some false))
end
def woodcutlaw21_RunsExact.f (k : Nat) (l0 : List Int) (a1 : Int) (l2 : List (S40)) : Option (Bool) := if (l0.length : Int) > 600 then (woodcutlaw21_RunsExact.j0 k l0 a1 l2 true) else (woodcutlaw21_RunsExact.j0 k l0 a1 l2 (decide ((l2.length : Int) > 600)))
theorem woodcutlaw21_RunsExact.mono_l : ∀ k, (∀ y0 y1 y2 y3, LeO (woodcutlaw21_RunsExact.j0 k y0 y1 y2 y3) (woodcutlaw21_RunsExact.j0 (k + 1) y0 y1 y2 y3)) ∧ (∀ y0 y1 y2 y3 y4, LeO (woodcutlaw21_RunsExact.j1 k y0 y1 y2 y3 y4) (woodcutlaw21_RunsExact.j1 (k + 1) y0 y1 y2 y3 y4)) ∧ (∀ y0 y1 y2 y3 y4, LeO (woodcutlaw21_RunsExact.j2 k y0 y1 y2 y3 y4) (woodcutlaw21_RunsExact.j2 (k + 1) y0 y1 y2 y3 y4))
  | 0 => ⟨fun _ _ _ _ r h => by simp [woodcutlaw21_RunsExact.j0] at h, fun _ _ _ _ _ r h => by simp [woodcutlaw21_RunsExact.j1] at h, fun _ _ _ _ _ r h => by simp [woodcutlaw21_RunsExact.j2] at h⟩
  | k + 1 => by
    obtain ⟨ih0, ih1, ih2⟩ := woodcutlaw21_RunsExact.mono_l k
    refine ⟨?_, ?_, ?_⟩
    · intro y0 y1 y2 y3
      unfold woodcutlaw21_RunsExact.j0
      repeat' first
      | (with_reducible exact ih0 _ _ _ _)
      | (with_reducible exact ih1 _ _ _ _ _)
      | (with_reducible exact ih2 _ _ _ _ _)
      | (with_reducible exact runs_List.mono _ _)
      | (with_reducible exact runs_Of.mono _ _ _)
      | (with_reducible exact woodcutkeep_Ints.mono _ _ _)
      | (with_reducible exact woodcutkeep_Runs.mono _ _ _)
      | (with_reducible exact woodcutlaw21_wakes.mono _)
      | (with_reducible exact woodcutref18_Listed.mono _ _)
      | (with_reducible exact woodcutref18_Rising.mono _ _)
      | (with_reducible exact woodcutref18_Runs.mono _ _ _)
      | (with_reducible exact LeO.refl _)
      | (with_reducible exact LeO.none _)
      | (with_reducible refine LeO.ite ?_ ?_)
      | (with_reducible refine LeO.bind ?_ (fun _ => ?_))
      | exact ih0 _ _ _ _
      | exact ih1 _ _ _ _ _
      | exact ih2 _ _ _ _ _
      | exact runs_List.mono _ _
      | exact runs_Of.mono _ _ _
      | exact woodcutkeep_Ints.mono _ _ _
      | exact woodcutkeep_Runs.mono _ _ _
      | exact woodcutlaw21_wakes.mono _
      | exact woodcutref18_Listed.mono _ _
      | exact woodcutref18_Rising.mono _ _
      | exact woodcutref18_Runs.mono _ _ _
      | exact LeO.none _
      | refine LeO.ite ?_ ?_
      | refine LeO.bind ?_ (fun _ => ?_)
    · intro y0 y1 y2 y3 y4
      unfold woodcutlaw21_RunsExact.j1
      repeat' first
      | (with_reducible exact ih0 _ _ _ _)
      | (with_reducible exact ih1 _ _ _ _ _)
      | (with_reducible exact ih2 _ _ _ _ _)
      | (with_reducible exact runs_List.mono _ _)
      | (with_reducible exact runs_Of.mono _ _ _)
      | (with_reducible exact woodcutkeep_Ints.mono _ _ _)
      | (with_reducible exact woodcutkeep_Runs.mono _ _ _)
      | (with_reducible exact woodcutlaw21_wakes.mono _)
      | (with_reducible exact woodcutref18_Listed.mono _ _)
      | (with_reducible exact woodcutref18_Rising.mono _ _)
      | (with_reducible exact woodcutref18_Runs.mono _ _ _)
      | (with_reducible exact LeO.refl _)
      | (with_reducible exact LeO.none _)
      | (with_reducible refine LeO.ite ?_ ?_)
      | (with_reducible refine LeO.bind ?_ (fun _ => ?_))
      | exact ih0 _ _ _ _
      | exact ih1 _ _ _ _ _
      | exact ih2 _ _ _ _ _
      | exact runs_List.mono _ _
      | exact runs_Of.mono _ _ _
      | exact woodcutkeep_Ints.mono _ _ _
      | exact woodcutkeep_Runs.mono _ _ _
      | exact woodcutlaw21_wakes.mono _
      | exact woodcutref18_Listed.mono _ _
      | exact woodcutref18_Rising.mono _ _
      | exact woodcutref18_Runs.mono _ _ _
      | exact LeO.none _
      | refine LeO.ite ?_ ?_
      | refine LeO.bind ?_ (fun _ => ?_)
    · intro y0 y1 y2 y3 y4
      unfold woodcutlaw21_RunsExact.j2
      repeat' first
      | (with_reducible exact ih0 _ _ _ _)
      | (with_reducible exact ih1 _ _ _ _ _)
      | (with_reducible exact ih2 _ _ _ _ _)
      | (with_reducible exact runs_List.mono _ _)
      | (with_reducible exact runs_Of.mono _ _ _)
      | (with_reducible exact woodcutkeep_Ints.mono _ _ _)
      | (with_reducible exact woodcutkeep_Runs.mono _ _ _)
      | (with_reducible exact woodcutlaw21_wakes.mono _)
      | (with_reducible exact woodcutref18_Listed.mono _ _)
      | (with_reducible exact woodcutref18_Rising.mono _ _)
      | (with_reducible exact woodcutref18_Runs.mono _ _ _)
      | (with_reducible exact LeO.refl _)
      | (with_reducible exact LeO.none _)
      | (with_reducible refine LeO.ite ?_ ?_)
      | (with_reducible refine LeO.bind ?_ (fun _ => ?_))
      | exact ih0 _ _ _ _
      | exact ih1 _ _ _ _ _
      | exact ih2 _ _ _ _ _
      | exact runs_List.mono _ _
      | exact runs_Of.mono _ _ _
      | exact woodcutkeep_Ints.mono _ _ _
      | exact woodcutkeep_Runs.mono _ _ _
      | exact woodcutlaw21_wakes.mono _
      | exact woodcutref18_Listed.mono _ _
      | exact woodcutref18_Rising.mono _ _
      | exact woodcutref18_Runs.mono _ _ _
      | exact LeO.none _
      | refine LeO.ite ?_ ?_
      | refine LeO.bind ?_ (fun _ => ?_)
theorem woodcutlaw21_RunsExact.mono : ∀ a0 a1 a2 k, LeO (woodcutlaw21_RunsExact.f k a0 a1 a2) (woodcutlaw21_RunsExact.f (k + 1) a0 a1 a2) := by
  intro a0 a1 a2 k
  obtain ⟨ih0, ih1, ih2⟩ := woodcutlaw21_RunsExact.mono_l k
  unfold woodcutlaw21_RunsExact.f
  repeat' first
      | (with_reducible exact ih0 _ _ _ _)
      | (with_reducible exact ih1 _ _ _ _ _)
      | (with_reducible exact ih2 _ _ _ _ _)
      | (with_reducible exact runs_List.mono _ _)
      | (with_reducible exact runs_Of.mono _ _ _)
      | (with_reducible exact woodcutkeep_Ints.mono _ _ _)
      | (with_reducible exact woodcutkeep_Runs.mono _ _ _)
      | (with_reducible exact woodcutlaw21_wakes.mono _)
      | (with_reducible exact woodcutref18_Listed.mono _ _)
      | (with_reducible exact woodcutref18_Rising.mono _ _)
      | (with_reducible exact woodcutref18_Runs.mono _ _ _)
      | (with_reducible exact LeO.refl _)
      | (with_reducible exact LeO.none _)
      | (with_reducible refine LeO.ite ?_ ?_)
      | (with_reducible refine LeO.bind ?_ (fun _ => ?_))
      | exact ih0 _ _ _ _
      | exact ih1 _ _ _ _ _
      | exact ih2 _ _ _ _ _
      | exact runs_List.mono _ _
      | exact runs_Of.mono _ _ _
      | exact woodcutkeep_Ints.mono _ _ _
      | exact woodcutkeep_Runs.mono _ _ _
      | exact woodcutlaw21_wakes.mono _
      | exact woodcutref18_Listed.mono _ _
      | exact woodcutref18_Rising.mono _ _
      | exact woodcutref18_Runs.mono _ _ _
      | exact LeO.none _
      | refine LeO.ite ?_ ?_
      | refine LeO.bind ?_ (fun _ => ?_)
set_option maxHeartbeats 8000000 in
set_option maxRecDepth 100000 in
theorem woodcutlaw21_RunsExact.calls (k : Nat) (A0 : Option Addr) (c0 : Nat) (l0 : List Int) (a1 : Int) (A2 : Option Addr) (c2 : Nat) (l2 : List (S40)) (r : Bool) (w : World) (hr0 : Kd.C (Kd.int .i64) w A0 l0.length l0) (hc0 : l0.length ≤ c0) (hr2 : Kd.C k40 w A2 l2.length l2) (hc2 : l2.length ≤ c2) (h : woodcutlaw21_RunsExact.f k l0 a1 l2 = some r) :
    Calls Try.prog 3 #[.slice A0 l0.length c0, .int .i64 a1, .slice A2 l2.length c2] w fun e w' => e = .returned (.bool r) ∧ Below w.heap.size w w' := by
  have HR0 := Aside0.mk hr0
  have HC0 := Aside0.mk hc0
  clear hr0 hc0
  have HR2 := Aside0.mk hr2
  have HC2 := Aside0.mk hc2
  clear hr2 hc2
  have HB := Aside0.mk (Below.refl w.heap.size w)
  have H : (if (l0.length : Int) > 600 then (woodcutlaw21_RunsExact.j0 k l0 a1 l2 true) else (woodcutlaw21_RunsExact.j0 k l0 a1 l2 (decide ((l2.length : Int) > 600)))) = some r := h
  clear h
  have HC4 := Aside0.mk H
  clear H
  go_enter Try.func3, Try.ntmps3
  go_upto_region 1 with (fail)
  go_cut [21] (fun v21 wc => ∃ (kq : Nat) (x21_3 : Bool), v21 = .bool x21_3 ∧ Aside0 (woodcutlaw21_RunsExact.j0 kq l0 a1 l2 x21_3 = some r) ∧ Aside0 (kq ≤ k) ∧ Aside0 (Below w.heap.size w wc))
  case first =>
    have H := HC4.out
    clear HC4
    by_cases c5 : (l0.length : Int) > 600
    · rw [if_pos c5] at H
      have c5b0 : decide (600 < (l0.length : Int)) = true := decide_eq_true c5
      have c5b1 : decide (600 < l0.length) = true := decide_eq_true (by omega)
      clear c5
      (first | rw [c5b0] | (simp only [i64_w, i32_w]; rw [c5b0]) | skip)
      have H' := Aside0.mk H
      clear H
      go_wp2
      go_meet
      case rel => exact ⟨_, (true), (by first | rfl | (simp; done) | (simp [*]; done)), H', ⟨by first | omega | exact Nat.le_refl _⟩, ⟨by repeat (first | (with_reducible first | exact HB.out | apply below_alloc | apply pw_below_drewN | apply below_drew1) | exact HB.out)⟩⟩
    · rw [if_neg c5] at H
      have c5b0 : decide (600 < (l0.length : Int)) = false := decide_eq_false c5
      have c5b1 : decide (600 < l0.length) = false := decide_eq_false (by omega)
      clear c5
      (first | rw [c5b0] | (simp only [i64_w, i32_w]; rw [c5b0]) | skip)
      have H' := Aside0.mk H
      clear H
      go_wp2
      go_meet
      case rel => exact ⟨_, (decide ((l2.length : Int) > 600)), (by first | rfl | (simp; done) | (simp [*]; done)), H', ⟨by first | omega | exact Nat.le_refl _⟩, ⟨by repeat (first | (with_reducible first | exact HB.out | apply below_alloc | apply pw_below_drewN | apply below_drew1) | exact HB.out)⟩⟩
  case rest =>
    clear HC4
    try clear c2
    try clear p2
    try clear c3
    try clear c5
    try clear c5b0
    try clear c5b1
    obtain ⟨kq, x21_3, rfl, HA, HJ3, HB⟩ := hcut
    cases kq with
    | zero => exact absurd HA.out (by simp [woodcutlaw21_RunsExact.j0])
    | succ kj3 =>
      have H := HA.out
      clear HA
      simp only [woodcutlaw21_RunsExact.j0] at H
      by_cases c6 : x21_3 = true
      · subst c6
        have H1 : (some true) = some r := by rw [if_pos rfl] at H; exact H
        clear H
        have H := H1
        clear H1
        obtain rfl := Option.some.inj H
        go_wp2
        go_ret
        exact ⟨by first | rfl | (simp [errW_none, errW_some] <;> rfl) | (simp [*, errW_none, errW_some] <;> rfl), by repeat (first | (with_reducible first | exact HB.out | apply below_alloc | apply pw_below_drewN | apply below_drew1) | exact HB.out)⟩
      · replace c6 := Bool.eq_false_iff.mpr c6
        subst c6
        have H1 : ((woodcutkeep_TwinInts.f l0).bind fun t185 => ((runs_Of.f kj3 t185 a1).bind fun bt188 => ((runs_List.f kj3 l2).bind fun bt192 => ((woodcutref18_Listed.f kj3 l2).bind fun bt196 => (if (bt196.2 != (bt192.2 == 0)) = true then (woodcutlaw21_RunsExact.j1 kj3 l0 a1 bt188.1 bt188.2 true) else (if bt196.2 = true then ((woodcutkeep_Ints.f kj3 bt192.1 bt196.1).bind fun t200 => (if t200 = true then ((woodcutkeep_Ints.f kj3 t185 l0).bind fun t201 => (woodcutlaw21_RunsExact.j1 kj3 l0 a1 bt188.1 bt188.2 (!t201))) else (woodcutlaw21_RunsExact.j1 kj3 l0 a1 bt188.1 bt188.2 true))) else (if bt192.2 = 1 then (if (bt192.1.length : Int) > 0 then (woodcutlaw21_RunsExact.j1 kj3 l0 a1 bt188.1 bt188.2 true) else ((woodcutkeep_Ints.f kj3 t185 l0).bind fun t202 => (woodcutlaw21_RunsExact.j1 kj3 l0 a1 bt188.1 bt188.2 (!t202)))) else (woodcutlaw21_RunsExact.j1 kj3 l0 a1 bt188.1 bt188.2 true)))))))) = some r := by rw [if_neg (show ¬ (false = true) by decide)] at H; exact H
        clear H
        have H := H1
        clear H1
        replace H := Option.bind_eq_some_iff.mp H
        obtain ⟨t185, A70, H⟩ := H
        replace H : ((runs_Of.f kj3 t185 a1).bind fun bt188 => ((runs_List.f kj3 l2).bind fun bt192 => ((woodcutref18_Listed.f kj3 l2).bind fun bt196 => (if (bt196.2 != (bt192.2 == 0)) = true then (woodcutlaw21_RunsExact.j1 kj3 l0 a1 bt188.1 bt188.2 true) else (if bt196.2 = true then ((woodcutkeep_Ints.f kj3 bt192.1 bt196.1).bind fun t200 => (if t200 = true then ((woodcutkeep_Ints.f kj3 t185 l0).bind fun t201 => (woodcutlaw21_RunsExact.j1 kj3 l0 a1 bt188.1 bt188.2 (!t201))) else (woodcutlaw21_RunsExact.j1 kj3 l0 a1 bt188.1 bt188.2 true))) else (if bt192.2 = 1 then (if (bt192.1.length : Int) > 0 then (woodcutlaw21_RunsExact.j1 kj3 l0 a1 bt188.1 bt188.2 true) else ((woodcutkeep_Ints.f kj3 t185 l0).bind fun t202 => (woodcutlaw21_RunsExact.j1 kj3 l0 a1 bt188.1 bt188.2 (!t202)))) else (woodcutlaw21_RunsExact.j1 kj3 l0 a1 bt188.1 bt188.2 true))))))) = some r := H
        have A7 := Aside0.mk A70
        clear A70
        replace H := Option.bind_eq_some_iff.mp H
        obtain ⟨⟨t188, t189⟩, A80, H⟩ := H
        replace H : ((runs_List.f kj3 l2).bind fun bt192 => ((woodcutref18_Listed.f kj3 l2).bind fun bt196 => (if (bt196.2 != (bt192.2 == 0)) = true then (woodcutlaw21_RunsExact.j1 kj3 l0 a1 t188 t189 true) else (if bt196.2 = true then ((woodcutkeep_Ints.f kj3 bt192.1 bt196.1).bind fun t200 => (if t200 = true then ((woodcutkeep_Ints.f kj3 t185 l0).bind fun t201 => (woodcutlaw21_RunsExact.j1 kj3 l0 a1 t188 t189 (!t201))) else (woodcutlaw21_RunsExact.j1 kj3 l0 a1 t188 t189 true))) else (if bt192.2 = 1 then (if (bt192.1.length : Int) > 0 then (woodcutlaw21_RunsExact.j1 kj3 l0 a1 t188 t189 true) else ((woodcutkeep_Ints.f kj3 t185 l0).bind fun t202 => (woodcutlaw21_RunsExact.j1 kj3 l0 a1 t188 t189 (!t202)))) else (woodcutlaw21_RunsExact.j1 kj3 l0 a1 t188 t189 true)))))) = some r := H
        have A8 := Aside0.mk A80
        clear A80
        replace H := Option.bind_eq_some_iff.mp H
        obtain ⟨⟨t192, t193⟩, A90, H⟩ := H
        replace H : ((woodcutref18_Listed.f kj3 l2).bind fun bt196 => (if (bt196.2 != (t193 == 0)) = true then (woodcutlaw21_RunsExact.j1 kj3 l0 a1 t188 t189 true) else (if bt196.2 = true then ((woodcutkeep_Ints.f kj3 t192 bt196.1).bind fun t200 => (if t200 = true then ((woodcutkeep_Ints.f kj3 t185 l0).bind fun t201 => (woodcutlaw21_RunsExact.j1 kj3 l0 a1 t188 t189 (!t201))) else (woodcutlaw21_RunsExact.j1 kj3 l0 a1 t188 t189 true))) else (if t193 = 1 then (if (t192.length : Int) > 0 then (woodcutlaw21_RunsExact.j1 kj3 l0 a1 t188 t189 true) else ((woodcutkeep_Ints.f kj3 t185 l0).bind fun t202 => (woodcutlaw21_RunsExact.j1 kj3 l0 a1 t188 t189 (!t202)))) else (woodcutlaw21_RunsExact.j1 kj3 l0 a1 t188 t189 true))))) = some r := H
        have A9 := Aside0.mk A90
        clear A90
        replace H := Option.bind_eq_some_iff.mp H
        obtain ⟨⟨t196, t197⟩, A100, H⟩ := H
        replace H : (if (t197 != (t193 == 0)) = true then (woodcutlaw21_RunsExact.j1 kj3 l0 a1 t188 t189 true) else (if t197 = true then ((woodcutkeep_Ints.f kj3 t192 t196).bind fun t200 => (if t200 = true then ((woodcutkeep_Ints.f kj3 t185 l0).bind fun t201 => (woodcutlaw21_RunsExact.j1 kj3 l0 a1 t188 t189 (!t201))) else (woodcutlaw21_RunsExact.j1 kj3 l0 a1 t188 t189 true))) else (if t193 = 1 then (if (t192.length : Int) > 0 then (woodcutlaw21_RunsExact.j1 kj3 l0 a1 t188 t189 true) else ((woodcutkeep_Ints.f kj3 t185 l0).bind fun t202 => (woodcutlaw21_RunsExact.j1 kj3 l0 a1 t188 t189 (!t202)))) else (woodcutlaw21_RunsExact.j1 kj3 l0 a1 t188 t189 true)))) = some r := H
        have A10 := Aside0.mk A100
        clear A100
        have HC11 := Aside0.mk H
        clear H
        go_upto_region 7 with (first | ((with_reducible refine gate_callee (f := 12) rfl ?_); refine goesL_ (some 23) rfl rfl Try.func12 (by kernel_rfl) rfl #[.slice A0 l0.length c0] rfl (by (try simp only [List.map_toArray, List.map_cons, List.map_nil]); first | done | rfl | (simp only [List.length_drop, List.length_take]; rfl)) ?_; (with_reducible refine (woodcutkeep_TwinInts.calls _ _ l0 t185 _ ?side1 ?side2 A7.out).mono ?_); (case side1 => repeat (first | exact (Kd.C_below HR0.out HB.out) | (with_reducible refine Kd.C_alloc ?_ _) | (with_reducible refine Kd.C_drewN ?_ _) | (with_reducible refine Kd.C_drew ?_))); (case side2 => exact HC0.out); rintro e w12 ⟨v186, rfl, ho0, hb⟩; refine ⟨_, rfl, ?_⟩; have n0_ := Aside0.mk (Kd.R_lower ho0 (below_size (by repeat (first | (with_reducible first | exact HB.out | apply below_alloc | apply pw_below_drewN | apply below_drew1) | exact HB.out)))); have n1_ := Aside0.mk (below_step (by repeat (first | (with_reducible first | exact HB.out | apply below_alloc | apply pw_below_drewN | apply below_drew1) | exact HB.out)) hb); clear HB; have HO187 := n0_; have HB := n1_; clear n0_ n1_; (try clear hb); (try clear hb2); (try clear hk); (try clear hi); (try clear ho0); obtain ⟨Ao13, co13, eo13⟩ := Kd.R_slice HO187.out; subst eo13) | ((with_reducible refine gate_callee (f := 13) rfl ?_); refine goesL_ (some 27) rfl rfl Try.func13 (by kernel_rfl) rfl #[.slice Ao13 t185.length co13, .int .i64 a1] rfl (by (try simp only [List.map_toArray, List.map_cons, List.map_nil]); first | done | rfl | (simp only [List.length_drop, List.length_take]; rfl)) ?_; (with_reducible refine (runs_Of.calls kj3 _ _ t185 a1 t188 t189 _ ?side1 ?side2 A8.out).mono ?_); (case side1 => repeat (first | exact (Kd.R_reads' HO187.out).2.2 | (with_reducible refine Kd.C_alloc ?_ _) | (with_reducible refine Kd.C_drewN ?_ _) | (with_reducible refine Kd.C_drew ?_))); (case side2 => exact (Kd.R_reads' HO187.out).2.1); rintro e w14 ⟨v190, rfl, ho0, hb⟩; refine ⟨_, rfl, ?_⟩; have n0_ := Aside0.mk (Kd.R_below (by (with_reducible repeat (first | apply Kd.R_alloc | apply Kd.R_drewN | apply Kd.R_drew)); exact HO187.out) hb); have n1_ := Aside0.mk (Kd.R_lower ho0 (below_size (by repeat (first | (with_reducible first | exact HB.out | apply below_alloc | apply pw_below_drewN | apply below_drew1) | exact HB.out)))); have n2_ := Aside0.mk (below_step (by repeat (first | (with_reducible first | exact HB.out | apply below_alloc | apply pw_below_drewN | apply below_drew1) | exact HB.out)) hb); clear HO187; clear HB; have HO187 := n0_; have HO191 := n1_; have HB := n2_; clear n0_ n1_ n2_; (try clear hb); (try clear hb2); (try clear hk); (try clear hi); (try clear ho0)) | ((with_reducible refine gate_callee (f := 14) rfl ?_); refine goesL_ (some 32) rfl rfl Try.func14 (by kernel_rfl) rfl #[.slice A2 l2.length c2] rfl (by (try simp only [List.map_toArray, List.map_cons, List.map_nil]); first | done | rfl | (simp only [List.length_drop, List.length_take]; rfl)) ?_; (with_reducible refine (runs_List.calls kj3 _ _ l2 t192 t193 _ ?side1 ?side2 A9.out).mono ?_); (case side1 => repeat (first | exact (Kd.C_below HR2.out HB.out) | (with_reducible refine Kd.C_alloc ?_ _) | (with_reducible refine Kd.C_drewN ?_ _) | (with_reducible refine Kd.C_drew ?_))); (case side2 => exact HC2.out); rintro e w15 ⟨v194, rfl, ho0, hb⟩; refine ⟨_, rfl, ?_⟩; have n0_ := Aside0.mk (Kd.R_elder' (by (with_reducible repeat (first | apply Kd.R_alloc | apply Kd.R_drewN | apply Kd.R_drew)); exact HO187.out) (Kd.R_base ho0) hb); have n1_ := Aside0.mk (Kd.R_below (by (with_reducible repeat (first | apply Kd.R_alloc | apply Kd.R_drewN | apply Kd.R_drew)); exact HO191.out) hb); have n2_ := Aside0.mk (Kd.R_lower (Kd.R_new' ho0 (Kd.R_lt (by (with_reducible repeat (first | apply Kd.R_alloc | apply Kd.R_drewN | apply Kd.R_drew)); exact HO187.out))) (below_size (by repeat (first | (with_reducible first | exact HB.out | apply below_alloc | apply pw_below_drewN | apply below_drew1) | exact HB.out)))); have n3_ := Aside0.mk (below_step (by repeat (first | (with_reducible first | exact HB.out | apply below_alloc | apply pw_below_drewN | apply below_drew1) | exact HB.out)) hb); clear HO187; clear HO191; clear HB; have HO187 := n0_; have HO191 := n1_; have HO195 := n2_; have HB := n3_; clear n0_ n1_ n2_ n3_; (try clear hb); (try clear hb2); (try clear hk); (try clear hi); (try clear ho0)) | ((with_reducible refine gate_callee (f := 15) rfl ?_); refine goesL_ (some 37) rfl rfl Try.func15 (by kernel_rfl) rfl #[.slice A2 l2.length c2] rfl (by (try simp only [List.map_toArray, List.map_cons, List.map_nil]); first | done | rfl | (simp only [List.length_drop, List.length_take]; rfl)) ?_; (with_reducible refine (woodcutref18_Listed.calls kj3 _ _ l2 t196 t197 _ ?side1 ?side2 A10.out).mono ?_); (case side1 => repeat (first | exact (Kd.C_below HR2.out HB.out) | (with_reducible refine Kd.C_alloc ?_ _) | (with_reducible refine Kd.C_drewN ?_ _) | (with_reducible refine Kd.C_drew ?_))); (case side2 => exact HC2.out); rintro e w16 ⟨v198, rfl, ho0, hb⟩; refine ⟨_, rfl, ?_⟩; have n0_ := Aside0.mk (Kd.R_elder' (by (with_reducible repeat (first | apply Kd.R_alloc | apply Kd.R_drewN | apply Kd.R_drew)); exact HO187.out) (Kd.R_base ho0) hb); have n1_ := Aside0.mk (Kd.R_below (by (with_reducible repeat (first | apply Kd.R_alloc | apply Kd.R_drewN | apply Kd.R_drew)); exact HO191.out) hb); have n2_ := Aside0.mk (Kd.R_elder' (by (with_reducible repeat (first | apply Kd.R_alloc | apply Kd.R_drewN | apply Kd.R_drew)); exact HO195.out) (Kd.R_base ho0) hb); have n3_ := Aside0.mk (Kd.R_lower (Kd.R_new' (Kd.R_new' ho0 (Kd.R_lt (by (with_reducible repeat (first | apply Kd.R_alloc | apply Kd.R_drewN | apply Kd.R_drew)); exact HO187.out))) (Kd.R_lt (by (with_reducible repeat (first | apply Kd.R_alloc | apply Kd.R_drewN | apply Kd.R_drew)); exact HO195.out))) (below_size (by repeat (first | (with_reducible first | exact HB.out | apply below_alloc | apply pw_below_drewN | apply below_drew1) | exact HB.out)))); have n4_ := Aside0.mk (below_step (by repeat (first | (with_reducible first | exact HB.out | apply below_alloc | apply pw_below_drewN | apply below_drew1) | exact HB.out)) hb); clear HO187; clear HO191; clear HO195; clear HB; have HO187 := n0_; have HO191 := n1_; have HO195 := n2_; have HO199 := n3_; have HB := n4_; clear n0_ n1_ n2_ n3_ n4_; (try clear hb); (try clear hb2); (try clear hk); (try clear hi); (try clear ho0)))
        (try simp only [Act.put, List.setIfInBounds_toArray, List.set_cons_zero, List.set_cons_succ])
        go_cut [71] (fun v71 wc => ∃ (kq : Nat) (x71_10 : Bool), v71 = .bool x71_10 ∧ Aside0 (woodcutlaw21_RunsExact.j1 kq l0 a1 t188 t189 x71_10 = some r) ∧ Aside0 (kq ≤ kj3) ∧ Aside0 (Kd.R k40 40 wc w.heap.size (fun _ => True) v190 t188) ∧ Aside0 (Below w.heap.size w wc))
        case first =>
          have H := HC11.out
          clear HC11
          by_cases c17 : (t197 != (t193 == 0)) = true
          · rw [if_pos c17] at H
            have c17b0 : (t197 != (t193 == 0)) = true := c17
            (try (have c17b1 : decide (t197 = (t193 == 0)) = false := by simpa using c17))
            (try (have c17b2 : (t197 == (t193 == 0)) = false := by simpa using c17))
            (try (have c17b3 : ¬ (t197 = (t193 == 0)) := by simpa using c17))
            clear c17
            (first | rw [c17b0] | (simp only [i64_w, i32_w]; rw [c17b0]) | skip)
            have H' := Aside0.mk H
            clear H
            go_wp2
            go_meet
            case rel => exact ⟨_, (true), (by first | rfl | (simp; done) | (simp [*]; done)), H', ⟨by have := HJ3.out; first | omega | exact Nat.le_refl _⟩, ⟨by (with_reducible repeat (first | apply Kd.R_alloc | apply Kd.R_drewN | apply Kd.R_drew)); exact HO191.out⟩, ⟨by repeat (first | (with_reducible first | exact HB.out | apply below_alloc | apply pw_below_drewN | apply below_drew1) | exact HB.out)⟩⟩
          · rw [if_neg c17] at H
            have c17b0 : (t197 != (t193 == 0)) = false := by simpa using c17
            (try (have c17b1 : decide (t197 = (t193 == 0)) = true := by simpa using c17))
            (try (have c17b2 : (t197 == (t193 == 0)) = true := by simpa using c17))
            clear c17
            (first | rw [c17b0] | (simp only [i64_w, i32_w]; rw [c17b0]) | skip)
            by_cases c18 : t197 = true
            · subst c18
              have H1 : ((woodcutkeep_Ints.f kj3 t192 t196).bind fun t200 => (if t200 = true then ((woodcutkeep_Ints.f kj3 t185 l0).bind fun t201 => (woodcutlaw21_RunsExact.j1 kj3 l0 a1 t188 t189 (!t201))) else (woodcutlaw21_RunsExact.j1 kj3 l0 a1 t188 t189 true))) = some r := by rw [if_pos rfl] at H; exact H
              clear H
              have H := H1
              clear H1
              replace H := Option.bind_eq_some_iff.mp H
              obtain ⟨t200, A190, H⟩ := H
              replace H : (if t200 = true then ((woodcutkeep_Ints.f kj3 t185 l0).bind fun t201 => (woodcutlaw21_RunsExact.j1 kj3 l0 a1 t188 t189 (!t201))) else (woodcutlaw21_RunsExact.j1 kj3 l0 a1 t188 t189 true)) = some r := H
              have A19 := Aside0.mk A190
              clear A190
              by_cases c20 : t200 = true
              · subst c20
                have H1 : ((woodcutkeep_Ints.f kj3 t185 l0).bind fun t201 => (woodcutlaw21_RunsExact.j1 kj3 l0 a1 t188 t189 (!t201))) = some r := by rw [if_pos rfl] at H; exact H
                clear H
                have H := H1
                clear H1
                replace H := Option.bind_eq_some_iff.mp H
                obtain ⟨t201, A210, H⟩ := H
                replace H : (woodcutlaw21_RunsExact.j1 kj3 l0 a1 t188 t189 (!t201)) = some r := H
                have A21 := Aside0.mk A210
                clear A210
                have H' := Aside0.mk H
                clear H
                obtain ⟨Ao22, co22, eo22⟩ := Kd.R_slice HO195.out
                subst eo22
                obtain ⟨Ao23, co23, eo23⟩ := Kd.R_slice HO199.out
                subst eo23
                go_wp2_with (first | (go_at_call 16; (with_reducible refine (woodcutkeep_Ints.calls kj3 _ _ t192 _ _ t196 true _ ?side1 ?side2 ?side3 ?side4 A19.out).mono ?_); (case side1 => repeat (first | exact (Kd.R_reads' HO195.out).2.2 | (with_reducible refine Kd.C_alloc ?_ _) | (with_reducible refine Kd.C_drewN ?_ _) | (with_reducible refine Kd.C_drew ?_))); (case side2 => exact (Kd.R_reads' HO195.out).2.1); (case side3 => repeat (first | exact (Kd.R_reads' HO199.out).2.2 | (with_reducible refine Kd.C_alloc ?_ _) | (with_reducible refine Kd.C_drewN ?_ _) | (with_reducible refine Kd.C_drew ?_))); (case side4 => exact (Kd.R_reads' HO199.out).2.1); rintro e w' ⟨rfl, ⟨nd, rfl⟩⟩) | (go_at_call 16; (with_reducible refine (woodcutkeep_Ints.calls kj3 _ _ t185 _ _ l0 t201 _ ?side1 ?side2 ?side3 ?side4 A21.out).mono ?_); (case side1 => repeat (first | exact (Kd.R_reads' HO187.out).2.2 | (with_reducible refine Kd.C_alloc ?_ _) | (with_reducible refine Kd.C_drewN ?_ _) | (with_reducible refine Kd.C_drew ?_))); (case side2 => exact (Kd.R_reads' HO187.out).2.1); (case side3 => repeat (first | exact (Kd.C_below HR0.out (by repeat (first | (with_reducible first | exact HB.out | apply below_alloc | apply pw_below_drewN | apply below_drew1) | exact HB.out))) | (with_reducible refine Kd.C_alloc ?_ _) | (with_reducible refine Kd.C_drewN ?_ _) | (with_reducible refine Kd.C_drew ?_))); (case side4 => exact HC0.out); rintro e w' ⟨rfl, ⟨nd, rfl⟩⟩))
                go_meet
                case rel => exact ⟨_, (!t201), (by first | rfl | (simp; done) | (simp [*]; done)), H', ⟨by have := HJ3.out; first | omega | exact Nat.le_refl _⟩, ⟨by (with_reducible repeat (first | apply Kd.R_alloc | apply Kd.R_drewN | apply Kd.R_drew)); exact HO191.out⟩, ⟨by repeat (first | (with_reducible first | exact HB.out | apply below_alloc | apply pw_below_drewN | apply below_drew1) | exact HB.out)⟩⟩
              · replace c20 := Bool.eq_false_iff.mpr c20
                subst c20
                have H1 : (woodcutlaw21_RunsExact.j1 kj3 l0 a1 t188 t189 true) = some r := by rw [if_neg (show ¬ (false = true) by decide)] at H; exact H
                clear H
                have H := H1
                clear H1
                have H' := Aside0.mk H
                clear H
                obtain ⟨Ao24, co24, eo24⟩ := Kd.R_slice HO195.out
                subst eo24
                obtain ⟨Ao25, co25, eo25⟩ := Kd.R_slice HO199.out
                subst eo25
                go_wp2_with (first | (go_at_call 16; (with_reducible refine (woodcutkeep_Ints.calls kj3 _ _ t192 _ _ t196 false _ ?side1 ?side2 ?side3 ?side4 A19.out).mono ?_); (case side1 => repeat (first | exact (Kd.R_reads' HO195.out).2.2 | (with_reducible refine Kd.C_alloc ?_ _) | (with_reducible refine Kd.C_drewN ?_ _) | (with_reducible refine Kd.C_drew ?_))); (case side2 => exact (Kd.R_reads' HO195.out).2.1); (case side3 => repeat (first | exact (Kd.R_reads' HO199.out).2.2 | (with_reducible refine Kd.C_alloc ?_ _) | (with_reducible refine Kd.C_drewN ?_ _) | (with_reducible refine Kd.C_drew ?_))); (case side4 => exact (Kd.R_reads' HO199.out).2.1); rintro e w' ⟨rfl, ⟨nd, rfl⟩⟩))
                go_meet
                case rel => exact ⟨_, (true), (by first | rfl | (simp; done) | (simp [*]; done)), H', ⟨by have := HJ3.out; first | omega | exact Nat.le_refl _⟩, ⟨by (with_reducible repeat (first | apply Kd.R_alloc | apply Kd.R_drewN | apply Kd.R_drew)); exact HO191.out⟩, ⟨by repeat (first | (with_reducible first | exact HB.out | apply below_alloc | apply pw_below_drewN | apply below_drew1) | exact HB.out)⟩⟩
            · replace c18 := Bool.eq_false_iff.mpr c18
              subst c18
              have H1 : (if t193 = 1 then (if (t192.length : Int) > 0 then (woodcutlaw21_RunsExact.j1 kj3 l0 a1 t188 t189 true) else ((woodcutkeep_Ints.f kj3 t185 l0).bind fun t202 => (woodcutlaw21_RunsExact.j1 kj3 l0 a1 t188 t189 (!t202)))) else (woodcutlaw21_RunsExact.j1 kj3 l0 a1 t188 t189 true)) = some r := by rw [if_neg (show ¬ (false = true) by decide)] at H; exact H
              clear H
              have H := H1
              clear H1
              by_cases c26 : t193 = 1
              · rw [if_pos c26] at H
                have c26b0 : (t193 == 1) = true := beq_iff_eq.mpr c26
                have c26b1 : (t193 != 1) = false := bne_eq_false_iff_eq.mpr c26
                clear c26
                by_cases c27 : (t192.length : Int) > 0
                · rw [if_pos c27] at H
                  have c27b0 : decide (0 < (t192.length : Int)) = true := decide_eq_true c27
                  have c27b1 : decide (0 < t192.length) = true := decide_eq_true (by omega)
                  clear c27
                  have H' := Aside0.mk H
                  clear H
                  obtain ⟨Ao28, co28, eo28⟩ := Kd.R_slice HO195.out
                  subst eo28
                  go_wp2
                  go_meet
                  case rel => exact ⟨_, (true), (by first | rfl | (simp; done) | (simp [*]; done)), H', ⟨by have := HJ3.out; first | omega | exact Nat.le_refl _⟩, ⟨by (with_reducible repeat (first | apply Kd.R_alloc | apply Kd.R_drewN | apply Kd.R_drew)); exact HO191.out⟩, ⟨by repeat (first | (with_reducible first | exact HB.out | apply below_alloc | apply pw_below_drewN | apply below_drew1) | exact HB.out)⟩⟩
                · rw [if_neg c27] at H
                  have c27b0 : decide (0 < (t192.length : Int)) = false := decide_eq_false c27
                  have c27b1 : decide (0 < t192.length) = false := decide_eq_false (by omega)
                  clear c27
                  replace H := Option.bind_eq_some_iff.mp H
                  obtain ⟨t202, A290, H⟩ := H
                  replace H : (woodcutlaw21_RunsExact.j1 kj3 l0 a1 t188 t189 (!t202)) = some r := H
                  have A29 := Aside0.mk A290
                  clear A290
                  have H' := Aside0.mk H
                  clear H
                  obtain ⟨Ao30, co30, eo30⟩ := Kd.R_slice HO195.out
                  subst eo30
                  go_wp2_with (first | (go_at_call 16; (with_reducible refine (woodcutkeep_Ints.calls kj3 _ _ t185 _ _ l0 t202 _ ?side1 ?side2 ?side3 ?side4 A29.out).mono ?_); (case side1 => repeat (first | exact (Kd.R_reads' HO187.out).2.2 | (with_reducible refine Kd.C_alloc ?_ _) | (with_reducible refine Kd.C_drewN ?_ _) | (with_reducible refine Kd.C_drew ?_))); (case side2 => exact (Kd.R_reads' HO187.out).2.1); (case side3 => repeat (first | exact (Kd.C_below HR0.out HB.out) | (with_reducible refine Kd.C_alloc ?_ _) | (with_reducible refine Kd.C_drewN ?_ _) | (with_reducible refine Kd.C_drew ?_))); (case side4 => exact HC0.out); rintro e w' ⟨rfl, ⟨nd, rfl⟩⟩))
                  go_meet
                  case rel => exact ⟨_, (!t202), (by first | rfl | (simp; done) | (simp [*]; done)), H', ⟨by have := HJ3.out; first | omega | exact Nat.le_refl _⟩, ⟨by (with_reducible repeat (first | apply Kd.R_alloc | apply Kd.R_drewN | apply Kd.R_drew)); exact HO191.out⟩, ⟨by repeat (first | (with_reducible first | exact HB.out | apply below_alloc | apply pw_below_drewN | apply below_drew1) | exact HB.out)⟩⟩
              · rw [if_neg c26] at H
                have c26b0 : (t193 == 1) = false := beq_eq_false_iff_ne.mpr c26
                have c26b1 : (t193 != 1) = true := bne_iff_ne.mpr c26
                have H' := Aside0.mk H
                clear H
                go_wp2
                go_meet
                case rel => exact ⟨_, (true), (by first | rfl | (simp; done) | (simp [*]; done)), H', ⟨by have := HJ3.out; first | omega | exact Nat.le_refl _⟩, ⟨by (with_reducible repeat (first | apply Kd.R_alloc | apply Kd.R_drewN | apply Kd.R_drew)); exact HO191.out⟩, ⟨by repeat (first | (with_reducible first | exact HB.out | apply below_alloc | apply pw_below_drewN | apply below_drew1) | exact HB.out)⟩⟩
        case rest =>
          clear HC11
          try clear c1
          try clear c2
          try clear p2
          try clear c3
          try clear c5
          try clear c5b0
          try clear c5b1
          try clear c6
          try clear c12
          try clear c13
          try clear c14
          try clear c15
          try clear c17
          try clear c17b0
          try clear c17b1
          try clear c17b2
          try clear c18
          try clear c20
          try clear c26
          try clear c26b0
          try clear c26b1
          try clear c27
          try clear c27b0
          try clear c27b1
          try clear p2
          obtain ⟨kq, x71_10, rfl, HA, HJ10, HO_8, HB⟩ := hcut
          cases kq with
          | zero => exact absurd HA.out (by simp [woodcutlaw21_RunsExact.j1])
          | succ kj10 =>
            have H := HA.out
            clear HA
            simp only [woodcutlaw21_RunsExact.j1] at H
            by_cases c31 : x71_10 = true
            · subst c31
              have H1 : (some false) = some r := by rw [if_pos rfl] at H; exact H
              clear H
              have H := H1
              clear H1
              obtain rfl := Option.some.inj H
              go_wp2
              go_ret
              exact ⟨by first | rfl | (simp [errW_none, errW_some] <;> rfl) | (simp [*, errW_none, errW_some] <;> rfl), by repeat (first | (with_reducible first | exact HB.out | apply below_alloc | apply pw_below_drewN | apply below_drew1) | exact HB.out)⟩
            · replace c31 := Bool.eq_false_iff.mpr c31
              subst c31
              have H1 : (if a1 < 1 then (woodcutlaw21_RunsExact.j2 kj10 l0 a1 t188 t189 true) else ((woodcutref18_Rising.f kj10 l0).bind fun t203 => (woodcutlaw21_RunsExact.j2 kj10 l0 a1 t188 t189 (!t203)))) = some r := by rw [if_neg (show ¬ (false = true) by decide)] at H; exact H
              clear H
              have H := H1
              clear H1
              have HC32 := Aside0.mk H
              clear H
              go_upto_region 9 with (fail)
              go_cut [78] (fun v78 wc => ∃ (kq : Nat) (x78_31 : Bool), v78 = .bool x78_31 ∧ Aside0 (woodcutlaw21_RunsExact.j2 kq l0 a1 t188 t189 x78_31 = some r) ∧ Aside0 (kq ≤ kj10) ∧ Aside0 (Kd.R k40 40 wc w.heap.size (fun _ => True) v190 t188) ∧ Aside0 (Below w.heap.size w wc))
              case first =>
                have H := HC32.out
                clear HC32
                by_cases c33 : a1 < 1
                · rw [if_pos c33] at H
                  have c33b0 : decide (a1 < 1) = true := decide_eq_true c33
                  clear c33
                  (first | rw [c33b0] | (simp only [i64_w, i32_w]; rw [c33b0]) | skip)
                  have H' := Aside0.mk H
                  clear H
                  go_wp2
                  go_meet
                  case rel => exact ⟨_, (true), (by first | rfl | (simp; done) | (simp [*]; done)), H', ⟨by have := HJ3.out; have := HJ10.out; first | omega | exact Nat.le_refl _⟩, ⟨by (with_reducible repeat (first | apply Kd.R_alloc | apply Kd.R_drewN | apply Kd.R_drew)); exact HO_8.out⟩, ⟨by repeat (first | (with_reducible first | exact HB.out | apply below_alloc | apply pw_below_drewN | apply below_drew1) | exact HB.out)⟩⟩
                · rw [if_neg c33] at H
                  have c33b0 : decide (a1 < 1) = false := decide_eq_false c33
                  clear c33
                  (first | rw [c33b0] | (simp only [i64_w, i32_w]; rw [c33b0]) | skip)
                  replace H := Option.bind_eq_some_iff.mp H
                  obtain ⟨t203, A340, H⟩ := H
                  replace H : (woodcutlaw21_RunsExact.j2 kj10 l0 a1 t188 t189 (!t203)) = some r := H
                  have A34 := Aside0.mk A340
                  clear A340
                  have H' := Aside0.mk H
                  clear H
                  go_wp2_with (first | (go_at_call 17; (with_reducible refine (woodcutref18_Rising.calls kj10 _ _ l0 t203 _ ?side1 ?side2 A34.out).mono ?_); (case side1 => repeat (first | exact (Kd.C_below HR0.out HB.out) | (with_reducible refine Kd.C_alloc ?_ _) | (with_reducible refine Kd.C_drewN ?_ _) | (with_reducible refine Kd.C_drew ?_))); (case side2 => exact HC0.out); rintro e w' ⟨rfl, ⟨nd, rfl⟩⟩))
                  go_meet
                  case rel => exact ⟨_, (!t203), (by first | rfl | (simp; done) | (simp [*]; done)), H', ⟨by have := HJ3.out; have := HJ10.out; first | omega | exact Nat.le_refl _⟩, ⟨by (with_reducible repeat (first | apply Kd.R_alloc | apply Kd.R_drewN | apply Kd.R_drew)); exact HO_8.out⟩, ⟨by repeat (first | (with_reducible first | exact HB.out | apply below_alloc | apply pw_below_drewN | apply below_drew1) | exact HB.out)⟩⟩
              case rest =>
                clear HC32
                try clear c1
                try clear c2
                try clear p2
                try clear c3
                try clear c5
                try clear c5b0
                try clear c5b1
                try clear c6
                try clear c12
                try clear c13
                try clear c14
                try clear c15
                try clear c17
                try clear c17b0
                try clear c17b1
                try clear c17b2
                try clear c18
                try clear c20
                try clear c26
                try clear c26b0
                try clear c26b1
                try clear c27
                try clear c27b0
                try clear c27b1
                try clear c31
                try clear c33
                try clear c33b0
                try clear p2
                obtain ⟨kq, x78_31, rfl, HA, HJ31, HO_8, HB⟩ := hcut
                cases kq with
                | zero => exact absurd HA.out (by simp [woodcutlaw21_RunsExact.j2])
                | succ kj31 =>
                  have H := HA.out
                  clear HA
                  simp only [woodcutlaw21_RunsExact.j2] at H
                  by_cases c35 : x78_31 = true
                  · subst c35
                    have H1 : (if t189 = 1 then (if (t188.length : Int) = 0 then ((woodcutlaw21_wakes.f kj31).bind fun t204 => (some t204)) else (some false)) else (some false)) = some r := by rw [if_pos rfl] at H; exact H
                    clear H
                    have H := H1
                    clear H1
                    by_cases c36 : t189 = 1
                    · rw [if_pos c36] at H
                      have c36b0 : (t189 == 1) = true := beq_iff_eq.mpr c36
                      have c36b1 : (t189 != 1) = false := bne_eq_false_iff_eq.mpr c36
                      clear c36
                      by_cases c37 : (t188.length : Int) = 0
                      · rw [if_pos c37] at H
                        have c37b0 : ((t188.length : Int) == 0) = true := beq_iff_eq.mpr c37
                        have c37b1 : ((t188.length : Int) != 0) = false := bne_eq_false_iff_eq.mpr c37
                        clear c37
                        replace H := Option.bind_eq_some_iff.mp H
                        obtain ⟨t204, A380, H⟩ := H
                        replace H : (some t204) = some r := H
                        have A38 := Aside0.mk A380
                        clear A380
                        obtain rfl := Option.some.inj H
                        obtain ⟨Ao39, co39, eo39⟩ := Kd.R_slice HO_8.out
                        subst eo39
                        go_wp2_with (first | (go_at_call 18; (with_reducible refine (woodcutlaw21_wakes.calls kj31  t204 _ A38.out).mono ?_); rintro e w40 ⟨rfl, hb⟩; have n0_ := Aside0.mk (Kd.R_below (by (with_reducible repeat (first | apply Kd.R_alloc | apply Kd.R_drewN | apply Kd.R_drew)); exact HO_8.out) hb); have n1_ := Aside0.mk (below_step (by repeat (first | (with_reducible first | exact HB.out | apply below_alloc | apply pw_below_drewN | apply below_drew1) | exact HB.out)) hb); clear HO_8; clear HB; have HO_8 := n0_; have HB := n1_; clear n0_ n1_; (try clear hb); (try clear hb2); (try clear hk); (try clear hi)))
                        go_ret
                        exact ⟨by first | rfl | (simp [errW_none, errW_some] <;> rfl) | (simp [*, errW_none, errW_some] <;> rfl), by repeat (first | (with_reducible first | exact HB.out | apply below_alloc | apply pw_below_drewN | apply below_drew1) | exact HB.out)⟩
                      · rw [if_neg c37] at H
                        have c37b0 : ((t188.length : Int) == 0) = false := beq_eq_false_iff_ne.mpr c37
                        have c37b1 : ((t188.length : Int) != 0) = true := bne_iff_ne.mpr c37
                        have c37b2 : ¬ (t188 = []) := fun h_ => c37 (by rw [h_]; rfl)
                        obtain rfl := Option.some.inj H
                        obtain ⟨Ao41, co41, eo41⟩ := Kd.R_slice HO_8.out
                        subst eo41
                        go_wp2
                        go_ret
                        exact ⟨by first | rfl | (simp [errW_none, errW_some] <;> rfl) | (simp [*, errW_none, errW_some] <;> rfl), by repeat (first | (with_reducible first | exact HB.out | apply below_alloc | apply pw_below_drewN | apply below_drew1) | exact HB.out)⟩
                    · rw [if_neg c36] at H
                      have c36b0 : (t189 == 1) = false := beq_eq_false_iff_ne.mpr c36
                      have c36b1 : (t189 != 1) = true := bne_iff_ne.mpr c36
                      obtain rfl := Option.some.inj H
                      go_wp2
                      go_ret
                      exact ⟨by first | rfl | (simp [errW_none, errW_some] <;> rfl) | (simp [*, errW_none, errW_some] <;> rfl), by repeat (first | (with_reducible first | exact HB.out | apply below_alloc | apply pw_below_drewN | apply below_drew1) | exact HB.out)⟩
                  · replace c35 := Bool.eq_false_iff.mpr c35
                    subst c35
                    have H1 : (if t189 = 0 then ((woodcutref18_Runs.f kj31 l0 a1).bind fun t205 => ((woodcutkeep_Runs.f kj31 t188 t205).bind fun t208 => (if t208 = true then ((woodcutlaw21_wakes.f kj31).bind fun t209 => (some t209)) else (some false)))) else (some false)) = some r := by rw [if_neg (show ¬ (false = true) by decide)] at H; exact H
                    clear H
                    have H := H1
                    clear H1
                    by_cases c42 : t189 = 0
                    · rw [if_pos c42] at H
                      have c42b0 : (t189 == 0) = true := beq_iff_eq.mpr c42
                      have c42b1 : (t189 != 0) = false := bne_eq_false_iff_eq.mpr c42
                      clear c42
                      replace H := Option.bind_eq_some_iff.mp H
                      obtain ⟨t205, A430, H⟩ := H
                      replace H : ((woodcutkeep_Runs.f kj31 t188 t205).bind fun t208 => (if t208 = true then ((woodcutlaw21_wakes.f kj31).bind fun t209 => (some t209)) else (some false))) = some r := H
                      have A43 := Aside0.mk A430
                      clear A430
                      replace H := Option.bind_eq_some_iff.mp H
                      obtain ⟨t208, A440, H⟩ := H
                      replace H : (if t208 = true then ((woodcutlaw21_wakes.f kj31).bind fun t209 => (some t209)) else (some false)) = some r := H
                      have A44 := Aside0.mk A440
                      clear A440
                      by_cases c45 : t208 = true
                      · subst c45
                        have H1 : ((woodcutlaw21_wakes.f kj31).bind fun t209 => (some t209)) = some r := by rw [if_pos rfl] at H; exact H
                        clear H
                        have H := H1
                        clear H1
                        replace H := Option.bind_eq_some_iff.mp H
                        obtain ⟨t209, A460, H⟩ := H
                        replace H : (some t209) = some r := H
                        have A46 := Aside0.mk A460
                        clear A460
                        obtain rfl := Option.some.inj H
                        go_wp2_with (first | (go_at_call 20; (with_reducible refine (woodcutref18_Runs.calls kj31 _ _ l0 a1 t205 _ ?side1 ?side2 A43.out).mono ?_); (case side1 => repeat (first | exact (Kd.C_below HR0.out HB.out) | (with_reducible refine Kd.C_alloc ?_ _) | (with_reducible refine Kd.C_drewN ?_ _) | (with_reducible refine Kd.C_drew ?_))); (case side2 => exact HC0.out); rintro e w47 ⟨v206, rfl, ho0, hb⟩; have n0_ := Aside0.mk (Kd.R_elder' (by (with_reducible repeat (first | apply Kd.R_alloc | apply Kd.R_drewN | apply Kd.R_drew)); exact HO_8.out) (Kd.R_base ho0) hb); have n1_ := Aside0.mk (Kd.R_lower (Kd.R_new' ho0 (Kd.R_lt (by (with_reducible repeat (first | apply Kd.R_alloc | apply Kd.R_drewN | apply Kd.R_drew)); exact HO_8.out))) (below_size (by repeat (first | (with_reducible first | exact HB.out | apply below_alloc | apply pw_below_drewN | apply below_drew1) | exact HB.out)))); have n2_ := Aside0.mk (below_step (by repeat (first | (with_reducible first | exact HB.out | apply below_alloc | apply pw_below_drewN | apply below_drew1) | exact HB.out)) hb); clear HO_8; clear HB; have HO_8 := n0_; have HO207 := n1_; have HB := n2_; clear n0_ n1_ n2_; (try clear hb); (try clear hb2); (try clear hk); (try clear hi); (try clear ho0); obtain ⟨Ao48, co48, eo48⟩ := Kd.R_slice HO_8.out; subst eo48; obtain ⟨Ao49, co49, eo49⟩ := Kd.R_slice HO207.out; subst eo49) | (go_at_call 19; (with_reducible refine (woodcutkeep_Runs.calls kj31 _ _ t188 _ _ t205 true _ ?side1 ?side2 ?side3 ?side4 A44.out).mono ?_); (case side1 => repeat (first | exact (Kd.R_reads' HO_8.out).2.2 | (with_reducible refine Kd.C_alloc ?_ _) | (with_reducible refine Kd.C_drewN ?_ _) | (with_reducible refine Kd.C_drew ?_))); (case side2 => exact (Kd.R_reads' HO_8.out).2.1); (case side3 => repeat (first | exact (Kd.R_reads' HO207.out).2.2 | (with_reducible refine Kd.C_alloc ?_ _) | (with_reducible refine Kd.C_drewN ?_ _) | (with_reducible refine Kd.C_drew ?_))); (case side4 => exact (Kd.R_reads' HO207.out).2.1); rintro e w' ⟨rfl, ⟨nd, rfl⟩⟩) | (go_at_call 18; (with_reducible refine (woodcutlaw21_wakes.calls kj31  t209 _ A46.out).mono ?_); rintro e w50 ⟨rfl, hb⟩; have n0_ := Aside0.mk (Kd.R_below (by (with_reducible repeat (first | apply Kd.R_alloc | apply Kd.R_drewN | apply Kd.R_drew)); exact HO_8.out) hb); have n1_ := Aside0.mk (Kd.R_below (by (with_reducible repeat (first | apply Kd.R_alloc | apply Kd.R_drewN | apply Kd.R_drew)); exact HO207.out) hb); have n2_ := Aside0.mk (below_step (by repeat (first | (with_reducible first | exact HB.out | apply below_alloc | apply pw_below_drewN | apply below_drew1) | exact HB.out)) hb); clear HO_8; clear HO207; clear HB; have HO_8 := n0_; have HO207 := n1_; have HB := n2_; clear n0_ n1_ n2_; (try clear hb); (try clear hb2); (try clear hk); (try clear hi)))
                        go_ret
                        exact ⟨by first | rfl | (simp [errW_none, errW_some] <;> rfl) | (simp [*, errW_none, errW_some] <;> rfl), by repeat (first | (with_reducible first | exact HB.out | apply below_alloc | apply pw_below_drewN | apply below_drew1) | exact HB.out)⟩
                      · replace c45 := Bool.eq_false_iff.mpr c45
                        subst c45
                        have H1 : (some false) = some r := by rw [if_neg (show ¬ (false = true) by decide)] at H; exact H
                        clear H
                        have H := H1
                        clear H1
                        obtain rfl := Option.some.inj H
                        go_wp2_with (first | (go_at_call 20; (with_reducible refine (woodcutref18_Runs.calls kj31 _ _ l0 a1 t205 _ ?side1 ?side2 A43.out).mono ?_); (case side1 => repeat (first | exact (Kd.C_below HR0.out HB.out) | (with_reducible refine Kd.C_alloc ?_ _) | (with_reducible refine Kd.C_drewN ?_ _) | (with_reducible refine Kd.C_drew ?_))); (case side2 => exact HC0.out); rintro e w51 ⟨v206, rfl, ho0, hb⟩; have n0_ := Aside0.mk (Kd.R_elder' (by (with_reducible repeat (first | apply Kd.R_alloc | apply Kd.R_drewN | apply Kd.R_drew)); exact HO_8.out) (Kd.R_base ho0) hb); have n1_ := Aside0.mk (Kd.R_lower (Kd.R_new' ho0 (Kd.R_lt (by (with_reducible repeat (first | apply Kd.R_alloc | apply Kd.R_drewN | apply Kd.R_drew)); exact HO_8.out))) (below_size (by repeat (first | (with_reducible first | exact HB.out | apply below_alloc | apply pw_below_drewN | apply below_drew1) | exact HB.out)))); have n2_ := Aside0.mk (below_step (by repeat (first | (with_reducible first | exact HB.out | apply below_alloc | apply pw_below_drewN | apply below_drew1) | exact HB.out)) hb); clear HO_8; clear HB; have HO_8 := n0_; have HO207 := n1_; have HB := n2_; clear n0_ n1_ n2_; (try clear hb); (try clear hb2); (try clear hk); (try clear hi); (try clear ho0); obtain ⟨Ao52, co52, eo52⟩ := Kd.R_slice HO_8.out; subst eo52; obtain ⟨Ao53, co53, eo53⟩ := Kd.R_slice HO207.out; subst eo53) | (go_at_call 19; (with_reducible refine (woodcutkeep_Runs.calls kj31 _ _ t188 _ _ t205 false _ ?side1 ?side2 ?side3 ?side4 A44.out).mono ?_); (case side1 => repeat (first | exact (Kd.R_reads' HO_8.out).2.2 | (with_reducible refine Kd.C_alloc ?_ _) | (with_reducible refine Kd.C_drewN ?_ _) | (with_reducible refine Kd.C_drew ?_))); (case side2 => exact (Kd.R_reads' HO_8.out).2.1); (case side3 => repeat (first | exact (Kd.R_reads' HO207.out).2.2 | (with_reducible refine Kd.C_alloc ?_ _) | (with_reducible refine Kd.C_drewN ?_ _) | (with_reducible refine Kd.C_drew ?_))); (case side4 => exact (Kd.R_reads' HO207.out).2.1); rintro e w' ⟨rfl, ⟨nd, rfl⟩⟩))
                        go_ret
                        exact ⟨by first | rfl | (simp [errW_none, errW_some] <;> rfl) | (simp [*, errW_none, errW_some] <;> rfl), by repeat (first | (with_reducible first | exact HB.out | apply below_alloc | apply pw_below_drewN | apply below_drew1) | exact HB.out)⟩
                    · rw [if_neg c42] at H
                      have c42b0 : (t189 == 0) = false := beq_eq_false_iff_ne.mpr c42
                      have c42b1 : (t189 != 0) = true := bne_iff_ne.mpr c42
                      obtain rfl := Option.some.inj H
                      go_wp2
                      go_ret
                      exact ⟨by first | rfl | (simp [errW_none, errW_some] <;> rfl) | (simp [*, errW_none, errW_some] <;> rfl), by repeat (first | (with_reducible first | exact HB.out | apply below_alloc | apply pw_below_drewN | apply below_drew1) | exact HB.out)⟩

end Go.Proofs.Ytijfghknjkegpaa.PRunsExact
