/- Contracts of the program's functions, as a program of this session prints them: each call comes to what the Lean function of the same name computes.
Conditions: what each theorem's hypotheses say of its arguments. -/
import Derived.Test.YtaaemamcdhebhaaPNEx0
import Derived.Test.YtaaemamcdhebhaaPNExF14
import Derived.Test.YtaaemamcdhebhaaPNExF69
namespace Go.Proofs.Ytaaemamcdhebhaa.PNE
open Go.RowKit Go.Proofs.YtaaemamcdhebhaaW.PrintWords Go.Proofs.YtaaemamcdhebhaaW.PrintLast Go.Proofs.YtaaemamcdhebhaaW.PrintMore
attribute [local go_sem] max2_int min2_int max_two min_two max_three min_three max_four min_four   -- for this text's walks alone
set_option linter.unusedVariables false
set_option linter.unusedSimpArgs false

/-! ### node_Under: function 59 -/
def node_Under.l0 : Nat → Int → Int → Int → Option (Int)
  | 0, _, _, _ => none
  | k + 1, x3, x4, x5 => if x5 < x4 then (node_Under.l0 k (wrap64 (x3 * 8)) x4 (wrap64 (x5 + 1))) else (some x3)
def node_Under.f (k : Nat) (a0 : Int) : Option (Int) := node_Under.l0 k 1 a0 0
theorem node_Under.mono_l : ∀ k, (∀ y0 y1 y2, LeO (node_Under.l0 k y0 y1 y2) (node_Under.l0 (k + 1) y0 y1 y2))
  | 0 => fun _ _ _ r h => by simp [node_Under.l0] at h
  | k + 1 => by
    have ih0 := node_Under.mono_l k
    · intro y0 y1 y2
      unfold node_Under.l0
      repeat' first
      | (with_reducible exact ih0 _ _ _)
      | (with_reducible exact LeO.refl _)
      | (with_reducible exact LeO.none _)
      | (with_reducible refine LeO.ite ?_ ?_)
      | (with_reducible refine LeO.bind ?_ (fun _ => ?_))
      | exact ih0 _ _ _
      | exact LeO.none _
      | refine LeO.ite ?_ ?_
      | refine LeO.bind ?_ (fun _ => ?_)
theorem node_Under.mono : ∀ a0 k, LeO (node_Under.f k a0) (node_Under.f (k + 1) a0) := by
  intro a0 k
  have ih0 := node_Under.mono_l k
  unfold node_Under.f
  repeat' first
      | (with_reducible exact ih0 _ _ _)
      | (with_reducible exact LeO.refl _)
      | (with_reducible exact LeO.none _)
      | (with_reducible refine LeO.ite ?_ ?_)
      | (with_reducible refine LeO.bind ?_ (fun _ => ?_))
      | exact ih0 _ _ _
      | exact LeO.none _
      | refine LeO.ite ?_ ?_
      | refine LeO.bind ?_ (fun _ => ?_)
set_option maxHeartbeats 8000000 in
set_option maxRecDepth 100000 in
theorem node_Under.calls (k : Nat) (a0 : Int) (r : Int) (w : World) (h : node_Under.f k a0 = some r) :
    Calls Try.prog 59 #[.int .i64 a0] w fun e w' => e = .returned (.int .i64 r) ∧ Drawn0 w w' := by
  have H : (node_Under.l0 k 1 a0 0) = some r := h
  clear h
  have H' := Aside0.mk H
  clear H
  go_enter Try.func59, Try.ntmps59
  go_wp2
  go_loopg [3, 5] k (fun kq v3 v5 w' => ∃ (x3_1 : Int) (x5_1 : Int), v3 = .int .i64 x3_1 ∧ v5 = .int .i64 x5_1 ∧ Aside0 (node_Under.l0 kq x3_1 a0 x5_1 = some r) ∧ Aside0 (kq ≤ k) ∧ Drawn0 w w')
  case atStart => exact ⟨(1), (0), (by first | rfl | (simp; done) | (simp [*]; done)), (by first | rfl | (simp; done) | (simp [*]; done)), H', ⟨Nat.le_refl _⟩, by repeat (first | exact Drawn0.refl _ | apply Drawn0.step)⟩
  case round =>
    clear H'
    obtain ⟨x3_1, x5_1, rfl, rfl, HA, HK1, ⟨m1, rfl⟩⟩ := hrel
    cases gk with
    | zero => exact absurd HA.out (by simp [node_Under.l0])
    | succ k1 =>
      have H := HA.out
      clear HA
      simp only [node_Under.l0] at H
      by_cases c2 : x5_1 < a0
      · rw [if_pos c2] at H
        have c2b0 : decide (x5_1 < a0) = true := decide_eq_true c2
        clear c2
        have H' := Aside0.mk H
        clear H
        go_wp2
        go_roundg k1
        case measure => have := HK1.out; omega
        case rel => exact ⟨(wrap64 (x3_1 * 8)), (wrap64 (x5_1 + 1)), (by first | rfl | (simp; done) | (simp [*]; done)), (by first | rfl | (simp; done) | (simp [*]; done)), H', ⟨by have := HK1.out; omega⟩, by repeat (first | exact Drawn0.refl _ | apply Drawn0.step)⟩
      · rw [if_neg c2] at H
        have c2b0 : decide (x5_1 < a0) = false := decide_eq_false c2
        clear c2
        obtain rfl := Option.some.inj H
        go_wp2
        go_ret
        exact ⟨by first | rfl | (simp; done) | (simp [*]; done), by repeat (first | exact Drawn0.refl _ | apply Drawn0.step)⟩

/-! ### node_Place: function 25, walked by hand -/
theorem place_w64 {x : Int} (h0 : -9223372036854775808 ≤ x) (h1 : x ≤ 9223372036854775807) : wrap64 x = x := by unfold wrap64; omega
def under (n : Nat) : Int := 8 ^ n
theorem node_Under_ok : ∀ (n : Nat), n ≤ 3 → ∃ k, node_Under.f k (n : Int) = some (under n) := by
  intro n hn
  have : n = 0 ∨ n = 1 ∨ n = 2 ∨ n = 3 := by omega
  rcases this with rfl | rfl | rfl | rfl
  · exact ⟨1, by unfold node_Under.f; simp only [node_Under.l0]; rw [if_neg (by decide)]; rfl⟩
  · refine ⟨2, ?_⟩
    unfold node_Under.f; simp only [node_Under.l0]
    rw [if_pos (by decide), place_w64 (x := (0 : Int) + 1) (by decide) (by decide), if_neg (by decide), place_w64 (x := (1 : Int) * 8) (by decide) (by decide)]; rfl
  · refine ⟨3, ?_⟩
    unfold node_Under.f; simp only [node_Under.l0]
    rw [if_pos (by decide), place_w64 (x := (0 : Int) + 1) (by decide) (by decide), if_pos (by decide), place_w64 (x := (0 : Int) + 1 + 1) (by decide) (by decide), if_neg (by decide), place_w64 (x := (1 : Int) * 8) (by decide) (by decide), place_w64 (x := (1 : Int) * 8 * 8) (by decide) (by decide)]; rfl
  · refine ⟨4, ?_⟩
    unfold node_Under.f; simp only [node_Under.l0]
    rw [if_pos (by decide), place_w64 (x := (0 : Int) + 1) (by decide) (by decide), if_pos (by decide), place_w64 (x := (0 : Int) + 1 + 1) (by decide) (by decide), if_pos (by decide), place_w64 (x := (0 : Int) + 1 + 1 + 1) (by decide) (by decide), if_neg (by decide), place_w64 (x := (1 : Int) * 8) (by decide) (by decide), place_w64 (x := (1 : Int) * 8 * 8) (by decide) (by decide), place_w64 (x := (1 : Int) * 8 * 8 * 8) (by decide) (by decide)]; rfl
/-- Is there such a sector below a node of a level? -/
def placeOk (s lv : Int) : Bool := decide (0 ≤ lv) && decide (lv ≤ 2) && decide (0 ≤ s) && decide (s < under (lv.toNat + 1))
def placeE (s lv : Int) : Int × Int × Int := if placeOk s lv = true then (s / under lv.toNat, s % under lv.toNat, 0) else (0, 0, 1)
def node_Place.f (a0 : Int) (a1 : Int) : Option (Int × Int × Int) := some (placeE a0 a1)
theorem ret3 {a b c a' b' c' : Int} (h : (a, b, c) = (a', b', c')) : Ending.returned (.tuple #[.int .i64 a, .int .i64 b, .int .i64 c]) = .returned (.tuple #[.int .i64 a', .int .i64 b', .int .i64 c']) := by
  simp only [Prod.mk.injEq] at h
  obtain ⟨rfl, rfl, rfl⟩ := h
  rfl
set_option maxHeartbeats 2000000 in
set_option maxRecDepth 100000 in
theorem node_Place_good (s : Int) (n : Nat) (w : World) (hn : n ≤ 2) (h0 : 0 ≤ s) (u v : Int) (k1 k2 : Nat) (hu : node_Under.f k1 (n : Int) = some u) (hv : node_Under.f k2 ((n : Int) + 1) = some v) (hlt : s < v) (hu1 : 1 ≤ u) (hu2 : u ≤ 64) (hv2 : v ≤ 512) :
    Calls Try.prog 25 #[.int .i64 s, .int .i64 (n : Int)] w fun e w' => e = .returned (.tuple #[.int .i64 (s / u), .int .i64 (s % u), .int .i64 0]) ∧ Drawn0 w w' := by
  have HU := Aside0.mk hu
  have HV := Aside0.mk hv
  have hq := Int.ediv_le_self u h0
  have b1 : decide ((n : Int) < 0) = false := decide_eq_false (by omega)
  have b2 : decide (2 < (n : Int)) = false := decide_eq_false (by omega)
  have b3 : decide (s < 0) = false := decide_eq_false (by omega)
  have b4 : decide (v ≤ s) = false := decide_eq_false (by omega)
  clear hu hv hq
  go_enter Try.func25, Try.ntmps25
  go_wp2_with fail
  refine (node_Under.calls k2 ((n : Int) + 1) v _ HV.out).mono ?_
  rintro e w1 ⟨rfl, hd1⟩
  have HD1 := Aside0.mk hd1
  clear hd1
  go_wp2_with fail
  go_quiet ((go_at_call 59; exact Calls.quiet_of ((node_Under.calls k1 (n : Int) u _ HU.out).mono fun e w' ⟨he, hd⟩ => ⟨he, hd.out⟩)))
  go_wp2
  go_ret3
  exact ⟨rfl, HD1.out.step _⟩
set_option maxHeartbeats 2000000 in
set_option maxRecDepth 100000 in
theorem node_Place_far (s : Int) (n : Nat) (w : World) (hn : n ≤ 2) (h0 : 0 ≤ s) (v : Int) (k2 : Nat) (hv : node_Under.f k2 ((n : Int) + 1) = some v) (hge : v ≤ s) :
    Calls Try.prog 25 #[.int .i64 s, .int .i64 (n : Int)] w fun e w' => e = .returned (.tuple #[.int .i64 0, .int .i64 0, .int .i64 1]) ∧ Drawn0 w w' := by
  have HV := Aside0.mk hv
  have b1 : decide ((n : Int) < 0) = false := decide_eq_false (by omega)
  have b2 : decide (2 < (n : Int)) = false := decide_eq_false (by omega)
  have b3 : decide (s < 0) = false := decide_eq_false (by omega)
  have b4 : decide (v ≤ s) = true := decide_eq_true hge
  clear hv
  go_enter Try.func25, Try.ntmps25
  go_wp2_with fail
  refine (node_Under.calls k2 ((n : Int) + 1) v _ HV.out).mono ?_
  rintro e w1 ⟨rfl, hd1⟩
  have HD1 := Aside0.mk hd1
  clear hd1
  go_wp2
  go_ret3
  exact ⟨rfl, HD1.out⟩
set_option maxHeartbeats 2000000 in
set_option maxRecDepth 100000 in
theorem node_Place_bad (s lv : Int) (w : World) (h : lv < 0 ∨ 2 < lv ∨ s < 0) :
    Calls Try.prog 25 #[.int .i64 s, .int .i64 lv] w fun e w' => e = .returned (.tuple #[.int .i64 0, .int .i64 0, .int .i64 1]) ∧ Drawn0 w w' := by
  by_cases h1 : lv < 0
  · have b1 : decide (lv < 0) = true := decide_eq_true h1
    clear h
    go_enter Try.func25, Try.ntmps25
    go_wp2
    go_ret3
    exact ⟨rfl, Drawn0.refl _⟩
  · have b1 : decide (lv < 0) = false := decide_eq_false h1
    by_cases h2 : 2 < lv
    · have b2 : decide (2 < lv) = true := decide_eq_true h2
      clear h h1
      go_enter Try.func25, Try.ntmps25
      go_wp2
      go_ret3
      exact ⟨rfl, Drawn0.refl _⟩
    · have b2 : decide (2 < lv) = false := decide_eq_false h2
      have b3 : decide (s < 0) = true := decide_eq_true (by omega)
      clear h
      go_enter Try.func25, Try.ntmps25
      go_wp2
      go_ret3
      exact ⟨rfl, Drawn0.refl _⟩
theorem under_bd (n : Nat) (h : n ≤ 3) : 1 ≤ under n ∧ under n ≤ 512 ∧ (n ≤ 2 → under n ≤ 64) := by
  have : n = 0 ∨ n = 1 ∨ n = 2 ∨ n = 3 := by omega
  rcases this with rfl | rfl | rfl | rfl <;> (unfold under; refine ⟨by decide, by decide, by decide⟩)
theorem node_Place.calls (a0 : Int) (a1 : Int) (r1 : Int) (r2 : Int) (r3 : Int) (w : World) (h : node_Place.f a0 a1 = some (r1, r2, r3)) :
    Calls Try.prog 25 #[.int .i64 a0, .int .i64 a1] w fun e w' => e = .returned (.tuple #[.int .i64 r1, .int .i64 r2, .int .i64 r3]) ∧ Drawn0 w w' := by
  have h := Option.some.inj h
  unfold placeE placeOk at h
  by_cases hb : a1 < 0 ∨ 2 < a1 ∨ a0 < 0
  · rw [if_neg (by simp only [Bool.and_eq_true, decide_eq_true_eq]; omega)] at h
    simp only [Prod.mk.injEq] at h
    obtain ⟨rfl, rfl, rfl⟩ := h
    exact node_Place_bad a0 a1 w hb
  · obtain ⟨n, rfl⟩ := Int.eq_ofNat_of_zero_le (show 0 ≤ a1 by omega)
    rw [Int.toNat_natCast] at h
    obtain ⟨k1, hk1⟩ := node_Under_ok n (by omega)
    obtain ⟨k2, hk2⟩ := node_Under_ok (n + 1) (by omega)
    have e : (((n + 1 : Nat)) : Int) = (n : Int) + 1 := by omega
    rw [e] at hk2
    have hb1 := under_bd n (by omega)
    have hb2 := under_bd (n + 1) (by omega)
    have hb3 := hb1.2.2 (by omega)
    by_cases hc : a0 < under (n + 1)
    · rw [if_pos (by simp only [Bool.and_eq_true, decide_eq_true_eq]; omega)] at h
      simp only [Prod.mk.injEq] at h
      obtain ⟨rfl, rfl, rfl⟩ := h
      exact node_Place_good a0 n w (by omega) (by omega) _ _ k1 k2 hk1 hk2 hc hb1.1 hb3 hb2.2.1
    · rw [if_neg (by simp only [Bool.and_eq_true, decide_eq_true_eq]; omega)] at h
      simp only [Prod.mk.injEq] at h
      obtain ⟨rfl, rfl, rfl⟩ := h
      exact node_Place_far a0 n w (by omega) (by omega) _ k2 hk2 (by omega)

/-! ### woodcutref01_In: function 52 -/
def woodcutref01_In.f (a0 : Int) (a1 : Int) (a2 : Int) : Option (Bool) := if a0 ≥ a1 then (some (decide (a0 ≤ a2))) else (some false)
set_option maxHeartbeats 8000000 in
set_option maxRecDepth 100000 in
theorem woodcutref01_In.calls (a0 : Int) (a1 : Int) (a2 : Int) (r : Bool) (w : World) (h : woodcutref01_In.f a0 a1 a2 = some r) :
    Calls Try.prog 52 #[.int .i64 a0, .int .i64 a1, .int .i64 a2] w fun e w' => e = .returned (.bool r) ∧ Drawn0 w w' := by
  have H : (if a0 ≥ a1 then (some (decide (a0 ≤ a2))) else (some false)) = some r := h
  clear h
  by_cases c4 : a0 ≥ a1
  · rw [if_pos c4] at H
    have c4b0 : decide (a1 ≤ a0) = true := decide_eq_true c4
    clear c4
    obtain rfl := Option.some.inj H
    go_enter Try.func52, Try.ntmps52
    go_wp2
    go_ret
    exact ⟨by first | rfl | (simp; done) | (simp [*]; done), by repeat (first | exact Drawn0.refl _ | apply Drawn0.step)⟩
  · rw [if_neg c4] at H
    have c4b0 : decide (a1 ≤ a0) = false := decide_eq_false c4
    clear c4
    obtain rfl := Option.some.inj H
    go_enter Try.func52, Try.ntmps52
    go_wp2
    go_ret
    exact ⟨by first | rfl | (simp; done) | (simp [*]; done), by repeat (first | exact Drawn0.refl _ | apply Drawn0.step)⟩

/-! ### woodcutref01_link: function 50 -/
def woodcutref01_link.f (a0 : Int) (a1 : Int) : Option (Bool) := if a0 = 0 then (some true) else ((woodcutref01_In.f a0 2 (wrap64 (a1 - 1))).bind fun t101 => (some t101))
set_option maxHeartbeats 8000000 in
set_option maxRecDepth 100000 in
theorem woodcutref01_link.calls (a0 : Int) (a1 : Int) (r : Bool) (w : World) (h : woodcutref01_link.f a0 a1 = some r) :
    Calls Try.prog 50 #[.int .i64 a0, .int .i64 a1] w fun e w' => e = .returned (.bool r) ∧ Drawn0 w w' := by
  have H : (if a0 = 0 then (some true) else ((woodcutref01_In.f a0 2 (wrap64 (a1 - 1))).bind fun t101 => (some t101))) = some r := h
  clear h
  by_cases c3 : a0 = 0
  · rw [if_pos c3] at H
    have c3b0 : (a0 == 0) = true := beq_iff_eq.mpr c3
    have c3b1 : (a0 != 0) = false := bne_eq_false_iff_eq.mpr c3
    clear c3
    obtain rfl := Option.some.inj H
    go_enter Try.func50, Try.ntmps50
    go_wp2
    go_ret
    exact ⟨by first | rfl | (simp; done) | (simp [*]; done), by repeat (first | exact Drawn0.refl _ | apply Drawn0.step)⟩
  · rw [if_neg c3] at H
    have c3b0 : (a0 == 0) = false := beq_eq_false_iff_ne.mpr c3
    have c3b1 : (a0 != 0) = true := bne_iff_ne.mpr c3
    replace H := Option.bind_eq_some_iff.mp H
    obtain ⟨t101, A40, H⟩ := H
    replace H : (some t101) = some r := H
    have A4 := Aside0.mk A40
    clear A40
    obtain rfl := Option.some.inj H
    go_enter Try.func50, Try.ntmps50
    go_wp2_with (first | (go_at_call 52; (with_reducible refine (woodcutref01_In.calls a0 2 (wrap64 (a1 - 1)) t101 _ A4.out).mono ?_); rintro e w' ⟨rfl, ⟨nd, rfl⟩⟩))
    go_ret
    exact ⟨by first | rfl | (simp; done) | (simp [*]; done), by repeat (first | exact Drawn0.refl _ | apply Drawn0.step)⟩

/-! ### woodcutref01_link: function 50, what it comes to -/
theorem link_f (x : Int) : woodcutref01_link.f x 4096 = some (Nod.isPtr x) := by
  unfold woodcutref01_link.f woodcutref01_In.f Nod.isPtr
  have e : wrap64 ((4096 : Int) - 1) = 4095 := by unfold wrap64; omega
  rw [e]
  by_cases h0 : x = 0
  · subst h0; rfl
  · rw [if_neg h0, show (x == 0) = false from beq_eq_false_iff_ne.2 h0, Bool.false_or]
    by_cases h1 : 2 ≤ x
    · rw [if_pos h1, decide_eq_true h1, Bool.true_and]
      simp only [Option.bind_some]
      congr 1
      exact decide_eq_decide.2 (by omega)
    · rw [if_neg h1, decide_eq_false h1]; rfl

/-! ### woodcutref01_Node: function 27, walked by hand -/
theorem in02_f (x : Int) : woodcutref01_In.f x 0 2 = some (decide (0 ≤ x) && decide (x ≤ 2)) := by
  unfold woodcutref01_In.f
  by_cases h1 : 0 ≤ x
  · rw [if_pos h1, decide_eq_true h1]; rfl
  · rw [if_neg h1, decide_eq_false h1]; rfl
theorem ret_bool' {a b : Bool} (h : a = b) : Ending.returned (.bool a) = .returned (.bool b) := by rw [h]
def woodcutref01_Node.f (a0_0 : Int) (a0_1 : Int) (a0_2 : Int) (a0_3 : Int) (a0_4 : Int) (a0_5 : Int) (a0_6 : Int) (a0_7 : Int) (a0_8 : Int) : Option Bool := some (Nod.okNode a0_0 [a0_1, a0_2, a0_3, a0_4, a0_5, a0_6, a0_7, a0_8])
set_option maxHeartbeats 2000000 in
set_option maxRecDepth 100000 in
theorem woodcutref01_Node.calls (a0_0 : Int) (a0_1 : Int) (a0_2 : Int) (a0_3 : Int) (a0_4 : Int) (a0_5 : Int) (a0_6 : Int) (a0_7 : Int) (a0_8 : Int) (r : Bool) (w : World) (h : woodcutref01_Node.f a0_0 a0_1 a0_2 a0_3 a0_4 a0_5 a0_6 a0_7 a0_8 = some r) :
    Calls Try.prog 27 #[.agg #[.int .i64 a0_0, .int .i64 a0_1, .int .i64 a0_2, .int .i64 a0_3, .int .i64 a0_4, .int .i64 a0_5, .int .i64 a0_6, .int .i64 a0_7, .int .i64 a0_8]] w fun e w' => e = .returned (.bool r) ∧ Below w.heap.size w w' := by
  unfold woodcutref01_Node.f at h
  obtain rfl := Option.some.inj h
  clear h
  have HB := Aside0.mk (Below.refl w.heap.size w)
  have hce : ∀ (k : Nat), k < 8 → (w.alloc (.cells #[.int .i64 a0_0, .int .i64 a0_1, .int .i64 a0_2, .int .i64 a0_3, .int .i64 a0_4, .int .i64 a0_5, .int .i64 a0_6, .int .i64 a0_7, .int .i64 a0_8] 43)).cell? ⟨w.heap.size, 1 + k, none⟩ = some (.int .i64 (rd [a0_1, a0_2, a0_3, a0_4, a0_5, a0_6, a0_7, a0_8] (k : Int))) := by
    intro k hk
    unfold rd; rw [Int.toNat_natCast]
    match k, hk with
    | 0, _ => go_simp
    | 1, _ => go_simp
    | 2, _ => go_simp
    | 3, _ => go_simp
    | 4, _ => go_simp
    | 5, _ => go_simp
    | 6, _ => go_simp
    | 7, _ => go_simp
  have HCE := Aside0.mk hce
  clear hce
  have hl : ([a0_1, a0_2, a0_3, a0_4, a0_5, a0_6, a0_7, a0_8] : List Int).length = 8 := rfl
  generalize hps : ([a0_1, a0_2, a0_3, a0_4, a0_5, a0_6, a0_7, a0_8] : List Int) = ps at *
  have HL := Aside0.mk hl
  clear hps hl
  by_cases hlv : (decide (0 ≤ a0_0) && decide (a0_0 ≤ 2)) = true
  case neg =>
    have hlv' : (decide (0 ≤ a0_0) && decide (a0_0 ≤ 2)) = false := by simpa using hlv
    have HLV := Aside0.mk hlv'
    clear hlv hlv'
    go_enter Try.func27, Try.ntmps27
    go_wp2_with fail
    refine (woodcutref01_In.calls a0_0 0 2 false _ (by rw [in02_f, HLV.out])).mono ?_
    rintro e w1 ⟨rfl, hd1⟩
    obtain ⟨n1, rfl⟩ := hd1.out
    go_wp2
    go_ret
    exact ⟨ret_bool' (by unfold Nod.okNode; rw [HLV.out]; rfl), pw_below_drewN (below_alloc HB.out _) n1⟩
  have HLV := Aside0.mk hlv
  clear hlv
  go_enter Try.func27, Try.ntmps27
  go_wp2_with fail
  refine (woodcutref01_In.calls a0_0 0 2 true _ (by rw [in02_f, HLV.out])).mono ?_
  rintro e w1 ⟨rfl, hd1⟩
  obtain ⟨n1, rfl⟩ := hd1.out
  go_wp2_with fail
  go_loopw [3, 4] (fun v3 i w' => ∃ k : Nat, k ≤ 8 ∧ i = .int .i64 k ∧ v3 = .bool (Nod.anyNZ (ps.take k)) ∧ Aside0 ((ps.take k).all Nod.isPtr = true) ∧ Aside0 (Drawn0 (w.alloc (.cells #[.int .i64 a0_0, .int .i64 a0_1, .int .i64 a0_2, .int .i64 a0_3, .int .i64 a0_4, .int .i64 a0_5, .int .i64 a0_6, .int .i64 a0_7, .int .i64 a0_8] 43)) w')) (fun _ i _ => 8 - (intOf i).toNat)
  case atStart => exact ⟨0, Nat.zero_le _, rfl, rfl, ⟨rfl⟩, ⟨(Drawn0.refl _).step n1⟩⟩
  case round =>
    clear hd1
    obtain ⟨k, hk, rfl, rfl, HA, HD⟩ := hrel
    obtain ⟨nq, rfl⟩ := HD.out.out
    by_cases hlt : k < 8
    · have hq := HCE.out k hlt
      have HT := Aside0.mk (Nod.rd_take ps k (by rw [HL.out]; exact hlt))
      generalize rd ps (k : Int) = x at *
      go_wp2_with fail
      refine (woodcutref01_link.calls x 4096 (Nod.isPtr x) _ (link_f x)).mono ?_
      rintro e w2 ⟨rfl, hd2⟩
      obtain ⟨n2, rfl⟩ := hd2.out
      by_cases hp : Nod.isPtr x = true
      · have HP := Aside0.mk hp
        have HN := Aside0.mk (Nod.anyNZ_snoc (ps.take k) x)
        generalize hany : Nod.anyNZ (ps.take k) = b at *
        clear hd2 hany
        cases b with
        | true =>
          go_wp2
          go_roundw
          case rel => exact ⟨k + 1, by omega, by go_num, by rw [HT.out, HN.out]; rfl, ⟨by rw [HT.out, List.all_append, HA.out]; simp [HP.out]⟩, ⟨(Drawn0.refl _).step _⟩⟩
          case measure => simp [intOf]; omega
        | false =>
          go_wp2
          go_roundw
          case rel => exact ⟨k + 1, by omega, by go_num, by rw [HT.out, HN.out]; rfl, ⟨by rw [HT.out, List.all_append, HA.out]; simp [HP.out]⟩, ⟨(Drawn0.refl _).step _⟩⟩
          case measure => simp [intOf]; omega
      · have hp' : Nod.isPtr x = false := by simpa using hp
        have HP := Aside0.mk hp'
        have HALL := Aside0.mk (show ps.all Nod.isPtr = false from by
          rw [← List.take_append_drop (k + 1) ps, HT.out, List.all_append, List.all_append]; simp [HP.out])
        clear hp hd2 hq
        go_wp2
        go_ret
        exact ⟨ret_bool' (by unfold Nod.okNode; rw [HALL.out]; simp), pw_below_drewN (below_alloc HB.out _) _⟩
    · obtain rfl : k = 8 := by omega
      have HALL := Aside0.mk (show ps.all Nod.isPtr = true from by rw [← HA.out, List.take_of_length_le (by rw [HL.out]; omega)])
      rw [List.take_of_length_le (by rw [HL.out]; omega)]
      have HOK := Aside0.mk (show Nod.okNode a0_0 ps = Nod.anyNZ ps from by unfold Nod.okNode; rw [HALL.out, HLV.out]; rfl)
      generalize hany : Nod.anyNZ ps = b at *
      clear hany
      go_wp2
      go_ret
      exact ⟨ret_bool' HOK.out.symm, pw_below_drewN (below_alloc HB.out _) nq⟩

/-! ### woodcutref01_Number: function 74 -/
def woodcutref01_Number.l0 : Nat → List Int → Int → Int → Option (Int × Bool)
  | 0, _, _, _ => none
  | k + 1, x0, x4, x5 => if x5 ≥ 0 then (if 0 ≤ x5 then (if x5 < (x0.length : Int) then (if x4 > (wrap64 (Int.tdiv (wrap64 (4611686018427387903 - (wrap64 (rd x0 x5)))) 256)) then (some (0, false)) else (woodcutref01_Number.l0 k x0 (wrap64 ((wrap64 (256 * x4)) + (wrap64 (rd x0 x5)))) (wrap64 (x5 - 1)))) else (none)) else (none)) else (some (x4, true))
def woodcutref01_Number.f (k : Nat) (l0 : List Int) : Option (Int × Bool) := woodcutref01_Number.l0 k l0 0 (wrap64 ((l0.length : Int) - 1))
theorem woodcutref01_Number.mono_l : ∀ k, (∀ y0 y1 y2, LeO (woodcutref01_Number.l0 k y0 y1 y2) (woodcutref01_Number.l0 (k + 1) y0 y1 y2))
  | 0 => fun _ _ _ r h => by simp [woodcutref01_Number.l0] at h
  | k + 1 => by
    have ih0 := woodcutref01_Number.mono_l k
    · intro y0 y1 y2
      unfold woodcutref01_Number.l0
      repeat' first
      | (with_reducible exact ih0 _ _ _)
      | (with_reducible exact LeO.refl _)
      | (with_reducible exact LeO.none _)
      | (with_reducible refine LeO.ite ?_ ?_)
      | (with_reducible refine LeO.bind ?_ (fun _ => ?_))
      | exact ih0 _ _ _
      | exact LeO.none _
      | refine LeO.ite ?_ ?_
      | refine LeO.bind ?_ (fun _ => ?_)
theorem woodcutref01_Number.mono : ∀ a0 k, LeO (woodcutref01_Number.f k a0) (woodcutref01_Number.f (k + 1) a0) := by
  intro a0 k
  have ih0 := woodcutref01_Number.mono_l k
  unfold woodcutref01_Number.f
  repeat' first
      | (with_reducible exact ih0 _ _ _)
      | (with_reducible exact LeO.refl _)
      | (with_reducible exact LeO.none _)
      | (with_reducible refine LeO.ite ?_ ?_)
      | (with_reducible refine LeO.bind ?_ (fun _ => ?_))
      | exact ih0 _ _ _
      | exact LeO.none _
      | refine LeO.ite ?_ ?_
      | refine LeO.bind ?_ (fun _ => ?_)
set_option maxHeartbeats 8000000 in
set_option maxRecDepth 100000 in
theorem woodcutref01_Number.calls (k : Nat) (A0 : Option Addr) (c0 : Nat) (l0 : List Int) (r1 : Int) (r2 : Bool) (w : World) (hr0 : Kd.C (Kd.int .u8) w A0 l0.length l0) (hc0 : l0.length ≤ c0) (h : woodcutref01_Number.f k l0 = some (r1, r2)) :
    Calls Try.prog 74 #[.slice A0 l0.length c0] w fun e w' => e = .returned (.tuple #[.int .i64 r1, .bool r2]) ∧ Drawn0 w w' := by
  have HR0 := Aside0.mk hr0
  have HC0 := Aside0.mk hc0
  clear hr0 hc0
  have H : (woodcutref01_Number.l0 k l0 0 (wrap64 ((l0.length : Int) - 1))) = some (r1, r2) := h
  clear h
  have H' := Aside0.mk H
  clear H
  go_enter Try.func74, Try.ntmps74
  go_wp2
  go_loopg [4, 5] k (fun kq v4 v5 w' => ∃ (x4_1 : Int) (x5_1 : Int), v4 = .int .i64 x4_1 ∧ v5 = .int .i64 x5_1 ∧ Aside0 (woodcutref01_Number.l0 kq l0 x4_1 x5_1 = some (r1, r2)) ∧ Aside0 (kq ≤ k) ∧ Drawn0 w w')
  case atStart => exact ⟨(0), (wrap64 ((l0.length : Int) - 1)), (by first | rfl | (simp; done) | (simp [*]; done)), (by first | rfl | (simp; done) | (simp [*]; done)), H', ⟨Nat.le_refl _⟩, by repeat (first | exact Drawn0.refl _ | apply Drawn0.step)⟩
  case round =>
    clear H'
    obtain ⟨x4_1, x5_1, rfl, rfl, HA, HK1, ⟨m1, rfl⟩⟩ := hrel
    cases gk with
    | zero => exact absurd HA.out (by simp [woodcutref01_Number.l0])
    | succ k1 =>
      have H := HA.out
      clear HA
      simp only [woodcutref01_Number.l0] at H
      by_cases c2 : x5_1 ≥ 0
      · rw [if_pos c2] at H
        have c2b0 : decide (0 ≤ x5_1) = true := decide_eq_true c2
        clear c2
        by_cases c3 : 0 ≤ x5_1
        · rw [if_pos c3] at H
          have c3b0 : decide (0 ≤ x5_1) = true := decide_eq_true c3
          clear c3
          by_cases c4 : x5_1 < (l0.length : Int)
          · rw [if_pos c4] at H
            have c4b0 : decide (x5_1 < (l0.length : Int)) = true := decide_eq_true c4
            clear c4
            by_cases c5 : x4_1 > (wrap64 (Int.tdiv (wrap64 (4611686018427387903 - (wrap64 (rd l0 x5_1)))) 256))
            · rw [if_pos c5] at H
              have c5b0 : decide ((wrap64 (Int.tdiv (wrap64 (4611686018427387903 - (wrap64 (rd l0 x5_1)))) 256)) < x4_1) = true := decide_eq_true c5
              clear c5
              simp only [Option.some.injEq, Prod.mk.injEq] at H
              obtain ⟨rfl, rfl⟩ := H
              have p101 : 0 ≤ (x5_1 : Int) := of_decide_eq_true (by first | (with_reducible assumption) | assumption)
              have q101 : x5_1 < (l0.length : Int) := of_decide_eq_true (by first | (with_reducible assumption) | assumption)
              obtain ⟨ad101, e101, hx101_0⟩ := Kd.at_int HR0.out x5_1 p101 q101
              cases e101
              replace p101 := eq_true p101
              replace q101 := eq_true q101
              go_wp2
              go_ret2
              exact ⟨by first | rfl | (simp; done) | (simp [*]; done), by repeat (first | exact Drawn0.refl _ | apply Drawn0.step)⟩
            · rw [if_neg c5] at H
              have c5b0 : decide ((wrap64 (Int.tdiv (wrap64 (4611686018427387903 - (wrap64 (rd l0 x5_1)))) 256)) < x4_1) = false := decide_eq_false c5
              clear c5
              have H' := Aside0.mk H
              clear H
              have p101 : 0 ≤ (x5_1 : Int) := of_decide_eq_true (by first | (with_reducible assumption) | assumption)
              have q101 : x5_1 < (l0.length : Int) := of_decide_eq_true (by first | (with_reducible assumption) | assumption)
              obtain ⟨ad101, e101, hx101_0⟩ := Kd.at_int HR0.out x5_1 p101 q101
              cases e101
              replace p101 := eq_true p101
              replace q101 := eq_true q101
              have p102 : 0 ≤ (x5_1 : Int) := of_decide_eq_true (by first | (with_reducible assumption) | assumption)
              have q102 : x5_1 < (l0.length : Int) := of_decide_eq_true (by first | (with_reducible assumption) | assumption)
              obtain ⟨ad102, e102, hx102_0⟩ := Kd.at_int HR0.out x5_1 p102 q102
              obtain rfl : ad101 = ad102 := (by injection e102)
              replace p102 := eq_true p102
              replace q102 := eq_true q102
              go_wp2
              go_roundg k1
              case measure => have := HK1.out; omega
              case rel => exact ⟨(wrap64 ((wrap64 (256 * x4_1)) + (wrap64 (rd l0 x5_1)))), (wrap64 (x5_1 - 1)), (by first | rfl | (simp; done) | (simp [*]; done)), (by first | rfl | (simp; done) | (simp [*]; done)), H', ⟨by have := HK1.out; omega⟩, by repeat (first | exact Drawn0.refl _ | apply Drawn0.step)⟩
          · rw [if_neg c4] at H
            exact absurd H (by simp)
        · rw [if_neg c3] at H
          exact absurd H (by simp)
      · rw [if_neg c2] at H
        have c2b0 : decide (0 ≤ x5_1) = false := decide_eq_false c2
        clear c2
        simp only [Option.some.injEq, Prod.mk.injEq] at H
        obtain ⟨rfl, rfl⟩ := H
        go_wp2
        go_ret2
        exact ⟨by first | rfl | (simp; done) | (simp [*]; done), by repeat (first | exact Drawn0.refl _ | apply Drawn0.step)⟩

/-! ### woodcutref01_Number: function 74, what it comes to -/
theorem leN_append : ∀ (a b : List Int), Blk.leN (a ++ b) = Blk.leN a + 256 ^ a.length * Blk.leN b := by
  intro a
  induction a with
  | nil => intro b; simp [Blk.leN]
  | cons x t ih =>
    intro b
    rw [List.cons_append, Blk.leN, ih, Blk.leN, List.length_cons, Int.pow_succ, Int.mul_add, Int.add_assoc]
    congr 2
    rw [← Int.mul_assoc, Int.mul_comm 256 (256 ^ t.length)]
theorem leN_drop_le (l : List Int) (hb : ∀ x ∈ l, 0 ≤ x ∧ x < 256) (i : Nat) : Blk.leN (l.drop i) ≤ Blk.leN l := by
  have h1 := leN_append (l.take i) (l.drop i)
  rw [List.take_append_drop] at h1
  have h2 := (Blk.leN_nonneg (l := l.take i) (fun x hx => hb x (List.mem_of_mem_take hx))).1
  have h3 := (Blk.leN_nonneg (l := l.drop i) (fun x hx => hb x (List.mem_of_mem_drop hx))).1
  have h4 : (1 : Int) ≤ 256 ^ (l.take i).length := by
    have : (0 : Int) < 256 ^ (l.take i).length := Int.pow_pos (by decide)
    omega
  have h5 : 1 * Blk.leN (l.drop i) ≤ 256 ^ (l.take i).length * Blk.leN (l.drop i) := Int.mul_le_mul_of_nonneg_right h4 h3
  omega
def numE (l : List Int) : Int × Bool := if Blk.leN l ≤ Blk.maxId then (Blk.leN l, true) else (0, false)
theorem number_loop (l : List Int) (hb : ∀ x ∈ l, 0 ≤ x ∧ x < 256) (hm : l.length ≤ 140737488355328) : ∀ (i k : Nat), i ≤ l.length → i < k → Blk.leN (l.drop i) ≤ Blk.maxId → woodcutref01_Number.l0 k l (Blk.leN (l.drop i)) ((i : Int) - 1) = some (numE l) := by
  intro i
  induction i with
  | zero =>
    intro k hi hk hle
    obtain ⟨k, rfl⟩ : ∃ m, k = m + 1 := ⟨k - 1, by omega⟩
    rw [List.drop_zero] at hle ⊢
    simp only [woodcutref01_Number.l0]; rw [if_neg (by omega)]; unfold numE; rw [if_pos hle]
  | succ i ih =>
    intro k hi hk hle
    obtain ⟨k, rfl⟩ : ∃ m, k = m + 1 := ⟨k - 1, by omega⟩
    have hx := hb l[i] (List.getElem_mem (by omega))
    have h0 := (Blk.leN_nonneg (l := l.drop (i + 1)) (fun x hx => hb x (List.mem_of_mem_drop hx))).1
    have e0 : ((i + 1 : Nat) : Int) - 1 = (i : Int) := by omega
    have hd : Blk.leN (l.drop i) = l[i] + 256 * Blk.leN (l.drop (i + 1)) := by rw [List.drop_eq_getElem_cons (by omega), Blk.leN]
    simp only [woodcutref01_Number.l0]
    rw [e0, if_pos (by omega), if_pos (by omega), if_pos (by omega), rd_nat l i (by omega)]
    unfold Blk.maxId at hle
    have e1 : wrap64 (Int.tdiv (wrap64 (4611686018427387903 - wrap64 l[i])) 256) = (4611686018427387903 - l[i]) / 256 := by
      rw [w64' (x := l[i]) (by omega) (by omega), w64' (x := 4611686018427387903 - l[i]) (by omega) (by omega), Int.tdiv_eq_ediv_of_nonneg (by omega), w64' (by omega) (by omega)]
    rw [e1]
    by_cases c : Blk.leN (l.drop (i + 1)) > (4611686018427387903 - l[i]) / 256
    · rw [if_pos c]
      have := leN_drop_le l hb i
      unfold numE Blk.maxId
      rw [if_neg (by omega)]
    · rw [if_neg c, w64' (x := l[i]) (by omega) (by omega), w64' (x := 256 * Blk.leN (l.drop (i + 1))) (by omega) (by omega), w64' (x := 256 * Blk.leN (l.drop (i + 1)) + l[i]) (by omega) (by omega), w64' (x := (i : Int) - 1) (by omega) (by omega)]
      have e2 : 256 * Blk.leN (l.drop (i + 1)) + l[i] = Blk.leN (l.drop i) := by omega
      rw [e2]
      exact ih k (by omega) (by omega) (by unfold Blk.maxId; omega)
theorem woodcutref01_Number_ok (l : List Int) (hb : ∀ x ∈ l, 0 ≤ x ∧ x < 256) (hm : l.length ≤ 140737488355328) : ∃ k, woodcutref01_Number.f k l = some (numE l) := by
  refine ⟨l.length + 1, ?_⟩
  have h := number_loop l hb hm l.length (l.length + 1) (by omega) (by omega) (by rw [List.drop_length]; decide)
  rw [List.drop_length] at h
  unfold woodcutref01_Number.f
  rw [w64' (by omega) (by omega)]
  exact h

/-! ### woodcutref01_Get4: function 48 -/
def woodcutref01_Get4.f (k : Nat) (l0 : List Int) (a1 : Int) : Option (Int) := if 0 ≤ a1 then (if a1 ≤ (wrap64 (a1 + 4)) then (if (wrap64 (a1 + 4)) ≤ (l0.length : Int) then ((woodcutref01_Number.f k ((l0.take ((wrap64 (a1 + 4)) : Int).toNat).drop (a1 : Int).toNat)).bind fun bt102 => (some bt102.1)) else (none)) else (none)) else (none)
theorem woodcutref01_Get4.mono : ∀ a0 a1 k, LeO (woodcutref01_Get4.f k a0 a1) (woodcutref01_Get4.f (k + 1) a0 a1) := by
  intro a0 a1 k
  unfold woodcutref01_Get4.f
  repeat' first
      | (with_reducible exact woodcutref01_Number.mono _ _)
      | (with_reducible exact LeO.refl _)
      | (with_reducible exact LeO.none _)
      | (with_reducible refine LeO.ite ?_ ?_)
      | (with_reducible refine LeO.bind ?_ (fun _ => ?_))
      | exact woodcutref01_Number.mono _ _
      | exact LeO.none _
      | refine LeO.ite ?_ ?_
      | refine LeO.bind ?_ (fun _ => ?_)
set_option maxHeartbeats 8000000 in
set_option maxRecDepth 100000 in
theorem woodcutref01_Get4.calls (k : Nat) (A0 : Option Addr) (c0 : Nat) (l0 : List Int) (a1 : Int) (r : Int) (w : World) (hr0 : Kd.C (Kd.int .u8) w A0 l0.length l0) (hc0 : l0.length ≤ c0) (h : woodcutref01_Get4.f k l0 a1 = some r) :
    Calls Try.prog 48 #[.slice A0 l0.length c0, .int .i64 a1] w fun e w' => e = .returned (.int .i64 r) ∧ Drawn0 w w' := by
  have HR0 := Aside0.mk hr0
  have HC0 := Aside0.mk hc0
  clear hr0 hc0
  have H : (if 0 ≤ a1 then (if a1 ≤ (wrap64 (a1 + 4)) then (if (wrap64 (a1 + 4)) ≤ (l0.length : Int) then ((woodcutref01_Number.f k ((l0.take ((wrap64 (a1 + 4)) : Int).toNat).drop (a1 : Int).toNat)).bind fun bt102 => (some bt102.1)) else (none)) else (none)) else (none)) = some r := h
  clear h
  by_cases c3 : 0 ≤ a1
  · rw [if_pos c3] at H
    have c3b0 := eq_true c3
    have c3b1 : decide (0 ≤ a1) = true := decide_eq_true c3
    clear c3
    by_cases c4 : a1 ≤ (wrap64 (a1 + 4))
    · rw [if_pos c4] at H
      have c4b0 := eq_true c4
      have c4b1 : decide (a1 ≤ (wrap64 (a1 + 4))) = true := decide_eq_true c4
      by_cases c5 : (wrap64 (a1 + 4)) ≤ (l0.length : Int)
      · rw [if_pos c5] at H
        have c5b0 := eq_true c5
        have c5b1 : decide ((wrap64 (a1 + 4)) ≤ (l0.length : Int)) = true := decide_eq_true c5
        replace H := Option.bind_eq_some_iff.mp H
        obtain ⟨⟨t102, t103⟩, A60, H⟩ := H
        replace H : (some t102) = some r := H
        have A6 := Aside0.mk A60
        clear A60
        obtain rfl := Option.some.inj H
        obtain ⟨i07, hi07, _, hsz7, _⟩ := info_parts info5
        obtain ⟨A7, hcut7, hA7, hC7⟩ := print_mid_of (P := Try.prog) (Value.int .u8) 0 24 5 .i64 .i64 Try.underlying24 hi07 hsz7 A0 c0 l0 a1 (wrap64 (a1 + 4)) (of_decide_eq_true (by first | (with_reducible assumption) | assumption)) (by first | omega | exact of_decide_eq_true (by first | (with_reducible assumption) | assumption)) (of_decide_eq_true (by first | (with_reducible assumption) | assumption)) HC0.out
        have HR101 := Aside0.mk (Kd.C_of_reads (h1 := fun _ => rfl) (hA7 _ (Kd.reads_of_C HR0.out)))
        have HC101 := Aside0.mk hC7
        clear hA7 hC7 hi07 hsz7
        go_enter Try.func48, Try.ntmps48
        go_wp2_with (first | ((with_reducible refine gate_callee (f := 74) rfl ?_); refine goesL_ (some 13) rfl rfl Try.func74 (by kernel_rfl) rfl #[.slice A7 ((l0.take ((wrap64 (a1 + 4)) : Int).toNat).drop (a1 : Int).toNat).length (c0 - a1.toNat)] rfl (by (try simp only [List.map_toArray, List.map_cons, List.map_nil]); first | done | (rw [show ((l0.take ((wrap64 (a1 + 4)) : Int).toNat).drop (a1 : Int).toNat).length = ((wrap64 (a1 + 4)).toNat - a1.toNat) from (by rw [List.length_drop, List.length_take]; have h_ : ((wrap64 (a1 + 4)) : Int) ≤ (l0.length : Int) := of_decide_eq_true (by first | (with_reducible assumption) | assumption); omega)] <;> rfl) | rfl | (simp only [List.length_drop, List.length_take]; rfl)) ?_; (with_reducible refine (woodcutref01_Number.calls k _ _ ((l0.take ((wrap64 (a1 + 4)) : Int).toNat).drop (a1 : Int).toNat) t102 t103 _ ?side1 ?side2 A6.out).mono ?_); (case side1 => repeat (first | exact HR101.out | (with_reducible refine Kd.C_alloc ?_ _) | (with_reducible refine Kd.C_drewN ?_ _) | (with_reducible refine Kd.C_drew ?_))); (case side2 => exact HC101.out); rintro e w' ⟨rfl, ⟨nd, rfl⟩⟩; refine ⟨_, rfl, ?_⟩))
        go_ret
        exact ⟨by first | rfl | (simp; done) | (simp [*]; done), by repeat (first | exact Drawn0.refl _ | apply Drawn0.step)⟩
      · rw [if_neg c5] at H
        exact absurd H (by simp)
    · rw [if_neg c4] at H
      exact absurd H (by simp)
  · rw [if_neg c3] at H
    exact absurd H (by simp)

/-! ### woodcutref01_Get4: function 48, what it comes to -/
theorem cut_bytes {l : List Int} (hb : ∀ x ∈ l, 0 ≤ x ∧ x < 256) (a b : Nat) : ∀ x ∈ (l.take a).drop b, 0 ≤ x ∧ x < 256 := fun x hx => hb x (List.mem_of_mem_take (List.mem_of_mem_drop hx))
theorem leN_lt {l : List Int} (hb : ∀ x ∈ l, 0 ≤ x ∧ x < 256) (h : l.length = 4) : 0 ≤ Blk.leN l ∧ Blk.leN l < 4294967296 := by
  have := Blk.leN_nonneg hb
  rw [h] at this
  have h4 : (256 : Int) ^ 4 = 4294967296 := by decide
  omega
theorem woodcutref01_Get4_ok (l : List Int) (p : Nat) (hb : ∀ x ∈ l, 0 ≤ x ∧ x < 256) (hl : p + 4 ≤ l.length) (hm : l.length ≤ 140737488355328) : ∃ k, woodcutref01_Get4.f k l (p : Int) = some (Blk.leN ((l.drop p).take 4)) := by
  obtain ⟨k, hk⟩ := woodcutref01_Number_ok ((l.take (p + 4)).drop p) (cut_bytes hb _ _) (by simp; omega)
  refine ⟨k, ?_⟩
  unfold woodcutref01_Get4.f
  have e : wrap64 ((p : Int) + 4) = ((p + 4 : Nat) : Int) := (w64' (by omega) (by omega)).trans (by omega)
  rw [e, if_pos (by omega), if_pos (by omega), if_pos (by omega), Int.toNat_natCast, Int.toNat_natCast, hk]
  have e2 : (l.take (p + 4)).drop p = (l.drop p).take 4 := by rw [List.drop_take]; congr 1; omega
  rw [e2]
  have := leN_lt (l := (l.drop p).take 4) (fun x hx => hb x (List.mem_of_mem_drop (List.mem_of_mem_take hx))) (by simp; omega)
  unfold numE
  rw [if_pos (by unfold Blk.maxId; omega)]; rfl

/-! ### woodcutref01_More: function 83, walked by hand -/
def woodcutref01_More.f (a0 : Int) (l1 : List Int) : Option Int := some (Crc.sum a0 l1)
set_option maxHeartbeats 1000000 in
set_option maxRecDepth 100000 in
theorem woodcutref01_More.calls (a0 : Int) (A1 : Option Addr) (c1 : Nat) (l1 : List Int) (r : Int) (w : World) (hr1 : Kd.C (Kd.int .u8) w A1 l1.length l1) (hc1 : l1.length ≤ c1) (h : woodcutref01_More.f a0 l1 = some r) :
    Calls Try.prog 83 #[.int .i64 a0, .slice A1 l1.length c1] w fun e w' => e = .returned (.int .i64 r) ∧ Drawn0 w w' := by
  unfold woodcutref01_More.f at h
  obtain rfl := Option.some.inj h
  clear h
  unfold Crc.sum
  have HR := Aside0.mk hr1
  have hm : l1.length ≤ 9223372036854775807 := Kd.C_max hr1
  have e1 : IntKind.u32.wrap a0 = Crc.nt (BitVec.ofInt 32 a0) := (Crc.nt_ofInt a0).symm
  generalize BitVec.ofInt 32 a0 = v at *
  have e2 := Crc.not32 v
  clear hr1
  go_enter Try.func83, Try.ntmps83
  go_wp2_with fail
  clear e1 e2
  go_loop [5, 6, 7] (fun v5 i v7 => ∃ k : Nat, k ≤ l1.length ∧ i = .int .i64 k ∧ v5 = .int .u32 (Crc.nt (Crc.st (l1.take k) (~~~ v)))) (fun _ i _ => l1.length - (intOf i).toNat)
  case atStart => exact ⟨0, Nat.zero_le _, rfl, rfl⟩
  case round =>
    obtain ⟨k, hk, rfl, rfl⟩ := hrel
    by_cases hlt : k < l1.length
    · obtain ⟨ad, e0, x0⟩ := Kd.at_int HR.out (k : Int) (by omega) (by omega)
      subst e0
      rw [Int.toNat_natCast] at x0
      have hrd : rd l1 (k : Int) = l1[k] := by unfold rd; rw [Int.toNat_natCast, List.getD_eq_getElem?_getD, List.getElem?_eq_getElem hlt]; rfl
      rw [hrd] at x0
      have HT := Aside0.mk (show Crc.st (l1.take (k + 1)) (~~~ v) = Crc.Zn 8 (Crc.st (l1.take k) (~~~ v) ^^^ BitVec.ofInt 32 l1[k]) by rw [List.take_succ_eq_append_getElem hlt, Crc.st_snoc])
      clear hrd
      generalize l1[k] = x at *
      generalize Crc.st (l1.take k) (~~~ v) = s at *
      have e3 := Crc.byte32m s x
      go_wp2_with fail
      clear e3
      go_loop [5, 7] (fun v5 i => ∃ j : Nat, j ≤ 8 ∧ i = .int .i64 j ∧ v5 = .int .u32 (Crc.nt (Crc.Zn j (s ^^^ BitVec.ofInt 32 x)))) (fun _ i => 8 - (intOf i).toNat)
      case atStart => exact ⟨0, by omega, rfl, rfl⟩
      case round =>
        obtain ⟨j, hj, rfl, rfl⟩ := hrel
        by_cases hlt2 : j < 8
        · have HZ := Aside0.mk (Crc.Zn_succ j (s ^^^ BitVec.ofInt 32 x))
          generalize Crc.Zn j (s ^^^ BitVec.ofInt 32 x) = u at *
          have hu0 := Crc.nt0 u
          have H2 := Aside0.mk (Crc.half32 u)
          by_cases cb : Crc.nt u % 2 = 1
          · have HZ2 := Aside0.mk (show Crc.Zn (j + 1) (s ^^^ BitVec.ofInt 32 x) = (u >>> 1) ^^^ Crc.poly by rw [HZ.out, Crc.Z_odd u cb])
            have h1 : (Crc.nt u % 2 == 1) = true := beq_iff_eq.2 cb
            have H3 := Aside0.mk (Crc.poly32 (u >>> 1))
            clear cb
            generalize u >>> 1 = u' at *
            go_wp2
            clear h1
            go_round
            case rel => exact ⟨j + 1, by omega, by go_num, by rw [HZ2.out, H2.out, H3.out]⟩
            case measure => simp [intOf]; omega
          · have HZ2 := Aside0.mk (show Crc.Zn (j + 1) (s ^^^ BitVec.ofInt 32 x) = u >>> 1 by rw [HZ.out, Crc.Z_even u cb])
            have h1 : (Crc.nt u % 2 == 1) = false := beq_eq_false_iff_ne.2 cb
            clear cb
            generalize u >>> 1 = u' at *
            go_wp2
            clear h1
            go_round
            case rel => exact ⟨j + 1, by omega, by go_num, by rw [HZ2.out, H2.out]⟩
            case measure => simp [intOf]; omega
        · obtain rfl : j = 8 := by omega
          have HT2 := Aside0.mk (show Crc.Zn 8 (s ^^^ BitVec.ofInt 32 x) = Crc.st (l1.take (k + 1)) (~~~ v) from HT.out.symm)
          rw [HT2.out]
          go_wp2
          go_round
          case rel => exact ⟨k + 1, by omega, by go_num, rfl⟩
          case measure => simp [intOf]; omega
    · obtain rfl : k = l1.length := by omega
      rw [List.take_length]
      generalize hs : Crc.st l1 (~~~ v) = s at *
      have HS := Aside0.mk hs
      have e3 := Crc.not32 s
      have e4 := Crc.nt_i64 (~~~ s)
      clear hs
      generalize hs : ~~~ s = s' at *
      have HS' := Aside0.mk hs
      clear hs
      go_wp2
      go_ret
      exact ⟨by rw [HS.out, HS'.out]; rfl, Drawn0.refl _⟩

/-! ### woodcutref01_Sum: function 76 -/
def woodcutref01_Sum.f (l0 : List Int) : Option (Int) := (woodcutref01_More.f 0 l0).bind fun t101 => (some t101)
set_option maxHeartbeats 8000000 in
set_option maxRecDepth 100000 in
theorem woodcutref01_Sum.calls (A0 : Option Addr) (c0 : Nat) (l0 : List Int) (r : Int) (w : World) (hr0 : Kd.C (Kd.int .u8) w A0 l0.length l0) (hc0 : l0.length ≤ c0) (h : woodcutref01_Sum.f l0 = some r) :
    Calls Try.prog 76 #[.slice A0 l0.length c0] w fun e w' => e = .returned (.int .i64 r) ∧ Drawn0 w w' := by
  have HR0 := Aside0.mk hr0
  have HC0 := Aside0.mk hc0
  clear hr0 hc0
  have H : ((woodcutref01_More.f 0 l0).bind fun t101 => (some t101)) = some r := h
  clear h
  replace H := Option.bind_eq_some_iff.mp H
  obtain ⟨t101, A20, H⟩ := H
  replace H : (some t101) = some r := H
  have A2 := Aside0.mk A20
  clear A20
  obtain rfl := Option.some.inj H
  go_enter Try.func76, Try.ntmps76
  go_wp2_with (first | ((with_reducible refine gate_callee (f := 83) rfl ?_); refine goesL_ (some 4) rfl rfl Try.func83 (by kernel_rfl) rfl #[.int .i64 0, .slice A0 l0.length c0] rfl (by (try simp only [List.map_toArray, List.map_cons, List.map_nil]); first | done | rfl | (simp only [List.length_drop, List.length_take]; rfl)) ?_; (with_reducible refine (woodcutref01_More.calls 0 _ _ l0 t101 _ ?side1 ?side2 A2.out).mono ?_); (case side1 => repeat (first | exact HR0.out | (with_reducible refine Kd.C_alloc ?_ _) | (with_reducible refine Kd.C_drewN ?_ _) | (with_reducible refine Kd.C_drew ?_))); (case side2 => exact HC0.out); rintro e w' ⟨rfl, ⟨nd, rfl⟩⟩; refine ⟨_, rfl, ?_⟩))
  go_ret
  exact ⟨by first | rfl | (simp; done) | (simp [*]; done), by repeat (first | exact Drawn0.refl _ | apply Drawn0.step)⟩

/-! ### woodcutref01_Good: function 73, walked by hand -/
def goodR (l : List Int) : Bool := decide (4 ≤ l.length) && (Blk.leN (l.drop (l.length - 4)) == Crc.sum 0 (l.take (l.length - 4)))
def woodcutref01_Good.f (l0 : List Int) : Option Bool := if Blk.bytesOk l0 = true ∧ l0.length ≤ 140737488355328 then some (goodR l0) else none
theorem sum_f (l : List Int) : woodcutref01_Sum.f l = some (Crc.sum 0 l) := rfl
set_option maxHeartbeats 2000000 in
set_option maxRecDepth 100000 in
theorem woodcutref01_Good.calls (A0 : Option Addr) (c0 : Nat) (l0 : List Int) (r : Bool) (w : World) (hr0 : Kd.C (Kd.int .u8) w A0 l0.length l0) (hc0 : l0.length ≤ c0) (h : woodcutref01_Good.f l0 = some r) :
    Calls Try.prog 73 #[.slice A0 l0.length c0] w fun e w' => e = .returned (.bool r) ∧ Drawn0 w w' := by
  unfold woodcutref01_Good.f at h
  by_cases hb : Blk.bytesOk l0 = true ∧ l0.length ≤ 140737488355328
  case neg => rw [if_neg hb] at h; cases h
  rw [if_pos hb] at h
  obtain rfl := Option.some.inj h
  obtain ⟨hb, hm⟩ := hb
  clear h
  have HR := Aside0.mk hr0
  have HC := Aside0.mk hc0
  by_cases h4 : 4 ≤ l0.length
  case neg =>
    have hd1 : decide (4 ≤ (l0.length : Int)) = false := decide_eq_false (by omega)
    have hd2 : decide (4 ≤ l0.length) = false := decide_eq_false h4
    have HG := Aside0.mk (show goodR l0 = false from by unfold goodR; rw [hd2]; rfl)
    rw [HG.out]
    clear hr0 hc0 hb h4
    go_enter Try.func73, Try.ntmps73
    go_wp2
    go_quiet (fail)
    go_wp2
    go_ret
    exact ⟨rfl, (Drawn0.refl _).step _⟩
  obtain ⟨m, hmm⟩ : ∃ m, l0.length = m + 4 := ⟨l0.length - 4, by omega⟩
  obtain ⟨k, hk⟩ := woodcutref01_Get4_ok l0 m (Blk.bytesOk_iff.1 hb) (by omega) hm
  have hG : goodR l0 = (Blk.leN ((l0.drop m).take 4) == Crc.sum 0 (l0.take m)) := by
    unfold goodR
    rw [decide_eq_true h4, Bool.true_and, show l0.length - 4 = m by omega, List.take_of_length_le (l := l0.drop m) (by rw [List.length_drop]; omega)]
  rw [hG]
  obtain ⟨i0, hi0, _, hsz0, _⟩ := info_parts info5
  obtain ⟨hcut, hA, hC⟩ := print_take_of (P := Try.prog) (Value.int .u8) 0 24 5 .i64 Try.underlying24 hi0 hsz0 A0 c0 l0 (m : Int) (by omega) (by omega) hc0
  have HR2 := Aside0.mk (Kd.C_of_reads (h1 := fun _ => rfl) (hA _ (Kd.reads_of_C hr0)))
  have HC2 := Aside0.mk hC
  rw [Int.toNat_natCast] at HR2 HC2 hcut
  have HG4 := Aside0.mk hk
  have HS := Aside0.mk (sum_f (l0.take m))
  have hd1 : decide (4 ≤ (l0.length : Int)) = true := decide_eq_true (by omega)
  have hsub : IntKind.i64.wrap ((l0.length : Int) - 4) = (m : Int) := by rw [IntKind.wrap_i64]; omega
  have hlt : (l0.take m).length = m := by simp; omega
  generalize Blk.leN ((l0.drop m).take 4) = t1 at *
  generalize Crc.sum 0 (l0.take m) = t2 at *
  generalize hl2 : l0.take m = l2 at *
  have HLT := Aside0.mk hlt
  clear hr0 hc0 hb h4 hk hG hA hC hi0 hsz0 hlt hl2 hmm
  go_enter Try.func73, Try.ntmps73
  go_wp2
  go_quiet ((first | (go_at_call 48; exact Calls.quiet_of ((woodcutref01_Get4.calls k _ _ l0 (m : Int) t1 _ (Kd.C_drewN HR.out _) HC.out HG4.out).mono fun e w' ⟨he, hd⟩ => ⟨he, hd.out⟩)) | (go_at_call 76; exact Calls.quiet_of ((woodcutref01_Sum.calls _ _ l2 t2 _ (Kd.C_drewN HR2.out _) HC2.out HS.out).mono fun e w' ⟨he, hd⟩ => ⟨he, hd.out⟩))))
  go_wp2
  go_ret
  exact ⟨rfl, (Drawn0.refl _).step _⟩

/-! ### woodcutref01_open: function 46 -/
def woodcutref01_open.f (l0 : List Int) (a1 : ByteArray) : Option (Int) := if (l0.length : Int) = 64 then (if 4 ≤ (l0.length : Int) then (if (strOfNums (l0.take 4)).toList = a1.toList then ((woodcutref01_Good.f l0).bind fun t102 => (if t102 = true then (some 0) else (some 5))) else (some 4)) else (none)) else (some 2)
set_option maxHeartbeats 8000000 in
set_option maxRecDepth 100000 in
theorem woodcutref01_open.calls (A0 : Option Addr) (c0 : Nat) (l0 : List Int) (a1 : ByteArray) (r : Int) (w : World) (hr0 : Kd.C (Kd.int .u8) w A0 l0.length l0) (hc0 : l0.length ≤ c0) (h : woodcutref01_open.f l0 a1 = some r) :
    Calls Try.prog 46 #[.slice A0 l0.length c0, .string a1] w fun e w' => e = .returned (.int .i64 r) ∧ Drawn0 w w' := by
  have HR0 := Aside0.mk hr0
  have HC0 := Aside0.mk hc0
  clear hr0 hc0
  have H : (if (l0.length : Int) = 64 then (if 4 ≤ (l0.length : Int) then (if (strOfNums (l0.take 4)).toList = a1.toList then ((woodcutref01_Good.f l0).bind fun t102 => (if t102 = true then (some 0) else (some 5))) else (some 4)) else (none)) else (some 2)) = some r := h
  clear h
  by_cases c3 : (l0.length : Int) = 64
  · rw [if_pos c3] at H
    have c3b0 : ((l0.length : Int) == 64) = true := beq_iff_eq.mpr c3
    have c3b1 : ((l0.length : Int) != 64) = false := bne_eq_false_iff_eq.mpr c3
    clear c3
    by_cases c4 : 4 ≤ (l0.length : Int)
    · rw [if_pos c4] at H
      have c4b0 := eq_true c4
      have c4b1 : decide (4 ≤ (l0.length : Int)) = true := decide_eq_true c4
      clear c4
      by_cases c5 : (strOfNums (l0.take 4)).toList = a1.toList
      · rw [if_pos c5] at H
        have c5b0 : ((strOfNums (l0.take 4)).toList == a1.toList) = true := beq_iff_eq.mpr c5
        have c5b1 : ((strOfNums (l0.take 4)).toList != a1.toList) = false := bne_eq_false_iff_eq.mpr c5
        clear c5
        replace H := Option.bind_eq_some_iff.mp H
        obtain ⟨t102, A60, H⟩ := H
        replace H : (if t102 = true then (some 0) else (some 5)) = some r := H
        have A6 := Aside0.mk A60
        clear A60
        by_cases c7 : t102 = true
        · subst c7
          have H1 : (some 0) = some r := by rw [if_pos rfl] at H; exact H
          clear H
          have H := H1
          clear H1
          obtain rfl := Option.some.inj H
          obtain ⟨i08, hi08, _, hsz8, _⟩ := info_parts info5
          obtain ⟨hcut8, hA8, hC8⟩ := print_take_of (P := Try.prog) (Value.int .u8) 0 24 5 .i64 Try.underlying24 hi08 hsz8 A0 c0 l0 4 (by omega) (of_decide_eq_true (by first | (with_reducible assumption) | assumption)) HC0.out
          have HR101 := Aside0.mk (Kd.C_of_reads (h1 := fun _ => rfl) (hA8 _ (Kd.reads_of_C HR0.out)))
          have HC101 := Aside0.mk hC8
          clear hA8 hC8 hi08 hsz8
          have hcv9 := Kd.C_string (P := Try.prog) (A := A0) (c := c0) Try.underlying24 Try.underlying5 Try.underlying9 HR101.out
          try simp only [Int.reduceToNat, List.length_take] at hcv9
          go_enter Try.func46, Try.ntmps46
          go_wp2_with (first | ((with_reducible refine gate_callee (f := 73) rfl ?_); refine goesL_ (some 17) rfl rfl Try.func73 (by kernel_rfl) rfl #[.slice A0 l0.length c0] rfl (by (try simp only [List.map_toArray, List.map_cons, List.map_nil]); first | done | rfl | (simp only [List.length_drop, List.length_take]; rfl)) ?_; (with_reducible refine (woodcutref01_Good.calls _ _ l0 true _ ?side1 ?side2 A6.out).mono ?_); (case side1 => repeat (first | exact HR0.out | (with_reducible refine Kd.C_alloc ?_ _) | (with_reducible refine Kd.C_drewN ?_ _) | (with_reducible refine Kd.C_drew ?_))); (case side2 => exact HC0.out); rintro e w' ⟨rfl, ⟨nd, rfl⟩⟩; refine ⟨_, rfl, ?_⟩))
          go_ret
          exact ⟨by first | rfl | (simp; done) | (simp [*]; done), by repeat (first | exact Drawn0.refl _ | apply Drawn0.step)⟩
        · replace c7 := Bool.eq_false_iff.mpr c7
          subst c7
          have H1 : (some 5) = some r := by rw [if_neg (show ¬ (false = true) by decide)] at H; exact H
          clear H
          have H := H1
          clear H1
          obtain rfl := Option.some.inj H
          obtain ⟨i010, hi010, _, hsz10, _⟩ := info_parts info5
          obtain ⟨hcut10, hA10, hC10⟩ := print_take_of (P := Try.prog) (Value.int .u8) 0 24 5 .i64 Try.underlying24 hi010 hsz10 A0 c0 l0 4 (by omega) (of_decide_eq_true (by first | (with_reducible assumption) | assumption)) HC0.out
          have HR101 := Aside0.mk (Kd.C_of_reads (h1 := fun _ => rfl) (hA10 _ (Kd.reads_of_C HR0.out)))
          have HC101 := Aside0.mk hC10
          clear hA10 hC10 hi010 hsz10
          have hcv11 := Kd.C_string (P := Try.prog) (A := A0) (c := c0) Try.underlying24 Try.underlying5 Try.underlying9 HR101.out
          try simp only [Int.reduceToNat, List.length_take] at hcv11
          go_enter Try.func46, Try.ntmps46
          go_wp2_with (first | ((with_reducible refine gate_callee (f := 73) rfl ?_); refine goesL_ (some 17) rfl rfl Try.func73 (by kernel_rfl) rfl #[.slice A0 l0.length c0] rfl (by (try simp only [List.map_toArray, List.map_cons, List.map_nil]); first | done | rfl | (simp only [List.length_drop, List.length_take]; rfl)) ?_; (with_reducible refine (woodcutref01_Good.calls _ _ l0 false _ ?side1 ?side2 A6.out).mono ?_); (case side1 => repeat (first | exact HR0.out | (with_reducible refine Kd.C_alloc ?_ _) | (with_reducible refine Kd.C_drewN ?_ _) | (with_reducible refine Kd.C_drew ?_))); (case side2 => exact HC0.out); rintro e w' ⟨rfl, ⟨nd, rfl⟩⟩; refine ⟨_, rfl, ?_⟩))
          go_ret
          exact ⟨by first | rfl | (simp; done) | (simp [*]; done), by repeat (first | exact Drawn0.refl _ | apply Drawn0.step)⟩
      · rw [if_neg c5] at H
        have c5b0 : ((strOfNums (l0.take 4)).toList == a1.toList) = false := beq_eq_false_iff_ne.mpr c5
        have c5b1 : ((strOfNums (l0.take 4)).toList != a1.toList) = true := bne_iff_ne.mpr c5
        obtain rfl := Option.some.inj H
        obtain ⟨i012, hi012, _, hsz12, _⟩ := info_parts info5
        obtain ⟨hcut12, hA12, hC12⟩ := print_take_of (P := Try.prog) (Value.int .u8) 0 24 5 .i64 Try.underlying24 hi012 hsz12 A0 c0 l0 4 (by omega) (of_decide_eq_true (by first | (with_reducible assumption) | assumption)) HC0.out
        have HR101 := Aside0.mk (Kd.C_of_reads (h1 := fun _ => rfl) (hA12 _ (Kd.reads_of_C HR0.out)))
        have HC101 := Aside0.mk hC12
        clear hA12 hC12 hi012 hsz12
        have hcv13 := Kd.C_string (P := Try.prog) (A := A0) (c := c0) Try.underlying24 Try.underlying5 Try.underlying9 HR101.out
        try simp only [Int.reduceToNat, List.length_take] at hcv13
        go_enter Try.func46, Try.ntmps46
        go_wp2
        go_ret
        exact ⟨by first | rfl | (simp; done) | (simp [*]; done), by repeat (first | exact Drawn0.refl _ | apply Drawn0.step)⟩
    · rw [if_neg c4] at H
      exact absurd H (by simp)
  · rw [if_neg c3] at H
    have c3b0 : ((l0.length : Int) == 64) = false := beq_eq_false_iff_ne.mpr c3
    have c3b1 : ((l0.length : Int) != 64) = true := bne_iff_ne.mpr c3
    obtain rfl := Option.some.inj H
    go_enter Try.func46, Try.ntmps46
    go_wp2
    go_ret
    exact ⟨by first | rfl | (simp; done) | (simp [*]; done), by repeat (first | exact Drawn0.refl _ | apply Drawn0.step)⟩

end Go.Proofs.Ytaaemamcdhebhaa.PNE
