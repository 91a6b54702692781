/- Contracts of the program's functions, as a program of this session prints them: each call comes to what the Lean function of the same name computes.
Conditions: what each theorem's hypotheses say of its arguments. -/
import Derived.Test.YtaaemamcdhebhaaPNEx0
import Derived.Test.YtaaemamcdhebhaaPNExF14
import Derived.Test.YtaaemamcdhebhaaPNExF69
import Derived.Test.YtaaemamcdhebhaaPNExF59
namespace Go.Proofs.Ytaaemamcdhebhaa.PNE
open Go.RowKit Go.Proofs.YtaaemamcdhebhaaW.PrintWords Go.Proofs.YtaaemamcdhebhaaW.PrintLast Go.Proofs.YtaaemamcdhebhaaW.PrintMore
attribute [local go_sem] max2_int min2_int max_two min_two max_three min_three max_four min_four   -- for this text's walks alone
set_option linter.unusedVariables false
set_option linter.unusedSimpArgs false

/-! ### woodcutref01_Bytes: function 56 -/
def woodcutref01_Bytes.l0 : Nat → Int → Int → List Int → Int → Option (List Int)
  | 0, _, _, _, _ => none
  | k + 1, x0, x1, x5, x6 => if x6 < x0 then (if x5.length < 140737488355328 then (woodcutref01_Bytes.l0 k x0 (wrap64 (Int.tdiv x1 256)) (x5 ++ [(Int.tmod x1 256) % 256]) (wrap64 (x6 + 1))) else (none)) else (some x5)
def woodcutref01_Bytes.f (k : Nat) (a0 : Int) (a1 : Int) : Option (List Int) := woodcutref01_Bytes.l0 k a0 a1 ([] : List Int) 0
theorem woodcutref01_Bytes.mono_l : ∀ k, (∀ y0 y1 y2 y3, LeO (woodcutref01_Bytes.l0 k y0 y1 y2 y3) (woodcutref01_Bytes.l0 (k + 1) y0 y1 y2 y3))
  | 0 => fun _ _ _ _ r h => by simp [woodcutref01_Bytes.l0] at h
  | k + 1 => by
    have ih0 := woodcutref01_Bytes.mono_l k
    · intro y0 y1 y2 y3
      unfold woodcutref01_Bytes.l0
      repeat' first
      | (with_reducible exact ih0 _ _ _ _)
      | (with_reducible exact LeO.refl _)
      | (with_reducible exact LeO.none _)
      | (with_reducible refine LeO.ite ?_ ?_)
      | (with_reducible refine LeO.bind ?_ (fun _ => ?_))
      | exact ih0 _ _ _ _
      | exact LeO.none _
      | refine LeO.ite ?_ ?_
      | refine LeO.bind ?_ (fun _ => ?_)
theorem woodcutref01_Bytes.mono : ∀ a0 a1 k, LeO (woodcutref01_Bytes.f k a0 a1) (woodcutref01_Bytes.f (k + 1) a0 a1) := by
  intro a0 a1 k
  have ih0 := woodcutref01_Bytes.mono_l k
  unfold woodcutref01_Bytes.f
  repeat' first
      | (with_reducible exact ih0 _ _ _ _)
      | (with_reducible exact LeO.refl _)
      | (with_reducible exact LeO.none _)
      | (with_reducible refine LeO.ite ?_ ?_)
      | (with_reducible refine LeO.bind ?_ (fun _ => ?_))
      | exact ih0 _ _ _ _
      | exact LeO.none _
      | refine LeO.ite ?_ ?_
      | refine LeO.bind ?_ (fun _ => ?_)
set_option maxHeartbeats 8000000 in
set_option maxRecDepth 100000 in
theorem woodcutref01_Bytes.calls (k : Nat) (a0 : Int) (a1 : Int) (r : List Int) (w : World) (h : woodcutref01_Bytes.f k a0 a1 = some r) :
    Calls Try.prog 56 #[.int .i64 a0, .int .i64 a1] w fun e w' => ∃ v0_ : Value, e = .returned (v0_) ∧ Kd.R (Kd.int .u8) 5 w' w.heap.size (fun _ => True) v0_ r ∧ Below w.heap.size w w' := by
  have HB := Aside0.mk (Below.refl w.heap.size w)
  have H : (woodcutref01_Bytes.l0 k a0 a1 ([] : List Int) 0) = some r := h
  clear h
  have H' := Aside0.mk H
  clear H
  go_enter Try.func56, Try.ntmps56
  go_wp2
  go_loopg [1, 5, 6] k (fun kq v1 v5 v6 w' => ∃ (x1_1 : Int) (x5_1 : List Int) (x6_1 : Int), v1 = .int .i64 x1_1 ∧ v6 = .int .i64 x6_1 ∧ Aside0 (woodcutref01_Bytes.l0 kq a0 x1_1 x5_1 x6_1 = some r) ∧ Aside0 (kq ≤ k) ∧ Aside0 (Kd.R (Kd.int .u8) 5 w' w.heap.size (fun _ => True) v5 x5_1) ∧ Aside0 (Below w.heap.size w w'))
  case atStart => exact ⟨(a1), (([] : List Int)), (0), (by first | rfl | (simp; done) | (simp [*]; done)), (by first | rfl | (simp; done) | (simp [*]; done)), H', ⟨Nat.le_refl _⟩, ⟨by first | exact Kd.R_nil _ _ _ _ _ | exact Kd.N_nil _ _ _ _ _ | exact Kd.V_nil _ _ _ _ _ | exact Kd.Q_nil _ _ _ _ _ | exact Kd.S_nil _ _ _ _ _⟩, ⟨by repeat (first | (with_reducible first | exact HB.out | apply below_alloc | apply pw_below_drewN | apply below_drew1) | exact HB.out)⟩⟩
  case round =>
    clear H'
    try clear p2
    obtain ⟨x1_1, x5_1, x6_1, rfl, rfl, HA, HK1, HO_5, HB⟩ := hrel
    cases gk with
    | zero => exact absurd HA.out (by simp [woodcutref01_Bytes.l0])
    | succ k1 =>
      have H := HA.out
      clear HA
      simp only [woodcutref01_Bytes.l0] at H
      by_cases c3 : x6_1 < a0
      · rw [if_pos c3] at H
        have c3b0 : decide (x6_1 < a0) = true := decide_eq_true c3
        clear c3
        by_cases c4 : x5_1.length < 140737488355328
        · rw [if_pos c4] at H
          have LMc4 := Aside0.mk c4
          clear c4
          obtain ⟨y101, hy101⟩ : ∃ y_ : List Int, y_ = (x5_1 ++ [(Int.tmod x1_1 256) % 256]) := ⟨_, rfl⟩
          replace H : (woodcutref01_Bytes.l0 k1 a0 (wrap64 (Int.tdiv x1_1 256)) y101 (wrap64 (x6_1 + 1))) = some r := by first | (rw [hy101]; with_reducible exact H) | (have H2_ := (Option.bind_some _ _).symm.trans H; rw [hy101]; with_reducible exact H2_) | (have H2_ := (Option.bind_some _ _).symm.trans H; with_reducible exact H2_) | with_reducible exact H | (rw [hy101]; exact H) | exact H
          have Ny101 := Aside0.mk hy101
          clear hy101
          have H' := Aside0.mk H
          clear H
          go_wp2_with (first | ((with_reducible refine gate_builtin (b := .append) (xs := #[.tmp 12, .tmp 16]) rfl ?_); at_builtin; refine Kd.R_append (Kd.int .u8) (w0 := w) w.heap.size rfl (.tmp 12) (.tmp 16) 24 5 (.int .u8 0) 1 rfl Try.underlying24 info5 rfl (by decide) (by omega) u5 x5_1 ((Int.tmod x1_1 256) % 256) [.int .u8 ((Int.tmod x1_1 256) % 256)] (fun _ => True) (fun _ => False) rfl rfl ?aP (fun _ hk => hk.elim) ?aF ?aO ?aB ?aS ?aL ?_; (case aP => exact rfl); (case aB => exact (by repeat (first | (with_reducible first | exact HB.out | apply below_alloc | apply pw_below_drewN | apply below_drew1) | exact HB.out))); (case aF => exact (fun _ _ => trivial)); (case aO => exact (by (with_reducible repeat (first | apply Kd.R_alloc | apply Kd.R_drewN | apply Kd.R_drew)); exact HO_5.out)); (case aS => exact (below_size (by repeat (first | (with_reducible first | exact HB.out | apply below_alloc | apply pw_below_drewN | apply below_drew1) | exact HB.out)))); (case aL => have := LMc4.out; omega); intro v102 w5 ho hb hg hat; rw [← Ny101.out] at ho; have n0_ := Aside0.mk (hb); have n1_ := Aside0.mk (ho); clear HB; clear HO_5; have HB := n0_; have HO103 := n1_; clear n0_ n1_; clear ho hb hg hat))
          go_roundg k1
          case measure => have := HK1.out; omega
          case rel => exact ⟨(wrap64 (Int.tdiv x1_1 256)), (y101), (wrap64 (x6_1 + 1)), (by first | rfl | (simp; done) | (simp [*]; done)), (by first | rfl | (simp; done) | (simp [*]; done)), H', ⟨by have := HK1.out; omega⟩, ⟨by (with_reducible repeat (first | apply Kd.R_alloc | apply Kd.R_drewN | apply Kd.R_drew)); exact HO103.out⟩, ⟨by repeat (first | (with_reducible first | exact HB.out | apply below_alloc | apply pw_below_drewN | apply below_drew1) | exact HB.out)⟩⟩
        · rw [if_neg c4] at H
          exact absurd H (by simp)
      · rw [if_neg c3] at H
        have c3b0 : decide (x6_1 < a0) = false := decide_eq_false c3
        clear c3
        obtain rfl := Option.some.inj H
        go_wp2
        go_ret
        exact ⟨_, by first | rfl | (simp [errW_none, errW_some] <;> rfl) | (simp [*, errW_none, errW_some] <;> rfl), by (with_reducible repeat (first | apply Kd.R_alloc | apply Kd.R_drewN | apply Kd.R_drew)); exact HO_5.out, by repeat (first | (with_reducible first | exact HB.out | apply below_alloc | apply pw_below_drewN | apply below_drew1) | exact HB.out)⟩

/-! ### woodcutref01_Bytes: function 56, what it comes to -/
theorem bytes_loop (n : Nat) (hn : n ≤ 8) : ∀ (d k i : Nat) (v : Int) (acc : List Int), i + d = n → d < k → 0 ≤ v → v ≤ 9223372036854775807 → acc.length = i → woodcutref01_Bytes.l0 k (n : Int) v acc (i : Int) = some (acc ++ Blk.leB d v) := by
  intro d
  induction d with
  | zero =>
    intro k i v acc hi hk h0 h1 ha
    obtain ⟨k, rfl⟩ : ∃ m, k = m + 1 := ⟨k - 1, by omega⟩
    simp only [woodcutref01_Bytes.l0]; rw [if_neg (by omega)]; simp [Blk.leB]
  | succ d ih =>
    intro k i v acc hi hk h0 h1 ha
    obtain ⟨k, rfl⟩ : ∃ m, k = m + 1 := ⟨k - 1, by omega⟩
    simp only [woodcutref01_Bytes.l0]
    rw [if_pos (by omega), if_pos (by omega), Int.tdiv_eq_ediv_of_nonneg h0, Int.tmod_eq_emod_of_nonneg h0, w64' (x := v / 256) (by omega) (by omega), w64' (x := (i : Int) + 1) (by omega) (by omega)]
    have := ih k (i + 1) (v / 256) (acc ++ [v % 256 % 256]) (by omega) (by omega) (by omega) (by omega) (by simp [ha])
    have e : ((i : Int) + 1) = ((i + 1 : Nat) : Int) := by omega
    rw [e, this, Blk.leB, List.append_assoc]
    congr 2
    simp
theorem woodcutref01_Bytes_ok (n : Nat) (hn : n ≤ 8) (v : Int) (h0 : 0 ≤ v) (h1 : v ≤ 9223372036854775807) : ∃ k, woodcutref01_Bytes.f k (n : Int) v = some (Blk.leB n v) := by
  refine ⟨n + 1, ?_⟩
  have := bytes_loop n hn n (n + 1) 0 v [] (by omega) (by omega) h0 h1 rfl
  rw [List.nil_append] at this
  exact this
def allNN (l : List Int) : Bool := l.all (fun x => decide (0 ≤ x) && decide (x ≤ 9223372036854775807))
theorem allNN_at {l : List Int} (h : allNN l = true) {x : Int} (hx : x ∈ l) : 0 ≤ x ∧ x ≤ 9223372036854775807 := by
  have := List.all_eq_true.1 h x hx
  simpa using this

/-! ### woodcutref01_seal: function 57 -/
def woodcutref01_seal.l0 : Nat → List Int → Option (List Int)
  | 0, _ => none
  | k + 1, x0 => if (x0.length : Int) < 60 then (if x0.length < 140737488355328 then (woodcutref01_seal.l0 k (x0 ++ [0])) else (none)) else ((woodcutref01_Sum.f x0).bind fun t104 => ((woodcutref01_Bytes.f k 4 t104).bind fun t105 => (if x0.length + t105.length < 140737488355328 then (some (x0 ++ t105)) else (none))))
def woodcutref01_seal.f (k : Nat) (l0 : List Int) : Option (List Int) := woodcutref01_seal.l0 k l0
theorem woodcutref01_seal.mono_l : ∀ k, (∀ y0, LeO (woodcutref01_seal.l0 k y0) (woodcutref01_seal.l0 (k + 1) y0))
  | 0 => fun _ r h => by simp [woodcutref01_seal.l0] at h
  | k + 1 => by
    have ih0 := woodcutref01_seal.mono_l k
    · intro y0
      unfold woodcutref01_seal.l0
      repeat' first
      | (with_reducible exact ih0 _)
      | (with_reducible exact woodcutref01_Bytes.mono _ _ _)
      | (with_reducible exact LeO.refl _)
      | (with_reducible exact LeO.none _)
      | (with_reducible refine LeO.ite ?_ ?_)
      | (with_reducible refine LeO.bind ?_ (fun _ => ?_))
      | exact ih0 _
      | exact woodcutref01_Bytes.mono _ _ _
      | exact LeO.none _
      | refine LeO.ite ?_ ?_
      | refine LeO.bind ?_ (fun _ => ?_)
theorem woodcutref01_seal.mono : ∀ a0 k, LeO (woodcutref01_seal.f k a0) (woodcutref01_seal.f (k + 1) a0) := by
  intro a0 k
  have ih0 := woodcutref01_seal.mono_l k
  unfold woodcutref01_seal.f
  repeat' first
      | (with_reducible exact ih0 _)
      | (with_reducible exact woodcutref01_Bytes.mono _ _ _)
      | (with_reducible exact LeO.refl _)
      | (with_reducible exact LeO.none _)
      | (with_reducible refine LeO.ite ?_ ?_)
      | (with_reducible refine LeO.bind ?_ (fun _ => ?_))
      | exact ih0 _
      | exact woodcutref01_Bytes.mono _ _ _
      | exact LeO.none _
      | refine LeO.ite ?_ ?_
      | refine LeO.bind ?_ (fun _ => ?_)
set_option maxHeartbeats 8000000 in
set_option maxRecDepth 100000 in
theorem woodcutref01_seal.calls (k : Nat) (P0_ : Nat → Prop) (u9000_ : Value) (l0 : List Int) (r : List Int) (w0 w : World) (hB : Below w0.heap.size w0 w) (ho0 : Kd.R (Kd.int .u8) 5 w w0.heap.size P0_ u9000_ l0) (h : woodcutref01_seal.f k l0 = some r) :
    Calls Try.prog 57 #[u9000_] w fun e w' => ∃ v0_ : Value, e = .returned (v0_) ∧ Kd.R (Kd.int .u8) 5 w' w0.heap.size (fun k_ => (P0_ k_ ∨ w.heap.size ≤ k_)) v0_ r ∧ Below w0.heap.size w0 w' ∧ Kept w w' (fun k_ => P0_ k_) := by
  have HO0 := Aside0.mk (show Kd.R (Kd.int .u8) 5 w w0.heap.size (fun k_ => (P0_ k_ ∨ w.heap.size ≤ k_)) u9000_ l0 from Kd.R_mono ho0 (fun k_ hk => (.inl hk)))
  have HK := Aside0.mk (Kept.refl w (fun k_ => P0_ k_))
  have HW0 := Aside0.mk hB.size
  have HB := Aside0.mk hB
  clear hB
  have H : (woodcutref01_seal.l0 k l0) = some r := h
  clear h
  have H' := Aside0.mk H
  clear H
  go_enter Try.func57, Try.ntmps57
  go_wp2
  go_loopg [0] k (fun kq v0 w' => ∃ (x0_1 : List Int), Aside0 (woodcutref01_seal.l0 kq x0_1 = some r) ∧ Aside0 (kq ≤ k) ∧ Aside0 (Kd.R (Kd.int .u8) 5 w' w0.heap.size (fun k_ => (P0_ k_ ∨ w.heap.size ≤ k_)) v0 x0_1) ∧ Aside0 (Kept w w' (fun k_ => P0_ k_)) ∧ Aside0 (Below w0.heap.size w0 w'))
  case atStart => exact ⟨(l0), H', ⟨Nat.le_refl _⟩, ⟨by (with_reducible repeat (first | apply Kd.R_alloc | apply Kd.R_drewN | apply Kd.R_drew)); exact HO0.out⟩, ⟨by repeat (first | (with_reducible first | exact HK.out | apply Kept.alloc | apply Kept.drewN | apply Kept.drew) | exact HK.out)⟩, ⟨by repeat (first | (with_reducible first | exact HB.out | apply below_alloc | apply pw_below_drewN | apply below_drew1) | exact HB.out)⟩⟩
  case round =>
    clear H'
    obtain ⟨x0_1, HA, HK1, HO_0, HK, HB⟩ := hrel
    cases gk with
    | zero => exact absurd HA.out (by simp [woodcutref01_seal.l0])
    | succ k1 =>
      have H := HA.out
      clear HA
      simp only [woodcutref01_seal.l0] at H
      by_cases c2 : (x0_1.length : Int) < 60
      · rw [if_pos c2] at H
        have c2b0 : decide ((x0_1.length : Int) < 60) = true := decide_eq_true c2
        have c2b1 : decide (x0_1.length < 60) = true := decide_eq_true (by omega)
        clear c2
        by_cases c3 : x0_1.length < 140737488355328
        · rw [if_pos c3] at H
          have LMc3 := Aside0.mk c3
          clear c3
          obtain ⟨y101, hy101⟩ : ∃ y_ : List Int, y_ = (x0_1 ++ [0]) := ⟨_, rfl⟩
          replace H : (woodcutref01_seal.l0 k1 y101) = some r := by first | (rw [hy101]; with_reducible exact H) | (have H2_ := (Option.bind_some _ _).symm.trans H; rw [hy101]; with_reducible exact H2_) | (have H2_ := (Option.bind_some _ _).symm.trans H; with_reducible exact H2_) | with_reducible exact H | (rw [hy101]; exact H) | exact H
          have Ny101 := Aside0.mk hy101
          clear hy101
          have H' := Aside0.mk H
          clear H
          obtain ⟨Ao4, co4, eo4⟩ := Kd.R_slice HO_0.out
          subst eo4
          go_wp2_with (first | ((with_reducible refine gate_builtin (b := .append) (xs := #[.tmp 6, .tmp 7]) rfl ?_); at_builtin; refine Kd.R_append (Kd.int .u8) (w0 := w0) w0.heap.size rfl (.tmp 6) (.tmp 7) 24 5 (.int .u8 0) 1 rfl Try.underlying24 info5 rfl (by decide) (by omega) (.slice Ao4 x0_1.length co4) x0_1 0 [.int .u8 0] (fun k_ => (P0_ k_ ∨ w.heap.size ≤ k_)) (fun _ => False) rfl rfl ?aP (fun _ hk => hk.elim) ?aF ?aO ?aB ?aS ?aL ?_; (case aP => exact rfl); (case aB => exact (by repeat (first | (with_reducible first | exact HB.out | apply below_alloc | apply pw_below_drewN | apply below_drew1) | exact HB.out))); (case aF => exact (fun k_ hk => (.inr (Nat.le_trans (by first | exact HK.out.1 | exact (show Kept w _ (fun k_ => P0_ k_) from by repeat (first | (with_reducible first | exact HK.out | apply Kept.alloc | apply Kept.drewN | apply Kept.drew) | exact HK.out)).1) hk)))); (case aO => exact (by (with_reducible repeat (first | apply Kd.R_alloc | apply Kd.R_drewN | apply Kd.R_drew)); exact HO_0.out)); (case aS => exact (below_size (by repeat (first | (with_reducible first | exact HB.out | apply below_alloc | apply pw_below_drewN | apply below_drew1) | exact HB.out)))); (case aL => have := LMc3.out; omega); intro v102 w5 ho hb hg hat; rw [← Ny101.out] at ho; have n0_ := Aside0.mk (hb); have n1_ := Aside0.mk (Kept.of_grown (S := (fun k_ => P0_ k_)) hg (by repeat (first | (with_reducible first | exact HK.out | apply Kept.alloc | apply Kept.drewN | apply Kept.drew) | exact HK.out)) (fun k_ e_ => (HO_0.out.1 k_ e_))); have n2_ := Aside0.mk (ho); clear HB; clear HK; clear HO_0; have HB := n0_; have HK := n1_; have HO103 := n2_; clear n0_ n1_ n2_; clear ho hb hg hat))
          go_roundg k1
          case measure => have := HK1.out; omega
          case rel => exact ⟨(y101), H', ⟨by have := HK1.out; omega⟩, ⟨by (with_reducible repeat (first | apply Kd.R_alloc | apply Kd.R_drewN | apply Kd.R_drew)); exact HO103.out⟩, ⟨by repeat (first | (with_reducible first | exact HK.out | apply Kept.alloc | apply Kept.drewN | apply Kept.drew) | exact HK.out)⟩, ⟨by repeat (first | (with_reducible first | exact HB.out | apply below_alloc | apply pw_below_drewN | apply below_drew1) | exact HB.out)⟩⟩
        · rw [if_neg c3] at H
          exact absurd H (by simp)
      · rw [if_neg c2] at H
        have c2b0 : decide ((x0_1.length : Int) < 60) = false := decide_eq_false c2
        have c2b1 : decide (x0_1.length < 60) = false := decide_eq_false (by omega)
        clear c2
        replace H := Option.bind_eq_some_iff.mp H
        obtain ⟨t104, A60, H⟩ := H
        replace H : ((woodcutref01_Bytes.f k1 4 t104).bind fun t105 => (if x0_1.length + t105.length < 140737488355328 then (some (x0_1 ++ t105)) else (none))) = some r := H
        have A6 := Aside0.mk A60
        clear A60
        replace H := Option.bind_eq_some_iff.mp H
        obtain ⟨t105, A70, H⟩ := H
        replace H : (if x0_1.length + t105.length < 140737488355328 then (some (x0_1 ++ t105)) else (none)) = some r := H
        have A7 := Aside0.mk A70
        clear A70
        by_cases c8 : x0_1.length + t105.length < 140737488355328
        · rw [if_pos c8] at H
          have LMc8 := Aside0.mk c8
          clear c8
          obtain ⟨y108, hy108⟩ : ∃ y_ : List Int, y_ = (x0_1 ++ t105) := ⟨_, rfl⟩
          replace H : (some y108) = some r := by first | (rw [hy108]; with_reducible exact H) | (have H2_ := (Option.bind_some _ _).symm.trans H; rw [hy108]; with_reducible exact H2_) | (have H2_ := (Option.bind_some _ _).symm.trans H; with_reducible exact H2_) | with_reducible exact H | (rw [hy108]; exact H) | exact H
          have Ny108 := Aside0.mk hy108
          clear hy108
          obtain rfl := Option.some.inj H
          obtain ⟨Ao9, co9, eo9⟩ := Kd.R_slice HO_0.out
          subst eo9
          go_wp2_with (first | ((with_reducible refine gate_callee (f := 76) rfl ?_); refine goesL_ (some 11) rfl rfl Try.func76 (by kernel_rfl) rfl #[.slice Ao9 x0_1.length co9] rfl (by (try simp only [List.map_toArray, List.map_cons, List.map_nil]); first | done | rfl | (simp only [List.length_drop, List.length_take]; rfl)) ?_; (with_reducible refine (woodcutref01_Sum.calls _ _ x0_1 t104 _ ?side1 ?side2 A6.out).mono ?_); (case side1 => repeat (first | exact (Kd.R_reads' HO_0.out).2.2 | (with_reducible refine Kd.C_alloc ?_ _) | (with_reducible refine Kd.C_drewN ?_ _) | (with_reducible refine Kd.C_drew ?_))); (case side2 => exact (Kd.R_reads' HO_0.out).2.1); rintro e w' ⟨rfl, ⟨nd, rfl⟩⟩; refine ⟨_, rfl, ?_⟩) | ((with_reducible refine gate_callee (f := 56) rfl ?_); refine goesL_ (some 12) rfl rfl Try.func56 (by kernel_rfl) rfl #[.int .i64 4, .int .i64 t104] rfl (by (try simp only [List.map_toArray, List.map_cons, List.map_nil]); first | done | rfl | (simp only [List.length_drop, List.length_take]; rfl)) ?_; (with_reducible refine (woodcutref01_Bytes.calls k1 4 t104 t105 _ A7.out).mono ?_); rintro e w10 ⟨v106, rfl, ho0, hb⟩; refine ⟨_, rfl, ?_⟩; have n0_ := Aside0.mk (Kd.R_elder' (by (with_reducible repeat (first | apply Kd.R_alloc | apply Kd.R_drewN | apply Kd.R_drew)); exact HO_0.out) (Kd.R_base ho0) hb); have n1_ := Aside0.mk (Kd.R_lower (Kd.R_new' (Kd.R_newM (M := fun k_ => (P0_ k_ ∨ w.heap.size ≤ k_)) ho0 (by first | exact HK.out.1 | exact (show Kept w _ (fun k_ => P0_ k_) from by repeat (first | (with_reducible first | exact HK.out | apply Kept.alloc | apply Kept.drewN | apply Kept.drew) | exact HK.out)).1) (fun k_ h_ => .inr h_)) (Kd.R_lt (by (with_reducible repeat (first | apply Kd.R_alloc | apply Kd.R_drewN | apply Kd.R_drew)); exact HO_0.out))) (below_size (by repeat (first | (with_reducible first | exact HB.out | apply below_alloc | apply pw_below_drewN | apply below_drew1) | exact HB.out)))); have n2_ := Aside0.mk (Kept.below (S := (fun k_ => P0_ k_)) (by repeat (first | (with_reducible first | exact HK.out | apply Kept.alloc | apply Kept.drewN | apply Kept.drew) | exact HK.out)) hb); have n3_ := Aside0.mk (below_step (by repeat (first | (with_reducible first | exact HB.out | apply below_alloc | apply pw_below_drewN | apply below_drew1) | exact HB.out)) hb); clear HO_0; clear HK; clear HB; have HO_0 := n0_; have HO107 := n1_; have HK := n2_; have HB := n3_; clear n0_ n1_ n2_ n3_; (try clear hb); (try clear hb2); (try clear hk); (try clear hi); (try clear ho0); obtain ⟨Ao12, co12, eo12⟩ := Kd.R_slice HO107.out; subst eo12) | ((with_reducible refine gate_builtin (b := .append) (xs := #[.tmp 9, .tmp 12]) rfl ?_); at_builtin; refine Kd.R_append_rows (Kd.int .u8) (w0 := w0) w0.heap.size rfl (.tmp 9) (.tmp 12) 24 5 (.int .u8 0) 1 rfl Try.underlying24 info5 rfl (by decide) (by omega) (.slice Ao9 x0_1.length co9) x0_1 t105 _ _ _ (fun k_ => (P0_ k_ ∨ w.heap.size ≤ k_) ∧ some k_ ≠ (.slice Ao12 t105.length co12 : Value).ownBlock) (fun _ => False) rfl rfl ?aO ?aR (fun _ _ h => h) (fun _ h => h.elim) ?aF ?aB ?aS ?aL ?_; (case aR => repeat (first | exact (Kd.R_reads' HO107.out).2.2 | (with_reducible refine Kd.C_alloc ?_ _) | (with_reducible refine Kd.C_drewN ?_ _) | (with_reducible refine Kd.C_drew ?_))); (case aB => exact (by repeat (first | (with_reducible first | exact HB.out | apply below_alloc | apply pw_below_drewN | apply below_drew1) | exact HB.out))); (case aF => exact (fun k_ hk => ⟨(.inr (Nat.le_trans (by first | exact HK.out.1 | exact (show Kept w _ (fun k_ => P0_ k_) from by repeat (first | (with_reducible first | exact HK.out | apply Kept.alloc | apply Kept.drewN | apply Kept.drew) | exact HK.out)).1) hk)), Kd.fresh' (Kd.R_lt (by (with_reducible repeat (first | apply Kd.R_alloc | apply Kd.R_drewN | apply Kd.R_drew)); exact HO107.out)) k_ hk⟩)); (case aO => exact (by (with_reducible repeat (first | apply Kd.R_alloc | apply Kd.R_drewN | apply Kd.R_drew)); exact HO_0.out)); (case aS => exact (below_size (by repeat (first | (with_reducible first | exact HB.out | apply below_alloc | apply pw_below_drewN | apply below_drew1) | exact HB.out)))); (case aL => have := LMc8.out; omega); intro v109 w11 ho hb hg hat; rw [← Ny108.out] at ho; have n0_ := Aside0.mk (Kd.R_after (ok := (fun k_ => (P0_ k_ ∨ w.heap.size ≤ k_))) (by (with_reducible repeat (first | apply Kd.R_alloc | apply Kd.R_drewN | apply Kd.R_drew)); exact Kd.R_mono HO107.out (fun _ hk => ⟨hk.1.1, hk.2⟩)) hg hat); have n1_ := Aside0.mk (hb); have n2_ := Aside0.mk (Kept.of_grown (S := (fun k_ => P0_ k_)) hg (by repeat (first | (with_reducible first | exact HK.out | apply Kept.alloc | apply Kept.drewN | apply Kept.drew) | exact HK.out)) (fun k_ e_ => (HO_0.out.1 k_ e_).1)); have n3_ := Aside0.mk (ho); clear HO107; clear HB; clear HK; clear HO_0; have HO107 := n0_; have HB := n1_; have HK := n2_; have HO110 := n3_; clear n0_ n1_ n2_ n3_; clear ho hb hg hat))
          go_ret
          exact ⟨_, by first | rfl | (simp [errW_none, errW_some] <;> rfl) | (simp [*, errW_none, errW_some] <;> rfl), by (with_reducible repeat (first | apply Kd.R_alloc | apply Kd.R_drewN | apply Kd.R_drew)); exact Kd.R_mono HO110.out (fun _ hk => hk.1), by repeat (first | (with_reducible first | exact HB.out | apply below_alloc | apply pw_below_drewN | apply below_drew1) | exact HB.out), by repeat (first | (with_reducible first | exact HK.out | apply Kept.alloc | apply Kept.drewN | apply Kept.drew) | exact HK.out)⟩
        · rw [if_neg c8] at H
          exact absurd H (by simp)

/-! ### woodcutref01_seal: function 57, what it comes to -/
theorem seal_loop : ∀ (d : Nat) (b : List Int), b.length + d = 60 → ∃ k, woodcutref01_seal.l0 k b = some (Blk.sealB (Blk.padTo 60 b)) := by
  intro d
  induction d with
  | zero =>
    intro b hb
    obtain ⟨k, hk⟩ := woodcutref01_Bytes_ok 4 (by omega) (Crc.sum 0 b) (Crc.sum0 _ _) (by have := Crc.sum1 0 b; omega)
    refine ⟨k + 1, ?_⟩
    have e4 : ((4 : Nat) : Int) = 4 := rfl
    rw [e4] at hk
    simp only [woodcutref01_seal.l0]
    rw [if_neg (by omega), sum_f]
    simp only [Option.bind_some]
    rw [hk]
    simp only [Option.bind_some]
    rw [if_pos (by rw [Blk.leB_len]; omega)]
    have : Blk.padTo 60 b = b := by unfold Blk.padTo; rw [show 60 - b.length = 0 by omega]; simp
    rw [this]; rfl
  | succ d ih =>
    intro b hb
    obtain ⟨k, hk⟩ := ih (b ++ [0]) (by simp; omega)
    refine ⟨k + 1, ?_⟩
    simp only [woodcutref01_seal.l0]
    rw [if_pos (by omega), if_pos (by omega), hk]
    have : Blk.padTo 60 (b ++ [0]) = Blk.padTo 60 b := by
      unfold Blk.padTo
      rw [List.append_assoc, show 60 - b.length = (60 - (b ++ [0]).length) + 1 by simp; omega, List.replicate_succ]
      rfl
    rw [this]
theorem woodcutref01_seal_ok (b : List Int) (h : b.length ≤ 60) : ∃ k, woodcutref01_seal.f k b = some (Blk.sealB (Blk.padTo 60 b)) := seal_loop (60 - b.length) b (by omega)

/-! ### woodcutref01_NodeBytes: function 30, walked by hand -/
theorem node_at {w : World} {g : Nat} {a0_0 a0_1 a0_2 a0_3 a0_4 a0_5 a0_6 a0_7 a0_8 : Int} (h : w.heap[g]? = some (.cells #[.int .i64 a0_0, .int .i64 a0_1, .int .i64 a0_2, .int .i64 a0_3, .int .i64 a0_4, .int .i64 a0_5, .int .i64 a0_6, .int .i64 a0_7, .int .i64 a0_8] 43 (0, 0))) : ∀ k, k < 8 → w.cell? ⟨g, 1 + k, none⟩ = some (.int .i64 (rd [a0_1, a0_2, a0_3, a0_4, a0_5, a0_6, a0_7, a0_8] (k : Int))) := by
  intro k hk
  unfold rd; rw [Int.toNat_natCast]
  match k, hk with
  | 0, _ => exact (blk_cell h 1).trans rfl
  | 1, _ => exact (blk_cell h 2).trans rfl
  | 2, _ => exact (blk_cell h 3).trans rfl
  | 3, _ => exact (blk_cell h 4).trans rfl
  | 4, _ => exact (blk_cell h 5).trans rfl
  | 5, _ => exact (blk_cell h 6).trans rfl
  | 6, _ => exact (blk_cell h 7).trans rfl
  | 7, _ => exact (blk_cell h 8).trans rfl
def accB (lv : Int) (ps : List Int) (k : Nat) : List Int := [78, 79, 68, 69] ++ Blk.flatB (List.replicate (k + 1) 4) (lv :: ps.take k)
theorem acc0 (lv : Int) (ps : List Int) : accB lv ps 0 = [78, 79, 68, 69] ++ Blk.leB 4 lv := by unfold accB; simp [Blk.flatB]
theorem accB_len (lv : Int) (ps : List Int) (k : Nat) (h : k ≤ ps.length) : (accB lv ps k).length = 8 + 4 * k := by
  unfold accB; rw [List.length_append, Blk.flatB_len _ _ (by simp; omega)]; simp; omega
theorem accB_step (lv : Int) (ps : List Int) (k : Nat) (h : k < ps.length) : accB lv ps (k + 1) = accB lv ps k ++ Blk.leB 4 (rd ps (k : Int)) := by
  unfold accB
  rw [List.append_assoc, Nod.rd_take ps k h, ← List.cons_append, List.replicate_succ' (n := k + 1), Blk.flatB_snoc _ _ _ _ (by simp; omega)]
def woodcutref01_NodeBytes.f (a0_0 : Int) (a0_1 : Int) (a0_2 : Int) (a0_3 : Int) (a0_4 : Int) (a0_5 : Int) (a0_6 : Int) (a0_7 : Int) (a0_8 : Int) : Option (List Int) := if allNN [a0_0, a0_1, a0_2, a0_3, a0_4, a0_5, a0_6, a0_7, a0_8] = true then some (Blk.blk [78, 79, 68, 69] [4, 4, 4, 4, 4, 4, 4, 4, 4] [a0_0, a0_1, a0_2, a0_3, a0_4, a0_5, a0_6, a0_7, a0_8]) else none
set_option maxHeartbeats 4000000 in
set_option maxRecDepth 100000 in
theorem woodcutref01_NodeBytes.calls (a0_0 : Int) (a0_1 : Int) (a0_2 : Int) (a0_3 : Int) (a0_4 : Int) (a0_5 : Int) (a0_6 : Int) (a0_7 : Int) (a0_8 : Int) (r : List Int) (w : World) (h : woodcutref01_NodeBytes.f a0_0 a0_1 a0_2 a0_3 a0_4 a0_5 a0_6 a0_7 a0_8 = some r) :
    Calls Try.prog 30 #[.agg #[.int .i64 a0_0, .int .i64 a0_1, .int .i64 a0_2, .int .i64 a0_3, .int .i64 a0_4, .int .i64 a0_5, .int .i64 a0_6, .int .i64 a0_7, .int .i64 a0_8]] w fun e w' => ∃ v0_ : Value, e = .returned v0_ ∧ Kd.R (Kd.int .u8) 5 w' w.heap.size (fun _ => True) v0_ r ∧ Below w.heap.size w w' := by
  unfold woodcutref01_NodeBytes.f at h
  by_cases hnn : allNN [a0_0, a0_1, a0_2, a0_3, a0_4, a0_5, a0_6, a0_7, a0_8] = true
  case neg => rw [if_neg hnn] at h; cases h
  rw [if_pos hnn] at h
  obtain rfl := Option.some.inj h
  clear h
  have HB := Aside0.mk (Below.refl w.heap.size w)
  have hv0 := allNN_at hnn (x := a0_0) (by simp)
  obtain ⟨kb0, hk0⟩ := woodcutref01_Bytes_ok 4 (by omega) a0_0 hv0.1 hv0.2
  have HK0 := Aside0.mk hk0
  clear hk0 hv0
  have hl : ([a0_1, a0_2, a0_3, a0_4, a0_5, a0_6, a0_7, a0_8] : List Int).length = 8 := rfl
  have HAT := Aside0.mk (fun (w : World) (g : Nat) (h : w.heap[g]? = some (.cells #[.int .i64 a0_0, .int .i64 a0_1, .int .i64 a0_2, .int .i64 a0_3, .int .i64 a0_4, .int .i64 a0_5, .int .i64 a0_6, .int .i64 a0_7, .int .i64 a0_8] 43 (0, 0))) => node_at h)
  generalize hps : ([a0_1, a0_2, a0_3, a0_4, a0_5, a0_6, a0_7, a0_8] : List Int) = ps at *
  have HNN := Aside0.mk hnn
  have HL := Aside0.mk hl
  have HMEM := Aside0.mk (show ∀ k, k < 8 → rd ps ((k : Nat) : Int) ∈ ps from fun k hk => by rw [rd_nat ps k (by omega)]; exact List.getElem_mem _)
  obtain ⟨ks, hs⟩ := woodcutref01_seal_ok (accB a0_0 ps 8) (by rw [accB_len _ _ _ (by omega)]; decide)
  obtain ⟨rr, hrr⟩ : ∃ rr, Blk.sealB (Blk.padTo 60 (accB a0_0 ps 8)) = rr := ⟨_, rfl⟩
  rw [hrr] at hs
  have HS := Aside0.mk hs
  have HRR := Aside0.mk (show Blk.blk [78, 79, 68, 69] [4, 4, 4, 4, 4, 4, 4, 4, 4] (a0_0 :: ps) = rr from by rw [← hrr]; unfold Blk.blk accB; rw [List.take_of_length_le (by omega)]; rfl)
  clear hs hrr hps hl hnn
  have hcv : (convert 24 24 (.slice (some ⟨w.heap.size + 1, 0, none⟩) 4 4)).run Try.prog ((w.alloc (.cells #[.int .i64 a0_0, .int .i64 a0_1, .int .i64 a0_2, .int .i64 a0_3, .int .i64 a0_4, .int .i64 a0_5, .int .i64 a0_6, .int .i64 a0_7, .int .i64 a0_8] 43)).alloc (.cells #[.int .u8 78, .int .u8 79, .int .u8 68, .int .u8 69] 5)) = .ok (.slice (some ⟨w.heap.size + 1, 0, none⟩) 4 4) ((w.alloc (.cells #[.int .i64 a0_0, .int .i64 a0_1, .int .i64 a0_2, .int .i64 a0_3, .int .i64 a0_4, .int .i64 a0_5, .int .i64 a0_6, .int .i64 a0_7, .int .i64 a0_8] 43)).alloc (.cells #[.int .u8 78, .int .u8 79, .int .u8 68, .int .u8 69] 5 (4, 5))) := Joins.run_convert_bytes_const_at (w.alloc (.cells #[.int .i64 a0_0, .int .i64 a0_1, .int .i64 a0_2, .int .i64 a0_3, .int .i64 a0_4, .int .i64 a0_5, .int .i64 a0_6, .int .i64 a0_7, .int .i64 a0_8] 43)) 24 5 #[.int .u8 78, .int .u8 79, .int .u8 68, .int .u8 69] 4 4 _ (by simp) Try.underlying24 Try.underlying5
  have HBK0 := Aside0.mk (show ((w.alloc (.cells #[.int .i64 a0_0, .int .i64 a0_1, .int .i64 a0_2, .int .i64 a0_3, .int .i64 a0_4, .int .i64 a0_5, .int .i64 a0_6, .int .i64 a0_7, .int .i64 a0_8] 43)).alloc (.cells #[.int .u8 78, .int .u8 79, .int .u8 68, .int .u8 69] 5 (4, 5))).heap[w.heap.size]? = some (.cells #[.int .i64 a0_0, .int .i64 a0_1, .int .i64 a0_2, .int .i64 a0_3, .int .i64 a0_4, .int .i64 a0_5, .int .i64 a0_6, .int .i64 a0_7, .int .i64 a0_8] 43 (0, 0)) from blk_below (MapKept.heap_alloc w _).1 (below_alloc (Below.refl _ _) _))
  have HMC0 := Aside0.mk (show ((w.alloc (.cells #[.int .i64 a0_0, .int .i64 a0_1, .int .i64 a0_2, .int .i64 a0_3, .int .i64 a0_4, .int .i64 a0_5, .int .i64 a0_6, .int .i64 a0_7, .int .i64 a0_8] 43)).alloc (.cells #[.int .u8 78, .int .u8 79, .int .u8 68, .int .u8 69] 5 (4, 5))).heap[w.heap.size + 1]? = some (.cells #[.int .u8 78, .int .u8 79, .int .u8 68, .int .u8 69] 5 (4, 5)) from (by have h_ := (MapKept.heap_alloc (w.alloc (.cells #[.int .i64 a0_0, .int .i64 a0_1, .int .i64 a0_2, .int .i64 a0_3, .int .i64 a0_4, .int .i64 a0_5, .int .i64 a0_6, .int .i64 a0_7, .int .i64 a0_8] 43)) (.cells #[.int .u8 78, .int .u8 79, .int .u8 68, .int .u8 69] 5 (4, 5))).1; rw [show (w.alloc (.cells #[.int .i64 a0_0, .int .i64 a0_1, .int .i64 a0_2, .int .i64 a0_3, .int .i64 a0_4, .int .i64 a0_5, .int .i64 a0_6, .int .i64 a0_7, .int .i64 a0_8] 43)).heap.size = w.heap.size + 1 by simp] at h_; exact h_))
  have HB0 := Aside0.mk (below_alloc (below_alloc HB.out (.cells #[.int .i64 a0_0, .int .i64 a0_1, .int .i64 a0_2, .int .i64 a0_3, .int .i64 a0_4, .int .i64 a0_5, .int .i64 a0_6, .int .i64 a0_7, .int .i64 a0_8] 43)) (.cells #[.int .u8 78, .int .u8 79, .int .u8 68, .int .u8 69] 5 (4, 5)))
  have hc0_ : ((w.alloc (.cells #[.int .i64 a0_0, .int .i64 a0_1, .int .i64 a0_2, .int .i64 a0_3, .int .i64 a0_4, .int .i64 a0_5, .int .i64 a0_6, .int .i64 a0_7, .int .i64 a0_8] 43)).alloc (.cells #[.int .u8 78, .int .u8 79, .int .u8 68, .int .u8 69] 5 (4, 5))).cell? ⟨w.heap.size, 0, none⟩ = some (.int .i64 a0_0) := (blk_cell HBK0.out 0).trans rfl
  have hc1_ : ((w.alloc (.cells #[.int .i64 a0_0, .int .i64 a0_1, .int .i64 a0_2, .int .i64 a0_3, .int .i64 a0_4, .int .i64 a0_5, .int .i64 a0_6, .int .i64 a0_7, .int .i64 a0_8] 43)).alloc (.cells #[.int .u8 78, .int .u8 79, .int .u8 68, .int .u8 69] 5 (4, 5))).cell? ⟨w.heap.size, 1, none⟩ = some (.int .i64 a0_1) := (blk_cell HBK0.out 1).trans rfl
  have hc2_ : ((w.alloc (.cells #[.int .i64 a0_0, .int .i64 a0_1, .int .i64 a0_2, .int .i64 a0_3, .int .i64 a0_4, .int .i64 a0_5, .int .i64 a0_6, .int .i64 a0_7, .int .i64 a0_8] 43)).alloc (.cells #[.int .u8 78, .int .u8 79, .int .u8 68, .int .u8 69] 5 (4, 5))).cell? ⟨w.heap.size, 2, none⟩ = some (.int .i64 a0_2) := (blk_cell HBK0.out 2).trans rfl
  have hc3_ : ((w.alloc (.cells #[.int .i64 a0_0, .int .i64 a0_1, .int .i64 a0_2, .int .i64 a0_3, .int .i64 a0_4, .int .i64 a0_5, .int .i64 a0_6, .int .i64 a0_7, .int .i64 a0_8] 43)).alloc (.cells #[.int .u8 78, .int .u8 79, .int .u8 68, .int .u8 69] 5 (4, 5))).cell? ⟨w.heap.size, 3, none⟩ = some (.int .i64 a0_3) := (blk_cell HBK0.out 3).trans rfl
  have hc4_ : ((w.alloc (.cells #[.int .i64 a0_0, .int .i64 a0_1, .int .i64 a0_2, .int .i64 a0_3, .int .i64 a0_4, .int .i64 a0_5, .int .i64 a0_6, .int .i64 a0_7, .int .i64 a0_8] 43)).alloc (.cells #[.int .u8 78, .int .u8 79, .int .u8 68, .int .u8 69] 5 (4, 5))).cell? ⟨w.heap.size, 4, none⟩ = some (.int .i64 a0_4) := (blk_cell HBK0.out 4).trans rfl
  have hc5_ : ((w.alloc (.cells #[.int .i64 a0_0, .int .i64 a0_1, .int .i64 a0_2, .int .i64 a0_3, .int .i64 a0_4, .int .i64 a0_5, .int .i64 a0_6, .int .i64 a0_7, .int .i64 a0_8] 43)).alloc (.cells #[.int .u8 78, .int .u8 79, .int .u8 68, .int .u8 69] 5 (4, 5))).cell? ⟨w.heap.size, 5, none⟩ = some (.int .i64 a0_5) := (blk_cell HBK0.out 5).trans rfl
  have hc6_ : ((w.alloc (.cells #[.int .i64 a0_0, .int .i64 a0_1, .int .i64 a0_2, .int .i64 a0_3, .int .i64 a0_4, .int .i64 a0_5, .int .i64 a0_6, .int .i64 a0_7, .int .i64 a0_8] 43)).alloc (.cells #[.int .u8 78, .int .u8 79, .int .u8 68, .int .u8 69] 5 (4, 5))).cell? ⟨w.heap.size, 6, none⟩ = some (.int .i64 a0_6) := (blk_cell HBK0.out 6).trans rfl
  have hc7_ : ((w.alloc (.cells #[.int .i64 a0_0, .int .i64 a0_1, .int .i64 a0_2, .int .i64 a0_3, .int .i64 a0_4, .int .i64 a0_5, .int .i64 a0_6, .int .i64 a0_7, .int .i64 a0_8] 43)).alloc (.cells #[.int .u8 78, .int .u8 79, .int .u8 68, .int .u8 69] 5 (4, 5))).cell? ⟨w.heap.size, 7, none⟩ = some (.int .i64 a0_7) := (blk_cell HBK0.out 7).trans rfl
  have hc8_ : ((w.alloc (.cells #[.int .i64 a0_0, .int .i64 a0_1, .int .i64 a0_2, .int .i64 a0_3, .int .i64 a0_4, .int .i64 a0_5, .int .i64 a0_6, .int .i64 a0_7, .int .i64 a0_8] 43)).alloc (.cells #[.int .u8 78, .int .u8 79, .int .u8 68, .int .u8 69] 5 (4, 5))).cell? ⟨w.heap.size, 8, none⟩ = some (.int .i64 a0_8) := (blk_cell HBK0.out 8).trans rfl
  go_enter Try.func30, Try.ntmps30
  go_wp2_with fail
  refine (woodcutref01_Bytes.calls kb0 4 a0_0 (Blk.leB 4 a0_0) _ HK0.out).mono ?_
  rintro e x0 ⟨vt0, rfl, rt0, hb0⟩
  obtain ⟨At0, ct0, ht0⟩ := Kd.R_slice rt0
  subst ht0
  have HT0 := Aside0.mk rt0
  have HBX0 := Aside0.mk (blk_below HBK0.out hb0)
  have HY0 := Aside0.mk (below_step HB0.out hb0)
  have HMX := Aside0.mk (blk_below HMC0.out hb0)
  clear rt0 hb0 hc0_ hc1_ hc2_ hc3_ hc4_ hc5_ hc6_ hc7_ hc8_
  clear hcv
  go_wp2_with ((with_reducible refine gate_builtin (b := .append) (xs := #[.tmp 6, .tmp 9]) rfl ?_); at_builtin; refine Cop.append_const rfl (.tmp 6) (.tmp 9) 24 5 rfl Try.underlying24 info5 (w.heap.size + 1) [78, 79, 68, 69] (Blk.leB 4 a0_0) At0 ct0 rfl (fun j u hj => Cop.const4 HMX.out j u hj) rfl (Kd.R_reads' HT0.out).2.2 (by rw [Blk.leB_len]; decide) (by rw [Blk.leB_len]; decide) HY0.out ?_; intro vn wn hvn hbn hgn; obtain ⟨vs1, hvs1⟩ : ∃ v_, v_ = vn := ⟨_, rfl⟩; subst hvs1; have HV1 := Aside0.mk hvn; have HB1 := Aside0.mk hbn; have HBK1 := Aside0.mk (blk_grown HBX0.out hgn (by simp)); clear hvn hbn hgn; have hc0_ : wn.cell? ⟨w.heap.size, 0, none⟩ = some (.int .i64 a0_0) := (blk_cell HBK1.out 0).trans rfl; have hc1_ : wn.cell? ⟨w.heap.size, 1, none⟩ = some (.int .i64 a0_1) := (blk_cell HBK1.out 1).trans rfl; have hc2_ : wn.cell? ⟨w.heap.size, 2, none⟩ = some (.int .i64 a0_2) := (blk_cell HBK1.out 2).trans rfl; have hc3_ : wn.cell? ⟨w.heap.size, 3, none⟩ = some (.int .i64 a0_3) := (blk_cell HBK1.out 3).trans rfl; have hc4_ : wn.cell? ⟨w.heap.size, 4, none⟩ = some (.int .i64 a0_4) := (blk_cell HBK1.out 4).trans rfl; have hc5_ : wn.cell? ⟨w.heap.size, 5, none⟩ = some (.int .i64 a0_5) := (blk_cell HBK1.out 5).trans rfl; have hc6_ : wn.cell? ⟨w.heap.size, 6, none⟩ = some (.int .i64 a0_6) := (blk_cell HBK1.out 6).trans rfl; have hc7_ : wn.cell? ⟨w.heap.size, 7, none⟩ = some (.int .i64 a0_7) := (blk_cell HBK1.out 7).trans rfl; have hc8_ : wn.cell? ⟨w.heap.size, 8, none⟩ = some (.int .i64 a0_8) := (blk_cell HBK1.out 8).trans rfl)
  skip
  clear hc0_ hc1_ hc2_ hc3_ hc4_ hc5_ hc6_ hc7_ hc8_
  go_loopw [3, 4] (fun v i w' => ∃ k : Nat, k ≤ 8 ∧ i = .int .i64 k ∧ Aside0 (Kd.R (Kd.int .u8) 5 w' w.heap.size (fun _ => True) v (accB a0_0 ps k)) ∧ Aside0 (w'.heap[w.heap.size]? = some (.cells #[.int .i64 a0_0, .int .i64 a0_1, .int .i64 a0_2, .int .i64 a0_3, .int .i64 a0_4, .int .i64 a0_5, .int .i64 a0_6, .int .i64 a0_7, .int .i64 a0_8] 43 (0, 0))) ∧ Aside0 (Below w.heap.size w w')) (fun _ i _ => 8 - (intOf i).toNat)
  case atStart => exact ⟨0, Nat.zero_le _, rfl, ⟨by rw [acc0]; exact HV1.out⟩, HBK1, HB1⟩
  case round =>
    obtain ⟨k, hk, rfl, HV, HBK, HBw⟩ := hrel
    by_cases hlt : k < 8
    · have hq := HAT.out wr _ HBK.out k hlt
      have hx := allNN_at HNN.out (List.mem_cons_of_mem _ (HMEM.out k hlt))
      obtain ⟨kb, hkb⟩ := woodcutref01_Bytes_ok 4 (by omega) (rd ps (k : Int)) hx.1 hx.2
      have HKB := Aside0.mk hkb
      have HST := Aside0.mk (accB_step a0_0 ps k (by rw [HL.out]; exact hlt))
      have HAL := Aside0.mk (accB_len a0_0 ps k (by rw [HL.out]; omega))
      clear hx hkb
      generalize rd ps (k : Int) = x at *
      go_wp2_with fail
      refine (woodcutref01_Bytes.calls kb 4 x (Blk.leB 4 x) _ HKB.out).mono ?_
      rintro e x1 ⟨vt, rfl, rt, hb⟩
      obtain ⟨At, ct, ht⟩ := Kd.R_slice rt
      subst ht
      have HT := Aside0.mk rt
      have HBX := Aside0.mk (blk_below HBK.out hb)
      have HY := Aside0.mk (below_step HBw.out hb)
      have HVX := Aside0.mk (Kd.R_below HV.out hb)
      clear rt hb hq
      generalize hac : accB a0_0 ps k = ac at *
      have HAC := Aside0.mk hac
      clear hac
      go_wp2_with ((with_reducible refine gate_builtin (b := .append) (xs := #[.tmp 15, .tmp 20]) rfl ?_); at_builtin; refine Kd.R_append_rows (Kd.int .u8) (w0 := w) w.heap.size rfl (.tmp 15) (.tmp 20) 24 5 (.int .u8 0) 1 rfl Try.underlying24 info5 rfl (by decide) (by omega) u3 ac (Blk.leB 4 x) _ _ _ (fun _ => True) (fun _ => False) rfl rfl HVX.out (Kd.R_reads' HT.out).2.2 (fun _ _ h => h) (fun _ h => h.elim) (fun _ _ => trivial) HY.out HY.out.size (by rw [Blk.leB_len]; have := HAL.out; omega) ?_; intro vn wn hvn hbn hgn hxn; clear hxn; have HVN := Aside0.mk hvn; have HBN := Aside0.mk hbn; have HBKN := Aside0.mk (blk_grown HBX.out hgn (Kd.R_ne HVX.out HBX.out (by decide))); clear hvn hbn hgn)
      go_roundw
      case rel => exact ⟨k + 1, by omega, by go_num, ⟨by rw [HST.out]; exact HVN.out⟩, HBKN, HBN⟩
      case measure => simp [intOf]; omega
    · obtain rfl : k = 8 := by omega
      generalize hac : accB a0_0 ps 8 = ac at *
      have HAC := Aside0.mk hac
      clear hac
      go_wp2_with fail
      refine (woodcutref01_seal.calls ks (fun _ => True) _ ac rr w _ HBw.out HV.out HS.out).mono ?_
      rintro e x ⟨vz, rfl, ho, hbz, hkz⟩
      have HO := Aside0.mk (Kd.R_mono (ok' := fun _ => True) ho (fun _ _ => trivial))
      have HBZ := Aside0.mk hbz
      clear ho hbz hkz
      go_wp2
      go_ret
      exact ⟨_, rfl, by rw [HRR.out]; exact HO.out, HBZ.out⟩

end Go.Proofs.Ytaaemamcdhebhaa.PNE
