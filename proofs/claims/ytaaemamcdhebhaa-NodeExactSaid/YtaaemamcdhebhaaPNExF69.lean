/- Contracts of the program's functions, as a program of this session prints them: each call comes to what the Lean function of the same name computes.
Conditions: what each theorem's hypotheses say of its arguments. -/
import Derived.Test.YtaaemamcdhebhaaPNEx0
import Derived.Test.YtaaemamcdhebhaaPNExF14
namespace Go.Proofs.Ytaaemamcdhebhaa.PNE
open Go.RowKit Go.Proofs.YtaaemamcdhebhaaW.PrintWords Go.Proofs.YtaaemamcdhebhaaW.PrintLast Go.Proofs.YtaaemamcdhebhaaW.PrintMore
attribute [local go_sem] max2_int min2_int max_two min_two max_three min_three max_four min_four   -- for this text's walks alone
set_option linter.unusedVariables false
set_option linter.unusedSimpArgs false

/-! ### super_Layout: function 69 -/
def super_Layout.l0 : Nat → List (S95) → Int → List Int → Int → Int → Option ((List (S95)))
  | 0, _, _, _, _, _ => none
  | k + 1, x3, x4, x7, x8, x9 => if x9 < x8 then (if 0 ≤ x9 then (if x9 < (x7.length : Int) then (if x3.length < 8796093022208 then (super_Layout.l0 k (x3 ++ [(⟨x4, rd x7 x9⟩ : S95)]) (wrap64 (x4 + (rd x7 x9))) x7 x8 (wrap64 (x9 + 1))) else (none)) else (none)) else (none)) else (some x3)
def super_Layout.f (k : Nat) (l0 : List Int) : Option ((List (S95))) := super_Layout.l0 k ([] : List (S95)) 4 l0 (l0.length : Int) 0
theorem super_Layout.mono_l : ∀ k, (∀ y0 y1 y2 y3 y4, LeO (super_Layout.l0 k y0 y1 y2 y3 y4) (super_Layout.l0 (k + 1) y0 y1 y2 y3 y4))
  | 0 => fun _ _ _ _ _ r h => by simp [super_Layout.l0] at h
  | k + 1 => by
    have ih0 := super_Layout.mono_l k
    · intro y0 y1 y2 y3 y4
      unfold super_Layout.l0
      repeat' first
      | (with_reducible exact ih0 _ _ _ _ _)
      | (with_reducible exact LeO.refl _)
      | (with_reducible exact LeO.none _)
      | (with_reducible refine LeO.ite ?_ ?_)
      | (with_reducible refine LeO.bind ?_ (fun _ => ?_))
      | exact ih0 _ _ _ _ _
      | exact LeO.none _
      | refine LeO.ite ?_ ?_
      | refine LeO.bind ?_ (fun _ => ?_)
theorem super_Layout.mono : ∀ a0 k, LeO (super_Layout.f k a0) (super_Layout.f (k + 1) a0) := by
  intro a0 k
  have ih0 := super_Layout.mono_l k
  unfold super_Layout.f
  repeat' first
      | (with_reducible exact ih0 _ _ _ _ _)
      | (with_reducible exact LeO.refl _)
      | (with_reducible exact LeO.none _)
      | (with_reducible refine LeO.ite ?_ ?_)
      | (with_reducible refine LeO.bind ?_ (fun _ => ?_))
      | exact ih0 _ _ _ _ _
      | exact LeO.none _
      | refine LeO.ite ?_ ?_
      | refine LeO.bind ?_ (fun _ => ?_)
set_option maxHeartbeats 8000000 in
set_option maxRecDepth 100000 in
theorem super_Layout.calls (k : Nat) (A0 : Option Addr) (c0 : Nat) (l0 : List Int) (r : List (S95)) (w : World) (hr0 : Kd.C (Kd.int .i64) w A0 l0.length l0) (hc0 : l0.length ≤ c0) (h : super_Layout.f k l0 = some r) :
    Calls Try.prog 69 #[.slice A0 l0.length c0] w fun e w' => ∃ v0_ : Value, e = .returned (v0_) ∧ Kd.R k95 95 w' w.heap.size (fun _ => True) v0_ r ∧ Below w.heap.size w w' := by
  have hu95 := Try.underlying95
  have HR0 := Aside0.mk hr0
  have HC0 := Aside0.mk hc0
  clear hr0 hc0
  have HB := Aside0.mk (Below.refl w.heap.size w)
  have H : (super_Layout.l0 k ([] : List (S95)) 4 l0 (l0.length : Int) 0) = some r := h
  clear h
  have H' := Aside0.mk H
  clear H
  go_enter Try.func69, Try.ntmps69
  go_wp2
  go_loopg [3, 4, 9] k (fun kq v3 v4 v9 w' => ∃ (x3_1 : List (S95)) (x4_1 : Int) (x9_1 : Int), v4 = .int .i64 x4_1 ∧ v9 = .int .i64 x9_1 ∧ Aside0 (super_Layout.l0 kq x3_1 x4_1 l0 (l0.length : Int) x9_1 = some r) ∧ Aside0 (kq ≤ k) ∧ Aside0 (Kd.R k95 95 w' w.heap.size (fun _ => True) v3 x3_1) ∧ Aside0 (Below w.heap.size w w'))
  case atStart => exact ⟨(([] : List (S95))), (4), (0), (by first | rfl | (simp; done) | (simp [*]; done)), (by first | rfl | (simp; done) | (simp [*]; done)), H', ⟨Nat.le_refl _⟩, ⟨by first | exact Kd.R_nil _ _ _ _ _ | exact Kd.N_nil _ _ _ _ _ | exact Kd.V_nil _ _ _ _ _ | exact Kd.Q_nil _ _ _ _ _ | exact Kd.S_nil _ _ _ _ _⟩, ⟨by repeat (first | (with_reducible first | exact HB.out | apply below_alloc | apply pw_below_drewN | apply below_drew1) | exact HB.out)⟩⟩
  case round =>
    clear H'
    obtain ⟨x3_1, x4_1, x9_1, rfl, rfl, HA, HK1, HO_3, HB⟩ := hrel
    cases gk with
    | zero => exact absurd HA.out (by simp [super_Layout.l0])
    | succ k1 =>
      have H := HA.out
      clear HA
      simp only [super_Layout.l0] at H
      by_cases c2 : x9_1 < (l0.length : Int)
      · rw [if_pos c2] at H
        have c2b0 : decide (x9_1 < (l0.length : Int)) = true := decide_eq_true c2
        clear c2
        by_cases c3 : 0 ≤ x9_1
        · rw [if_pos c3] at H
          have c3b0 : decide (0 ≤ x9_1) = true := decide_eq_true c3
          clear c3
          by_cases c4 : x9_1 < (l0.length : Int)
          · rw [if_pos c4] at H
            have c4b0 : decide (x9_1 < (l0.length : Int)) = true := decide_eq_true c4
            clear c4
            by_cases c5 : x3_1.length < 8796093022208
            · rw [if_pos c5] at H
              have LMc5 := Aside0.mk c5
              clear c5
              obtain ⟨y102, hy102⟩ : ∃ y_ : List (S95), y_ = (x3_1 ++ [(⟨x4_1, rd l0 x9_1⟩ : S95)]) := ⟨_, rfl⟩
              replace H : (super_Layout.l0 k1 y102 (wrap64 (x4_1 + (rd l0 x9_1))) l0 (l0.length : Int) (wrap64 (x9_1 + 1))) = some r := by first | (rw [hy102]; with_reducible exact H) | (have H2_ := (Option.bind_some _ _).symm.trans H; rw [hy102]; with_reducible exact H2_) | (have H2_ := (Option.bind_some _ _).symm.trans H; with_reducible exact H2_) | with_reducible exact H | (rw [hy102]; exact H) | exact H
              have Ny102 := Aside0.mk hy102
              clear hy102
              have H' := Aside0.mk H
              clear H
              have p101 : 0 ≤ (x9_1 : Int) := of_decide_eq_true (by first | (with_reducible assumption) | assumption)
              have q101 : x9_1 < (l0.length : Int) := of_decide_eq_true (by first | (with_reducible assumption) | assumption)
              obtain ⟨ad101, e101, hx101_0⟩ := Kd.at_int HR0.out x9_1 p101 q101
              cases e101
              replace hx101_0 := (HB.out.cell (World.block_lt_of_cell? w _ hx101_0)).trans hx101_0
              replace p101 := eq_true p101
              replace q101 := eq_true q101
              go_wp2_with (first | ((with_reducible refine gate_builtin (b := .append) (xs := #[.tmp 13, .tmp 17]) rfl ?_); at_builtin; refine Kd.R_append k95 (w0 := w) w.heap.size rfl (.tmp 13) (.tmp 17) 78 95 (.agg #[(.int .i64 0), (.int .i64 0)]) 16 rfl Try.underlying78 info95 rfl (by decide) (by omega) u3 x3_1 (⟨x4_1, rd l0 x9_1⟩ : S95) [.int .i64 x4_1, .int .i64 (rd l0 x9_1)] (fun _ => True) (fun _ => False) rfl rfl ?aP (fun _ hk => hk.elim) ?aF ?aO ?aB ?aS ?aL ?_; (case aP => exact k95_mkM _ _ _ (⟨x4_1, rd l0 x9_1⟩ : S95)); (case aB => exact (by repeat (first | (with_reducible first | exact HB.out | apply below_alloc | apply pw_below_drewN | apply below_drew1) | exact HB.out))); (case aF => exact (fun _ _ => trivial)); (case aO => exact (by (with_reducible repeat (first | apply Kd.R_alloc | apply Kd.R_drewN | apply Kd.R_drew)); exact HO_3.out)); (case aS => exact (below_size (by repeat (first | (with_reducible first | exact HB.out | apply below_alloc | apply pw_below_drewN | apply below_drew1) | exact HB.out)))); (case aL => have := LMc5.out; omega); intro v103 w6 ho hb hg hat; rw [← Ny102.out] at ho; have n0_ := Aside0.mk (hb); have n1_ := Aside0.mk (ho); clear HB; clear HO_3; have HB := n0_; have HO104 := n1_; clear n0_ n1_; clear ho hb hg hat))
              go_roundg k1
              case measure => have := HK1.out; omega
              case rel => exact ⟨(y102), (wrap64 (x4_1 + (rd l0 x9_1))), (wrap64 (x9_1 + 1)), (by first | rfl | (simp; done) | (simp [*]; done)), (by first | rfl | (simp; done) | (simp [*]; done)), H', ⟨by have := HK1.out; omega⟩, ⟨by (with_reducible repeat (first | apply Kd.R_alloc | apply Kd.R_drewN | apply Kd.R_drew)); exact HO104.out⟩, ⟨by repeat (first | (with_reducible first | exact HB.out | apply below_alloc | apply pw_below_drewN | apply below_drew1) | exact HB.out)⟩⟩
            · rw [if_neg c5] at H
              exact absurd H (by simp)
          · rw [if_neg c4] at H
            exact absurd H (by simp)
        · rw [if_neg c3] at H
          exact absurd H (by simp)
      · rw [if_neg c2] at H
        have c2b0 : decide (x9_1 < (l0.length : Int)) = false := decide_eq_false c2
        clear c2
        obtain rfl := Option.some.inj H
        go_wp2
        go_ret
        exact ⟨_, by first | rfl | (simp [errW_none, errW_some] <;> rfl) | (simp [*, errW_none, errW_some] <;> rfl), by (with_reducible repeat (first | apply Kd.R_alloc | apply Kd.R_drewN | apply Kd.R_drew)); exact HO_3.out, by repeat (first | (with_reducible first | exact HB.out | apply below_alloc | apply pw_below_drewN | apply below_drew1) | exact HB.out)⟩

/-! ### node_layout: function 58 -/
def node_layout.f (k : Nat)  : Option ((List (S95))) := (super_Layout.f k (([4, 4, 4, 4, 4, 4, 4, 4, 4] : List Int))).bind fun t104 => (some t104)
theorem node_layout.mono : ∀ k, LeO (node_layout.f k ) (node_layout.f (k + 1) ) := by
  intro  k
  unfold node_layout.f
  repeat' first
      | (with_reducible exact super_Layout.mono _ _)
      | (with_reducible exact LeO.refl _)
      | (with_reducible exact LeO.none _)
      | (with_reducible refine LeO.ite ?_ ?_)
      | (with_reducible refine LeO.bind ?_ (fun _ => ?_))
      | exact super_Layout.mono _ _
      | exact LeO.none _
      | refine LeO.ite ?_ ?_
      | refine LeO.bind ?_ (fun _ => ?_)
set_option maxHeartbeats 8000000 in
set_option maxRecDepth 100000 in
theorem node_layout.calls (k : Nat)  (r : List (S95)) (w : World) (h : node_layout.f k  = some r) :
    Calls Try.prog 58 #[] w fun e w' => ∃ v0_ : Value, e = .returned (v0_) ∧ Kd.R k95 95 w' w.heap.size (fun _ => True) v0_ r ∧ Below w.heap.size w w' := by
  have HB := Aside0.mk (Below.refl w.heap.size w)
  have H : ((super_Layout.f k (([4, 4, 4, 4, 4, 4, 4, 4, 4] : List Int))).bind fun t104 => (some t104)) = some r := h
  clear h
  obtain ⟨y101, hy101⟩ : ∃ y_ : List Int, y_ = (([4, 4, 4, 4, 4, 4, 4, 4, 4] : List Int)) := ⟨_, rfl⟩
  replace H : ((super_Layout.f k y101).bind fun t104 => (some t104)) = some r := by first | (rw [hy101]; with_reducible exact H) | (have H2_ := (Option.bind_some _ _).symm.trans H; rw [hy101]; with_reducible exact H2_) | (have H2_ := (Option.bind_some _ _).symm.trans H; with_reducible exact H2_) | with_reducible exact H | (rw [hy101]; exact H) | exact H
  have Ny101 := Aside0.mk hy101
  clear hy101
  replace H := Option.bind_eq_some_iff.mp H
  obtain ⟨t104, A10, H⟩ := H
  replace H : (some t104) = some r := H
  have A1 := Aside0.mk A10
  clear A10
  obtain rfl := Option.some.inj H
  go_enter Try.func58, Try.ntmps58
  go_wp2_with (first | ((with_reducible refine gate_dst (N := 1) rfl ?_); refine Kd.R_lit (Kd.int .i64) _ 3 ?hg (N := 1) ?hd (xs := ([4, 4, 4, 4, 4, 4, 4, 4, 4] : List Int)) (inner := [.int .i64 4, .int .i64 4, .int .i64 4, .int .i64 4, .int .i64 4, .int .i64 4, .int .i64 4, .int .i64 4, .int .i64 4]) (ok := fun _ => True) (okp := fun _ => True) ?hr ?hp (fun _ hk => hk) trivial (Below.refl _ _) (Nat.le_refl _) (by simp) ?_; (case hd => rfl); (case hg => rfl); (case hr => first | (go_simp; done) | (go_simp; rfl)); (case hp => exact (Reps.one (show Kd.M (Kd.int .i64) _ _ _ 4 [.int .i64 4] from rfl) (Reps.one (show Kd.M (Kd.int .i64) _ _ _ 4 [.int .i64 4] from rfl) (Reps.one (show Kd.M (Kd.int .i64) _ _ _ 4 [.int .i64 4] from rfl) (Reps.one (show Kd.M (Kd.int .i64) _ _ _ 4 [.int .i64 4] from rfl) (Reps.one (show Kd.M (Kd.int .i64) _ _ _ 4 [.int .i64 4] from rfl) (Reps.one (show Kd.M (Kd.int .i64) _ _ _ 4 [.int .i64 4] from rfl) (Reps.one (show Kd.M (Kd.int .i64) _ _ _ 4 [.int .i64 4] from rfl) (Reps.one (show Kd.M (Kd.int .i64) _ _ _ 4 [.int .i64 4] from rfl) (Reps.one (show Kd.M (Kd.int .i64) _ _ _ 4 [.int .i64 4] from rfl) (Reps.none _ _))))))))))); intro v102 w2 ho3 hb hg_ hnew_; clear hg_ hnew_; (first | rw [← Ny101.out] at ho3 | (simp only [Int.reduceToNat] at ho3; rw [← Ny101.out] at ho3)); have n0_ := Aside0.mk (Kd.R_lower ho3 (below_size (by repeat (first | (with_reducible first | exact HB.out | apply below_alloc | apply pw_below_drewN | apply below_drew1) | exact HB.out)))); have n1_ := Aside0.mk (below_step (by repeat (first | (with_reducible first | exact HB.out | apply below_alloc | apply pw_below_drewN | apply below_drew1) | exact HB.out)) hb); clear HB; have HO103 := n0_; have HB := n1_; clear n0_ n1_; clear hb ho3; obtain ⟨Ao4, co4, eo4⟩ := Kd.R_slice HO103.out; subst eo4) | ((with_reducible refine gate_callee (f := 69) rfl ?_); refine goesL_ (some 2) rfl rfl Try.func69 (by kernel_rfl) rfl #[.slice Ao4 y101.length co4] rfl (by (try simp only [List.map_toArray, List.map_cons, List.map_nil]); first | done | rfl | (simp only [List.length_drop, List.length_take]; rfl)) ?_; (with_reducible refine (super_Layout.calls k _ _ y101 t104 _ ?side1 ?side2 A1.out).mono ?_); (case side1 => repeat (first | exact (Kd.R_reads' HO103.out).2.2 | (with_reducible refine Kd.C_alloc ?_ _) | (with_reducible refine Kd.C_drewN ?_ _) | (with_reducible refine Kd.C_drew ?_))); (case side2 => exact (Kd.R_reads' HO103.out).2.1); rintro e w5 ⟨v105, rfl, ho0, hb⟩; refine ⟨_, rfl, ?_⟩; have n0_ := Aside0.mk (Kd.R_below (by (with_reducible repeat (first | apply Kd.R_alloc | apply Kd.R_drewN | apply Kd.R_drew)); exact HO103.out) hb); have n1_ := Aside0.mk (Kd.R_lower ho0 (below_size (by repeat (first | (with_reducible first | exact HB.out | apply below_alloc | apply pw_below_drewN | apply below_drew1) | exact HB.out)))); have n2_ := Aside0.mk (below_step (by repeat (first | (with_reducible first | exact HB.out | apply below_alloc | apply pw_below_drewN | apply below_drew1) | exact HB.out)) hb); clear HO103; clear HB; have HO103 := n0_; have HO106 := n1_; have HB := n2_; clear n0_ n1_ n2_; (try clear hb); (try clear hb2); (try clear hk); (try clear hi); (try clear ho0)))
  go_ret
  exact ⟨_, by first | rfl | (simp [errW_none, errW_some] <;> rfl) | (simp [*, errW_none, errW_some] <;> rfl), by (with_reducible repeat (first | apply Kd.R_alloc | apply Kd.R_drewN | apply Kd.R_drew)); exact HO106.out, by repeat (first | (with_reducible first | exact HB.out | apply below_alloc | apply pw_below_drewN | apply below_drew1) | exact HB.out)⟩

/-! ### node_Bytes: function 23, walked by hand -/
/-- The fields of a node's numbers. -/
def nodeLay : List S95 := [⟨4, 4⟩, ⟨8, 4⟩, ⟨12, 4⟩, ⟨16, 4⟩, ⟨20, 4⟩, ⟨24, 4⟩, ⟨28, 4⟩, ⟨32, 4⟩, ⟨36, 4⟩]
theorem node_layout_f : ∃ k, node_layout.f k = some nodeLay := by
  refine ⟨10, ?_⟩
  unfold node_layout.f super_Layout.f
  simp [super_Layout.l0, rd, nodeLay, w64']
  try decide
def node_Bytes.f (a0_0 : Int) (a0_1 : Int) (a0_2 : Int) (a0_3 : Int) (a0_4 : Int) (a0_5 : Int) (a0_6 : Int) (a0_7 : Int) (a0_8 : Int) : Option (List Int × Int) := some (if Nod.okNode a0_0 [a0_1, a0_2, a0_3, a0_4, a0_5, a0_6, a0_7, a0_8] = true then Blk.blk [78, 79, 68, 69] [4, 4, 4, 4, 4, 4, 4, 4, 4] (a0_0 :: [a0_1, a0_2, a0_3, a0_4, a0_5, a0_6, a0_7, a0_8]) else [], Nod.chk a0_0 [a0_1, a0_2, a0_3, a0_4, a0_5, a0_6, a0_7, a0_8])
def node_Bytes.T4 : Bool × List (List Nat × List Nat) := (true, [([], []), ([], []), ([1], [1]), ([2], [2]), ([], []), ([4], [4]), ([3, 5, 0], [3, 5]), ([0, 6, 6], [0, 6]), ([7, 7, 0, 1, 2, 3, 4, 5, 6, 7], [7]), ([8, 0, 1, 2, 3, 4, 5, 6, 7, 8], [])])
def node_Bytes.B4 : List Nat := [0, 0, 2, 6, 0, 16, 63, 127, 255, 511]
theorem node_Bytes.tab4 : rtab .any (opsOf Try.f23 4) = node_Bytes.T4 := by kernel_rfl
theorem node_Bytes.bits4 : waitsOk node_Bytes.T4.2 node_Bytes.B4 = true := by kernel_rfl
theorem nodeC {w : World} {g : Nat} {a0_0 a0_1 a0_2 a0_3 a0_4 a0_5 a0_6 a0_7 a0_8 : Int} (h : w.heap[g]? = some (.cells #[.int .i64 a0_0, .int .i64 a0_1, .int .i64 a0_2, .int .i64 a0_3, .int .i64 a0_4, .int .i64 a0_5, .int .i64 a0_6, .int .i64 a0_7, .int .i64 a0_8] 43 (0, 0))) : Kd.C (Kd.int .i64) w (some ⟨g, 1, none⟩) 8 [a0_1, a0_2, a0_3, a0_4, a0_5, a0_6, a0_7, a0_8] := by
  refine ⟨rfl, by omega, fun _ => ⟨_, rfl, fun j p hj => ?_⟩⟩
  match j, hj with
  | 0, hj => injection hj with hj; subst hj; exact ⟨_, rfl, rfl, fun j u hu => by cases j with | zero => (injection hu with hu; subst hu; exact (blk_cell h 1).trans rfl) | succ j => cases hu⟩
  | 1, hj => injection hj with hj; subst hj; exact ⟨_, rfl, rfl, fun j u hu => by cases j with | zero => (injection hu with hu; subst hu; exact (blk_cell h 2).trans rfl) | succ j => cases hu⟩
  | 2, hj => injection hj with hj; subst hj; exact ⟨_, rfl, rfl, fun j u hu => by cases j with | zero => (injection hu with hu; subst hu; exact (blk_cell h 3).trans rfl) | succ j => cases hu⟩
  | 3, hj => injection hj with hj; subst hj; exact ⟨_, rfl, rfl, fun j u hu => by cases j with | zero => (injection hu with hu; subst hu; exact (blk_cell h 4).trans rfl) | succ j => cases hu⟩
  | 4, hj => injection hj with hj; subst hj; exact ⟨_, rfl, rfl, fun j u hu => by cases j with | zero => (injection hu with hu; subst hu; exact (blk_cell h 5).trans rfl) | succ j => cases hu⟩
  | 5, hj => injection hj with hj; subst hj; exact ⟨_, rfl, rfl, fun j u hu => by cases j with | zero => (injection hu with hu; subst hu; exact (blk_cell h 6).trans rfl) | succ j => cases hu⟩
  | 6, hj => injection hj with hj; subst hj; exact ⟨_, rfl, rfl, fun j u hu => by cases j with | zero => (injection hu with hu; subst hu; exact (blk_cell h 7).trans rfl) | succ j => cases hu⟩
  | 7, hj => injection hj with hj; subst hj; exact ⟨_, rfl, rfl, fun j u hu => by cases j with | zero => (injection hu with hu; subst hu; exact (blk_cell h 8).trans rfl) | succ j => cases hu⟩
  | j + 8, hj => simp at hj
set_option maxHeartbeats 4000000 in
set_option maxRecDepth 100000 in
theorem node_Bytes.calls (a0_0 : Int) (a0_1 : Int) (a0_2 : Int) (a0_3 : Int) (a0_4 : Int) (a0_5 : Int) (a0_6 : Int) (a0_7 : Int) (a0_8 : Int) (r1 : List Int) (r2 : Int) (w : World) (h : node_Bytes.f a0_0 a0_1 a0_2 a0_3 a0_4 a0_5 a0_6 a0_7 a0_8 = some (r1, r2)) :
    Calls Try.prog 23 #[.agg #[.int .i64 a0_0, .int .i64 a0_1, .int .i64 a0_2, .int .i64 a0_3, .int .i64 a0_4, .int .i64 a0_5, .int .i64 a0_6, .int .i64 a0_7, .int .i64 a0_8]] w fun e w' => ∃ v0_ : Value, e = .returned (.tuple #[v0_, .int .i64 r2]) ∧ Kd.R (Kd.int .u8) 5 w' w.heap.size (fun _ => True) v0_ r1 ∧ Below w.heap.size w w' := by
  unfold node_Bytes.f at h
  simp only [Option.some.injEq, Prod.mk.injEq] at h
  obtain ⟨rfl, rfl⟩ := h
  have HB := Aside0.mk (Below.refl w.heap.size w)
  obtain ⟨kl, hlay⟩ := node_layout_f
  generalize hl0 : nodeLay = lay0 at *
  have HL0 := Aside0.mk hl0
  have HLAY := Aside0.mk hlay
  clear hlay hl0
  have hck : node_Check.f a0_0 a0_1 a0_2 a0_3 a0_4 a0_5 a0_6 a0_7 a0_8 = some (Nod.chk a0_0 [a0_1, a0_2, a0_3, a0_4, a0_5, a0_6, a0_7, a0_8]) := rfl
  by_cases hok : Nod.okNode a0_0 [a0_1, a0_2, a0_3, a0_4, a0_5, a0_6, a0_7, a0_8] = true
  case neg =>
    have hok' : Nod.okNode a0_0 [a0_1, a0_2, a0_3, a0_4, a0_5, a0_6, a0_7, a0_8] = false := by simpa using hok
    rw [if_neg hok]
    have HCK := Aside0.mk (Nod.chk1 hok')
    rw [HCK.out] at hck ⊢
    have HC := Aside0.mk hck
    clear hok hok' hck
    go_enter Try.func23, Try.ntmps23
    go_wp2_with fail
    refine (node_Check.calls _ _ _ _ _ _ _ _ _ 1 _ HC.out).mono ?_
    rintro e w1 ⟨rfl, hb1⟩
    have HB1 := Aside0.mk (below_step (below_alloc HB.out _) hb1)
    clear hb1
    go_wp2
    go_ret2
    exact ⟨_, rfl, Kd.R_nil _ _ _ _ _, HB1.out⟩
  rw [if_pos hok]
  have HCK := Aside0.mk (Nod.chk0 hok)
  rw [HCK.out] at hck ⊢
  have HC := Aside0.mk hck
  obtain ⟨rr, hrr⟩ : ∃ rr, rr = Blk.blk [78, 79, 68, 69] [4, 4, 4, 4, 4, 4, 4, 4, 4] (a0_0 :: [a0_1, a0_2, a0_3, a0_4, a0_5, a0_6, a0_7, a0_8]) := ⟨_, rfl⟩
  have HRR := Aside0.mk hrr
  have HMK := Aside0.mk (show super_Make.f (⟨#[78, 79, 68, 69]⟩ : ByteArray) lay0 (a0_0 :: [a0_1, a0_2, a0_3, a0_4, a0_5, a0_6, a0_7, a0_8]) = some rr from by rw [← HL0.out, hrr]; rfl)
  clear hok hck hrr
  go_enter Try.func23, Try.ntmps23
  go_wp2_with fail
  refine (node_Check.calls _ _ _ _ _ _ _ _ _ 0 _ HC.out).mono ?_
  rintro e w1 ⟨rfl, hb1⟩
  have HB1 := Aside0.mk (below_step (below_alloc HB.out _) hb1)
  have BK0 := Aside0.mk (show w1.heap[w.heap.size]? = some (.cells #[.int .i64 a0_0, .int .i64 a0_1, .int .i64 a0_2, .int .i64 a0_3, .int .i64 a0_4, .int .i64 a0_5, .int .i64 a0_6, .int .i64 a0_7, .int .i64 a0_8] 43 (0, 0)) from blk_below (MapKept.heap_alloc w _).1 hb1)
  clear HB hb1
  go_wp2_with fail
  have BK := Aside0.mk (blk_drew BK0.out)
  have HB := Aside0.mk (below_drew HB1.out)
  clear BK0 HB1
  refine start_ (n := 10) (S := fun w' => True) (ds := []) #[false, false, false, false, false, false, false, false, false, false] (by kernel_rfl) rfl rfl trivial (fun hHeld => ?_); refine with_tabW node_Bytes.tab4 node_Bytes.bits4 (fun HT_ HW_ => ?_)
  refine inv_at [0, 1, 2, 3, 4, 5, 6, 7, 8, 9] (fun a0_ b a w' => ∃ (v0 : Value) (v3 : Value) (v6 : Value) (v7 : Value) (m8 : Value), a = putSel a0_ b [(0, 10, v0), (1, 11, .pointer (some ⟨w.heap.size, 0, none⟩)), (2, 12, .int .i64 a0_0), (3, 13, v3), (4, 14, .pointer (some ⟨w.heap.size, 1, none⟩)), (5, 15, .slice (some ⟨w.heap.size, 1, none⟩) 8 8), (6, 16, v6), (7, 17, v7), (8, 2, m8), (9, 3, .int .i64 0)] ∧ (w'.heap[w.heap.size]? = some (.cells #[.int .i64 a0_0, .int .i64 a0_1, .int .i64 a0_2, .int .i64 a0_3, .int .i64 a0_4, .int .i64 a0_5, .int .i64 a0_6, .int .i64 a0_7, .int .i64 a0_8] 43 (0, 0))) ∧ (Below w.heap.size w w') ∧ (b 0 = true → Kd.R k95 95 w' w.heap.size (fun _ => True) v0 lay0) ∧ (b 3 = true → b 6 = false → Kd.R (Kd.int .i64) 3 w' w.heap.size (fun _ => True) v3 [a0_0]) ∧ (b 6 = true → Kd.R (Kd.int .i64) 3 w' w.heap.size (fun _ => True) v6 (a0_0 :: [a0_1, a0_2, a0_3, a0_4, a0_5, a0_6, a0_7, a0_8])) ∧ (b 7 = true → Kd.R (Kd.int .u8) 5 w' w.heap.size (fun _ => True) v7 rr) ∧ (b 8 = true → m8 = v7)) HT_.out HW_.out (by kernel_rfl) (by kernel_rfl) ?_ ?_ ?_
  · exact ⟨Value.bool false, Value.bool false, Value.bool false, Value.bool false, Value.bool false, by simp only [putSel, Bool.false_eq_true, if_false], BK.out, HB.out, fun h_ => absurd h_ (by decide), fun h_ => absurd h_ (by decide), fun h_ => absurd h_ (by decide), fun h_ => absurd h_ (by decide), fun h_ => absurd h_ (by decide)⟩
  · skip
    refine steps_cons ?_ ?_
    · rintro b a w' ⟨v0, v3, v6, v7, m8, ha, Q_BK, Q_HB, Q_H0, Q_H3, Q_H6, Q_H7, Q_X8⟩ hb_ hon hoff
      refine ⟨_, rfl, fun K hK => ?_⟩
      replace ha := Aside0.mk ha
      have BK := Aside0.mk Q_BK
      have HB := Aside0.mk Q_HB
      refine goes_ Try.func58 (by kernel_rfl) rfl #[] (by rfl) rfl rfl (by first | (simp only [List.map_toArray, List.map_cons, List.map_nil, Act.eval, Array.getD_eq_getD_getElem?, Option.getD_some]; done) | (simp only [List.map_toArray, List.map_cons, List.map_nil, Act.eval, Array.getD_eq_getD_getElem?, Option.getD_some]; rfl)) ?_
      refine (node_layout.calls kl lay0 _ HLAY.out).mono ?_
      rintro e w1 ⟨v0n, rfl, ho0, hb⟩
      refine ⟨_, rfl, ?_⟩
      have N0 := Aside0.mk (Kd.R_lower ho0 (below_size HB.out))
      refine hK.out _ _ ⟨v0n, v3, v6, v7, m8, (by rw [ha.out]; exact putSel_upk 0 hb_ rfl rfl rfl), (blk_below Q_BK hb), (below_step Q_HB hb), fun _ => N0.out, fun h0_ h1_ => (Kd.R_below (Q_H3 h0_ h1_) hb), fun h0_ => absurd ((hoff 6 (by kernel_rfl)).symm.trans h0_) (by decide), fun h0_ => absurd ((hoff 7 (by kernel_rfl)).symm.trans h0_) (by decide), fun h0_ => absurd ((hoff 8 (by kernel_rfl)).symm.trans h0_) (by decide)⟩
    refine steps_cons ?_ ?_
    · rintro b a w' ⟨v0, v3, v6, v7, m8, ha, Q_BK, Q_HB, Q_H0, Q_H3, Q_H6, Q_H7, Q_X8⟩ hb_ hon hoff
      refine ⟨_, rfl, fun K hK => ?_⟩
      have e1 : a.tmps[1]? = some (.pointer (some ⟨w.heap.size, 0, none⟩)) := by rw [ha]; exact (putSel_off rfl).trans rfl
      replace ha := Aside0.mk ha
      have BK := Aside0.mk Q_BK
      have HB := Aside0.mk Q_HB
      refine value_ (w1 := w') (v := .pointer (some ⟨w.heap.size, 0, none⟩)) (by rfl) rfl ?_ ?_
      · go_simp
        (try simp only [i64_w])
        try rfl
      refine hK.out _ _ ⟨v0, v3, v6, v7, m8, (by rw [ha.out]; exact putSel_upk 1 hb_ rfl rfl rfl), Q_BK, Q_HB, Q_H0, fun h0_ => absurd ((hoff 3 (by kernel_rfl)).symm.trans h0_) (by decide), fun h0_ => absurd ((hoff 6 (by kernel_rfl)).symm.trans h0_) (by decide), fun h0_ => absurd ((hoff 7 (by kernel_rfl)).symm.trans h0_) (by decide), fun h0_ => absurd ((hoff 8 (by kernel_rfl)).symm.trans h0_) (by decide)⟩
    refine steps_cons ?_ ?_
    · rintro b a w' ⟨v0, v3, v6, v7, m8, ha, Q_BK, Q_HB, Q_H0, Q_H3, Q_H6, Q_H7, Q_X8⟩ hb_ hon hoff
      refine ⟨_, rfl, fun K hK => ?_⟩
      have e11 : a.tmps[11]? = some (.pointer (some ⟨w.heap.size, 0, none⟩)) := by rw [ha]; exact putSel_on (e := (1, 11, .pointer (some ⟨w.heap.size, 0, none⟩))) 1 rfl rfl (hon 1 (by kernel_rfl)) rfl
      replace ha := Aside0.mk ha
      have BK := Aside0.mk Q_BK
      have HB := Aside0.mk Q_HB
      have hc0_ : w'.cell? ⟨w.heap.size, 0, none⟩ = some (.int .i64 a0_0) := (blk_cell BK.out 0).trans rfl
      have hc1_ : w'.cell? ⟨w.heap.size, 1, none⟩ = some (.int .i64 a0_1) := (blk_cell BK.out 1).trans rfl
      have hc2_ : w'.cell? ⟨w.heap.size, 2, none⟩ = some (.int .i64 a0_2) := (blk_cell BK.out 2).trans rfl
      have hc3_ : w'.cell? ⟨w.heap.size, 3, none⟩ = some (.int .i64 a0_3) := (blk_cell BK.out 3).trans rfl
      have hc4_ : w'.cell? ⟨w.heap.size, 4, none⟩ = some (.int .i64 a0_4) := (blk_cell BK.out 4).trans rfl
      have hc5_ : w'.cell? ⟨w.heap.size, 5, none⟩ = some (.int .i64 a0_5) := (blk_cell BK.out 5).trans rfl
      have hc6_ : w'.cell? ⟨w.heap.size, 6, none⟩ = some (.int .i64 a0_6) := (blk_cell BK.out 6).trans rfl
      have hc7_ : w'.cell? ⟨w.heap.size, 7, none⟩ = some (.int .i64 a0_7) := (blk_cell BK.out 7).trans rfl
      have hc8_ : w'.cell? ⟨w.heap.size, 8, none⟩ = some (.int .i64 a0_8) := (blk_cell BK.out 8).trans rfl
      refine value_ (w1 := w') (v := .int .i64 a0_0) (by rfl) rfl ?_ ?_
      · go_simp
        (try simp only [i64_w])
        try rfl
      refine hK.out _ _ ⟨v0, v3, v6, v7, m8, (by rw [ha.out]; exact putSel_upk 2 hb_ rfl rfl rfl), Q_BK, Q_HB, Q_H0, fun h0_ => absurd ((hoff 3 (by kernel_rfl)).symm.trans h0_) (by decide), fun h0_ => absurd ((hoff 6 (by kernel_rfl)).symm.trans h0_) (by decide), fun h0_ => absurd ((hoff 7 (by kernel_rfl)).symm.trans h0_) (by decide), fun h0_ => absurd ((hoff 8 (by kernel_rfl)).symm.trans h0_) (by decide)⟩
    refine steps_cons ?_ ?_
    · rintro b a w' ⟨v0, v3, v6, v7, m8, ha, Q_BK, Q_HB, Q_H0, Q_H3, Q_H6, Q_H7, Q_X8⟩ hb_ hon hoff
      refine ⟨_, rfl, fun K hK => ?_⟩
      have e12 : a.tmps[12]? = some (.int .i64 a0_0) := by rw [ha]; exact putSel_on (e := (2, 12, .int .i64 a0_0)) 2 rfl rfl (hon 2 (by kernel_rfl)) rfl
      replace ha := Aside0.mk ha
      have BK := Aside0.mk Q_BK
      have HB := Aside0.mk Q_HB
      refine Kd.R_lit_step (Kd.int .i64) _ 3 ?hg (N := 13) ?hd (xs := ([a0_0] : List Int)) (inner := [.int .i64 a0_0]) (ok := fun _ => True) (okp := fun _ => True) ?hr ?hp (fun _ hk => hk) trivial (Below.refl _ _) (Nat.le_refl _) (by simp) ?_; (case hd => rfl); (case hg => rfl); (case hr => first | (go_simp; done) | (go_simp; rfl)); (case hp => exact (Reps.one (show Kd.M (Kd.int .i64) _ _ _ a0_0 [.int .i64 a0_0] from rfl) (Reps.none _ _)))
      intro v3n w1 ho3 hb hg_ hnew_
      clear hg_ hnew_
      have N3 := Aside0.mk (Kd.R_lower ho3 (below_size HB.out))
      refine hK.out _ _ ⟨v0, v3n, v6, v7, m8, (by rw [ha.out]; exact putSel_upk 3 hb_ rfl rfl rfl), (blk_below Q_BK hb), (below_step Q_HB hb), fun h0_ => (Kd.R_below (Q_H0 h0_) hb), fun _ => fun _ => N3.out, fun h0_ => absurd ((hoff 6 (by kernel_rfl)).symm.trans h0_) (by decide), fun h0_ => absurd ((hoff 7 (by kernel_rfl)).symm.trans h0_) (by decide), fun h0_ => absurd ((hoff 8 (by kernel_rfl)).symm.trans h0_) (by decide)⟩
    refine steps_cons ?_ ?_
    · rintro b a w' ⟨v0, v3, v6, v7, m8, ha, Q_BK, Q_HB, Q_H0, Q_H3, Q_H6, Q_H7, Q_X8⟩ hb_ hon hoff
      refine ⟨_, rfl, fun K hK => ?_⟩
      have e1 : a.tmps[1]? = some (.pointer (some ⟨w.heap.size, 0, none⟩)) := by rw [ha]; exact (putSel_off rfl).trans rfl
      replace ha := Aside0.mk ha
      have BK := Aside0.mk Q_BK
      have HB := Aside0.mk Q_HB
      refine value_ (w1 := w') (v := .pointer (some ⟨w.heap.size, 1, none⟩)) (by rfl) rfl ?_ ?_
      · go_simp
        (try simp only [i64_w])
        try rfl
      refine hK.out _ _ ⟨v0, v3, v6, v7, m8, (by rw [ha.out]; exact putSel_upk 4 hb_ rfl rfl rfl), Q_BK, Q_HB, Q_H0, Q_H3, fun h0_ => absurd ((hoff 6 (by kernel_rfl)).symm.trans h0_) (by decide), fun h0_ => absurd ((hoff 7 (by kernel_rfl)).symm.trans h0_) (by decide), fun h0_ => absurd ((hoff 8 (by kernel_rfl)).symm.trans h0_) (by decide)⟩
    refine steps_cons ?_ ?_
    · rintro b a w' ⟨v0, v3, v6, v7, m8, ha, Q_BK, Q_HB, Q_H0, Q_H3, Q_H6, Q_H7, Q_X8⟩ hb_ hon hoff
      refine ⟨_, rfl, fun K hK => ?_⟩
      have e14 : a.tmps[14]? = some (.pointer (some ⟨w.heap.size, 1, none⟩)) := by rw [ha]; exact putSel_on (e := (4, 14, .pointer (some ⟨w.heap.size, 1, none⟩))) 4 rfl rfl (hon 4 (by kernel_rfl)) rfl
      replace ha := Aside0.mk ha
      have BK := Aside0.mk Q_BK
      have HB := Aside0.mk Q_HB
      have hal : Try.prog.arrayLen 41 = 8 := by kernel_rfl
      refine value_ (w1 := w') (v := .slice (some ⟨w.heap.size, 1, none⟩) 8 8) (by rfl) rfl ?_ ?_
      · go_simp
        (try simp only [i64_w])
        try rfl
      refine hK.out _ _ ⟨v0, v3, v6, v7, m8, (by rw [ha.out]; exact putSel_upk 5 hb_ rfl rfl rfl), Q_BK, Q_HB, Q_H0, Q_H3, fun h0_ => absurd ((hoff 6 (by kernel_rfl)).symm.trans h0_) (by decide), fun h0_ => absurd ((hoff 7 (by kernel_rfl)).symm.trans h0_) (by decide), fun h0_ => absurd ((hoff 8 (by kernel_rfl)).symm.trans h0_) (by decide)⟩
    refine steps_cons ?_ ?_
    · rintro b a w' ⟨v0, v3, v6, v7, m8, ha, Q_BK, Q_HB, Q_H0, Q_H3, Q_H6, Q_H7, Q_X8⟩ hb_ hon hoff
      refine ⟨_, rfl, fun K hK => ?_⟩
      have e13 : a.tmps[13]? = some (v3) := by rw [ha]; exact putSel_on (e := (3, 13, v3)) 3 rfl rfl (hon 3 (by kernel_rfl)) rfl
      have e15 : a.tmps[15]? = some (.slice (some ⟨w.heap.size, 1, none⟩) 8 8) := by rw [ha]; exact putSel_on (e := (5, 15, .slice (some ⟨w.heap.size, 1, none⟩) 8 8)) 5 rfl rfl (hon 5 (by kernel_rfl)) rfl
      replace ha := Aside0.mk ha
      have BK := Aside0.mk Q_BK
      have HB := Aside0.mk Q_HB
      have H0 := Aside0.mk (Q_H0 (hon 0 (by kernel_rfl)))
      have H3 := Aside0.mk (Q_H3 (hon 3 (by kernel_rfl)) hb_)
      have hC := nodeC BK.out
      refine Kd.R_append_rows_step (Kd.int .i64) (w0 := w) w.heap.size rfl (.tmp 13) (.tmp 15) 80 3 (.int .i64 0) 8 rfl Try.underlying80 info3 rfl (by decide) (by omega) v3 [a0_0] [a0_1, a0_2, a0_3, a0_4, a0_5, a0_6, a0_7, a0_8] (some ⟨w.heap.size, 1, none⟩) 8 8 (fun _ => True) (fun _ => False) (by simp [Act.eval, e13]) (by simp [Act.eval, e15]) H3.out hC (fun _ _ h => h) (fun _ h => h.elim) (fun _ _ => trivial) HB.out (below_size HB.out) (by simp) ?_
      intro v6n w1 ho6 hb6 hg hnew_
      clear hnew_
      have N6 := Aside0.mk (show Kd.R (Kd.int .i64) 3 w1 w.heap.size (fun _ => True) v6n (a0_0 :: [a0_1, a0_2, a0_3, a0_4, a0_5, a0_6, a0_7, a0_8]) from ho6)
      refine hK.out _ _ ⟨v0, v3, v6n, v7, m8, (by rw [ha.out]; exact putSel_upk 6 hb_ rfl rfl rfl), (blk_grown Q_BK hg (Kd.R_ne H3.out Q_BK (by decide))), hb6, fun h0_ => (Kd.R_over (Q_H0 h0_) H3.out (by decide) hg), fun _ h1_ => absurd ((up_self b 6).symm.trans h1_) (by decide), fun _ => N6.out, fun h0_ => absurd ((hoff 7 (by kernel_rfl)).symm.trans h0_) (by decide), fun h0_ => absurd ((hoff 8 (by kernel_rfl)).symm.trans h0_) (by decide)⟩
    refine steps_cons ?_ ?_
    · rintro b a w' ⟨v0, v3, v6, v7, m8, ha, Q_BK, Q_HB, Q_H0, Q_H3, Q_H6, Q_H7, Q_X8⟩ hb_ hon hoff
      refine ⟨_, rfl, fun K hK => ?_⟩
      have e10 : a.tmps[10]? = some (v0) := by rw [ha]; exact putSel_on (e := (0, 10, v0)) 0 rfl rfl (hon 0 (by kernel_rfl)) rfl
      have e16 : a.tmps[16]? = some (v6) := by rw [ha]; exact putSel_on (e := (6, 16, v6)) 6 rfl rfl (hon 6 (by kernel_rfl)) rfl
      replace ha := Aside0.mk ha
      have BK := Aside0.mk Q_BK
      have HB := Aside0.mk Q_HB
      have H0 := Aside0.mk (Q_H0 (hon 0 (by kernel_rfl)))
      have H6 := Aside0.mk (Q_H6 (hon 6 (by kernel_rfl)))
      obtain ⟨Ao0, co0, eo0⟩ := Kd.R_slice H0.out
      subst eo0
      obtain ⟨Ao6, co6, eo6⟩ := Kd.R_slice H6.out
      subst eo6
      refine goes_ Try.func43 (by kernel_rfl) rfl #[.string (⟨#[78, 79, 68, 69]⟩ : ByteArray), .slice Ao0 lay0.length co0, .slice Ao6 (a0_0 :: [a0_1, a0_2, a0_3, a0_4, a0_5, a0_6, a0_7, a0_8]).length co6] (by rfl) rfl rfl (by first | (simp only [List.map_toArray, List.map_cons, List.map_nil, Act.eval, Array.getD_eq_getD_getElem?, Option.getD_some, e10, e16]; done) | (simp only [List.map_toArray, List.map_cons, List.map_nil, Act.eval, Array.getD_eq_getD_getElem?, Option.getD_some, e10, e16]; rfl)) ?_
      refine (super_Make.calls (⟨#[78, 79, 68, 69]⟩ : ByteArray) _ _ lay0 _ _ (a0_0 :: [a0_1, a0_2, a0_3, a0_4, a0_5, a0_6, a0_7, a0_8]) rr _ (Kd.R_reads' H0.out).2.2 (Kd.R_reads' H0.out).2.1 (Kd.R_reads' H6.out).2.2 (Kd.R_reads' H6.out).2.1 HMK.out).mono ?_
      rintro e w1 ⟨v7n, rfl, ho7, hb⟩
      refine ⟨_, rfl, ?_⟩
      have N7 := Aside0.mk (Kd.R_lower ho7 (below_size HB.out))
      refine hK.out _ _ ⟨(.slice Ao0 lay0.length co0), v3, (.slice Ao6 (a0_0 :: [a0_1, a0_2, a0_3, a0_4, a0_5, a0_6, a0_7, a0_8]).length co6), v7n, m8, (by rw [ha.out]; exact putSel_upk 7 hb_ rfl rfl rfl), (blk_below Q_BK hb), (below_step Q_HB hb), fun h0_ => (Kd.R_below (Q_H0 h0_) hb), fun _ h1_ => absurd ((hon 6 (by kernel_rfl)).symm.trans h1_) (by decide), fun h0_ => (Kd.R_below (Q_H6 h0_) hb), fun _ => N7.out, fun h0_ => absurd ((hoff 8 (by kernel_rfl)).symm.trans h0_) (by decide)⟩
    refine steps_cons ?_ ?_
    · rintro b a w' ⟨v0, v3, v6, v7, m8, ha, Q_BK, Q_HB, Q_H0, Q_H3, Q_H6, Q_H7, Q_X8⟩ hb_ hon hoff
      refine ⟨_, rfl, fun K hK => ?_⟩
      have e17 : a.tmps[17]? = some (v7) := by rw [ha]; exact putSel_on (e := (7, 17, v7)) 7 rfl rfl (hon 7 (by kernel_rfl)) rfl
      replace ha := Aside0.mk ha
      have BK := Aside0.mk Q_BK
      have HB := Aside0.mk Q_HB
      have H0 := Aside0.mk (Q_H0 (hon 0 (by kernel_rfl)))
      have H6 := Aside0.mk (Q_H6 (hon 6 (by kernel_rfl)))
      have H7 := Aside0.mk (Q_H7 (hon 7 (by kernel_rfl)))
      refine value_ (w1 := w') (v := v7) (by rfl) rfl ?_ ?_
      · go_simp
        (try simp only [i64_w])
        try rfl
      refine hK.out _ _ ⟨v0, v3, v6, v7, v7, (by rw [ha.out]; exact putSel_upk 8 hb_ rfl rfl rfl), Q_BK, Q_HB, Q_H0, fun _ h1_ => absurd ((hon 6 (by kernel_rfl)).symm.trans h1_) (by decide), Q_H6, Q_H7, fun _ => rfl⟩
    refine steps_cons ?_ ?_
    · rintro b a w' ⟨v0, v3, v6, v7, m8, ha, Q_BK, Q_HB, Q_H0, Q_H3, Q_H6, Q_H7, Q_X8⟩ hb_ hon hoff
      refine ⟨_, rfl, fun K hK => ?_⟩
      replace ha := Aside0.mk ha
      have BK := Aside0.mk Q_BK
      have HB := Aside0.mk Q_HB
      have H0 := Aside0.mk (Q_H0 (hon 0 (by kernel_rfl)))
      have H6 := Aside0.mk (Q_H6 (hon 6 (by kernel_rfl)))
      have H7 := Aside0.mk (Q_H7 (hon 7 (by kernel_rfl)))
      have X8 := Aside0.mk (Q_X8 (hon 8 (by kernel_rfl)))
      refine value_ (w1 := w') (v := .int .i64 0) (by rfl) rfl ?_ ?_
      · go_simp
        (try simp only [i64_w])
        try rfl
      refine hK.out _ _ ⟨v0, v3, v6, v7, m8, (by rw [ha.out]; exact putSel_upk 9 hb_ rfl rfl rfl), Q_BK, Q_HB, Q_H0, fun _ h1_ => absurd ((hon 6 (by kernel_rfl)).symm.trans h1_) (by decide), Q_H6, Q_H7, Q_X8⟩
    exact steps_nil
  rintro b a wE hall ⟨v0, v3, v6, v7, m8, ha, Q_BK, Q_HB, Q_H0, Q_H3, Q_H6, Q_H7, Q_X8⟩
  have hb0_ := hall 0 (by kernel_rfl)
  have hb1_ := hall 1 (by kernel_rfl)
  have hb2_ := hall 2 (by kernel_rfl)
  have hb3_ := hall 3 (by kernel_rfl)
  have hb4_ := hall 4 (by kernel_rfl)
  have hb5_ := hall 5 (by kernel_rfl)
  have hb6_ := hall 6 (by kernel_rfl)
  have hb7_ := hall 7 (by kernel_rfl)
  have hb8_ := hall 8 (by kernel_rfl)
  have hb9_ := hall 9 (by kernel_rfl)
  subst ha
  have BK := Aside0.mk (Q_BK)
  clear Q_BK
  have HB := Aside0.mk (Q_HB)
  clear Q_HB
  have H0 := Aside0.mk (Q_H0 hb0_)
  clear Q_H0
  clear Q_H3
  have H6 := Aside0.mk (Q_H6 hb6_)
  clear Q_H6
  have H7 := Aside0.mk (Q_H7 hb7_)
  clear Q_H7
  have X8 := Aside0.mk (Q_X8 hb8_)
  clear Q_X8
  simp only [putSel, hb0_, hb1_, hb2_, hb3_, hb4_, hb5_, hb6_, hb7_, hb8_, hb9_, if_true, Act.put, List.setIfInBounds_toArray, List.set_cons_zero, List.set_cons_succ]
  clear hall hb0_ hb1_ hb2_ hb3_ hb4_ hb5_ hb6_ hb7_ hb8_ hb9_
  obtain rfl := X8.out
  try go_wp2
  go_ret2
  exact ⟨_, rfl, by rw [← HRR.out]; exact H7.out, HB.out⟩

/-! ### le_right: function 81 -/
def le_right.f (a0 : Int) : Option (Bool) := if a0 = 1 then (some true) else (if a0 = 2 then (some true) else (if a0 = 4 then (some true) else (some (a0 == 8))))
set_option maxHeartbeats 8000000 in
set_option maxRecDepth 100000 in
theorem le_right.calls (a0 : Int) (r : Bool) (w : World) (h : le_right.f a0 = some r) :
    Calls Try.prog 81 #[.int .i64 a0] w fun e w' => e = .returned (.bool r) ∧ Drawn0 w w' := by
  have H : (if a0 = 1 then (some true) else (if a0 = 2 then (some true) else (if a0 = 4 then (some true) else (some (a0 == 8))))) = some r := h
  clear h
  by_cases c2 : a0 = 1
  · rw [if_pos c2] at H
    have c2b0 : (a0 == 1) = true := beq_iff_eq.mpr c2
    have c2b1 : (a0 != 1) = false := bne_eq_false_iff_eq.mpr c2
    clear c2
    obtain rfl := Option.some.inj H
    go_enter Try.func81, Try.ntmps81
    go_wp2
    go_ret
    exact ⟨by first | rfl | (simp; done) | (simp [*]; done), by repeat (first | exact Drawn0.refl _ | apply Drawn0.step)⟩
  · rw [if_neg c2] at H
    have c2b0 : (a0 == 1) = false := beq_eq_false_iff_ne.mpr c2
    have c2b1 : (a0 != 1) = true := bne_iff_ne.mpr c2
    by_cases c3 : a0 = 2
    · rw [if_pos c3] at H
      have c3b0 : (a0 == 2) = true := beq_iff_eq.mpr c3
      have c3b1 : (a0 != 2) = false := bne_eq_false_iff_eq.mpr c3
      clear c3
      obtain rfl := Option.some.inj H
      go_enter Try.func81, Try.ntmps81
      go_wp2
      go_ret
      exact ⟨by first | rfl | (simp; done) | (simp [*]; done), by repeat (first | exact Drawn0.refl _ | apply Drawn0.step)⟩
    · rw [if_neg c3] at H
      have c3b0 : (a0 == 2) = false := beq_eq_false_iff_ne.mpr c3
      have c3b1 : (a0 != 2) = true := bne_iff_ne.mpr c3
      by_cases c4 : a0 = 4
      · rw [if_pos c4] at H
        have c4b0 : (a0 == 4) = true := beq_iff_eq.mpr c4
        have c4b1 : (a0 != 4) = false := bne_eq_false_iff_eq.mpr c4
        clear c4
        obtain rfl := Option.some.inj H
        go_enter Try.func81, Try.ntmps81
        go_wp2
        go_ret
        exact ⟨by first | rfl | (simp; done) | (simp [*]; done), by repeat (first | exact Drawn0.refl _ | apply Drawn0.step)⟩
      · rw [if_neg c4] at H
        have c4b0 : (a0 == 4) = false := beq_eq_false_iff_ne.mpr c4
        have c4b1 : (a0 != 4) = true := bne_iff_ne.mpr c4
        obtain rfl := Option.some.inj H
        go_enter Try.func81, Try.ntmps81
        go_wp2
        go_ret
        exact ⟨by first | rfl | (simp; done) | (simp [*]; done), by repeat (first | exact Drawn0.refl _ | apply Drawn0.step)⟩

/-! ### le_within: function 82 -/
def le_within.f (l0 : List Int) (a1 : Int) (a2 : Int) : Option (Bool) := if a1 ≥ 0 then (some (decide (a1 ≤ (wrap64 ((l0.length : Int) - a2))))) else (some false)
set_option maxHeartbeats 8000000 in
set_option maxRecDepth 100000 in
theorem le_within.calls (A0 : Option Addr) (c0 : Nat) (l0 : List Int) (a1 : Int) (a2 : Int) (r : Bool) (w : World) (hr0 : Kd.C (Kd.int .u8) w A0 l0.length l0) (hc0 : l0.length ≤ c0) (h : le_within.f l0 a1 a2 = some r) :
    Calls Try.prog 82 #[.slice A0 l0.length c0, .int .i64 a1, .int .i64 a2] w fun e w' => e = .returned (.bool r) ∧ Drawn0 w w' := by
  have HR0 := Aside0.mk hr0
  have HC0 := Aside0.mk hc0
  clear hr0 hc0
  have H : (if a1 ≥ 0 then (some (decide (a1 ≤ (wrap64 ((l0.length : Int) - a2))))) else (some false)) = some r := h
  clear h
  by_cases c4 : a1 ≥ 0
  · rw [if_pos c4] at H
    have c4b0 : decide (0 ≤ a1) = true := decide_eq_true c4
    clear c4
    obtain rfl := Option.some.inj H
    go_enter Try.func82, Try.ntmps82
    go_wp2
    go_ret
    exact ⟨by first | rfl | (simp; done) | (simp [*]; done), by repeat (first | exact Drawn0.refl _ | apply Drawn0.step)⟩
  · rw [if_neg c4] at H
    have c4b0 : decide (0 ≤ a1) = false := decide_eq_false c4
    clear c4
    obtain rfl := Option.some.inj H
    go_enter Try.func82, Try.ntmps82
    go_wp2
    go_ret
    exact ⟨by first | rfl | (simp; done) | (simp [*]; done), by repeat (first | exact Drawn0.refl _ | apply Drawn0.step)⟩

/-! ### le_Get: function 71 -/
def le_Get.l0 : Nat → List Int → Int → Int → Int → Int → Option (Int × Int)
  | 0, _, _, _, _, _ => none
  | k + 1, x0, x1, x8, x20, x21 => if x21 < x20 then (if 0 ≤ (wrap64 (x1 + x21)) then (if (wrap64 (x1 + x21)) < (x0.length : Int) then (if 0 ≤ (wrap64 (8 * x21)) then (le_Get.l0 k x0 x1 (Go.bits .or .u64 x8 (shl .u64 (IntKind.u64.wrap (rd x0 (wrap64 (x1 + x21)))) (wrap64 (8 * x21)))) x20 (wrap64 (x21 + 1))) else (none)) else (none)) else (none)) else (if x8 > 4611686018427387903 then (some (0, 1)) else (some (wrap64 (x8), 0)))
def le_Get.f (k : Nat) (l0 : List Int) (a1 : Int) (a2 : Int) : Option (Int × Int) := (le_right.f a2).bind fun t101 => (if t101 = true then ((le_within.f l0 a1 a2).bind fun t102 => (if t102 = true then (le_Get.l0 k l0 a1 0 a2 0) else (some (0, 3)))) else (some (0, 1)))
theorem le_Get.mono_l : ∀ k, (∀ y0 y1 y2 y3 y4, LeO (le_Get.l0 k y0 y1 y2 y3 y4) (le_Get.l0 (k + 1) y0 y1 y2 y3 y4))
  | 0 => fun _ _ _ _ _ r h => by simp [le_Get.l0] at h
  | k + 1 => by
    have ih0 := le_Get.mono_l k
    · intro y0 y1 y2 y3 y4
      unfold le_Get.l0
      repeat' first
      | (with_reducible exact ih0 _ _ _ _ _)
      | (with_reducible exact LeO.refl _)
      | (with_reducible exact LeO.none _)
      | (with_reducible refine LeO.ite ?_ ?_)
      | (with_reducible refine LeO.bind ?_ (fun _ => ?_))
      | exact ih0 _ _ _ _ _
      | exact LeO.none _
      | refine LeO.ite ?_ ?_
      | refine LeO.bind ?_ (fun _ => ?_)
theorem le_Get.mono : ∀ a0 a1 a2 k, LeO (le_Get.f k a0 a1 a2) (le_Get.f (k + 1) a0 a1 a2) := by
  intro a0 a1 a2 k
  have ih0 := le_Get.mono_l k
  unfold le_Get.f
  repeat' first
      | (with_reducible exact ih0 _ _ _ _ _)
      | (with_reducible exact LeO.refl _)
      | (with_reducible exact LeO.none _)
      | (with_reducible refine LeO.ite ?_ ?_)
      | (with_reducible refine LeO.bind ?_ (fun _ => ?_))
      | exact ih0 _ _ _ _ _
      | exact LeO.none _
      | refine LeO.ite ?_ ?_
      | refine LeO.bind ?_ (fun _ => ?_)
set_option maxHeartbeats 8000000 in
set_option maxRecDepth 100000 in
theorem le_Get.calls (k : Nat) (A0 : Option Addr) (c0 : Nat) (l0 : List Int) (a1 : Int) (a2 : Int) (r1 : Int) (r2 : Int) (w : World) (hr0 : Kd.C (Kd.int .u8) w A0 l0.length l0) (hc0 : l0.length ≤ c0) (h : le_Get.f k l0 a1 a2 = some (r1, r2)) :
    Calls Try.prog 71 #[.slice A0 l0.length c0, .int .i64 a1, .int .i64 a2] w fun e w' => e = .returned (.tuple #[.int .i64 r1, .int .i64 r2]) ∧ Drawn0 w w' := by
  have HR0 := Aside0.mk hr0
  have HC0 := Aside0.mk hc0
  clear hr0 hc0
  have H : ((le_right.f a2).bind fun t101 => (if t101 = true then ((le_within.f l0 a1 a2).bind fun t102 => (if t102 = true then (le_Get.l0 k l0 a1 0 a2 0) else (some (0, 3)))) else (some (0, 1)))) = some (r1, r2) := h
  clear h
  replace H := Option.bind_eq_some_iff.mp H
  obtain ⟨t101, A40, H⟩ := H
  replace H : (if t101 = true then ((le_within.f l0 a1 a2).bind fun t102 => (if t102 = true then (le_Get.l0 k l0 a1 0 a2 0) else (some (0, 3)))) else (some (0, 1))) = some (r1, r2) := H
  have A4 := Aside0.mk A40
  clear A40
  by_cases c5 : t101 = true
  · subst c5
    have H1 : ((le_within.f l0 a1 a2).bind fun t102 => (if t102 = true then (le_Get.l0 k l0 a1 0 a2 0) else (some (0, 3)))) = some (r1, r2) := by rw [if_pos rfl] at H; exact H
    clear H
    have H := H1
    clear H1
    replace H := Option.bind_eq_some_iff.mp H
    obtain ⟨t102, A60, H⟩ := H
    replace H : (if t102 = true then (le_Get.l0 k l0 a1 0 a2 0) else (some (0, 3))) = some (r1, r2) := H
    have A6 := Aside0.mk A60
    clear A60
    by_cases c7 : t102 = true
    · subst c7
      have H1 : (le_Get.l0 k l0 a1 0 a2 0) = some (r1, r2) := by rw [if_pos rfl] at H; exact H
      clear H
      have H := H1
      clear H1
      have H' := Aside0.mk H
      clear H
      go_enter Try.func71, Try.ntmps71
      go_wp2_with (first | ((with_reducible refine gate_callee (f := 81) rfl ?_); refine goesL_ (some 12) rfl rfl Try.func81 (by kernel_rfl) rfl #[.int .i64 a2] rfl (by (try simp only [List.map_toArray, List.map_cons, List.map_nil]); first | done | rfl | (simp only [List.length_drop, List.length_take]; rfl)) ?_; (with_reducible refine (le_right.calls a2 true _ A4.out).mono ?_); rintro e w' ⟨rfl, ⟨nd, rfl⟩⟩; refine ⟨_, rfl, ?_⟩) | ((with_reducible refine gate_callee (f := 82) rfl ?_); refine goesL_ (some 18) rfl rfl Try.func82 (by kernel_rfl) rfl #[.slice A0 l0.length c0, .int .i64 a1, .int .i64 a2] rfl (by (try simp only [List.map_toArray, List.map_cons, List.map_nil]); first | done | rfl | (simp only [List.length_drop, List.length_take]; rfl)) ?_; (with_reducible refine (le_within.calls _ _ l0 a1 a2 true _ ?side1 ?side2 A6.out).mono ?_); (case side1 => repeat (first | exact HR0.out | (with_reducible refine Kd.C_alloc ?_ _) | (with_reducible refine Kd.C_drewN ?_ _) | (with_reducible refine Kd.C_drew ?_))); (case side2 => exact HC0.out); rintro e w' ⟨rfl, ⟨nd, rfl⟩⟩; refine ⟨_, rfl, ?_⟩))
      go_loopg [8, 21] k (fun kq v8 v21 w' => ∃ (x8_1 : Int) (x21_1 : Int), v8 = .int .u64 x8_1 ∧ v21 = .int .i64 x21_1 ∧ Aside0 (le_Get.l0 kq l0 a1 x8_1 a2 x21_1 = some (r1, r2)) ∧ Aside0 (kq ≤ k) ∧ Drawn0 w w')
      case atStart => exact ⟨(0), (0), (by first | rfl | (simp; done) | (simp [*]; done)), (by first | rfl | (simp; done) | (simp [*]; done)), H', ⟨Nat.le_refl _⟩, by repeat (first | exact Drawn0.refl _ | apply Drawn0.step)⟩
      case round =>
        clear H'
        try clear p2
        try clear c5
        try clear c7
        obtain ⟨x8_1, x21_1, rfl, rfl, HA, HK1, ⟨m1, rfl⟩⟩ := hrel
        cases gk with
        | zero => exact absurd HA.out (by simp [le_Get.l0])
        | succ k1 =>
          have H := HA.out
          clear HA
          simp only [le_Get.l0] at H
          by_cases c8 : x21_1 < a2
          · rw [if_pos c8] at H
            have c8b0 : decide (x21_1 < a2) = true := decide_eq_true c8
            clear c8
            obtain ⟨ji9, hji9⟩ : ∃ j_ : Int, (wrap64 (a1 + x21_1)) = j_ := ⟨_, rfl⟩
            replace H : (if 0 ≤ (ji9) then (if (ji9) < (l0.length : Int) then (if 0 ≤ (wrap64 (8 * x21_1)) then (le_Get.l0 k1 l0 a1 (Go.bits .or .u64 x8_1 (shl .u64 (IntKind.u64.wrap (rd l0 (ji9))) (wrap64 (8 * x21_1)))) a2 (wrap64 (x21_1 + 1))) else (none)) else (none)) else (none)) = some (r1, r2) := by first | (rw [hji9] at H; exact H) | (simp only [hji9] at H ⊢; exact H)
            have hji9w : (IntKind.i64.wrap (a1 + x21_1)) = ji9 := (i64_w _).trans hji9
            by_cases c10 : 0 ≤ (ji9)
            · rw [if_pos c10] at H
              have c10b0 : decide (0 ≤ (ji9)) = true := decide_eq_true c10
              clear c10
              by_cases c11 : (ji9) < (l0.length : Int)
              · rw [if_pos c11] at H
                have c11b0 : decide ((ji9) < (l0.length : Int)) = true := decide_eq_true c11
                clear c11
                obtain ⟨ji12, hji12⟩ : ∃ j_ : Int, (wrap64 (8 * x21_1)) = j_ := ⟨_, rfl⟩
                replace H : (if 0 ≤ (ji12) then (le_Get.l0 k1 l0 a1 (Go.bits .or .u64 x8_1 (shl .u64 (IntKind.u64.wrap (rd l0 (ji9))) (ji12))) a2 (wrap64 (x21_1 + 1))) else (none)) = some (r1, r2) := by first | (rw [hji12] at H; exact H) | (simp only [hji12] at H ⊢; exact H)
                have hji12w : (IntKind.i64.wrap (8 * x21_1)) = ji12 := (i64_w _).trans hji12
                by_cases c13 : 0 ≤ (ji12)
                · rw [if_pos c13] at H
                  have c13b0 := eq_true c13
                  have c13b1 : decide (0 ≤ (ji12)) = true := decide_eq_true c13
                  clear c13
                  obtain ⟨ji14, hji14⟩ : ∃ j_ : Int, (shl .u64 (IntKind.u64.wrap (rd l0 (ji9))) (ji12)) = j_ := ⟨_, rfl⟩
                  replace H : (le_Get.l0 k1 l0 a1 (Go.bits .or .u64 x8_1 (ji14)) a2 (wrap64 (x21_1 + 1))) = some (r1, r2) := by first | (rw [hji14] at H; exact H) | (simp only [hji14] at H ⊢; exact H)
                  have hji14_ : (IntKind.u64.wrap ((IntKind.u64.wrap (rd l0 (ji9))) * 2 ^ min (ji12).toNat 64)) = ji14 := hji14
                  have hji14z : (ji12) ≤ 64 → (IntKind.u64.wrap ((IntKind.u64.wrap (rd l0 (ji9))) * 2 ^ (ji12).toNat)) = ji14 := shl_small hji14
                  have H' := Aside0.mk H
                  clear H
                  have p103 : 0 ≤ ((ji9) : Int) := of_decide_eq_true (by first | (with_reducible assumption) | assumption)
                  have q103 : (ji9) < (l0.length : Int) := of_decide_eq_true (by first | (with_reducible assumption) | assumption)
                  obtain ⟨ad103, e103, hx103_0⟩ := Kd.at_int HR0.out (ji9) p103 q103
                  cases e103
                  replace p103 := eq_true p103
                  replace q103 := eq_true q103
                  go_wp2
                  go_roundg k1
                  case measure => have := HK1.out; omega
                  case rel => exact ⟨(Go.bits .or .u64 x8_1 (ji14)), (wrap64 (x21_1 + 1)), (by first | rfl | (simp; done) | (simp only [← hji14] <;> (first | rfl | simp)) | (simp [*]; done)), (by first | rfl | (simp; done) | (simp [*]; done)), H', ⟨by have := HK1.out; omega⟩, by repeat (first | exact Drawn0.refl _ | apply Drawn0.step)⟩
                · rw [if_neg c13] at H
                  exact absurd H (by simp)
              · rw [if_neg c11] at H
                exact absurd H (by simp)
            · rw [if_neg c10] at H
              exact absurd H (by simp)
          · rw [if_neg c8] at H
            have c8b0 : decide (x21_1 < a2) = false := decide_eq_false c8
            clear c8
            by_cases c15 : x8_1 > 4611686018427387903
            · rw [if_pos c15] at H
              have c15b0 : decide (4611686018427387903 < x8_1) = true := decide_eq_true c15
              clear c15
              simp only [Option.some.injEq, Prod.mk.injEq] at H
              obtain ⟨rfl, rfl⟩ := H
              go_wp2
              go_ret2
              exact ⟨by first | rfl | (simp; done) | (simp [*]; done), by repeat (first | exact Drawn0.refl _ | apply Drawn0.step)⟩
            · rw [if_neg c15] at H
              have c15b0 : decide (4611686018427387903 < x8_1) = false := decide_eq_false c15
              clear c15
              simp only [Option.some.injEq, Prod.mk.injEq] at H
              obtain ⟨rfl, rfl⟩ := H
              go_wp2
              go_ret2
              exact ⟨by first | rfl | (simp; done) | (simp [*]; done), by repeat (first | exact Drawn0.refl _ | apply Drawn0.step)⟩
    · replace c7 := Bool.eq_false_iff.mpr c7
      subst c7
      have H1 : (some (0, 3)) = some (r1, r2) := by rw [if_neg (show ¬ (false = true) by decide)] at H; exact H
      clear H
      have H := H1
      clear H1
      simp only [Option.some.injEq, Prod.mk.injEq] at H
      obtain ⟨rfl, rfl⟩ := H
      go_enter Try.func71, Try.ntmps71
      go_wp2_with (first | ((with_reducible refine gate_callee (f := 81) rfl ?_); refine goesL_ (some 12) rfl rfl Try.func81 (by kernel_rfl) rfl #[.int .i64 a2] rfl (by (try simp only [List.map_toArray, List.map_cons, List.map_nil]); first | done | rfl | (simp only [List.length_drop, List.length_take]; rfl)) ?_; (with_reducible refine (le_right.calls a2 true _ A4.out).mono ?_); rintro e w' ⟨rfl, ⟨nd, rfl⟩⟩; refine ⟨_, rfl, ?_⟩) | ((with_reducible refine gate_callee (f := 82) rfl ?_); refine goesL_ (some 18) rfl rfl Try.func82 (by kernel_rfl) rfl #[.slice A0 l0.length c0, .int .i64 a1, .int .i64 a2] rfl (by (try simp only [List.map_toArray, List.map_cons, List.map_nil]); first | done | rfl | (simp only [List.length_drop, List.length_take]; rfl)) ?_; (with_reducible refine (le_within.calls _ _ l0 a1 a2 false _ ?side1 ?side2 A6.out).mono ?_); (case side1 => repeat (first | exact HR0.out | (with_reducible refine Kd.C_alloc ?_ _) | (with_reducible refine Kd.C_drewN ?_ _) | (with_reducible refine Kd.C_drew ?_))); (case side2 => exact HC0.out); rintro e w' ⟨rfl, ⟨nd, rfl⟩⟩; refine ⟨_, rfl, ?_⟩))
      go_ret2
      exact ⟨by first | rfl | (simp; done) | (simp [*]; done), by repeat (first | exact Drawn0.refl _ | apply Drawn0.step)⟩
  · replace c5 := Bool.eq_false_iff.mpr c5
    subst c5
    have H1 : (some (0, 1)) = some (r1, r2) := by rw [if_neg (show ¬ (false = true) by decide)] at H; exact H
    clear H
    have H := H1
    clear H1
    simp only [Option.some.injEq, Prod.mk.injEq] at H
    obtain ⟨rfl, rfl⟩ := H
    go_enter Try.func71, Try.ntmps71
    go_wp2_with (first | ((with_reducible refine gate_callee (f := 81) rfl ?_); refine goesL_ (some 12) rfl rfl Try.func81 (by kernel_rfl) rfl #[.int .i64 a2] rfl (by (try simp only [List.map_toArray, List.map_cons, List.map_nil]); first | done | rfl | (simp only [List.length_drop, List.length_take]; rfl)) ?_; (with_reducible refine (le_right.calls a2 false _ A4.out).mono ?_); rintro e w' ⟨rfl, ⟨nd, rfl⟩⟩; refine ⟨_, rfl, ?_⟩))
    go_ret2
    exact ⟨by first | rfl | (simp; done) | (simp [*]; done), by repeat (first | exact Drawn0.refl _ | apply Drawn0.step)⟩

/-! ### le_Get: function 71, what it comes to -/
theorem le_right_ok (n : Nat) (h : n = 1 ∨ n = 2 ∨ n = 4 ∨ n = 8) : le_right.f (n : Int) = some true := by
  rcases h with rfl | rfl | rfl | rfl <;> rfl
theorem rd_nat (l : List Int) (k : Nat) (h : k < l.length) : rd l (k : Int) = l[k] := by unfold rd; rw [Int.toNat_natCast, List.getD_eq_getElem?_getD, List.getElem?_eq_getElem h]; rfl
theorem le_Get_loop (l : List Int) (p size : Nat) (hb : ∀ x ∈ l, 0 ≤ x ∧ x < 256) (hs : size ≤ 8) (hl : p + size ≤ l.length) (hm : l.length ≤ 140737488355328) : ∀ (d : Nat) (k : Nat) (i : Nat), i + d = size → d < k →
    le_Get.l0 k l (p : Int) (Blk.leN ((l.drop p).take i)) (size : Int) (i : Int) = some (if Blk.leN ((l.drop p).take size) > 4611686018427387903 then ((0 : Int), (1 : Int)) else (Blk.leN ((l.drop p).take size), (0 : Int))) := by
  have hbd : ∀ j, ∀ x ∈ (l.drop p).take j, 0 ≤ x ∧ x < 256 := fun j x hx => hb x (List.mem_of_mem_drop (List.mem_of_mem_take hx))
  have hlen : ∀ j, j ≤ size → ((l.drop p).take j).length = j := fun j hj => by simp; omega
  intro d
  induction d with
  | zero =>
    intro k i hi hk
    obtain ⟨k, rfl⟩ : ∃ m, k = m + 1 := ⟨k - 1, by omega⟩
    obtain rfl : i = size := by omega
    have h0 := (Blk.leN_nonneg (hbd i)).1
    simp only [le_Get.l0]; rw [if_neg (by omega)]
    by_cases c : Blk.leN ((l.drop p).take i) > 4611686018427387903
    · rw [if_pos c, if_pos c]
    · rw [if_neg c, if_neg c, w64' (by omega) (by omega)]
  | succ d ih =>
    intro k i hi hk
    obtain ⟨k, rfl⟩ : ∃ m, k = m + 1 := ⟨k - 1, by omega⟩
    have e1 : wrap64 ((p : Int) + i) = ((p + i : Nat) : Int) := (w64' (by omega) (by omega)).trans (by omega)
    have hx := hb l[p + i] (List.getElem_mem (by omega))
    have hN := Blk.leN_nonneg (hbd i)
    rw [hlen i (by omega)] at hN
    simp only [le_Get.l0]
    rw [if_pos (by omega), e1, if_pos (by omega), if_pos (by omega), if_pos (by rw [w64' (by omega) (by omega)]; omega)]
    rw [rd_nat l (p + i) (by omega)]
    have e2 : IntKind.u64.wrap l[p + i] = l[p + i] := by
      unfold IntKind.wrap; simp [IntKind.signed, IntKind.bits]; omega
    have e3 : shl .u64 l[p + i] (wrap64 (8 * (i : Int))) = l[p + i] * 256 ^ i := by
      rw [w64' (by omega) (by omega)]
      unfold shl
      have h8 : (8 * (i : Int)).toNat = 8 * i := by omega
      have h9 : min (8 * i) IntKind.u64.bits = 8 * i := Nat.min_eq_left (by show 8 * i ≤ 64; omega)
      rw [h8, h9, Int.pow_mul]
      have h10 : (2 : Int) ^ 8 = 256 := by decide
      rw [h10]
      have h11 : (256 : Int) ^ i ≤ 256 ^ 7 := by
        have : i = 0 ∨ i = 1 ∨ i = 2 ∨ i = 3 ∨ i = 4 ∨ i = 5 ∨ i = 6 ∨ i = 7 := by omega
        rcases this with rfl | rfl | rfl | rfl | rfl | rfl | rfl | rfl <;> decide
      have h12 : (256 : Int) ^ 7 = 72057594037927936 := by decide
      have hp : (0 : Int) < 256 ^ i := Int.pow_pos (by decide)
      have h13 : l[p + i] * 256 ^ i ≤ 255 * 256 ^ i := Int.mul_le_mul_of_nonneg_right (by omega) (by omega)
      have h14 : 0 ≤ l[p + i] * 256 ^ i := Int.mul_nonneg hx.1 (by omega)
      generalize l[p + i] * 256 ^ i = q at *
      unfold IntKind.wrap; simp [IntKind.signed, IntKind.bits]; omega
    rw [e2, e3, Blk.or_join _ _ i hN.1 hN.2 hx.1 hx.2 (by omega), w64' (x := (i : Int) + 1) (by omega) (by omega)]
    have e4 : Blk.leN ((l.drop p).take i) + l[p + i] * 256 ^ i = Blk.leN ((l.drop p).take (i + 1)) := by
      rw [List.take_succ_eq_append_getElem (by simp; omega), Blk.leN_snoc, hlen i (by omega), List.getElem_drop]
    rw [e4]
    exact ih k (i + 1) (by omega) (by omega)
/-- What le.Get tells. -/
theorem le_Get_ok (l : List Int) (p size : Nat) (hb : ∀ x ∈ l, 0 ≤ x ∧ x < 256) (hs : size = 1 ∨ size = 2 ∨ size = 4 ∨ size = 8) (hl : p + size ≤ l.length) (hm : l.length ≤ 140737488355328) :
    ∃ k, le_Get.f k l (p : Int) (size : Int) = some (if Blk.leN ((l.drop p).take size) > 4611686018427387903 then ((0 : Int), (1 : Int)) else (Blk.leN ((l.drop p).take size), (0 : Int))) := by
  refine ⟨size + 1, ?_⟩
  unfold le_Get.f
  rw [le_right_ok size hs]
  simp only [Option.bind_some, if_true]
  have hw : le_within.f l (p : Int) (size : Int) = some true := by
    unfold le_within.f
    rw [if_pos (by omega), w64' (by omega) (by omega)]
    congr 1; exact decide_eq_true (by omega)
  rw [hw]
  simp only [Option.bind_some, if_true]
  have := le_Get_loop l p size hb (by omega) hl hm size (size + 1) 0 (by omega) (by omega)
  simpa [Blk.leN] using this

/-! ### crc_Good: function 70 -/
def crc_Good.f (k : Nat) (l0 : List Int) : Option (Bool) := if (wrap64 ((l0.length : Int) - 4)) < 0 then (some false) else ((le_Get.f k l0 (wrap64 ((l0.length : Int) - 4)) 4).bind fun bt101 => (if 0 ≤ (wrap64 ((l0.length : Int) - 4)) then (if (wrap64 ((l0.length : Int) - 4)) ≤ (l0.length : Int) then ((crc_Sum.f (l0.take ((wrap64 ((l0.length : Int) - 4)) : Int).toNat)).bind fun t104 => (some (bt101.1 == t104))) else (none)) else (none)))
theorem crc_Good.mono : ∀ a0 k, LeO (crc_Good.f k a0) (crc_Good.f (k + 1) a0) := by
  intro a0 k
  unfold crc_Good.f
  repeat' first
      | (with_reducible exact le_Get.mono _ _ _ _)
      | (with_reducible exact LeO.refl _)
      | (with_reducible exact LeO.none _)
      | (with_reducible refine LeO.ite ?_ ?_)
      | (with_reducible refine LeO.bind ?_ (fun _ => ?_))
      | exact le_Get.mono _ _ _ _
      | exact LeO.none _
      | refine LeO.ite ?_ ?_
      | refine LeO.bind ?_ (fun _ => ?_)
set_option maxHeartbeats 8000000 in
set_option maxRecDepth 100000 in
theorem crc_Good.calls (k : Nat) (A0 : Option Addr) (c0 : Nat) (l0 : List Int) (r : Bool) (w : World) (hr0 : Kd.C (Kd.int .u8) w A0 l0.length l0) (hc0 : l0.length ≤ c0) (h : crc_Good.f k l0 = some r) :
    Calls Try.prog 70 #[.slice A0 l0.length c0] w fun e w' => e = .returned (.bool r) ∧ Drawn0 w w' := by
  have HR0 := Aside0.mk hr0
  have HC0 := Aside0.mk hc0
  clear hr0 hc0
  have H : (if (wrap64 ((l0.length : Int) - 4)) < 0 then (some false) else ((le_Get.f k l0 (wrap64 ((l0.length : Int) - 4)) 4).bind fun bt101 => (if 0 ≤ (wrap64 ((l0.length : Int) - 4)) then (if (wrap64 ((l0.length : Int) - 4)) ≤ (l0.length : Int) then ((crc_Sum.f (l0.take ((wrap64 ((l0.length : Int) - 4)) : Int).toNat)).bind fun t104 => (some (bt101.1 == t104))) else (none)) else (none)))) = some r := h
  clear h
  by_cases c2 : (wrap64 ((l0.length : Int) - 4)) < 0
  · rw [if_pos c2] at H
    have c2b0 : decide ((wrap64 ((l0.length : Int) - 4)) < 0) = true := decide_eq_true c2
    clear c2
    obtain rfl := Option.some.inj H
    go_enter Try.func70, Try.ntmps70
    go_wp2
    go_ret
    exact ⟨by first | rfl | (simp; done) | (simp [*]; done), by repeat (first | exact Drawn0.refl _ | apply Drawn0.step)⟩
  · rw [if_neg c2] at H
    have c2b0 : decide ((wrap64 ((l0.length : Int) - 4)) < 0) = false := decide_eq_false c2
    clear c2
    replace H := Option.bind_eq_some_iff.mp H
    obtain ⟨⟨t101, t102⟩, A30, H⟩ := H
    replace H : (if 0 ≤ (wrap64 ((l0.length : Int) - 4)) then (if (wrap64 ((l0.length : Int) - 4)) ≤ (l0.length : Int) then ((crc_Sum.f (l0.take ((wrap64 ((l0.length : Int) - 4)) : Int).toNat)).bind fun t104 => (some (t101 == t104))) else (none)) else (none)) = some r := H
    have A3 := Aside0.mk A30
    clear A30
    obtain ⟨ji4, hji4⟩ : ∃ j_ : Int, (wrap64 ((l0.length : Int) - 4)) = j_ := ⟨_, rfl⟩
    replace H : (if 0 ≤ (ji4) then (if (ji4) ≤ (l0.length : Int) then ((crc_Sum.f (l0.take ((ji4) : Int).toNat)).bind fun t104 => (some (t101 == t104))) else (none)) else (none)) = some r := by first | (rw [hji4] at H; exact H) | (simp only [hji4] at H ⊢; exact H)
    (try rw [hji4] at c2b0)
    (try rw [hji4] at A3)
    have hji4w : (IntKind.i64.wrap ((l0.length : Int) - 4)) = ji4 := (i64_w _).trans hji4
    by_cases c5 : 0 ≤ (ji4)
    · rw [if_pos c5] at H
      have c5b0 := eq_true c5
      have c5b1 : decide (0 ≤ (ji4)) = true := decide_eq_true c5
      clear c5
      by_cases c6 : (ji4) ≤ (l0.length : Int)
      · rw [if_pos c6] at H
        have c6b0 := eq_true c6
        have c6b1 : decide ((ji4) ≤ (l0.length : Int)) = true := decide_eq_true c6
        clear c6
        replace H := Option.bind_eq_some_iff.mp H
        obtain ⟨t104, A70, H⟩ := H
        replace H : (some (t101 == t104)) = some r := H
        have A7 := Aside0.mk A70
        clear A70
        obtain rfl := Option.some.inj H
        go_enter Try.func70, Try.ntmps70
        go_wp2_with (first | ((with_reducible refine gate_callee (f := 71) rfl ?_); refine goesL_ (some 14) rfl rfl Try.func71 (by kernel_rfl) rfl #[.slice A0 l0.length c0, .int .i64 ji4, .int .i64 4] rfl (by (try simp only [List.map_toArray, List.map_cons, List.map_nil]); first | done | (simp only [hji4]; rfl) | rfl | (simp only [List.length_drop, List.length_take]; rfl)) ?_; (with_reducible refine (le_Get.calls k _ _ l0 ji4 4 t101 t102 _ ?side1 ?side2 A3.out).mono ?_); (case side1 => repeat (first | exact HR0.out | (with_reducible refine Kd.C_alloc ?_ _) | (with_reducible refine Kd.C_drewN ?_ _) | (with_reducible refine Kd.C_drew ?_))); (case side2 => exact HC0.out); rintro e w' ⟨rfl, ⟨nd, rfl⟩⟩; refine ⟨_, rfl, ?_⟩; obtain ⟨i08, hi08, _, hsz8, _⟩ := info_parts info5; obtain ⟨hcut8, hA8, hC8⟩ := print_take_of (P := Try.prog) (Value.int .u8) 0 24 5 .i64 Try.underlying24 hi08 hsz8 A0 c0 l0 (ji4) (of_decide_eq_true (by first | (with_reducible assumption) | assumption)) (of_decide_eq_true (by first | (with_reducible assumption) | assumption)) HC0.out; have HR103 := Aside0.mk (Kd.C_of_reads (h1 := fun _ => rfl) (hA8 _ (Kd.reads_of_C HR0.out))); have HC103 := Aside0.mk hC8; clear hA8 hC8 hi08 hsz8) | ((with_reducible refine gate_callee (f := 80) rfl ?_); refine goesL_ (some 21) rfl rfl Try.func80 (by kernel_rfl) rfl #[.slice A0 (l0.take ((ji4) : Int).toNat).length c0] rfl (by (try simp only [List.map_toArray, List.map_cons, List.map_nil]); first | done | (rw [show (l0.take ((ji4) : Int).toNat).length = (ji4).toNat from (by rw [List.length_take]; have h_ : ((ji4) : Int) ≤ (l0.length : Int) := of_decide_eq_true (by first | (with_reducible assumption) | assumption); omega)] <;> rfl) | (simp only [hji4]; rfl) | rfl | (simp only [List.length_drop, List.length_take]; rfl)) ?_; (with_reducible refine (crc_Sum.calls _ _ (l0.take ((ji4) : Int).toNat) t104 _ ?side1 ?side2 A7.out).mono ?_); (case side1 => repeat (first | exact HR103.out | (with_reducible refine Kd.C_alloc ?_ _) | (with_reducible refine Kd.C_drewN ?_ _) | (with_reducible refine Kd.C_drew ?_))); (case side2 => exact HC103.out); rintro e w' ⟨rfl, ⟨nd, rfl⟩⟩; refine ⟨_, rfl, ?_⟩))
        go_ret
        exact ⟨by first | rfl | (simp; done) | (simp only [← hji4] <;> (first | rfl | simp)) | (simp [*]; done), by repeat (first | exact Drawn0.refl _ | apply Drawn0.step)⟩
      · rw [if_neg c6] at H
        exact absurd H (by simp)
    · rw [if_neg c5] at H
      exact absurd H (by simp)

/-! ### crc_Good: function 70, what it comes to -/
/-- What crc.Good tells of a block. -/
theorem crc_Good_ok (l : List Int) (h : l.length = 64) (hb : ∀ x ∈ l, 0 ≤ x ∧ x < 256) : ∃ k, crc_Good.f k l = some (Blk.goodB l) := by
  obtain ⟨k, hk⟩ := le_Get_ok l 60 4 hb (by omega) (by omega) (by omega)
  refine ⟨k, ?_⟩
  have hd : (l.drop 60).length = 4 := by rw [List.length_drop, h]
  rw [List.take_of_length_le (by omega : (l.drop 60).length ≤ 4)] at hk
  have hN := Blk.leN_nonneg (l := l.drop 60) (fun x hx => hb x (List.mem_of_mem_drop hx))
  rw [hd] at hN
  have h4 : (256 : Int) ^ 4 = 4294967296 := by decide
  rw [h4] at hN
  rw [if_neg (by omega)] at hk
  have e : (wrap64 (((64 : Nat) : Int) - 4)) = ((60 : Nat) : Int) := w64' (by decide) (by decide)
  unfold crc_Good.f crc_Sum.f crc_More.f
  have e4 : ((4 : Nat) : Int) = 4 := rfl
  rw [e4] at hk
  rw [h, e, if_neg (by decide), hk]
  simp only [Option.bind_some]
  rw [if_pos (by decide), if_pos (by decide)]
  rfl

end Go.Proofs.Ytaaemamcdhebhaa.PNE
