/- Contracts of the program's functions, as a program of this session prints them: each call comes to what the Lean function of the same name computes.
Conditions: what each theorem's hypotheses say of its arguments. -/
import Derived.Test.YtaaemamcdhebhaaPREx0
namespace Go.Proofs.Ytaaemamcdhebhaa.PRE
open Go.RowKit Go.Proofs.YtaaemamcdhebhaaW.PrintWords Go.Proofs.YtaaemamcdhebhaaW.PrintLast Go.Proofs.YtaaemamcdhebhaaW.PrintMore
attribute [local go_sem] max2_int min2_int max_two min_two max_three min_three max_four min_four   -- for this text's walks alone
set_option linter.unusedVariables false
set_option linter.unusedSimpArgs false

/-! ### le_Set: function 67 -/
def le_Set.l0 : Nat → List Int → Int → Int → Int → Int → Option (List Int)
  | 0, _, _, _, _, _ => none
  | k + 1, x0, x1, x3, x9, x10 => if x10 < x9 then (if 0 ≤ (wrap64 (8 * x10)) then (if 0 ≤ (wrap64 (x1 + x10)) then (if (wrap64 (x1 + x10)) < (x0.length : Int) then (le_Set.l0 k (x0.set ((wrap64 (x1 + x10)) : Int).toNat ((shr .i64 x3 (wrap64 (8 * x10))) % 256)) x1 x3 x9 (wrap64 (x10 + 1))) else (none)) else (none)) else (none)) else (some x0)
def le_Set.f (k : Nat) (l0 : List Int) (a1 : Int) (a2 : Int) (a3 : Int) : Option (List Int) := le_Set.l0 k l0 a1 a3 a2 0
theorem le_Set.mono_l : ∀ k, (∀ y0 y1 y2 y3 y4, LeO (le_Set.l0 k y0 y1 y2 y3 y4) (le_Set.l0 (k + 1) y0 y1 y2 y3 y4))
  | 0 => fun _ _ _ _ _ r h => by simp [le_Set.l0] at h
  | k + 1 => by
    have ih0 := le_Set.mono_l k
    · intro y0 y1 y2 y3 y4
      unfold le_Set.l0
      repeat' first
      | (with_reducible exact ih0 _ _ _ _ _)
      | (with_reducible exact LeO.refl _)
      | (with_reducible exact LeO.none _)
      | (with_reducible refine LeO.ite ?_ ?_)
      | (with_reducible refine LeO.bind ?_ (fun _ => ?_))
      | exact ih0 _ _ _ _ _
      | exact LeO.none _
      | refine LeO.ite ?_ ?_
      | refine LeO.bind ?_ (fun _ => ?_)
theorem le_Set.mono : ∀ a0 a1 a2 a3 k, LeO (le_Set.f k a0 a1 a2 a3) (le_Set.f (k + 1) a0 a1 a2 a3) := by
  intro a0 a1 a2 a3 k
  have ih0 := le_Set.mono_l k
  unfold le_Set.f
  repeat' first
      | (with_reducible exact ih0 _ _ _ _ _)
      | (with_reducible exact LeO.refl _)
      | (with_reducible exact LeO.none _)
      | (with_reducible refine LeO.ite ?_ ?_)
      | (with_reducible refine LeO.bind ?_ (fun _ => ?_))
      | exact ih0 _ _ _ _ _
      | exact LeO.none _
      | refine LeO.ite ?_ ?_
      | refine LeO.bind ?_ (fun _ => ?_)
set_option maxHeartbeats 8000000 in
set_option maxRecDepth 100000 in
theorem le_Set.calls (k : Nat) (P0_ : Nat → Prop) (u9000_ : Value) (l0 : List Int) (a1 : Int) (a2 : Int) (a3 : Int) (r : List Int) (w0 w : World) (hB : Below w0.heap.size w0 w) (ho0 : Kd.R (Kd.int .u8) 5 w w0.heap.size P0_ u9000_ l0) (h : le_Set.f k l0 a1 a2 a3 = some r) :
    Calls Try.prog 67 #[u9000_, .int .i64 a1, .int .i64 a2, .int .i64 a3] w fun e w' => e = .returned (.tuple #[]) ∧ Kd.R (Kd.int .u8) 5 w' w0.heap.size (fun k_ => (P0_ k_ ∨ w.heap.size ≤ k_)) u9000_ r ∧ Below w0.heap.size w0 w' ∧ Kept w w' (fun k_ => P0_ k_) := by
  have HO0 := Aside0.mk (show Kd.R (Kd.int .u8) 5 w w0.heap.size (fun k_ => (P0_ k_ ∨ w.heap.size ≤ k_)) u9000_ l0 from Kd.R_mono ho0 (fun k_ hk => (.inl hk)))
  have HK := Aside0.mk (Kept.refl w (fun k_ => P0_ k_))
  have HW0 := Aside0.mk hB.size
  have HB := Aside0.mk hB
  clear hB
  have H : (le_Set.l0 k l0 a1 a3 a2 0) = some r := h
  clear h
  have H' := Aside0.mk H
  clear H
  go_enter Try.func67, Try.ntmps67
  go_wp2
  go_loopg [10] k (fun kq v10 w' => ∃ (x0_1 : List Int) (x10_1 : Int), v10 = .int .i64 x10_1 ∧ Aside0 (le_Set.l0 kq x0_1 a1 a3 a2 x10_1 = some r) ∧ Aside0 (kq ≤ k) ∧ Aside0 (Kd.R (Kd.int .u8) 5 w' w0.heap.size (fun k_ => (P0_ k_ ∨ w.heap.size ≤ k_)) u9000_ x0_1) ∧ Aside0 (Kept w w' (fun k_ => P0_ k_)) ∧ Aside0 (Below w0.heap.size w0 w'))
  case atStart => exact ⟨(l0), (0), (by first | rfl | (simp; done) | (simp [*]; done)), H', ⟨Nat.le_refl _⟩, ⟨by (with_reducible repeat (first | apply Kd.R_alloc | apply Kd.R_drewN | apply Kd.R_drew)); exact HO0.out⟩, ⟨by repeat (first | (with_reducible first | exact HK.out | apply Kept.alloc | apply Kept.drewN | apply Kept.drew) | exact HK.out)⟩, ⟨by repeat (first | (with_reducible first | exact HB.out | apply below_alloc | apply pw_below_drewN | apply below_drew1) | exact HB.out)⟩⟩
  case round =>
    clear H'
    try clear p2
    obtain ⟨x0_1, x10_1, rfl, HA, HK1, HO_0, HK, HB⟩ := hrel
    cases gk with
    | zero => exact absurd HA.out (by simp [le_Set.l0])
    | succ k1 =>
      have H := HA.out
      clear HA
      simp only [le_Set.l0] at H
      by_cases c5 : x10_1 < a2
      · rw [if_pos c5] at H
        have c5b0 : decide (x10_1 < a2) = true := decide_eq_true c5
        clear c5
        obtain ⟨ji6, hji6⟩ : ∃ j_ : Int, (wrap64 (8 * x10_1)) = j_ := ⟨_, rfl⟩
        replace H : (if 0 ≤ (ji6) then (if 0 ≤ (wrap64 (a1 + x10_1)) then (if (wrap64 (a1 + x10_1)) < (x0_1.length : Int) then (le_Set.l0 k1 (x0_1.set ((wrap64 (a1 + x10_1)) : Int).toNat ((shr .i64 a3 (ji6)) % 256)) a1 a3 a2 (wrap64 (x10_1 + 1))) else (none)) else (none)) else (none)) = some r := by first | (rw [hji6] at H; exact H) | (simp only [hji6] at H ⊢; exact H)
        have hji6w : (IntKind.i64.wrap (8 * x10_1)) = ji6 := (i64_w _).trans hji6
        by_cases c7 : 0 ≤ (ji6)
        · rw [if_pos c7] at H
          have c7b0 := eq_true c7
          have c7b1 : decide (0 ≤ (ji6)) = true := decide_eq_true c7
          clear c7
          obtain ⟨ji8, hji8⟩ : ∃ j_ : Int, (shr .i64 a3 (ji6)) = j_ := ⟨_, rfl⟩
          replace H : (if 0 ≤ (wrap64 (a1 + x10_1)) then (if (wrap64 (a1 + x10_1)) < (x0_1.length : Int) then (le_Set.l0 k1 (x0_1.set ((wrap64 (a1 + x10_1)) : Int).toNat ((ji8) % 256)) a1 a3 a2 (wrap64 (x10_1 + 1))) else (none)) else (none)) = some r := by first | (rw [hji8] at H; exact H) | (simp only [hji8] at H ⊢; exact H)
          have hji8_ : (a3 / 2 ^ min (ji6).toNat 64) = ji8 := hji8
          have hji8z : (ji6) ≤ 64 → (a3 / 2 ^ (ji6).toNat) = ji8 := shr_small hji8
          obtain ⟨ji9, hji9⟩ : ∃ j_ : Int, (wrap64 (a1 + x10_1)) = j_ := ⟨_, rfl⟩
          replace H : (if 0 ≤ (ji9) then (if (ji9) < (x0_1.length : Int) then (le_Set.l0 k1 (x0_1.set ((ji9) : Int).toNat ((ji8) % 256)) a1 a3 a2 (wrap64 (x10_1 + 1))) else (none)) else (none)) = some r := by first | (rw [hji9] at H; exact H) | (simp only [hji9] at H ⊢; exact H)
          have hji9w : (IntKind.i64.wrap (a1 + x10_1)) = ji9 := (i64_w _).trans hji9
          by_cases c10 : 0 ≤ (ji9)
          · rw [if_pos c10] at H
            have c10b0 : decide (0 ≤ (ji9)) = true := decide_eq_true c10
            clear c10
            by_cases c11 : (ji9) < (x0_1.length : Int)
            · rw [if_pos c11] at H
              have c11b0 : decide ((ji9) < (x0_1.length : Int)) = true := decide_eq_true c11
              clear c11
              obtain ⟨y101, hy101⟩ : ∃ y_ : List Int, y_ = (x0_1.set ((ji9) : Int).toNat ((ji8) % 256)) := ⟨_, rfl⟩
              replace H : (le_Set.l0 k1 y101 a1 a3 a2 (wrap64 (x10_1 + 1))) = some r := by first | (rw [hy101]; with_reducible exact H) | (have H2_ := (Option.bind_some _ _).symm.trans H; rw [hy101]; with_reducible exact H2_) | (have H2_ := (Option.bind_some _ _).symm.trans H; with_reducible exact H2_) | with_reducible exact H | (rw [hy101]; exact H) | exact H
              have Ny101 := Aside0.mk hy101
              clear hy101
              have H' := Aside0.mk H
              clear H
              have p12 : 0 ≤ ((ji9) : Int) := of_decide_eq_true (by first | (with_reducible assumption) | assumption)
              have q12 : ((ji9) : Int) < ((x0_1.length : Int) : Int) := of_decide_eq_true (by first | (with_reducible assumption) | assumption)
              obtain ⟨go12, co12, eo12, gb12, gl12, cl12, HG12⟩ := Kd.R_form HO_0.out (by omega)
              (first | cases eo12 | (injection eo12 with ea_ en_ ec_; (first | subst ea_ | (injection ea_ with ea_; subst ea_)); subst ec_; clear en_))
              have GB12 := Aside0.mk gb12
              have GG12 := Aside0.mk HG12
              clear gb12 gl12 HG12
              have HMgo12 := Aside0.mk (show (P0_ go12 ∨ w.heap.size ≤ go12) from (HO_0.out.1 _ rfl))
              obtain ⟨hx12_0, hf12_0⟩ := Kd.R_celln 0 HO_0.out ((ji9) : Int) p12 q12
              replace p12 := eq_true p12
              replace q12 := eq_true q12
              have HP13 := Kd.R_putg HO_0.out ((ji9) : Int) ((ji8) % 256)
              go_wp2_with (first | ((with_reducible refine gate_store (t := 5) (p := 22) rfl ?_); refine store_event (t := 5) (p := 22) (v := ?vo_w14) (w1 := (wr.setCell ⟨go12, ((ji9) : Int).toNat, none⟩ (.int .u8 ((ji8) % 256)))) ?hg ?ho ?hn ?hr ?_; (case ho => rfl); (case hg => rfl); (case hn => rfl); (case hr => first | (go_simp; done) | (go_simp; rfl)); intro w14 hw; have hg : wr.grownBy w14 (some go12) := (by rw [hw]; exact HP13.2); have hp_ : Kd.R (Kd.int .u8) 5 w14 w0.heap.size (fun k_ => (P0_ k_ ∨ w.heap.size ≤ k_)) (.slice (some ⟨go12, 0, none⟩) x0_1.length co12) y101 := (by rw [hw, Ny101.out]; exact HP13.1); clear HP13; have n0_ := Aside0.mk (hp_); have n1_ := Aside0.mk ((by rw [hw]; exact below_set (HB.out) GB12.out : Below w0.heap.size w0 w14)); have n2_ := Aside0.mk (Kept.of_grown (S := (fun k_ => P0_ k_)) hg (by repeat (first | (with_reducible first | exact HK.out | apply Kept.alloc | apply Kept.drewN | apply Kept.drew) | exact HK.out)) (fun k_ e_ => (HO_0.out.1 k_ e_))); clear HO_0; clear HB; clear HK; have HO_0 := n0_; have HB := n1_; have HK := n2_; clear n0_ n1_ n2_; clear hg hw hp_))
              go_roundg k1
              case measure => have := HK1.out; omega
              case rel => exact ⟨(y101), (wrap64 (x10_1 + 1)), (by first | rfl | (simp; done) | (simp [*]; done)), H', ⟨by have := HK1.out; omega⟩, ⟨by (with_reducible repeat (first | apply Kd.R_alloc | apply Kd.R_drewN | apply Kd.R_drew)); exact HO_0.out⟩, ⟨by repeat (first | (with_reducible first | exact HK.out | apply Kept.alloc | apply Kept.drewN | apply Kept.drew) | exact HK.out)⟩, ⟨by repeat (first | (with_reducible first | exact HB.out | apply below_alloc | apply pw_below_drewN | apply below_drew1) | exact HB.out)⟩⟩
            · rw [if_neg c11] at H
              exact absurd H (by simp)
          · rw [if_neg c10] at H
            exact absurd H (by simp)
        · rw [if_neg c7] at H
          exact absurd H (by simp)
      · rw [if_neg c5] at H
        have c5b0 : decide (x10_1 < a2) = false := decide_eq_false c5
        clear c5
        obtain rfl := Option.some.inj H
        go_wp2
        first | go_end0 | ((try simp only [Exit.inBlock, Exit.then]); refine bodyPost_ret (results_none rfl _ _ _) rfl ?_)
        exact ⟨by first | rfl | (simp [errW_none, errW_some] <;> rfl) | (simp [*, errW_none, errW_some] <;> rfl), by (with_reducible repeat (first | apply Kd.R_alloc | apply Kd.R_drewN | apply Kd.R_drew)); exact HO_0.out, by repeat (first | (with_reducible first | exact HB.out | apply below_alloc | apply pw_below_drewN | apply below_drew1) | exact HB.out), by repeat (first | (with_reducible first | exact HK.out | apply Kept.alloc | apply Kept.drewN | apply Kept.drew) | exact HK.out)⟩

/-! ### crc_More: function 85, walked by hand -/
def crc_More.f (a0 : Int) (l1 : List Int) : Option Int := some (Crc.sum a0 l1)
set_option maxHeartbeats 1000000 in
set_option maxRecDepth 100000 in
theorem crc_More.calls (a0 : Int) (A1 : Option Addr) (c1 : Nat) (l1 : List Int) (r : Int) (w : World) (hr1 : Kd.C (Kd.int .u8) w A1 l1.length l1) (hc1 : l1.length ≤ c1) (h : crc_More.f a0 l1 = some r) :
    Calls Try.prog 85 #[.int .i64 a0, .slice A1 l1.length c1] w fun e w' => e = .returned (.int .i64 r) ∧ Drawn0 w w' := by
  unfold crc_More.f at h
  obtain rfl := Option.some.inj h
  clear h
  unfold Crc.sum
  have HR := Aside0.mk hr1
  have hm : l1.length ≤ 9223372036854775807 := Kd.C_max hr1
  have e1 : IntKind.u32.wrap (IntKind.u64.wrap a0) = Crc.nt (BitVec.ofInt 32 a0) := (Crc.u32_u64 a0).trans (Crc.nt_ofInt a0).symm
  generalize BitVec.ofInt 32 a0 = v at *
  have e2 := Crc.not32 v
  clear hr1
  go_enter Try.func85, Try.ntmps85
  go_wp2_with fail
  clear e1 e2
  go_loop [5, 7, 8, 15] (fun v5 v7 v8 i => ∃ k : Nat, k ≤ l1.length ∧ i = .int .i64 k ∧ v5 = .int .u32 (Crc.nt (Crc.st (l1.take k) (~~~ v)))) (fun _ _ _ i => l1.length - (intOf i).toNat)
  case atStart => exact ⟨0, Nat.zero_le _, rfl, rfl⟩
  case round =>
    obtain ⟨k, hk, rfl, rfl⟩ := hrel
    by_cases hlt : k < l1.length
    · obtain ⟨ad, e0, x0⟩ := Kd.at_int HR.out (k : Int) (by omega) (by omega)
      subst e0
      rw [Int.toNat_natCast] at x0
      have hrd : rd l1 (k : Int) = l1[k] := by unfold rd; rw [Int.toNat_natCast, List.getD_eq_getElem?_getD, List.getElem?_eq_getElem hlt]; rfl
      rw [hrd] at x0
      have HT := Aside0.mk (show Crc.st (l1.take (k + 1)) (~~~ v) = Crc.Zn 8 (Crc.st (l1.take k) (~~~ v) ^^^ BitVec.ofInt 32 l1[k]) by rw [List.take_succ_eq_append_getElem hlt, Crc.st_snoc])
      clear hrd
      generalize l1[k] = x at *
      generalize Crc.st (l1.take k) (~~~ v) = s at *
      have e3 := Crc.byte32m s x
      go_wp2_with fail
      clear e3
      go_loop [5, 8, 23] (fun v5 v8 i => ∃ j : Nat, j ≤ 8 ∧ i = .int .i64 j ∧ v5 = .int .u32 (Crc.nt (Crc.Zn j (s ^^^ BitVec.ofInt 32 x)))) (fun _ _ i => 8 - (intOf i).toNat)
      case atStart => exact ⟨0, by omega, rfl, rfl⟩
      case round =>
        obtain ⟨j, hj, rfl, rfl⟩ := hrel
        by_cases hlt2 : j < 8
        · have HZ := Aside0.mk (Crc.Zn_succ j (s ^^^ BitVec.ofInt 32 x))
          generalize Crc.Zn j (s ^^^ BitVec.ofInt 32 x) = u at *
          have hu0 := Crc.nt0 u
          have H2 := Aside0.mk (Crc.nt_half u).symm
          by_cases cb : Crc.nt u % 2 = 1
          · have HZ2 := Aside0.mk (show Crc.Zn (j + 1) (s ^^^ BitVec.ofInt 32 x) = (u >>> 1) ^^^ Crc.poly by rw [HZ.out, Crc.Z_odd u cb])
            have h1 : (bits BinOp.and IntKind.u32 (Crc.nt u) 1 == 1) = true := by rw [Crc.and1]; exact beq_iff_eq.2 cb
            have H3 := Aside0.mk (Crc.poly32 (u >>> 1))
            clear cb
            generalize u >>> 1 = u' at *
            go_wp2
            clear h1
            go_round
            case rel => exact ⟨j + 1, by omega, by go_num, by rw [HZ2.out, H2.out, H3.out]⟩
            case measure => simp [intOf]; omega
          · have HZ2 := Aside0.mk (show Crc.Zn (j + 1) (s ^^^ BitVec.ofInt 32 x) = u >>> 1 by rw [HZ.out, Crc.Z_even u cb])
            have h1 : (bits BinOp.and IntKind.u32 (Crc.nt u) 1 == 1) = false := by rw [Crc.and1]; exact beq_eq_false_iff_ne.2 cb
            clear cb
            generalize u >>> 1 = u' at *
            go_wp2
            clear h1
            go_round
            case rel => exact ⟨j + 1, by omega, by go_num, by rw [HZ2.out, H2.out]⟩
            case measure => simp [intOf]; omega
        · obtain rfl : j = 8 := by omega
          have HT2 := Aside0.mk (show Crc.Zn 8 (s ^^^ BitVec.ofInt 32 x) = Crc.st (l1.take (k + 1)) (~~~ v) from HT.out.symm)
          rw [HT2.out]
          go_wp2
          go_round
          case rel => exact ⟨k + 1, by omega, by go_num, rfl⟩
          case measure => simp [intOf]; omega
    · obtain rfl : k = l1.length := by omega
      rw [List.take_length]
      generalize hs : Crc.st l1 (~~~ v) = s at *
      have HS := Aside0.mk hs
      have e3 := Crc.not32 s
      have e4 := Crc.nt_i64 (~~~ s)
      clear hs
      generalize hs : ~~~ s = s' at *
      have HS' := Aside0.mk hs
      clear hs
      go_wp2
      go_ret
      exact ⟨by rw [HS.out, HS'.out]; rfl, Drawn0.refl _⟩

/-! ### crc_Sum: function 80 -/
def crc_Sum.f (l0 : List Int) : Option (Int) := (crc_More.f 0 l0).bind fun t101 => (some t101)
set_option maxHeartbeats 8000000 in
set_option maxRecDepth 100000 in
theorem crc_Sum.calls (A0 : Option Addr) (c0 : Nat) (l0 : List Int) (r : Int) (w : World) (hr0 : Kd.C (Kd.int .u8) w A0 l0.length l0) (hc0 : l0.length ≤ c0) (h : crc_Sum.f l0 = some r) :
    Calls Try.prog 80 #[.slice A0 l0.length c0] w fun e w' => e = .returned (.int .i64 r) ∧ Drawn0 w w' := by
  have HR0 := Aside0.mk hr0
  have HC0 := Aside0.mk hc0
  clear hr0 hc0
  have H : ((crc_More.f 0 l0).bind fun t101 => (some t101)) = some r := h
  clear h
  replace H := Option.bind_eq_some_iff.mp H
  obtain ⟨t101, A20, H⟩ := H
  replace H : (some t101) = some r := H
  have A2 := Aside0.mk A20
  clear A20
  obtain rfl := Option.some.inj H
  go_enter Try.func80, Try.ntmps80
  go_wp2_with (first | ((with_reducible refine gate_callee (f := 85) rfl ?_); refine goesL_ (some 4) rfl rfl Try.func85 (by kernel_rfl) rfl #[.int .i64 0, .slice A0 l0.length c0] rfl (by (try simp only [List.map_toArray, List.map_cons, List.map_nil]); first | done | rfl | (simp only [List.length_drop, List.length_take]; rfl)) ?_; (with_reducible refine (crc_More.calls 0 _ _ l0 t101 _ ?side1 ?side2 A2.out).mono ?_); (case side1 => repeat (first | exact HR0.out | (with_reducible refine Kd.C_alloc ?_ _) | (with_reducible refine Kd.C_drewN ?_ _) | (with_reducible refine Kd.C_drew ?_))); (case side2 => exact HC0.out); rintro e w' ⟨rfl, ⟨nd, rfl⟩⟩; refine ⟨_, rfl, ?_⟩))
  go_ret
  exact ⟨by first | rfl | (simp; done) | (simp [*]; done), by repeat (first | exact Drawn0.refl _ | apply Drawn0.step)⟩

/-! ### crc_Seal: function 68 -/
def crc_Seal.f (k : Nat) (l0 : List Int) : Option (List Int) := if 0 ≤ (wrap64 ((l0.length : Int) - 4)) then (if (wrap64 ((l0.length : Int) - 4)) ≤ (l0.length : Int) then ((crc_Sum.f (l0.take ((wrap64 ((l0.length : Int) - 4)) : Int).toNat)).bind fun t105 => ((le_Set.f k l0 (wrap64 ((l0.length : Int) - 4)) 4 t105).bind fun t106 => (some t106))) else (none)) else (none)
theorem crc_Seal.mono : ∀ a0 k, LeO (crc_Seal.f k a0) (crc_Seal.f (k + 1) a0) := by
  intro a0 k
  unfold crc_Seal.f
  repeat' first
      | (with_reducible exact le_Set.mono _ _ _ _ _)
      | (with_reducible exact LeO.refl _)
      | (with_reducible exact LeO.none _)
      | (with_reducible refine LeO.ite ?_ ?_)
      | (with_reducible refine LeO.bind ?_ (fun _ => ?_))
      | exact le_Set.mono _ _ _ _ _
      | exact LeO.none _
      | refine LeO.ite ?_ ?_
      | refine LeO.bind ?_ (fun _ => ?_)
set_option maxHeartbeats 8000000 in
set_option maxRecDepth 100000 in
theorem crc_Seal.calls (k : Nat) (P0_ : Nat → Prop) (u9000_ : Value) (l0 : List Int) (r : List Int) (w0 w : World) (hB : Below w0.heap.size w0 w) (ho0 : Kd.R (Kd.int .u8) 5 w w0.heap.size P0_ u9000_ l0) (h : crc_Seal.f k l0 = some r) :
    Calls Try.prog 68 #[u9000_] w fun e w' => e = .returned (.tuple #[]) ∧ Kd.R (Kd.int .u8) 5 w' w0.heap.size (fun k_ => (P0_ k_ ∨ w.heap.size ≤ k_)) u9000_ r ∧ Below w0.heap.size w0 w' ∧ Kept w w' (fun k_ => P0_ k_) := by
  have HO0 := Aside0.mk (show Kd.R (Kd.int .u8) 5 w w0.heap.size (fun k_ => (P0_ k_ ∨ w.heap.size ≤ k_)) u9000_ l0 from Kd.R_mono ho0 (fun k_ hk => (.inl hk)))
  have HK := Aside0.mk (Kept.refl w (fun k_ => P0_ k_))
  have HW0 := Aside0.mk hB.size
  have HB := Aside0.mk hB
  clear hB
  have H : (if 0 ≤ (wrap64 ((l0.length : Int) - 4)) then (if (wrap64 ((l0.length : Int) - 4)) ≤ (l0.length : Int) then ((crc_Sum.f (l0.take ((wrap64 ((l0.length : Int) - 4)) : Int).toNat)).bind fun t105 => ((le_Set.f k l0 (wrap64 ((l0.length : Int) - 4)) 4 t105).bind fun t106 => (some t106))) else (none)) else (none)) = some r := h
  clear h
  obtain ⟨ji2, hji2⟩ : ∃ j_ : Int, (wrap64 ((l0.length : Int) - 4)) = j_ := ⟨_, rfl⟩
  replace H : (if 0 ≤ (ji2) then (if (ji2) ≤ (l0.length : Int) then ((crc_Sum.f (l0.take ((ji2) : Int).toNat)).bind fun t105 => ((le_Set.f k l0 (ji2) 4 t105).bind fun t106 => (some t106))) else (none)) else (none)) = some r := by first | (rw [hji2] at H; exact H) | (simp only [hji2] at H ⊢; exact H)
  have hji2w : (IntKind.i64.wrap ((l0.length : Int) - 4)) = ji2 := (i64_w _).trans hji2
  by_cases c3 : 0 ≤ (ji2)
  · rw [if_pos c3] at H
    have c3b0 := eq_true c3
    have c3b1 : decide (0 ≤ (ji2)) = true := decide_eq_true c3
    clear c3
    by_cases c4 : (ji2) ≤ (l0.length : Int)
    · rw [if_pos c4] at H
      have c4b0 := eq_true c4
      have c4b1 : decide ((ji2) ≤ (l0.length : Int)) = true := decide_eq_true c4
      clear c4
      obtain ⟨y101, hy101⟩ : ∃ y_ : List Int, y_ = (l0.take ((ji2) : Int).toNat) := ⟨_, rfl⟩
      replace H : ((crc_Sum.f y101).bind fun t105 => ((le_Set.f k l0 (ji2) 4 t105).bind fun t106 => (some t106))) = some r := by first | (rw [hy101]; with_reducible exact H) | (have H2_ := (Option.bind_some _ _).symm.trans H; rw [hy101]; with_reducible exact H2_) | (have H2_ := (Option.bind_some _ _).symm.trans H; with_reducible exact H2_) | with_reducible exact H | (rw [hy101]; exact H) | exact H
      have Ny101 := Aside0.mk hy101
      clear hy101
      replace H := Option.bind_eq_some_iff.mp H
      obtain ⟨t105, A50, H⟩ := H
      replace H : ((le_Set.f k l0 (ji2) 4 t105).bind fun t106 => (some t106)) = some r := H
      have A5 := Aside0.mk A50
      clear A50
      replace H := Option.bind_eq_some_iff.mp H
      obtain ⟨t106, A60, H⟩ := H
      replace H : (some t106) = some r := H
      have A6 := Aside0.mk A60
      clear A60
      obtain rfl := Option.some.inj H
      obtain ⟨Ao7, co7, eo7⟩ := Kd.R_slice HO0.out
      subst eo7
      have q8 : ((ji2) : Int) ≤ ((l0.length : Int) : Int) := of_decide_eq_true (by first | (with_reducible assumption) | assumption)
      obtain ⟨i08, hi08, _, hsz8, _⟩ := info_parts info5
      have hroom8 : l0.length ≤ co7 := (Kd.R_reads' HO0.out).2.1
      have hC8 : Kd.C (Kd.int .u8) _ Ao7 l0.length l0 := (Kd.R_reads' HO0.out).2.2
      have hcut8 := cut_to (P := Try.prog) 24 5 .i64 Try.underlying24 hi08 Ao7 l0.length co7 (ji2) (of_decide_eq_true (by first | (with_reducible assumption) | assumption)) q8 hroom8
      have hr8 := Kd.C_take (m := ((ji2) : Int).toNat) hC8 (by omega)
      have hy8 : y101.length = ((ji2) : Int).toNat := (by rw [Ny101.out, List.length_take]; omega)
      rw [← Ny101.out] at hr8
      rw [← hy8] at hcut8
      have HR104 := Aside0.mk hr8
      have HC104 := Aside0.mk (show y101.length ≤ co7 from by omega)
      clear hr8 hC8 hroom8 hi08 hsz8
      have KY8 := Aside0.mk hy8
      clear hy8
      have KL8 := Aside0.mk (show ((ji2) : Int).toNat ≤ l0.length from by omega)
      replace q8 := eq_true q8
      go_enter Try.func68, Try.ntmps68
      go_wp2_with (first | ((with_reducible refine gate_callee (f := 80) rfl ?_); refine goesL_ (some 11) rfl rfl Try.func80 (by kernel_rfl) rfl #[.slice Ao7 y101.length co7] rfl (by (try simp only [List.map_toArray, List.map_cons, List.map_nil]); first | done | rfl | (simp only [List.length_drop, List.length_take]; rfl)) ?_; (with_reducible refine (crc_Sum.calls _ _ y101 t105 _ ?side1 ?side2 A5.out).mono ?_); (case side1 => repeat (first | exact (by repeat (first | (with_reducible exact HR104.out) | (with_reducible refine Kd.C_alloc ?_ _) | (with_reducible refine Kd.C_drewN ?_ _) | (with_reducible refine Kd.C_drew ?_) | exact HR104.out)) | (with_reducible refine Kd.C_alloc ?_ _) | (with_reducible refine Kd.C_drewN ?_ _) | (with_reducible refine Kd.C_drew ?_))); (case side2 => exact HC104.out); rintro e w' ⟨rfl, ⟨nd, rfl⟩⟩; refine ⟨_, rfl, ?_⟩) | ((with_reducible refine gate_callee (f := 67) rfl ?_); refine goesL_ (some 12) rfl rfl Try.func67 (by kernel_rfl) rfl #[.slice Ao7 l0.length co7, .int .i64 ji2, .int .i64 4, .int .i64 t105] rfl (by (try simp only [List.map_toArray, List.map_cons, List.map_nil]); first | done | (simp only [hji2]; rfl) | rfl | (simp only [List.length_drop, List.length_take]; rfl)) ?_; (with_reducible refine (le_Set.calls k (fun k_ => some k_ = (.slice Ao7 l0.length co7 : Value).ownBlock) (.slice Ao7 l0.length co7) l0 ji2 4 t105 t106 w0 _ ?side1 ?side2 A6.out).mono ?_); (case side1 => repeat (first | (with_reducible first | exact HB.out | apply below_alloc | apply pw_below_drewN | apply below_drew1) | exact HB.out)); (case side2 => exact Kd.R_tight rfl HO0.out); rintro e w9 ⟨rfl, hy0, hb, hkp⟩; refine ⟨_, rfl, ?_⟩; have n0_ := Aside0.mk (Kd.R_reok rfl hy0 (fun k_ e_ => HO0.out.1 k_ e_)); have n1_ := Aside0.mk (Kept.then_ (S := (fun k_ => P0_ k_)) (by repeat (first | (with_reducible first | exact HK.out | apply Kept.alloc | apply Kept.drewN | apply Kept.drew) | exact HK.out)) hkp (fun k_ hs_ => (fun e_ => (HO0.out.1 k_ e_.symm)) hs_)); have n2_ := Aside0.mk (hb); clear HO0; clear HK; clear HB; have HO0 := n0_; have HK := n1_; have HB := n2_; clear n0_ n1_ n2_; (try clear hb); (try clear hkp); (try clear hy0)))
      first | go_end0 | ((try simp only [Exit.inBlock, Exit.then]); refine bodyPost_ret (results_none rfl _ _ _) rfl ?_)
      exact ⟨by first | rfl | (simp [errW_none, errW_some] <;> rfl) | (simp only [← hji2]; first | rfl | (simp [errW_none, errW_some] <;> rfl)) | (simp [*, errW_none, errW_some] <;> rfl), by (with_reducible repeat (first | apply Kd.R_alloc | apply Kd.R_drewN | apply Kd.R_drew)); exact HO0.out, by repeat (first | (with_reducible first | exact HB.out | apply below_alloc | apply pw_below_drewN | apply below_drew1) | exact HB.out), by repeat (first | (with_reducible first | exact HK.out | apply Kept.alloc | apply Kept.drewN | apply Kept.drew) | exact HK.out)⟩
    · rw [if_neg c4] at H
      exact absurd H (by simp)
  · rw [if_neg c3] at H
    exact absurd H (by simp)

/-! ### super_Make: function 43, walked by hand -/
/-- Fields side by side from a place on, none beyond byte 60. -/
def isLay : Nat → List S95 → Bool
  | p, [] => decide (p ≤ 60)
  | p, x :: t => (x.f0 == (p : Int)) && decide (0 ≤ x.f1) && decide (x.f1 ≤ 8) && isLay (p + x.f1.toNat) t
def sizesOf (l : List S95) : List Nat := l.map (fun x => x.f1.toNat)
theorem isLay_sum : ∀ (l : List S95) (p : Nat), isLay p l = true → p + (sizesOf l).sum ≤ 60 := by
  intro l
  induction l with
  | nil => intro p h; simpa [isLay, sizesOf] using h
  | cons x t ih =>
    intro p h
    simp only [isLay, Bool.and_eq_true, beq_iff_eq, decide_eq_true_eq] at h
    have := ih _ h.2
    simp only [sizesOf, List.map_cons, List.sum_cons] at this ⊢
    omega
theorem isLay_at : ∀ (l : List S95) (p : Nat), isLay p l = true → ∀ (k : Nat) (h : k < l.length), (l[k]).f0 = ((p + (sizesOf (l.take k)).sum : Nat) : Int) ∧ 0 ≤ (l[k]).f1 ∧ (l[k]).f1 ≤ 8 ∧ p + (sizesOf (l.take k)).sum + (l[k]).f1.toNat ≤ 60 := by
  intro l
  induction l with
  | nil => intro p _ k h; simp at h
  | cons x t ih =>
    intro p h k hk
    have hs := isLay_sum _ _ h
    simp only [isLay, Bool.and_eq_true, beq_iff_eq, decide_eq_true_eq] at h
    cases k with
    | zero =>
      simp only [sizesOf, List.map_cons, List.sum_cons] at hs
      simp only [List.getElem_cons_zero, List.take_zero, sizesOf, List.map_nil, List.sum_nil]
      exact ⟨by rw [h.1.1.1]; rfl, h.1.1.2, h.1.2, by omega⟩
    | succ k =>
      have := ih _ h.2 k (by simpa using hk)
      simp only [List.getElem_cons_succ, List.take_succ_cons, sizesOf, List.map_cons, List.sum_cons] at this ⊢
      obtain ⟨h1, h2, h3, h4⟩ := this
      exact ⟨by rw [h1]; omega, h2, h3, by omega⟩
theorem w64' {x : Int} (h0 : -9223372036854775808 ≤ x) (h1 : x ≤ 9223372036854775807) : wrap64 x = x := by unfold wrap64; omega
theorem shr_byte (v : Int) (i : Nat) (h : i < 8) : (shr .i64 v (wrap64 (8 * (i : Int)))) % 256 = v / 256 ^ i % 256 := by
  rw [w64' (by omega) (by omega)]
  have h1 := shr_small (k := .i64) (x := v) (y := 8 * (i : Int)) rfl (by show 8 * (i : Int) ≤ ((64 : Nat) : Int); omega)
  rw [← h1]
  congr 2
  have h2 : (8 * (i : Int)).toNat = 8 * i := by omega
  rw [h2, Int.pow_mul]; rfl
theorem le_Set_loop (l : List Int) (p size : Nat) (v : Int) (hs : size ≤ 8) (hl : p + size ≤ l.length) (hm : l.length ≤ 140737488355328) : ∀ (d : Nat) (k : Nat) (i : Nat), i + d = size → d < k →
    le_Set.l0 k (splice l p (Blk.leB i v)) (p : Int) v (size : Int) (i : Int) = some (splice l p (Blk.leB size v)) := by
  intro d
  induction d with
  | zero =>
    intro k i hi hk
    obtain ⟨k, rfl⟩ : ∃ m, k = m + 1 := ⟨k - 1, by omega⟩
    obtain rfl : i = size := by omega
    simp only [le_Set.l0]; rw [if_neg (by omega)]
  | succ d ih =>
    intro k i hi hk
    obtain ⟨k, rfl⟩ : ∃ m, k = m + 1 := ⟨k - 1, by omega⟩
    have hlen : (splice l p (Blk.leB i v)).length = l.length := length_splice _ _ _ (by rw [Blk.leB_len]; omega)
    simp only [le_Set.l0]
    rw [if_pos (by omega), if_pos (by rw [w64' (by omega) (by omega)]; omega), if_pos (by rw [w64' (by omega) (by omega)]; omega), if_pos (by rw [hlen, w64' (by omega) (by omega)]; omega)]
    rw [shr_byte v i (by omega), w64' (x := (p : Int) + i) (by omega) (by omega), w64' (x := (i : Int) + 1) (by omega) (by omega)]
    have e : (splice l p (Blk.leB i v)).set ((p : Int) + (i : Int)).toNat (v / 256 ^ i % 256) = splice l p (Blk.leB (i + 1) v) := by
      rw [Blk.leB_snoc, show ((p : Int) + (i : Int)).toNat = p + i by omega]
      exact Blk.splice_set (by rw [Blk.leB_len]) (by omega)
    rw [e]
    exact ih k (i + 1) (by omega) (by omega)
/-- What le.Set leaves. -/
theorem le_Set_ok (l : List Int) (p size : Nat) (v : Int) (hs : size ≤ 8) (hl : p + size ≤ l.length) (hm : l.length ≤ 140737488355328) : ∃ k, le_Set.f k l (p : Int) (size : Int) v = some (splice l p (Blk.leB size v)) := by
  refine ⟨size + 1, ?_⟩
  have := le_Set_loop l p size v hs hl hm size (size + 1) 0 (by omega) (by omega)
  rw [show splice l p (Blk.leB 0 v) = l by simp [splice, Blk.leB]] at this
  exact this
/-- What crc.Seal leaves. -/
theorem crc_Seal_ok (l : List Int) (h : l.length = 64) : ∃ k, crc_Seal.f k l = some (splice l 60 (Blk.leB 4 (Crc.sum 0 (l.take 60)))) := by
  obtain ⟨k, hk⟩ := le_Set_ok l 60 4 (Crc.sum 0 (l.take 60)) (by omega) (by omega) (by omega)
  refine ⟨k, ?_⟩
  unfold crc_Seal.f crc_Sum.f crc_More.f
  have e : (wrap64 (((64 : Nat) : Int) - 4)) = ((60 : Nat) : Int) := w64' (by decide) (by decide)
  rw [h, e, if_pos (by decide), if_pos (by decide)]
  simp only [Option.bind_some]
  rw [Int.toNat_natCast]
  have e4 : ((4 : Nat) : Int) = 4 := rfl
  rw [e4] at hk
  rw [hk]; rfl
def makeOk (m : ByteArray) (f : List S95) (n : List Int) : Bool := decide (m.size = 4) && isLay 4 f && decide (f.length = n.length)
def super_Make.f (a0 : ByteArray) (l1 : List S95) (l2 : List Int) : Option (List Int) := if makeOk a0 l1 l2 = true then some (Blk.blk (bytesOf a0) (sizesOf l1) l2) else none
set_option maxHeartbeats 2000000 in
set_option maxRecDepth 100000 in
theorem super_Make.calls (a0 : ByteArray) (A1 : Option Addr) (c1 : Nat) (l1 : List S95) (A2 : Option Addr) (c2 : Nat) (l2 : List Int) (r : List Int) (w : World) (hr1 : Kd.C k95 w A1 l1.length l1) (hc1 : l1.length ≤ c1) (hr2 : Kd.C (Kd.int .i64) w A2 l2.length l2) (hc2 : l2.length ≤ c2) (h : super_Make.f a0 l1 l2 = some r) :
    Calls Try.prog 43 #[.string a0, .slice A1 l1.length c1, .slice A2 l2.length c2] w fun e w' => ∃ v0_ : Value, e = .returned v0_ ∧ Kd.R (Kd.int .u8) 5 w' w.heap.size (fun _ => True) v0_ r ∧ Below w.heap.size w w' := by
  unfold super_Make.f at h
  by_cases hok : makeOk a0 l1 l2 = true
  case neg => rw [if_neg hok] at h; cases h
  rw [if_pos hok] at h
  obtain rfl := Option.some.inj h
  clear h
  unfold makeOk at hok
  simp only [Bool.and_eq_true, decide_eq_true_eq] at hok
  obtain ⟨⟨hm4, hlay⟩, hlen⟩ := hok
  have hsum := isLay_sum _ _ hlay
  have HM4 := Aside0.mk hm4
  have HLAY := Aside0.mk (isLay_at _ _ hlay)
  have HSUM := Aside0.mk hsum
  have HLEN := Aside0.mk hlen
  have HR1 := Aside0.mk hr1
  have HR2 := Aside0.mk hr2
  have hmx : l1.length ≤ 9223372036854775807 := Kd.C_max hr1
  have HB := Aside0.mk (Below.refl w.heap.size w)
  clear hr1 hr2 hm4 hlay hsum hlen
  go_enter Try.func43, Try.ntmps43
  go_wp2_with (first | ((with_reducible refine gate_dst (N := 10) rfl ?_); refine Kd.R_make (Kd.int .u8) w.heap.size 5 rfl (N := 10) rfl 24 _ _ rfl 64 rfl rfl Try.underlying24 (.int .u8 0) 1 info5 rfl (by decide) (by omega) 0 (ok := fun _ => True) (okp := fun _ => True) rfl (fun _ hk => hk) trivial (by omega) (by decide) HB.out (Nat.le_refl _) ?_; intro v7 w1 ho7 hb1 hq1 hq2; clear hq1 hq2; obtain ⟨g, cap, hv, hgb, hgl, hq3⟩ := Kd.R_form ho7 (by decide); rw [show (List.replicate (64 : Int).toNat (0 : Int)).length = 64 from rfl] at hv; subst hv; rw [show List.replicate (64 : Int).toNat (0 : Int) = Blk.padTo 64 [] from rfl] at ho7; have HO7 := Aside0.mk ho7; have HB1 := Aside0.mk hb1; have HGB := Aside0.mk hgb; clear ho7 hb1 hq3 hgb) | ((with_reducible refine gate_builtin (b := .copy) rfl ?_); refine Cop.copystr rfl (.tmp 11) (.tmp 12) 24 9 rfl 5 Try.underlying24 (by kernel_rfl) g 64 cap w.heap.size (fun _ => True) (Blk.padTo 64 []) a0 rfl rfl HO7.out (by rw [HM4.out]; decide) HB1.out HGB.out ?_; intro w2 ho2 hb2 hg2; clear hg2; have HO2 := Aside0.mk ho2; have HB2 := Aside0.mk hb2; clear ho2 hb2))
  have ho2' : Kd.R (Kd.int .u8) 5 w2 w.heap.size (fun _ => True) (.slice (some ⟨g, 0, none⟩) 64 cap) (Blk.padTo 64 (bytesOf a0)) := by
    have := Blk.splice_pad (n := 64) (b := []) (c := bytesOf a0) (by rw [bytesOf_length, HM4.out]; decide)
    rw [List.nil_append] at this
    rw [← this]; exact HO2.out
  clear HO2
  have HO2 := Aside0.mk ho2'
  clear ho2'
  go_wp2_with fail
  go_loopw [8, 9, 16] (fun _ _ i w' => ∃ k : Nat, k ≤ l1.length ∧ i = .int .i64 k ∧ Aside0 (Kd.R (Kd.int .u8) 5 w' w.heap.size (fun _ => True) (.slice (some ⟨g, 0, none⟩) 64 cap) (Blk.padTo 64 (bytesOf a0 ++ Blk.flatB (sizesOf (l1.take k)) (l2.take k)))) ∧ Aside0 (Below w.heap.size w w')) (fun _ _ i _ => l1.length - (intOf i).toNat)
  case atStart => exact ⟨0, Nat.zero_le _, rfl, ⟨by simpa [sizesOf, Blk.flatB] using HO2.out⟩, HB2⟩
  case round =>
    obtain ⟨k, hk, rfl, HO, HB⟩ := hrel
    by_cases hlt : k < l1.length
    · obtain ⟨ad, e0, x0, x1⟩ := at_T95 HR1.out (k : Int) (by omega) (by omega)
      obtain ⟨ad2, e2, y0⟩ := Kd.at_int HR2.out (k : Int) (by omega) (by have := HLEN.out; omega)
      subst e0
      subst e2
      rw [Int.toNat_natCast] at x0 x1 y0
      replace x0 := (HB.out.cell (World.block_lt_of_cell? w _ x0)).trans x0
      replace x1 := (HB.out.cell (World.block_lt_of_cell? w _ x1)).trans x1
      replace y0 := (HB.out.cell (World.block_lt_of_cell? w _ y0)).trans y0
      have hrd : rd_T95 l1 (k : Int) = l1[k] := by unfold rd_T95; rw [Int.toNat_natCast, List.getD_eq_getElem?_getD, List.getElem?_eq_getElem hlt]; rfl
      have hlt2 : k < l2.length := by have := HLEN.out; omega
      have hrd2 : rd l2 (k : Int) = l2[k] := by unfold rd; rw [Int.toNat_natCast, List.getD_eq_getElem?_getD, List.getElem?_eq_getElem hlt2]; rfl
      rw [hrd] at x0 x1
      rw [hrd2] at y0
      obtain ⟨hk0, hk1, hk2, hk3⟩ := HLAY.out k hlt
      obtain ⟨S, hS⟩ := Int.eq_ofNat_of_zero_le hk1
      have hPP : (bytesOf a0 ++ Blk.flatB (sizesOf (l1.take k)) (l2.take k)).length = 4 + (sizesOf (l1.take k)).sum := by
        rw [List.length_append, bytesOf_length, HM4.out, Blk.flatB_len _ _ (by have := HLEN.out; simp [sizesOf]; omega)]
      have hNX : bytesOf a0 ++ Blk.flatB (sizesOf (l1.take (k + 1))) (l2.take (k + 1)) = (bytesOf a0 ++ Blk.flatB (sizesOf (l1.take k)) (l2.take k)) ++ Blk.leB S l2[k] := by
        rw [List.take_succ_eq_append_getElem hlt, List.take_succ_eq_append_getElem hlt2]
        have e1 : sizesOf (l1.take k ++ [l1[k]]) = sizesOf (l1.take k) ++ [S] := by
          unfold sizesOf; rw [List.map_append]; simp [hS]
        rw [e1, Blk.flatB_snoc _ _ _ _ (by have := HLEN.out; simp [sizesOf]; omega), List.append_assoc]
      rw [hS, Int.toNat_natCast] at hk3
      rw [hk0] at x0
      rw [hS] at x1 hk2
      generalize 4 + (sizesOf (l1.take k)).sum = P at *
      generalize hCU : bytesOf a0 ++ Blk.flatB (sizesOf (l1.take k)) (l2.take k) = cu at *
      generalize l2[k] = v at *
      obtain ⟨kk, hset⟩ := le_Set_ok (Blk.padTo 64 cu) P S v (by omega) (by rw [Blk.padTo_len (by omega)]; omega) (by rw [Blk.padTo_len (by omega)]; omega)
      have hsp : splice (Blk.padTo 64 cu) P (Blk.leB S v) = Blk.padTo 64 (cu ++ Blk.leB S v) := by
        have := Blk.splice_pad (n := 64) (b := cu) (c := Blk.leB S v) (by rw [Blk.leB_len]; omega)
        rw [hPP] at this; exact this
      rw [hsp, ← hNX] at hset
      have HSET := Aside0.mk hset
      clear hrd hrd2 hk0 hk1 hk2 hk3 hS hPP hNX hCU hset hsp
      go_wp2_with fail
      refine wp_region_still_tail 9 (by kernel_rfl) (by kernel_rfl) ?_
      show wpStill _ _ (World.drew (wr.alloc (.cells #[.int .i64 (P : Int), .int .i64 (S : Int)] 95))) _ _ _
      have y1 : (World.drew (wr.alloc (.cells #[.int .i64 (P : Int), .int .i64 (S : Int)] 95))).cell? (ad2.add k) = some (.int .i64 v) := ((below_drew (below_alloc (Below.refl wr.heap.size wr) _)).cell (World.block_lt_of_cell? wr _ y0)).trans y0
      simp only [List.take_succ_cons, List.take_zero, List.drop_succ_cons, List.drop_zero]
      repeat still_step
      refine wpStill_nil ?_
      clear x0 x1 y0 y1
      go_wp2_with fail
      refine (le_Set.calls kk (fun _ => True) _ (Blk.padTo 64 cu) (P : Int) (S : Int) v _ w _ (below_drew (below_alloc HB.out _)) (Kd.R_drew (Kd.R_alloc HO.out _)) HSET.out).mono ?_
      rintro e w3 ⟨rfl, ho3, hb3, hk3⟩
      have HO3 := Aside0.mk (Kd.R_mono (ok' := fun _ => True) ho3 (fun _ _ => trivial))
      have HB3 := Aside0.mk hb3
      clear ho3 hb3 hk3
      go_wp2
      go_roundw
      case rel => exact ⟨k + 1, by omega, by go_num, HO3, HB3⟩
      case measure => simp [intOf]; omega
    · obtain rfl : k = l1.length := by omega
      have hl := HLEN.out
      rw [List.take_length, List.take_of_length_le (by omega)] at HO
      have hPP : (bytesOf a0 ++ Blk.flatB (sizesOf l1) l2).length ≤ 60 := by
        rw [List.length_append, bytesOf_length, HM4.out, Blk.flatB_len _ _ (by simp [sizesOf]; omega)]; have := HSUM.out; omega
      obtain ⟨kk, hseal⟩ := crc_Seal_ok (Blk.padTo 64 (bytesOf a0 ++ Blk.flatB (sizesOf l1) l2)) (Blk.padTo_len (by omega))
      obtain ⟨hs1, hs2⟩ := Blk.splice_seal (n := 64) (m := 60) (b := bytesOf a0 ++ Blk.flatB (sizesOf l1) l2) (c := Blk.leB 4 (Crc.sum 0 (Blk.padTo 60 (bytesOf a0 ++ Blk.flatB (sizesOf l1) l2)))) hPP (by rw [Blk.leB_len])
      rw [hs2, hs1] at hseal
      have HSEAL := Aside0.mk hseal
      clear hl hPP hseal hs1 hs2
      go_wp2_with fail
      refine (crc_Seal.calls kk (fun _ => True) _ _ _ w _ HB.out HO.out HSEAL.out).mono ?_
      rintro e w3 ⟨rfl, ho3, hb3, hk3⟩
      have HO3 := Aside0.mk (Kd.R_mono (ok' := fun _ => True) ho3 (fun _ _ => trivial))
      have HB3 := Aside0.mk hb3
      clear ho3 hb3 hk3
      go_wp2
      go_ret
      exact ⟨_, rfl, HO3.out, HB3.out⟩

/-! ### super_Layout: function 69 -/
def super_Layout.l0 : Nat → List (S95) → Int → List Int → Int → Int → Option ((List (S95)))
  | 0, _, _, _, _, _ => none
  | k + 1, x3, x4, x7, x8, x9 => if x9 < x8 then (if 0 ≤ x9 then (if x9 < (x7.length : Int) then (if x3.length < 8796093022208 then (super_Layout.l0 k (x3 ++ [(⟨x4, rd x7 x9⟩ : S95)]) (wrap64 (x4 + (rd x7 x9))) x7 x8 (wrap64 (x9 + 1))) else (none)) else (none)) else (none)) else (some x3)
def super_Layout.f (k : Nat) (l0 : List Int) : Option ((List (S95))) := super_Layout.l0 k ([] : List (S95)) 4 l0 (l0.length : Int) 0
theorem super_Layout.mono_l : ∀ k, (∀ y0 y1 y2 y3 y4, LeO (super_Layout.l0 k y0 y1 y2 y3 y4) (super_Layout.l0 (k + 1) y0 y1 y2 y3 y4))
  | 0 => fun _ _ _ _ _ r h => by simp [super_Layout.l0] at h
  | k + 1 => by
    have ih0 := super_Layout.mono_l k
    · intro y0 y1 y2 y3 y4
      unfold super_Layout.l0
      repeat' first
      | (with_reducible exact ih0 _ _ _ _ _)
      | (with_reducible exact LeO.refl _)
      | (with_reducible exact LeO.none _)
      | (with_reducible refine LeO.ite ?_ ?_)
      | (with_reducible refine LeO.bind ?_ (fun _ => ?_))
      | exact ih0 _ _ _ _ _
      | exact LeO.none _
      | refine LeO.ite ?_ ?_
      | refine LeO.bind ?_ (fun _ => ?_)
theorem super_Layout.mono : ∀ a0 k, LeO (super_Layout.f k a0) (super_Layout.f (k + 1) a0) := by
  intro a0 k
  have ih0 := super_Layout.mono_l k
  unfold super_Layout.f
  repeat' first
      | (with_reducible exact ih0 _ _ _ _ _)
      | (with_reducible exact LeO.refl _)
      | (with_reducible exact LeO.none _)
      | (with_reducible refine LeO.ite ?_ ?_)
      | (with_reducible refine LeO.bind ?_ (fun _ => ?_))
      | exact ih0 _ _ _ _ _
      | exact LeO.none _
      | refine LeO.ite ?_ ?_
      | refine LeO.bind ?_ (fun _ => ?_)
set_option maxHeartbeats 8000000 in
set_option maxRecDepth 100000 in
theorem super_Layout.calls (k : Nat) (A0 : Option Addr) (c0 : Nat) (l0 : List Int) (r : List (S95)) (w : World) (hr0 : Kd.C (Kd.int .i64) w A0 l0.length l0) (hc0 : l0.length ≤ c0) (h : super_Layout.f k l0 = some r) :
    Calls Try.prog 69 #[.slice A0 l0.length c0] w fun e w' => ∃ v0_ : Value, e = .returned (v0_) ∧ Kd.R k95 95 w' w.heap.size (fun _ => True) v0_ r ∧ Below w.heap.size w w' := by
  have hu95 := Try.underlying95
  have HR0 := Aside0.mk hr0
  have HC0 := Aside0.mk hc0
  clear hr0 hc0
  have HB := Aside0.mk (Below.refl w.heap.size w)
  have H : (super_Layout.l0 k ([] : List (S95)) 4 l0 (l0.length : Int) 0) = some r := h
  clear h
  have H' := Aside0.mk H
  clear H
  go_enter Try.func69, Try.ntmps69
  go_wp2
  go_loopg [3, 4, 9] k (fun kq v3 v4 v9 w' => ∃ (x3_1 : List (S95)) (x4_1 : Int) (x9_1 : Int), v4 = .int .i64 x4_1 ∧ v9 = .int .i64 x9_1 ∧ Aside0 (super_Layout.l0 kq x3_1 x4_1 l0 (l0.length : Int) x9_1 = some r) ∧ Aside0 (kq ≤ k) ∧ Aside0 (Kd.R k95 95 w' w.heap.size (fun _ => True) v3 x3_1) ∧ Aside0 (Below w.heap.size w w'))
  case atStart => exact ⟨(([] : List (S95))), (4), (0), (by first | rfl | (simp; done) | (simp [*]; done)), (by first | rfl | (simp; done) | (simp [*]; done)), H', ⟨Nat.le_refl _⟩, ⟨by first | exact Kd.R_nil _ _ _ _ _ | exact Kd.N_nil _ _ _ _ _ | exact Kd.V_nil _ _ _ _ _ | exact Kd.Q_nil _ _ _ _ _ | exact Kd.S_nil _ _ _ _ _⟩, ⟨by repeat (first | (with_reducible first | exact HB.out | apply below_alloc | apply pw_below_drewN | apply below_drew1) | exact HB.out)⟩⟩
  case round =>
    clear H'
    obtain ⟨x3_1, x4_1, x9_1, rfl, rfl, HA, HK1, HO_3, HB⟩ := hrel
    cases gk with
    | zero => exact absurd HA.out (by simp [super_Layout.l0])
    | succ k1 =>
      have H := HA.out
      clear HA
      simp only [super_Layout.l0] at H
      by_cases c2 : x9_1 < (l0.length : Int)
      · rw [if_pos c2] at H
        have c2b0 : decide (x9_1 < (l0.length : Int)) = true := decide_eq_true c2
        clear c2
        by_cases c3 : 0 ≤ x9_1
        · rw [if_pos c3] at H
          have c3b0 : decide (0 ≤ x9_1) = true := decide_eq_true c3
          clear c3
          by_cases c4 : x9_1 < (l0.length : Int)
          · rw [if_pos c4] at H
            have c4b0 : decide (x9_1 < (l0.length : Int)) = true := decide_eq_true c4
            clear c4
            by_cases c5 : x3_1.length < 8796093022208
            · rw [if_pos c5] at H
              have LMc5 := Aside0.mk c5
              clear c5
              obtain ⟨y102, hy102⟩ : ∃ y_ : List (S95), y_ = (x3_1 ++ [(⟨x4_1, rd l0 x9_1⟩ : S95)]) := ⟨_, rfl⟩
              replace H : (super_Layout.l0 k1 y102 (wrap64 (x4_1 + (rd l0 x9_1))) l0 (l0.length : Int) (wrap64 (x9_1 + 1))) = some r := by first | (rw [hy102]; with_reducible exact H) | (have H2_ := (Option.bind_some _ _).symm.trans H; rw [hy102]; with_reducible exact H2_) | (have H2_ := (Option.bind_some _ _).symm.trans H; with_reducible exact H2_) | with_reducible exact H | (rw [hy102]; exact H) | exact H
              have Ny102 := Aside0.mk hy102
              clear hy102
              have H' := Aside0.mk H
              clear H
              have p101 : 0 ≤ (x9_1 : Int) := of_decide_eq_true (by first | (with_reducible assumption) | assumption)
              have q101 : x9_1 < (l0.length : Int) := of_decide_eq_true (by first | (with_reducible assumption) | assumption)
              obtain ⟨ad101, e101, hx101_0⟩ := Kd.at_int HR0.out x9_1 p101 q101
              cases e101
              replace hx101_0 := (HB.out.cell (World.block_lt_of_cell? w _ hx101_0)).trans hx101_0
              replace p101 := eq_true p101
              replace q101 := eq_true q101
              go_wp2_with (first | ((with_reducible refine gate_builtin (b := .append) (xs := #[.tmp 13, .tmp 17]) rfl ?_); at_builtin; refine Kd.R_append k95 (w0 := w) w.heap.size rfl (.tmp 13) (.tmp 17) 78 95 (.agg #[(.int .i64 0), (.int .i64 0)]) 16 rfl Try.underlying78 info95 rfl (by decide) (by omega) u3 x3_1 (⟨x4_1, rd l0 x9_1⟩ : S95) [.int .i64 x4_1, .int .i64 (rd l0 x9_1)] (fun _ => True) (fun _ => False) rfl rfl ?aP (fun _ hk => hk.elim) ?aF ?aO ?aB ?aS ?aL ?_; (case aP => exact k95_mkM _ _ _ (⟨x4_1, rd l0 x9_1⟩ : S95)); (case aB => exact (by repeat (first | (with_reducible first | exact HB.out | apply below_alloc | apply pw_below_drewN | apply below_drew1) | exact HB.out))); (case aF => exact (fun _ _ => trivial)); (case aO => exact (by (with_reducible repeat (first | apply Kd.R_alloc | apply Kd.R_drewN | apply Kd.R_drew)); exact HO_3.out)); (case aS => exact (below_size (by repeat (first | (with_reducible first | exact HB.out | apply below_alloc | apply pw_below_drewN | apply below_drew1) | exact HB.out)))); (case aL => have := LMc5.out; omega); intro v103 w6 ho hb hg hat; rw [← Ny102.out] at ho; have n0_ := Aside0.mk (hb); have n1_ := Aside0.mk (ho); clear HB; clear HO_3; have HB := n0_; have HO104 := n1_; clear n0_ n1_; clear ho hb hg hat))
              go_roundg k1
              case measure => have := HK1.out; omega
              case rel => exact ⟨(y102), (wrap64 (x4_1 + (rd l0 x9_1))), (wrap64 (x9_1 + 1)), (by first | rfl | (simp; done) | (simp [*]; done)), (by first | rfl | (simp; done) | (simp [*]; done)), H', ⟨by have := HK1.out; omega⟩, ⟨by (with_reducible repeat (first | apply Kd.R_alloc | apply Kd.R_drewN | apply Kd.R_drew)); exact HO104.out⟩, ⟨by repeat (first | (with_reducible first | exact HB.out | apply below_alloc | apply pw_below_drewN | apply below_drew1) | exact HB.out)⟩⟩
            · rw [if_neg c5] at H
              exact absurd H (by simp)
          · rw [if_neg c4] at H
            exact absurd H (by simp)
        · rw [if_neg c3] at H
          exact absurd H (by simp)
      · rw [if_neg c2] at H
        have c2b0 : decide (x9_1 < (l0.length : Int)) = false := decide_eq_false c2
        clear c2
        obtain rfl := Option.some.inj H
        go_wp2
        go_ret
        exact ⟨_, by first | rfl | (simp [errW_none, errW_some] <;> rfl) | (simp [*, errW_none, errW_some] <;> rfl), by (with_reducible repeat (first | apply Kd.R_alloc | apply Kd.R_drewN | apply Kd.R_drew)); exact HO_3.out, by repeat (first | (with_reducible first | exact HB.out | apply below_alloc | apply pw_below_drewN | apply below_drew1) | exact HB.out)⟩

/-! ### record_layout: function 44 -/
def record_layout.f (k : Nat)  : Option ((List (S95))) := (super_Layout.f k (([4, 8, 8, 4, 4, 4, 4, 4] : List Int))).bind fun t104 => (some t104)
theorem record_layout.mono : ∀ k, LeO (record_layout.f k ) (record_layout.f (k + 1) ) := by
  intro  k
  unfold record_layout.f
  repeat' first
      | (with_reducible exact super_Layout.mono _ _)
      | (with_reducible exact LeO.refl _)
      | (with_reducible exact LeO.none _)
      | (with_reducible refine LeO.ite ?_ ?_)
      | (with_reducible refine LeO.bind ?_ (fun _ => ?_))
      | exact super_Layout.mono _ _
      | exact LeO.none _
      | refine LeO.ite ?_ ?_
      | refine LeO.bind ?_ (fun _ => ?_)
set_option maxHeartbeats 8000000 in
set_option maxRecDepth 100000 in
theorem record_layout.calls (k : Nat)  (r : List (S95)) (w : World) (h : record_layout.f k  = some r) :
    Calls Try.prog 44 #[] w fun e w' => ∃ v0_ : Value, e = .returned (v0_) ∧ Kd.R k95 95 w' w.heap.size (fun _ => True) v0_ r ∧ Below w.heap.size w w' := by
  have HB := Aside0.mk (Below.refl w.heap.size w)
  have H : ((super_Layout.f k (([4, 8, 8, 4, 4, 4, 4, 4] : List Int))).bind fun t104 => (some t104)) = some r := h
  clear h
  obtain ⟨y101, hy101⟩ : ∃ y_ : List Int, y_ = (([4, 8, 8, 4, 4, 4, 4, 4] : List Int)) := ⟨_, rfl⟩
  replace H : ((super_Layout.f k y101).bind fun t104 => (some t104)) = some r := by first | (rw [hy101]; with_reducible exact H) | (have H2_ := (Option.bind_some _ _).symm.trans H; rw [hy101]; with_reducible exact H2_) | (have H2_ := (Option.bind_some _ _).symm.trans H; with_reducible exact H2_) | with_reducible exact H | (rw [hy101]; exact H) | exact H
  have Ny101 := Aside0.mk hy101
  clear hy101
  replace H := Option.bind_eq_some_iff.mp H
  obtain ⟨t104, A10, H⟩ := H
  replace H : (some t104) = some r := H
  have A1 := Aside0.mk A10
  clear A10
  obtain rfl := Option.some.inj H
  go_enter Try.func44, Try.ntmps44
  go_wp2_with (first | ((with_reducible refine gate_dst (N := 1) rfl ?_); refine Kd.R_lit (Kd.int .i64) _ 3 ?hg (N := 1) ?hd (xs := ([4, 8, 8, 4, 4, 4, 4, 4] : List Int)) (inner := [.int .i64 4, .int .i64 8, .int .i64 8, .int .i64 4, .int .i64 4, .int .i64 4, .int .i64 4, .int .i64 4]) (ok := fun _ => True) (okp := fun _ => True) ?hr ?hp (fun _ hk => hk) trivial (Below.refl _ _) (Nat.le_refl _) (by simp) ?_; (case hd => rfl); (case hg => rfl); (case hr => first | (go_simp; done) | (go_simp; rfl)); (case hp => exact (Reps.one (show Kd.M (Kd.int .i64) _ _ _ 4 [.int .i64 4] from rfl) (Reps.one (show Kd.M (Kd.int .i64) _ _ _ 8 [.int .i64 8] from rfl) (Reps.one (show Kd.M (Kd.int .i64) _ _ _ 8 [.int .i64 8] from rfl) (Reps.one (show Kd.M (Kd.int .i64) _ _ _ 4 [.int .i64 4] from rfl) (Reps.one (show Kd.M (Kd.int .i64) _ _ _ 4 [.int .i64 4] from rfl) (Reps.one (show Kd.M (Kd.int .i64) _ _ _ 4 [.int .i64 4] from rfl) (Reps.one (show Kd.M (Kd.int .i64) _ _ _ 4 [.int .i64 4] from rfl) (Reps.one (show Kd.M (Kd.int .i64) _ _ _ 4 [.int .i64 4] from rfl) (Reps.none _ _)))))))))); intro v102 w2 ho3 hb hg_ hnew_; clear hg_ hnew_; (first | rw [← Ny101.out] at ho3 | (simp only [Int.reduceToNat] at ho3; rw [← Ny101.out] at ho3)); have n0_ := Aside0.mk (Kd.R_lower ho3 (below_size (by repeat (first | (with_reducible first | exact HB.out | apply below_alloc | apply pw_below_drewN | apply below_drew1) | exact HB.out)))); have n1_ := Aside0.mk (below_step (by repeat (first | (with_reducible first | exact HB.out | apply below_alloc | apply pw_below_drewN | apply below_drew1) | exact HB.out)) hb); clear HB; have HO103 := n0_; have HB := n1_; clear n0_ n1_; clear hb ho3; obtain ⟨Ao4, co4, eo4⟩ := Kd.R_slice HO103.out; subst eo4) | ((with_reducible refine gate_callee (f := 69) rfl ?_); refine goesL_ (some 2) rfl rfl Try.func69 (by kernel_rfl) rfl #[.slice Ao4 y101.length co4] rfl (by (try simp only [List.map_toArray, List.map_cons, List.map_nil]); first | done | rfl | (simp only [List.length_drop, List.length_take]; rfl)) ?_; (with_reducible refine (super_Layout.calls k _ _ y101 t104 _ ?side1 ?side2 A1.out).mono ?_); (case side1 => repeat (first | exact (Kd.R_reads' HO103.out).2.2 | (with_reducible refine Kd.C_alloc ?_ _) | (with_reducible refine Kd.C_drewN ?_ _) | (with_reducible refine Kd.C_drew ?_))); (case side2 => exact (Kd.R_reads' HO103.out).2.1); rintro e w5 ⟨v105, rfl, ho0, hb⟩; refine ⟨_, rfl, ?_⟩; have n0_ := Aside0.mk (Kd.R_below (by (with_reducible repeat (first | apply Kd.R_alloc | apply Kd.R_drewN | apply Kd.R_drew)); exact HO103.out) hb); have n1_ := Aside0.mk (Kd.R_lower ho0 (below_size (by repeat (first | (with_reducible first | exact HB.out | apply below_alloc | apply pw_below_drewN | apply below_drew1) | exact HB.out)))); have n2_ := Aside0.mk (below_step (by repeat (first | (with_reducible first | exact HB.out | apply below_alloc | apply pw_below_drewN | apply below_drew1) | exact HB.out)) hb); clear HO103; clear HB; have HO103 := n0_; have HO106 := n1_; have HB := n2_; clear n0_ n1_ n2_; (try clear hb); (try clear hb2); (try clear hk); (try clear hi); (try clear ho0)))
  go_ret
  exact ⟨_, by first | rfl | (simp [errW_none, errW_some] <;> rfl) | (simp [*, errW_none, errW_some] <;> rfl), by (with_reducible repeat (first | apply Kd.R_alloc | apply Kd.R_drewN | apply Kd.R_drew)); exact HO106.out, by repeat (first | (with_reducible first | exact HB.out | apply below_alloc | apply pw_below_drewN | apply below_drew1) | exact HB.out)⟩

/-! ### record_layout: function 44, what it comes to -/
def recLay : List S95 := [⟨4, 4⟩, ⟨8, 8⟩, ⟨16, 8⟩, ⟨24, 4⟩, ⟨28, 4⟩, ⟨32, 4⟩, ⟨36, 4⟩, ⟨40, 4⟩]
theorem record_layout_ok : Ev (fun k => record_layout.f k) recLay := by
  refine Ev.of (fun k => record_layout.mono k) (k := 10) ?_
  unfold record_layout.f super_Layout.f
  simp [super_Layout.l0, rd, recLay, w64']
  try decide

end Go.Proofs.Ytaaemamcdhebhaa.PRE
