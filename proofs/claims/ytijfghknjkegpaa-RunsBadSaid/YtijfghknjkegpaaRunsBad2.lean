/- RunsBad, walked: what the printed contracts of runs.Of, runs.List, woodcutkeep.Runs, twin and wakes leave. -/
import Derived.Test.YtijfghknjkegpaaRunsBad1
import Derived.Test.YtijfghknjkegpaaB0
import Derived.WalkSpells
namespace Go.Proofs.Ytijfghknjkegpaa.PRunsBad
open Go.RowKit Go.Proofs.YtijfghknjkegpaaW.PrintWords Go.Proofs.YtijfghknjkegpaaW.PrintLast Go.Proofs.YtijfghknjkegpaaW.PrintMore
set_option linter.unusedVariables false
set_option linter.unusedSimpArgs false
/-- Two runs that lie in memory, cell by cell. -/
theorem two_C {w : World} {g : Nat} {a b : S40} (h0 : w.cell? ⟨g, 0, none⟩ = some (.int .i64 a.f0)) (h1 : w.cell? ⟨g, 1, none⟩ = some (.int .i64 a.f1)) (h2 : w.cell? ⟨g, 2, none⟩ = some (.int .i64 b.f0)) (h3 : w.cell? ⟨g, 3, none⟩ = some (.int .i64 b.f1)) :
    Kd.C k40 w (some ⟨g, 0, none⟩) 2 [a, b] := by
  refine ⟨rfl, by omega, fun _ => ⟨_, rfl, fun j p hj => ?_⟩⟩
  match j, hj with
  | 0, hj =>
    injection hj with hj; subst hj
    refine ⟨_, rfl, k40_mk w a, fun i u hi => ?_⟩
    match i, hi with
    | 0, hi => injection hi with hi; subst hi; exact h0
    | 1, hi => injection hi with hi; subst hi; exact h1
    | n + 2, hi => simp at hi
  | 1, hj =>
    injection hj with hj; subst hj
    refine ⟨_, rfl, k40_mk w b, fun i u hi => ?_⟩
    match i, hi with
    | 0, hi => injection hi with hi; subst hi; exact h2
    | 1, hi => injection hi with hi; subst hi; exact h3
    | n + 2, hi => simp at hi
  | n + 2, hj => simp at hj
/-- A row of two runs that a call made, laid open. -/
theorem two_R {w : World} {base : Nat} {v : Value} {a b : S40} (h : Kd.R k40 40 w base (fun _ => True) v [a, b]) :
    ∃ g c, v = .slice (some ⟨g, 0, none⟩) 2 c ∧ 2 ≤ c ∧ base ≤ g ∧ g < w.heap.size ∧ (∀ j, w.frozen? ⟨g, j, none⟩ = false) ∧
      w.cell? ⟨g, 0, none⟩ = some (.int .i64 a.f0) ∧ w.cell? ⟨g, 1, none⟩ = some (.int .i64 a.f1) ∧ w.cell? ⟨g, 2, none⟩ = some (.int .i64 b.f0) ∧ w.cell? ⟨g, 3, none⟩ = some (.int .i64 b.f1) := by
  obtain ⟨g, c, hv, hb, hg, cells, hh⟩ := Kd.R_form h (by simp)
  subst hv
  obtain ⟨A, c', he, hc, hC⟩ := Kd.R_reads h
  injection he with e1 e2 e3
  subst e1; subst e3
  obtain ⟨ad0, x0, y0, z0⟩ := at_T40 hC 0 (by omega) (by simp)
  obtain ⟨ad1, x1, y1, z1⟩ := at_T40 hC 1 (by omega) (by simp)
  injection x0 with x0; injection x1 with x1
  subst x0; subst x1
  refine ⟨g, c, rfl, by simpa using hc, hb, hg, fun j => blk_frozen hh j, ?_, ?_, ?_, ?_⟩
  · simpa [Addr.add, rd_T40] using y0
  · simpa [Addr.add, rd_T40] using z0
  · simpa [Addr.add, rd_T40] using y1
  · simpa [Addr.add, rd_T40] using z1
theorem urem (a : Int) (m : Int) (hm : 0 < m) (h2 : m ≤ 1000) : 0 ≤ wrap64 (Int.tmod (IntKind.u64.wrap a) m) ∧ wrap64 (Int.tmod (IntKind.u64.wrap a) m) < m ∧ 0 ≤ Int.tmod (IntKind.u64.wrap a) m ∧ Int.tmod (IntKind.u64.wrap a) m < m := by
  have h0 : 0 ≤ IntKind.u64.wrap a := by
    have e : IntKind.u64.wrap a = a % 18446744073709551616 := by unfold IntKind.wrap; simp [IntKind.signed, IntKind.bits]
    omega
  rw [Int.tmod_eq_emod_of_nonneg h0]
  have h1 := Int.emod_nonneg (IntKind.u64.wrap a) (show m ≠ 0 by omega)
  have h3 := Int.emod_lt_of_pos (IntKind.u64.wrap a) hm
  rw [w64 (by omega) (by omega)]
  exact ⟨h1, h3, h1, h3⟩
theorem good_list (x n : Int) (h0 : 0 ≤ x) (h1 : x < 400) (h2 : 2 ≤ n) (h3 : n < 52) : runs_List.f 5000 [⟨x, n⟩, ⟨x + n, 1⟩] = some (span x n.toNat ++ [x + n], 0) := by
  rw [list_all _ (by intro r hr; simp at hr; rcases hr with rfl | rfl <;> exact ⟨WalkArith.wf_i64 (by simp only []; omega), WalkArith.wf_i64 (by simp only []; omega)⟩) (by simp) _ (by simp)]
  simp only [listGo]
  rw [if_neg (by omega), if_neg (by omega)]
  simp [resL, span]
theorem bad_list (a b : S40) (ha : (Lit.int .i64 a.f0).wf = true ∧ (Lit.int .i64 a.f1).wf = true) (hb : (Lit.int .i64 b.f0).wf = true ∧ (Lit.int .i64 b.f1).wf = true)
    (h : (a.f1 < 1 ∨ a.f0 < 0 ∨ 512 < a.f0 + a.f1) ∨ (b.f1 < 1 ∨ b.f0 < a.f0 + a.f1 ∨ 512 < b.f0 + b.f1)) : runs_List.f 5000 [a, b] = some ([], 1) := by
  rw [list_all _ (by intro r hr; simp at hr; rcases hr with rfl | rfl; exact ha; exact hb) (by simp) _ (by simp)]
  simp only [listGo]
  rcases h with h | h
  · rw [if_pos h]; rfl
  · by_cases c : a.f1 < 1 ∨ a.f0 < 0 ∨ 512 < a.f0 + a.f1
    · rw [if_pos c]; rfl
    · rw [if_neg c, if_pos h]; rfl
theorem of_zero (l : List Int) (h : l.length < 100) : runs_Of.f 5000 l 0 = some ([], 1) := by
  rw [of_all _ _ (by omega) _ (by omega)]; rfl
theorem of_bad (l : List Int) (most : Int) (h : l.length < 100) (hb : ofGo most none [] l = none) : runs_Of.f 5000 l most = some ([], 1) := by
  rw [of_all _ _ (by omega) _ (by omega), hb]
  by_cases c : most < 1
  · rw [if_pos c]
  · rw [if_neg c]; rfl
theorem of_some (l : List Int) (most : Int) (h : l.length < 100) : ∃ r e, runs_Of.f 5000 l most = some (r, e) := ⟨_, _, of_all _ _ (by omega) _ (by omega)⟩
theorem ints1_C {w : World} {g : Nat} {a : Int} (h0 : w.cell? ⟨g, 0, none⟩ = some (.int .i64 a)) : Kd.C (Kd.int .i64) w (some ⟨g, 0, none⟩) 1 [a] := by
  refine ⟨rfl, by omega, fun _ => ⟨_, rfl, fun j p hj => ⟨[.int .i64 p], rfl, rfl, fun i u hi => ?_⟩⟩⟩
  match j, i, hj, hi with
  | 0, 0, hj, hi => injection hj with hj; injection hi with hi; subst hj; subst hi; exact h0
  | 0, n + 1, hj, hi => simp at hi
  | n + 1, i, hj, hi => simp at hj
theorem ints2_C {w : World} {g : Nat} {a b : Int} (h0 : w.cell? ⟨g, 0, none⟩ = some (.int .i64 a)) (h1 : w.cell? ⟨g, 1, none⟩ = some (.int .i64 b)) : Kd.C (Kd.int .i64) w (some ⟨g, 0, none⟩) 2 [a, b] := by
  refine ⟨rfl, by omega, fun _ => ⟨_, rfl, fun j p hj => ⟨[.int .i64 p], rfl, rfl, fun i u hi => ?_⟩⟩⟩
  match j, i, hj, hi with
  | 0, 0, hj, hi => injection hj with hj; injection hi with hi; subst hj; subst hi; exact h0
  | 1, 0, hj, hi => injection hj with hj; injection hi with hi; subst hj; subst hi; exact h1
  | 0, n + 1, hj, hi => simp at hi
  | 1, n + 1, hj, hi => simp at hi
  | n + 2, i, hj, hi => simp at hj
theorem bcell {W w1 : World} {B : Nat} (hb : Below B W w1) : (∀ b o, b < B → w1.cell? ⟨b, o, none⟩ = W.cell? ⟨b, o, none⟩) :=
  fun b o h => hb.cell (p := ⟨b, o, none⟩) h
set_option maxHeartbeats 2000000 in
set_option maxRecDepth 100000 in
theorem bad_0 (a0 a1 a2 : Int) (w : World) (m0 : ((IntKind.u64.wrap a2).tmod 6 == 0) = true) (m1 : ((IntKind.u64.wrap a2).tmod 6 == 1) = false) (m2 : ((IntKind.u64.wrap a2).tmod 6 == 2) = false) (m3 : ((IntKind.u64.wrap a2).tmod 6 == 3) = false) (m4 : ((IntKind.u64.wrap a2).tmod 6 == 4) = false) :
    Calls Try.prog 6 #[.int .i64 a0, .int .i64 a1, .int .i64 a2] w fun e w' => e = .returned (.bool true) ∧ Below w.heap.size w w' := by
  obtain ⟨-, -, hx0, hx1⟩ := urem a0 400 (by omega) (by omega)
  obtain ⟨-, -, hy0, hy1⟩ := urem a1 50 (by omega) (by omega)
  go_enter Try.func6, Try.ntmps6
  go_wp2_with fail
  generalize (IntKind.u64.wrap a0).tmod 400 = x at *
  generalize hn : 2 + (IntKind.u64.wrap a1).tmod 50 = n at *
  have hn0 : 2 ≤ n := by omega
  have hn1 : n < 52 := by omega
  clear hn hy0 hy1
  refine (woodcutlaw21_twin.calls (some ⟨w.heap.size, 0, none⟩) 2 [⟨x, n⟩, ⟨x + n, 1⟩] [⟨x, n⟩, ⟨x + n, 1⟩] _ (two_C (by go_simp) (by go_simp) (by go_simp) (by go_simp)) (Nat.le_refl 2) (by unfold woodcutlaw21_twin.f; rfl)).mono ?_
  rintro e w1 ⟨v8, rfl, r8, hb1⟩
  obtain ⟨g, c8, rfl, hc8, hg0, hg1, hf, d0, d1, d2, d3⟩ := two_R r8
  have C0 : w1.cell? ⟨w.heap.size, 0, none⟩ = some (.int .i64 x) := by rw [bcell hb1 _ _ (by simp)]; go_simp
  have C1 : w1.cell? ⟨w.heap.size, 1, none⟩ = some (.int .i64 n) := by rw [bcell hb1 _ _ (by simp)]; go_simp
  have C2 : w1.cell? ⟨w.heap.size, 2, none⟩ = some (.int .i64 (x + n)) := by rw [bcell hb1 _ _ (by simp)]; go_simp
  have C3 : w1.cell? ⟨w.heap.size, 3, none⟩ = some (.int .i64 1) := by rw [bcell hb1 _ _ (by simp)]; go_simp
  have HB1 := Aside0.mk (((Below.refl w.heap.size w).alloc (Nat.le_refl _) _).trans (hb1.mono (by simp)))
  have hgw : w.heap.size < g := by simp at hg0; omega
  have hw1 : w.heap.size < w1.heap.size := by omega
  clear r8 hg0 hb1
  go_wp2_with fail
  refine (runs_List.calls 5000 (some ⟨w.heap.size, 0, none⟩) 2 [⟨x, n⟩, ⟨x + n, 1⟩] (span x n.toNat ++ [x + n]) 0 _ (two_C (by go_simp) (by go_simp) (by go_simp) (by go_simp)) (Nat.le_refl 2) (good_list x n hx0 hx1 hn0 hn1)).mono ?_
  rintro e w2 ⟨v10, rfl, r10, hb2⟩
  have CB : Kd.C k40 w2 (some ⟨g, 0, none⟩) 2 [⟨x, n⟩, ⟨x + n - 1, 1⟩] := Kd.C_below (two_C (by go_simp) (by go_simp) (by go_simp) (by go_simp)) hb2
  have CG : Kd.C k40 w2 (some ⟨w.heap.size, 0, none⟩) 2 [⟨x, n⟩, ⟨x + n, 1⟩] := Kd.C_below (two_C (by go_simp) (by go_simp) (by go_simp) (by go_simp)) hb2
  have CL : Kd.C (Kd.int .i64) w2 (some ⟨w1.heap.size, 0, none⟩) 2 [x, x + 1] := Kd.C_below (ints2_C (by go_simp) (by go_simp)) hb2
  have HB2 := Aside0.mk (below_then (below_alloc (Below.setCell HB1.out (Nat.le_of_lt hgw) _) _) (by simp; omega) hb2)
  have CB := Aside0.mk CB
  have CG := Aside0.mk CG
  have CL := Aside0.mk CL
  obtain ⟨A10, c10, rfl, -, -⟩ := Kd.R_reads r10
  have hl10 : (span x n.toNat ++ [x + n]).length = n.toNat + 1 := by simp [span_len]
  rw [hl10]
  clear r10 hb2 hl10 C0 C1 C2 C3 d0 d1 d2 d3 hf
  go_wp2_with fail
  refine (runs_List.calls 5000 (some ⟨g, 0, none⟩) c8 [⟨x, n⟩, ⟨x + n - 1, 1⟩] [] 1 _ CB.out hc8 (bad_list _ _ ⟨WalkArith.wf_i64 (by simp only []; omega), WalkArith.wf_i64 (by simp only []; omega)⟩ ⟨WalkArith.wf_i64 (by simp only []; omega), WalkArith.wf_i64 (by simp only []; omega)⟩ (by simp only []; omega))).mono ?_
  rintro e w3 ⟨v12, rfl, r12, hb3⟩
  obtain ⟨A12, c12, rfl, -, -⟩ := Kd.R_reads r12
  rw [show ([] : List Int).length = 0 from rfl]
  have CG3 := Aside0.mk (Kd.C_below CG.out hb3)
  have CL3 := Aside0.mk (Kd.C_below CL.out hb3)
  have HB3 := Aside0.mk (below_then HB2.out HB2.out.size hb3)
  clear r12 hb3 CB CG CL HB2
  go_wp2_with fail
  obtain ⟨r14, e14, h14⟩ := of_some [x, x + 1] n (by simp)
  refine (runs_Of.calls 5000 (some ⟨w1.heap.size, 0, none⟩) 2 [x, x + 1] n r14 e14 _ CL3.out (Nat.le_refl 2) h14).mono ?_
  rintro e w4 ⟨v14, rfl, r14', hb4⟩
  have CG4 := Aside0.mk (Kd.C_below CG3.out hb4)
  have CL4 := Aside0.mk (Kd.C_below CL3.out hb4)
  have HB4 := Aside0.mk (below_then HB3.out HB3.out.size hb4)
  clear r14' hb4 CG3 CL3 HB3
  go_wp2_with fail
  refine (runs_Of.calls 5000 (some ⟨w1.heap.size, 0, none⟩) 2 [x, x + 1] 0 [] 1 _ CL4.out (Nat.le_refl 2) (of_zero _ (by simp))).mono ?_
  rintro e w5 ⟨v15, rfl, r15, hb5⟩
  have CG5 := Aside0.mk (Kd.C_below CG4.out hb5)
  have HB5 := Aside0.mk (below_then HB4.out HB4.out.size hb5)
  obtain ⟨A15, c15, rfl, -, -⟩ := Kd.R_reads r15
  rw [show ([] : List S40).length = 0 from rfl]
  clear r15 hb5 CG4 CL4 HB4
  have hlen : (((n.toNat + 1 : Nat) : Int) == n + 1) = true := by rw [beq_iff_eq]; omega
  go_wp2_with fail
  refine (woodcutkeep_Runs.calls 5000 (some ⟨w.heap.size, 0, none⟩) 2 [⟨x, n⟩, ⟨x + n, 1⟩] (some ⟨w5.heap.size, 0, none⟩) 2 [⟨x, n⟩, ⟨x + n, 1⟩] true _ (Kd.C_alloc CG5.out _) (Nat.le_refl 2) (two_C (by go_simp) (by go_simp) (by go_simp) (by go_simp)) (Nat.le_refl 2) (by rw [runs_all _ _ (by simp) _ (by simp)]; simp)).mono ?_
  rintro e w6 ⟨rfl, hd6⟩
  have HB6 := Aside0.mk (below_then (below_alloc HB5.out _) (by have := HB5.out.size; simp; omega) hd6.below)
  clear hd6 CG5 HB5
  go_wp2_with fail
  refine (woodcutlaw21_wakes.calls 1000 true _ (wakes_all 1000 (by omega))).mono ?_
  rintro e w7 ⟨rfl, hb7⟩
  have HB7 := Aside0.mk (below_then HB6.out HB6.out.size hb7)
  clear hb7 HB6
  go_wp2_with fail
  go_ret
  exact ⟨rfl, HB7.out⟩
set_option maxHeartbeats 2000000 in
set_option maxRecDepth 100000 in
theorem bad_1 (a0 a1 a2 : Int) (w : World) (m0 : ((IntKind.u64.wrap a2).tmod 6 == 0) = false) (m1 : ((IntKind.u64.wrap a2).tmod 6 == 1) = true) (m2 : ((IntKind.u64.wrap a2).tmod 6 == 2) = false) (m3 : ((IntKind.u64.wrap a2).tmod 6 == 3) = false) (m4 : ((IntKind.u64.wrap a2).tmod 6 == 4) = false) :
    Calls Try.prog 6 #[.int .i64 a0, .int .i64 a1, .int .i64 a2] w fun e w' => e = .returned (.bool true) ∧ Below w.heap.size w w' := by
  obtain ⟨-, -, hx0, hx1⟩ := urem a0 400 (by omega) (by omega)
  obtain ⟨-, -, hy0, hy1⟩ := urem a1 50 (by omega) (by omega)
  go_enter Try.func6, Try.ntmps6
  go_wp2_with fail
  generalize (IntKind.u64.wrap a0).tmod 400 = x at *
  generalize hn : 2 + (IntKind.u64.wrap a1).tmod 50 = n at *
  have hn0 : 2 ≤ n := by omega
  have hn1 : n < 52 := by omega
  clear hn hy0 hy1
  refine (woodcutlaw21_twin.calls (some ⟨w.heap.size, 0, none⟩) 2 [⟨x, n⟩, ⟨x + n, 1⟩] [⟨x, n⟩, ⟨x + n, 1⟩] _ (two_C (by go_simp) (by go_simp) (by go_simp) (by go_simp)) (Nat.le_refl 2) (by unfold woodcutlaw21_twin.f; rfl)).mono ?_
  rintro e w1 ⟨v8, rfl, r8, hb1⟩
  obtain ⟨g, c8, rfl, hc8, hg0, hg1, hf, d0, d1, d2, d3⟩ := two_R r8
  have C0 : w1.cell? ⟨w.heap.size, 0, none⟩ = some (.int .i64 x) := by rw [bcell hb1 _ _ (by simp)]; go_simp
  have C1 : w1.cell? ⟨w.heap.size, 1, none⟩ = some (.int .i64 n) := by rw [bcell hb1 _ _ (by simp)]; go_simp
  have C2 : w1.cell? ⟨w.heap.size, 2, none⟩ = some (.int .i64 (x + n)) := by rw [bcell hb1 _ _ (by simp)]; go_simp
  have C3 : w1.cell? ⟨w.heap.size, 3, none⟩ = some (.int .i64 1) := by rw [bcell hb1 _ _ (by simp)]; go_simp
  have HB1 := Aside0.mk (((Below.refl w.heap.size w).alloc (Nat.le_refl _) _).trans (hb1.mono (by simp)))
  have hgw : w.heap.size < g := by simp at hg0; omega
  have hw1 : w.heap.size < w1.heap.size := by omega
  clear r8 hg0 hb1
  go_wp2_with fail
  go_region
  go_wp2_with fail
  refine (runs_List.calls 5000 (some ⟨w.heap.size, 0, none⟩) 2 [⟨x, n⟩, ⟨x + n, 1⟩] (span x n.toNat ++ [x + n]) 0 _ (two_C (by go_simp) (by go_simp) (by go_simp) (by go_simp)) (Nat.le_refl 2) (good_list x n hx0 hx1 hn0 hn1)).mono ?_
  rintro e w2 ⟨v10, rfl, r10, hb2⟩
  have CB : Kd.C k40 w2 (some ⟨g, 0, none⟩) 2 [⟨x + n, 1⟩, ⟨x, n⟩] := Kd.C_below (two_C (by go_simp) (by go_simp) (by go_simp) (by go_simp)) hb2
  have CG : Kd.C k40 w2 (some ⟨w.heap.size, 0, none⟩) 2 [⟨x, n⟩, ⟨x + n, 1⟩] := Kd.C_below (two_C (by go_simp) (by go_simp) (by go_simp) (by go_simp)) hb2
  have CL : Kd.C (Kd.int .i64) w2 (some ⟨w1.heap.size + 1, 0, none⟩) 2 [x + 1, x] := Kd.C_below (ints2_C (by go_simp) (by go_simp)) hb2
  have HB2 := Aside0.mk (below_then (below_drew (below_alloc (below_alloc (Below.setCell (Below.setCell (Below.setCell (Below.setCell HB1.out (Nat.le_of_lt hgw) _) (Nat.le_of_lt hgw) _) (Nat.le_of_lt hgw) _) (Nat.le_of_lt hgw) _) _) _)) (by simp; omega) hb2)
  have CB := Aside0.mk CB
  have CG := Aside0.mk CG
  have CL := Aside0.mk CL
  obtain ⟨A10, c10, rfl, -, -⟩ := Kd.R_reads r10
  have hl10 : (span x n.toNat ++ [x + n]).length = n.toNat + 1 := by simp [span_len]
  rw [hl10]
  clear r10 hb2 hl10 C0 C1 C2 C3 d0 d1 d2 d3 hf
  go_wp2_with fail
  refine (runs_List.calls 5000 (some ⟨g, 0, none⟩) c8 [⟨x + n, 1⟩, ⟨x, n⟩] [] 1 _ CB.out hc8 (bad_list _ _ ⟨WalkArith.wf_i64 (by simp only []; omega), WalkArith.wf_i64 (by simp only []; omega)⟩ ⟨WalkArith.wf_i64 (by simp only []; omega), WalkArith.wf_i64 (by simp only []; omega)⟩ (by simp only []; omega))).mono ?_
  rintro e w3 ⟨v12, rfl, r12, hb3⟩
  obtain ⟨A12, c12, rfl, -, -⟩ := Kd.R_reads r12
  rw [show ([] : List Int).length = 0 from rfl]
  have CG3 := Aside0.mk (Kd.C_below CG.out hb3)
  have CL3 := Aside0.mk (Kd.C_below CL.out hb3)
  have HB3 := Aside0.mk (below_then HB2.out HB2.out.size hb3)
  clear r12 hb3 CB CG CL HB2
  go_wp2_with fail
  refine (runs_Of.calls 5000 (some ⟨w1.heap.size + 1, 0, none⟩) 2 [x + 1, x] n [] 1 _ CL3.out (Nat.le_refl 2) (of_bad _ _ (by simp) (by simp only [ofGo]; rw [if_neg (by rintro (h | h | ⟨p, h, h'⟩); omega; omega; cases h), if_pos (by right; right; exact ⟨_, rfl, by omega⟩)]))).mono ?_
  rintro e w5 ⟨v15, rfl, r15, hb5⟩
  have CG5 := Aside0.mk (Kd.C_below CG3.out hb5)
  have HB5 := Aside0.mk (below_then HB3.out HB3.out.size hb5)
  obtain ⟨A15, c15, rfl, -, -⟩ := Kd.R_reads r15
  rw [show ([] : List S40).length = 0 from rfl]
  clear r15 hb5 CG3 CL3 HB3
  have hlen : (((n.toNat + 1 : Nat) : Int) == n + 1) = true := by rw [beq_iff_eq]; omega
  go_wp2_with fail
  refine (woodcutkeep_Runs.calls 5000 (some ⟨w.heap.size, 0, none⟩) 2 [⟨x, n⟩, ⟨x + n, 1⟩] (some ⟨w5.heap.size, 0, none⟩) 2 [⟨x, n⟩, ⟨x + n, 1⟩] true _ (Kd.C_alloc CG5.out _) (Nat.le_refl 2) (two_C (by go_simp) (by go_simp) (by go_simp) (by go_simp)) (Nat.le_refl 2) (by rw [runs_all _ _ (by simp) _ (by simp)]; simp)).mono ?_
  rintro e w6 ⟨rfl, hd6⟩
  have HB6 := Aside0.mk (below_then (below_alloc HB5.out _) (by have := HB5.out.size; simp; omega) hd6.below)
  clear hd6 CG5 HB5
  go_wp2_with fail
  refine (woodcutlaw21_wakes.calls 1000 true _ (wakes_all 1000 (by omega))).mono ?_
  rintro e w7 ⟨rfl, hb7⟩
  have HB7 := Aside0.mk (below_then HB6.out HB6.out.size hb7)
  clear hb7 HB6
  go_wp2_with fail
  go_ret
  exact ⟨rfl, HB7.out⟩
set_option maxHeartbeats 2000000 in
set_option maxRecDepth 100000 in
theorem bad_2 (a0 a1 a2 : Int) (w : World) (m0 : ((IntKind.u64.wrap a2).tmod 6 == 0) = false) (m1 : ((IntKind.u64.wrap a2).tmod 6 == 1) = false) (m2 : ((IntKind.u64.wrap a2).tmod 6 == 2) = true) (m3 : ((IntKind.u64.wrap a2).tmod 6 == 3) = false) (m4 : ((IntKind.u64.wrap a2).tmod 6 == 4) = false) :
    Calls Try.prog 6 #[.int .i64 a0, .int .i64 a1, .int .i64 a2] w fun e w' => e = .returned (.bool true) ∧ Below w.heap.size w w' := by
  obtain ⟨-, -, hx0, hx1⟩ := urem a0 400 (by omega) (by omega)
  obtain ⟨-, -, hy0, hy1⟩ := urem a1 50 (by omega) (by omega)
  go_enter Try.func6, Try.ntmps6
  go_wp2_with fail
  generalize (IntKind.u64.wrap a0).tmod 400 = x at *
  generalize hn : 2 + (IntKind.u64.wrap a1).tmod 50 = n at *
  have hn0 : 2 ≤ n := by omega
  have hn1 : n < 52 := by omega
  clear hn hy0 hy1
  refine (woodcutlaw21_twin.calls (some ⟨w.heap.size, 0, none⟩) 2 [⟨x, n⟩, ⟨x + n, 1⟩] [⟨x, n⟩, ⟨x + n, 1⟩] _ (two_C (by go_simp) (by go_simp) (by go_simp) (by go_simp)) (Nat.le_refl 2) (by unfold woodcutlaw21_twin.f; rfl)).mono ?_
  rintro e w1 ⟨v8, rfl, r8, hb1⟩
  obtain ⟨g, c8, rfl, hc8, hg0, hg1, hf, d0, d1, d2, d3⟩ := two_R r8
  have C0 : w1.cell? ⟨w.heap.size, 0, none⟩ = some (.int .i64 x) := by rw [bcell hb1 _ _ (by simp)]; go_simp
  have C1 : w1.cell? ⟨w.heap.size, 1, none⟩ = some (.int .i64 n) := by rw [bcell hb1 _ _ (by simp)]; go_simp
  have C2 : w1.cell? ⟨w.heap.size, 2, none⟩ = some (.int .i64 (x + n)) := by rw [bcell hb1 _ _ (by simp)]; go_simp
  have C3 : w1.cell? ⟨w.heap.size, 3, none⟩ = some (.int .i64 1) := by rw [bcell hb1 _ _ (by simp)]; go_simp
  have HB1 := Aside0.mk (((Below.refl w.heap.size w).alloc (Nat.le_refl _) _).trans (hb1.mono (by simp)))
  have hgw : w.heap.size < g := by simp at hg0; omega
  have hw1 : w.heap.size < w1.heap.size := by omega
  clear r8 hg0 hb1
  go_wp2_with fail
  refine (runs_List.calls 5000 (some ⟨w.heap.size, 0, none⟩) 2 [⟨x, n⟩, ⟨x + n, 1⟩] (span x n.toNat ++ [x + n]) 0 _ (two_C (by go_simp) (by go_simp) (by go_simp) (by go_simp)) (Nat.le_refl 2) (good_list x n hx0 hx1 hn0 hn1)).mono ?_
  rintro e w2 ⟨v10, rfl, r10, hb2⟩
  have CB : Kd.C k40 w2 (some ⟨g, 0, none⟩) 2 [⟨x, 0⟩, ⟨x + n, 1⟩] := Kd.C_below (two_C (by go_simp) (by go_simp) (by go_simp) (by go_simp)) hb2
  have CG : Kd.C k40 w2 (some ⟨w.heap.size, 0, none⟩) 2 [⟨x, n⟩, ⟨x + n, 1⟩] := Kd.C_below (two_C (by go_simp) (by go_simp) (by go_simp) (by go_simp)) hb2
  have CL : Kd.C (Kd.int .i64) w2 (some ⟨w1.heap.size + 1, 0, none⟩) 2 [x, x] := Kd.C_below (ints2_C (by go_simp) (by go_simp)) hb2
  have HB2 := Aside0.mk (below_then (below_alloc (below_alloc (Below.setCell HB1.out (Nat.le_of_lt hgw) _) _) _) (by simp; omega) hb2)
  have CB := Aside0.mk CB
  have CG := Aside0.mk CG
  have CL := Aside0.mk CL
  obtain ⟨A10, c10, rfl, -, -⟩ := Kd.R_reads r10
  have hl10 : (span x n.toNat ++ [x + n]).length = n.toNat + 1 := by simp [span_len]
  rw [hl10]
  clear r10 hb2 hl10 C0 C1 C2 C3 d0 d1 d2 d3 hf
  go_wp2_with fail
  refine (runs_List.calls 5000 (some ⟨g, 0, none⟩) c8 [⟨x, 0⟩, ⟨x + n, 1⟩] [] 1 _ CB.out hc8 (bad_list _ _ ⟨WalkArith.wf_i64 (by simp only []; omega), WalkArith.wf_i64 (by simp only []; omega)⟩ ⟨WalkArith.wf_i64 (by simp only []; omega), WalkArith.wf_i64 (by simp only []; omega)⟩ (by simp only []; omega))).mono ?_
  rintro e w3 ⟨v12, rfl, r12, hb3⟩
  obtain ⟨A12, c12, rfl, -, -⟩ := Kd.R_reads r12
  rw [show ([] : List Int).length = 0 from rfl]
  have CG3 := Aside0.mk (Kd.C_below CG.out hb3)
  have CL3 := Aside0.mk (Kd.C_below CL.out hb3)
  have HB3 := Aside0.mk (below_then HB2.out HB2.out.size hb3)
  clear r12 hb3 CB CG CL HB2
  go_wp2_with fail
  refine (runs_Of.calls 5000 (some ⟨w1.heap.size + 1, 0, none⟩) 2 [x, x] n [] 1 _ CL3.out (Nat.le_refl 2) (of_bad _ _ (by simp) (by simp only [ofGo]; rw [if_neg (by rintro (h | h | ⟨p, h, h'⟩); omega; omega; cases h), if_pos (by right; right; exact ⟨_, rfl, by omega⟩)]))).mono ?_
  rintro e w5 ⟨v15, rfl, r15, hb5⟩
  have CG5 := Aside0.mk (Kd.C_below CG3.out hb5)
  have HB5 := Aside0.mk (below_then HB3.out HB3.out.size hb5)
  obtain ⟨A15, c15, rfl, -, -⟩ := Kd.R_reads r15
  rw [show ([] : List S40).length = 0 from rfl]
  clear r15 hb5 CG3 CL3 HB3
  have hlen : (((n.toNat + 1 : Nat) : Int) == n + 1) = true := by rw [beq_iff_eq]; omega
  go_wp2_with fail
  refine (woodcutkeep_Runs.calls 5000 (some ⟨w.heap.size, 0, none⟩) 2 [⟨x, n⟩, ⟨x + n, 1⟩] (some ⟨w5.heap.size, 0, none⟩) 2 [⟨x, n⟩, ⟨x + n, 1⟩] true _ (Kd.C_alloc CG5.out _) (Nat.le_refl 2) (two_C (by go_simp) (by go_simp) (by go_simp) (by go_simp)) (Nat.le_refl 2) (by rw [runs_all _ _ (by simp) _ (by simp)]; simp)).mono ?_
  rintro e w6 ⟨rfl, hd6⟩
  have HB6 := Aside0.mk (below_then (below_alloc HB5.out _) (by have := HB5.out.size; simp; omega) hd6.below)
  clear hd6 CG5 HB5
  go_wp2_with fail
  refine (woodcutlaw21_wakes.calls 1000 true _ (wakes_all 1000 (by omega))).mono ?_
  rintro e w7 ⟨rfl, hb7⟩
  have HB7 := Aside0.mk (below_then HB6.out HB6.out.size hb7)
  clear hb7 HB6
  go_wp2_with fail
  go_ret
  exact ⟨rfl, HB7.out⟩
set_option maxHeartbeats 2000000 in
set_option maxRecDepth 100000 in
theorem bad_3 (a0 a1 a2 : Int) (w : World) (m0 : ((IntKind.u64.wrap a2).tmod 6 == 0) = false) (m1 : ((IntKind.u64.wrap a2).tmod 6 == 1) = false) (m2 : ((IntKind.u64.wrap a2).tmod 6 == 2) = false) (m3 : ((IntKind.u64.wrap a2).tmod 6 == 3) = true) (m4 : ((IntKind.u64.wrap a2).tmod 6 == 4) = false) :
    Calls Try.prog 6 #[.int .i64 a0, .int .i64 a1, .int .i64 a2] w fun e w' => e = .returned (.bool true) ∧ Below w.heap.size w w' := by
  obtain ⟨-, -, hx0, hx1⟩ := urem a0 400 (by omega) (by omega)
  obtain ⟨-, -, hy0, hy1⟩ := urem a1 50 (by omega) (by omega)
  go_enter Try.func6, Try.ntmps6
  go_wp2_with fail
  generalize (IntKind.u64.wrap a0).tmod 400 = x at *
  generalize hn : 2 + (IntKind.u64.wrap a1).tmod 50 = n at *
  have hn0 : 2 ≤ n := by omega
  have hn1 : n < 52 := by omega
  clear hn hy0 hy1
  refine (woodcutlaw21_twin.calls (some ⟨w.heap.size, 0, none⟩) 2 [⟨x, n⟩, ⟨x + n, 1⟩] [⟨x, n⟩, ⟨x + n, 1⟩] _ (two_C (by go_simp) (by go_simp) (by go_simp) (by go_simp)) (Nat.le_refl 2) (by unfold woodcutlaw21_twin.f; rfl)).mono ?_
  rintro e w1 ⟨v8, rfl, r8, hb1⟩
  obtain ⟨g, c8, rfl, hc8, hg0, hg1, hf, d0, d1, d2, d3⟩ := two_R r8
  have C0 : w1.cell? ⟨w.heap.size, 0, none⟩ = some (.int .i64 x) := by rw [bcell hb1 _ _ (by simp)]; go_simp
  have C1 : w1.cell? ⟨w.heap.size, 1, none⟩ = some (.int .i64 n) := by rw [bcell hb1 _ _ (by simp)]; go_simp
  have C2 : w1.cell? ⟨w.heap.size, 2, none⟩ = some (.int .i64 (x + n)) := by rw [bcell hb1 _ _ (by simp)]; go_simp
  have C3 : w1.cell? ⟨w.heap.size, 3, none⟩ = some (.int .i64 1) := by rw [bcell hb1 _ _ (by simp)]; go_simp
  have HB1 := Aside0.mk (((Below.refl w.heap.size w).alloc (Nat.le_refl _) _).trans (hb1.mono (by simp)))
  have hgw : w.heap.size < g := by simp at hg0; omega
  have hw1 : w.heap.size < w1.heap.size := by omega
  clear r8 hg0 hb1
  go_wp2_with fail
  refine (runs_List.calls 5000 (some ⟨w.heap.size, 0, none⟩) 2 [⟨x, n⟩, ⟨x + n, 1⟩] (span x n.toNat ++ [x + n]) 0 _ (two_C (by go_simp) (by go_simp) (by go_simp) (by go_simp)) (Nat.le_refl 2) (good_list x n hx0 hx1 hn0 hn1)).mono ?_
  rintro e w2 ⟨v10, rfl, r10, hb2⟩
  have CB : Kd.C k40 w2 (some ⟨g, 0, none⟩) 2 [⟨x, n⟩, ⟨x + n, 512 - x - n + 1⟩] := Kd.C_below (two_C (by go_simp) (by go_simp) (by go_simp) (by go_simp)) hb2
  have CG : Kd.C k40 w2 (some ⟨w.heap.size, 0, none⟩) 2 [⟨x, n⟩, ⟨x + n, 1⟩] := Kd.C_below (two_C (by go_simp) (by go_simp) (by go_simp) (by go_simp)) hb2
  have CL : Kd.C (Kd.int .i64) w2 (some ⟨w1.heap.size + 1, 0, none⟩) 1 [512] := Kd.C_below (ints1_C (by go_simp)) hb2
  have HB2 := Aside0.mk (below_then (below_alloc (below_alloc (Below.setCell HB1.out (Nat.le_of_lt hgw) _) _) _) (by simp; omega) hb2)
  have CB := Aside0.mk CB
  have CG := Aside0.mk CG
  have CL := Aside0.mk CL
  obtain ⟨A10, c10, rfl, -, -⟩ := Kd.R_reads r10
  have hl10 : (span x n.toNat ++ [x + n]).length = n.toNat + 1 := by simp [span_len]
  rw [hl10]
  clear r10 hb2 hl10 C0 C1 C2 C3 d0 d1 d2 d3 hf
  go_wp2_with fail
  refine (runs_List.calls 5000 (some ⟨g, 0, none⟩) c8 [⟨x, n⟩, ⟨x + n, 512 - x - n + 1⟩] [] 1 _ CB.out hc8 (bad_list _ _ ⟨WalkArith.wf_i64 (by simp only []; omega), WalkArith.wf_i64 (by simp only []; omega)⟩ ⟨WalkArith.wf_i64 (by simp only []; omega), WalkArith.wf_i64 (by simp only []; omega)⟩ (by simp only []; omega))).mono ?_
  rintro e w3 ⟨v12, rfl, r12, hb3⟩
  obtain ⟨A12, c12, rfl, -, -⟩ := Kd.R_reads r12
  rw [show ([] : List Int).length = 0 from rfl]
  have CG3 := Aside0.mk (Kd.C_below CG.out hb3)
  have CL3 := Aside0.mk (Kd.C_below CL.out hb3)
  have HB3 := Aside0.mk (below_then HB2.out HB2.out.size hb3)
  clear r12 hb3 CB CG CL HB2
  go_wp2_with fail
  refine (runs_Of.calls 5000 (some ⟨w1.heap.size + 1, 0, none⟩) 1 [512] n [] 1 _ CL3.out (Nat.le_refl 1) (of_bad _ _ (by simp) (by simp only [ofGo]; rw [if_pos (by unfold badS; omega)]))).mono ?_
  rintro e w5 ⟨v15, rfl, r15, hb5⟩
  have CG5 := Aside0.mk (Kd.C_below CG3.out hb5)
  have HB5 := Aside0.mk (below_then HB3.out HB3.out.size hb5)
  obtain ⟨A15, c15, rfl, -, -⟩ := Kd.R_reads r15
  rw [show ([] : List S40).length = 0 from rfl]
  clear r15 hb5 CG3 CL3 HB3
  have hlen : (((n.toNat + 1 : Nat) : Int) == n + 1) = true := by rw [beq_iff_eq]; omega
  go_wp2_with fail
  refine (woodcutkeep_Runs.calls 5000 (some ⟨w.heap.size, 0, none⟩) 2 [⟨x, n⟩, ⟨x + n, 1⟩] (some ⟨w5.heap.size, 0, none⟩) 2 [⟨x, n⟩, ⟨x + n, 1⟩] true _ (Kd.C_alloc CG5.out _) (Nat.le_refl 2) (two_C (by go_simp) (by go_simp) (by go_simp) (by go_simp)) (Nat.le_refl 2) (by rw [runs_all _ _ (by simp) _ (by simp)]; simp)).mono ?_
  rintro e w6 ⟨rfl, hd6⟩
  have HB6 := Aside0.mk (below_then (below_alloc HB5.out _) (by have := HB5.out.size; simp; omega) hd6.below)
  clear hd6 CG5 HB5
  go_wp2_with fail
  refine (woodcutlaw21_wakes.calls 1000 true _ (wakes_all 1000 (by omega))).mono ?_
  rintro e w7 ⟨rfl, hb7⟩
  have HB7 := Aside0.mk (below_then HB6.out HB6.out.size hb7)
  clear hb7 HB6
  go_wp2_with fail
  go_ret
  exact ⟨rfl, HB7.out⟩
set_option maxHeartbeats 2000000 in
set_option maxRecDepth 100000 in
theorem bad_4 (a0 a1 a2 : Int) (w : World) (m0 : ((IntKind.u64.wrap a2).tmod 6 == 0) = false) (m1 : ((IntKind.u64.wrap a2).tmod 6 == 1) = false) (m2 : ((IntKind.u64.wrap a2).tmod 6 == 2) = false) (m3 : ((IntKind.u64.wrap a2).tmod 6 == 3) = false) (m4 : ((IntKind.u64.wrap a2).tmod 6 == 4) = true) :
    Calls Try.prog 6 #[.int .i64 a0, .int .i64 a1, .int .i64 a2] w fun e w' => e = .returned (.bool true) ∧ Below w.heap.size w w' := by
  obtain ⟨-, -, hx0, hx1⟩ := urem a0 400 (by omega) (by omega)
  obtain ⟨-, -, hy0, hy1⟩ := urem a1 50 (by omega) (by omega)
  go_enter Try.func6, Try.ntmps6
  go_wp2_with fail
  generalize (IntKind.u64.wrap a0).tmod 400 = x at *
  generalize hn : 2 + (IntKind.u64.wrap a1).tmod 50 = n at *
  have hn0 : 2 ≤ n := by omega
  have hn1 : n < 52 := by omega
  clear hn hy0 hy1
  refine (woodcutlaw21_twin.calls (some ⟨w.heap.size, 0, none⟩) 2 [⟨x, n⟩, ⟨x + n, 1⟩] [⟨x, n⟩, ⟨x + n, 1⟩] _ (two_C (by go_simp) (by go_simp) (by go_simp) (by go_simp)) (Nat.le_refl 2) (by unfold woodcutlaw21_twin.f; rfl)).mono ?_
  rintro e w1 ⟨v8, rfl, r8, hb1⟩
  obtain ⟨g, c8, rfl, hc8, hg0, hg1, hf, d0, d1, d2, d3⟩ := two_R r8
  have C0 : w1.cell? ⟨w.heap.size, 0, none⟩ = some (.int .i64 x) := by rw [bcell hb1 _ _ (by simp)]; go_simp
  have C1 : w1.cell? ⟨w.heap.size, 1, none⟩ = some (.int .i64 n) := by rw [bcell hb1 _ _ (by simp)]; go_simp
  have C2 : w1.cell? ⟨w.heap.size, 2, none⟩ = some (.int .i64 (x + n)) := by rw [bcell hb1 _ _ (by simp)]; go_simp
  have C3 : w1.cell? ⟨w.heap.size, 3, none⟩ = some (.int .i64 1) := by rw [bcell hb1 _ _ (by simp)]; go_simp
  have HB1 := Aside0.mk (((Below.refl w.heap.size w).alloc (Nat.le_refl _) _).trans (hb1.mono (by simp)))
  have hgw : w.heap.size < g := by simp at hg0; omega
  have hw1 : w.heap.size < w1.heap.size := by omega
  clear r8 hg0 hb1
  go_wp2_with fail
  refine (runs_List.calls 5000 (some ⟨w.heap.size, 0, none⟩) 2 [⟨x, n⟩, ⟨x + n, 1⟩] (span x n.toNat ++ [x + n]) 0 _ (two_C (by go_simp) (by go_simp) (by go_simp) (by go_simp)) (Nat.le_refl 2) (good_list x n hx0 hx1 hn0 hn1)).mono ?_
  rintro e w2 ⟨v10, rfl, r10, hb2⟩
  have CB : Kd.C k40 w2 (some ⟨g, 0, none⟩) 2 [⟨-1, n⟩, ⟨x + n, 1⟩] := Kd.C_below (two_C (by go_simp) (by go_simp) (by go_simp) (by go_simp)) hb2
  have CG : Kd.C k40 w2 (some ⟨w.heap.size, 0, none⟩) 2 [⟨x, n⟩, ⟨x + n, 1⟩] := Kd.C_below (two_C (by go_simp) (by go_simp) (by go_simp) (by go_simp)) hb2
  have CL : Kd.C (Kd.int .i64) w2 (some ⟨w1.heap.size + 1, 0, none⟩) 1 [-1] := Kd.C_below (ints1_C (by go_simp)) hb2
  have HB2 := Aside0.mk (below_then (below_alloc (below_alloc (Below.setCell HB1.out (Nat.le_of_lt hgw) _) _) _) (by simp; omega) hb2)
  have CB := Aside0.mk CB
  have CG := Aside0.mk CG
  have CL := Aside0.mk CL
  obtain ⟨A10, c10, rfl, -, -⟩ := Kd.R_reads r10
  have hl10 : (span x n.toNat ++ [x + n]).length = n.toNat + 1 := by simp [span_len]
  rw [hl10]
  clear r10 hb2 hl10 C0 C1 C2 C3 d0 d1 d2 d3 hf
  go_wp2_with fail
  refine (runs_List.calls 5000 (some ⟨g, 0, none⟩) c8 [⟨-1, n⟩, ⟨x + n, 1⟩] [] 1 _ CB.out hc8 (bad_list _ _ ⟨WalkArith.wf_i64 (by simp only []; omega), WalkArith.wf_i64 (by simp only []; omega)⟩ ⟨WalkArith.wf_i64 (by simp only []; omega), WalkArith.wf_i64 (by simp only []; omega)⟩ (by simp only []; omega))).mono ?_
  rintro e w3 ⟨v12, rfl, r12, hb3⟩
  obtain ⟨A12, c12, rfl, -, -⟩ := Kd.R_reads r12
  rw [show ([] : List Int).length = 0 from rfl]
  have CG3 := Aside0.mk (Kd.C_below CG.out hb3)
  have CL3 := Aside0.mk (Kd.C_below CL.out hb3)
  have HB3 := Aside0.mk (below_then HB2.out HB2.out.size hb3)
  clear r12 hb3 CB CG CL HB2
  go_wp2_with fail
  refine (runs_Of.calls 5000 (some ⟨w1.heap.size + 1, 0, none⟩) 1 [-1] n [] 1 _ CL3.out (Nat.le_refl 1) (of_bad _ _ (by simp) (by simp only [ofGo]; rw [if_pos (by unfold badS; omega)]))).mono ?_
  rintro e w5 ⟨v15, rfl, r15, hb5⟩
  have CG5 := Aside0.mk (Kd.C_below CG3.out hb5)
  have HB5 := Aside0.mk (below_then HB3.out HB3.out.size hb5)
  obtain ⟨A15, c15, rfl, -, -⟩ := Kd.R_reads r15
  rw [show ([] : List S40).length = 0 from rfl]
  clear r15 hb5 CG3 CL3 HB3
  have hlen : (((n.toNat + 1 : Nat) : Int) == n + 1) = true := by rw [beq_iff_eq]; omega
  go_wp2_with fail
  refine (woodcutkeep_Runs.calls 5000 (some ⟨w.heap.size, 0, none⟩) 2 [⟨x, n⟩, ⟨x + n, 1⟩] (some ⟨w5.heap.size, 0, none⟩) 2 [⟨x, n⟩, ⟨x + n, 1⟩] true _ (Kd.C_alloc CG5.out _) (Nat.le_refl 2) (two_C (by go_simp) (by go_simp) (by go_simp) (by go_simp)) (Nat.le_refl 2) (by rw [runs_all _ _ (by simp) _ (by simp)]; simp)).mono ?_
  rintro e w6 ⟨rfl, hd6⟩
  have HB6 := Aside0.mk (below_then (below_alloc HB5.out _) (by have := HB5.out.size; simp; omega) hd6.below)
  clear hd6 CG5 HB5
  go_wp2_with fail
  refine (woodcutlaw21_wakes.calls 1000 true _ (wakes_all 1000 (by omega))).mono ?_
  rintro e w7 ⟨rfl, hb7⟩
  have HB7 := Aside0.mk (below_then HB6.out HB6.out.size hb7)
  clear hb7 HB6
  go_wp2_with fail
  go_ret
  exact ⟨rfl, HB7.out⟩
set_option maxHeartbeats 2000000 in
set_option maxRecDepth 100000 in
theorem bad_5 (a0 a1 a2 : Int) (w : World) (m0 : ((IntKind.u64.wrap a2).tmod 6 == 0) = false) (m1 : ((IntKind.u64.wrap a2).tmod 6 == 1) = false) (m2 : ((IntKind.u64.wrap a2).tmod 6 == 2) = false) (m3 : ((IntKind.u64.wrap a2).tmod 6 == 3) = false) (m4 : ((IntKind.u64.wrap a2).tmod 6 == 4) = false) :
    Calls Try.prog 6 #[.int .i64 a0, .int .i64 a1, .int .i64 a2] w fun e w' => e = .returned (.bool true) ∧ Below w.heap.size w w' := by
  obtain ⟨-, -, hx0, hx1⟩ := urem a0 400 (by omega) (by omega)
  obtain ⟨-, -, hy0, hy1⟩ := urem a1 50 (by omega) (by omega)
  go_enter Try.func6, Try.ntmps6
  go_wp2_with fail
  generalize (IntKind.u64.wrap a0).tmod 400 = x at *
  generalize hn : 2 + (IntKind.u64.wrap a1).tmod 50 = n at *
  have hn0 : 2 ≤ n := by omega
  have hn1 : n < 52 := by omega
  clear hn hy0 hy1
  refine (woodcutlaw21_twin.calls (some ⟨w.heap.size, 0, none⟩) 2 [⟨x, n⟩, ⟨x + n, 1⟩] [⟨x, n⟩, ⟨x + n, 1⟩] _ (two_C (by go_simp) (by go_simp) (by go_simp) (by go_simp)) (Nat.le_refl 2) (by unfold woodcutlaw21_twin.f; rfl)).mono ?_
  rintro e w1 ⟨v8, rfl, r8, hb1⟩
  obtain ⟨g, c8, rfl, hc8, hg0, hg1, hf, d0, d1, d2, d3⟩ := two_R r8
  have C0 : w1.cell? ⟨w.heap.size, 0, none⟩ = some (.int .i64 x) := by rw [bcell hb1 _ _ (by simp)]; go_simp
  have C1 : w1.cell? ⟨w.heap.size, 1, none⟩ = some (.int .i64 n) := by rw [bcell hb1 _ _ (by simp)]; go_simp
  have C2 : w1.cell? ⟨w.heap.size, 2, none⟩ = some (.int .i64 (x + n)) := by rw [bcell hb1 _ _ (by simp)]; go_simp
  have C3 : w1.cell? ⟨w.heap.size, 3, none⟩ = some (.int .i64 1) := by rw [bcell hb1 _ _ (by simp)]; go_simp
  have HB1 := Aside0.mk (((Below.refl w.heap.size w).alloc (Nat.le_refl _) _).trans (hb1.mono (by simp)))
  have hgw : w.heap.size < g := by simp at hg0; omega
  have hw1 : w.heap.size < w1.heap.size := by omega
  clear r8 hg0 hb1
  go_wp2_with fail
  refine (runs_List.calls 5000 (some ⟨w.heap.size, 0, none⟩) 2 [⟨x, n⟩, ⟨x + n, 1⟩] (span x n.toNat ++ [x + n]) 0 _ (two_C (by go_simp) (by go_simp) (by go_simp) (by go_simp)) (Nat.le_refl 2) (good_list x n hx0 hx1 hn0 hn1)).mono ?_
  rintro e w2 ⟨v10, rfl, r10, hb2⟩
  have CB : Kd.C k40 w2 (some ⟨g, 0, none⟩) 2 [⟨x, n⟩, ⟨x + n, 4611686018427387904⟩] := Kd.C_below (two_C (by go_simp) (by go_simp) (by go_simp) (by go_simp)) hb2
  have CG : Kd.C k40 w2 (some ⟨w.heap.size, 0, none⟩) 2 [⟨x, n⟩, ⟨x + n, 1⟩] := Kd.C_below (two_C (by go_simp) (by go_simp) (by go_simp) (by go_simp)) hb2
  have CL : Kd.C (Kd.int .i64) w2 (some ⟨w1.heap.size + 1, 0, none⟩) 2 [x, -1] := Kd.C_below (ints2_C (by go_simp) (by go_simp)) hb2
  have HB2 := Aside0.mk (below_then (below_alloc (below_alloc (Below.setCell HB1.out (Nat.le_of_lt hgw) _) _) _) (by simp; omega) hb2)
  have CB := Aside0.mk CB
  have CG := Aside0.mk CG
  have CL := Aside0.mk CL
  obtain ⟨A10, c10, rfl, -, -⟩ := Kd.R_reads r10
  have hl10 : (span x n.toNat ++ [x + n]).length = n.toNat + 1 := by simp [span_len]
  rw [hl10]
  clear r10 hb2 hl10 C0 C1 C2 C3 d0 d1 d2 d3 hf
  go_wp2_with fail
  refine (runs_List.calls 5000 (some ⟨g, 0, none⟩) c8 [⟨x, n⟩, ⟨x + n, 4611686018427387904⟩] [] 1 _ CB.out hc8 (bad_list _ _ ⟨WalkArith.wf_i64 (by simp only []; omega), WalkArith.wf_i64 (by simp only []; omega)⟩ ⟨WalkArith.wf_i64 (by simp only []; omega), WalkArith.wf_i64 (by simp only []; omega)⟩ (by simp only []; omega))).mono ?_
  rintro e w3 ⟨v12, rfl, r12, hb3⟩
  obtain ⟨A12, c12, rfl, -, -⟩ := Kd.R_reads r12
  rw [show ([] : List Int).length = 0 from rfl]
  have CG3 := Aside0.mk (Kd.C_below CG.out hb3)
  have CL3 := Aside0.mk (Kd.C_below CL.out hb3)
  have HB3 := Aside0.mk (below_then HB2.out HB2.out.size hb3)
  clear r12 hb3 CB CG CL HB2
  go_wp2_with fail
  refine (runs_Of.calls 5000 (some ⟨w1.heap.size + 1, 0, none⟩) 2 [x, -1] n [] 1 _ CL3.out (Nat.le_refl 2) (of_bad _ _ (by simp) (by simp only [ofGo]; rw [if_neg (by rintro (h | h | ⟨p, h, h'⟩); omega; omega; cases h), if_pos (by left; omega)]))).mono ?_
  rintro e w5 ⟨v15, rfl, r15, hb5⟩
  have CG5 := Aside0.mk (Kd.C_below CG3.out hb5)
  have HB5 := Aside0.mk (below_then HB3.out HB3.out.size hb5)
  obtain ⟨A15, c15, rfl, -, -⟩ := Kd.R_reads r15
  rw [show ([] : List S40).length = 0 from rfl]
  clear r15 hb5 CG3 CL3 HB3
  have hlen : (((n.toNat + 1 : Nat) : Int) == n + 1) = true := by rw [beq_iff_eq]; omega
  go_wp2_with fail
  refine (woodcutkeep_Runs.calls 5000 (some ⟨w.heap.size, 0, none⟩) 2 [⟨x, n⟩, ⟨x + n, 1⟩] (some ⟨w5.heap.size, 0, none⟩) 2 [⟨x, n⟩, ⟨x + n, 1⟩] true _ (Kd.C_alloc CG5.out _) (Nat.le_refl 2) (two_C (by go_simp) (by go_simp) (by go_simp) (by go_simp)) (Nat.le_refl 2) (by rw [runs_all _ _ (by simp) _ (by simp)]; simp)).mono ?_
  rintro e w6 ⟨rfl, hd6⟩
  have HB6 := Aside0.mk (below_then (below_alloc HB5.out _) (by have := HB5.out.size; simp; omega) hd6.below)
  clear hd6 CG5 HB5
  go_wp2_with fail
  refine (woodcutlaw21_wakes.calls 1000 true _ (wakes_all 1000 (by omega))).mono ?_
  rintro e w7 ⟨rfl, hb7⟩
  have HB7 := Aside0.mk (below_then HB6.out HB6.out.size hb7)
  clear hb7 HB6
  go_wp2_with fail
  go_ret
  exact ⟨rfl, HB7.out⟩
theorem bad_all (a0 a1 a2 : Int) (w : World) : Calls Try.prog 6 #[.int .i64 a0, .int .i64 a1, .int .i64 a2] w fun e w' => e = .returned (.bool true) ∧ Below w.heap.size w w' := by
  obtain ⟨-, -, h0, h1⟩ := urem a2 6 (by omega) (by omega)
  have key : ∀ i j : Int, (IntKind.u64.wrap a2).tmod 6 = i → ((IntKind.u64.wrap a2).tmod 6 == j) = (i == j) := fun i j h => by rw [h]
  have hc : (IntKind.u64.wrap a2).tmod 6 = 0 ∨ (IntKind.u64.wrap a2).tmod 6 = 1 ∨ (IntKind.u64.wrap a2).tmod 6 = 2 ∨ (IntKind.u64.wrap a2).tmod 6 = 3 ∨ (IntKind.u64.wrap a2).tmod 6 = 4 ∨ (IntKind.u64.wrap a2).tmod 6 = 5 := by omega
  rcases hc with h | h | h | h | h | h
  · exact bad_0 a0 a1 a2 w (key _ _ h) (key _ _ h) (key _ _ h) (key _ _ h) (key _ _ h)
  · exact bad_1 a0 a1 a2 w (key _ _ h) (key _ _ h) (key _ _ h) (key _ _ h) (key _ _ h)
  · exact bad_2 a0 a1 a2 w (key _ _ h) (key _ _ h) (key _ _ h) (key _ _ h) (key _ _ h)
  · exact bad_3 a0 a1 a2 w (key _ _ h) (key _ _ h) (key _ _ h) (key _ _ h) (key _ _ h)
  · exact bad_4 a0 a1 a2 w (key _ _ h) (key _ _ h) (key _ _ h) (key _ _ h) (key _ _ h)
  · exact bad_5 a0 a1 a2 w (key _ _ h) (key _ _ h) (key _ _ h) (key _ _ h) (key _ _ h)
end Go.Proofs.Ytijfghknjkegpaa.PRunsBad
