/- So many sectors side by side are as few runs as can be (the plain law). -/
import Derived.Test.YtijfghknjkegpaaRunsOne1
namespace Go.Proofs.Ytijfghknjkegpaa.PRunsOne
open Go.RowKit Go.Proofs.YtijfghknjkegpaaW.PrintWords Go.Proofs.YtijfghknjkegpaaW.PrintLast
theorem urem (a : Int) (m : Int) (hm : 0 < m) (h2 : m ≤ 1000) : 0 ≤ wrap64 (Int.tmod (IntKind.u64.wrap a) m) ∧ wrap64 (Int.tmod (IntKind.u64.wrap a) m) < m := by
  have h0 : 0 ≤ IntKind.u64.wrap a := by
    have e : IntKind.u64.wrap a = a % 18446744073709551616 := by unfold IntKind.wrap; simp [IntKind.signed, IntKind.bits]
    omega
  rw [Int.tmod_eq_emod_of_nonneg h0]
  have h1 := Int.emod_nonneg (IntKind.u64.wrap a) (show m ≠ 0 by omega)
  have h3 := Int.emod_lt_of_pos (IntKind.u64.wrap a) hm
  rw [w64 (by omega) (by omega)]
  exact ⟨h1, h3⟩
def full (from_ most : Int) (q : Nat) : List S40 := (List.range q).map fun (i : Nat) => ⟨from_ + i * most, most⟩
theorem full_succ (from_ most : Int) (q : Nat) : full from_ most (q + 1) = full from_ most q ++ [⟨from_ + q * most, most⟩] := by
  unfold full; rw [List.range_succ]; simp
theorem full_len (from_ most : Int) (q : Nat) : (full from_ most q).length = q := by simp [full]
theorem go_span (from_ most : Int) (hm : 1 ≤ most) (hf : 0 ≤ from_) : ∀ (m : Nat) (j q : Nat) (c : Int), (j : Int) = q * most + c → 1 ≤ c → c ≤ most → from_ + j + m ≤ 512 →
    ∃ (q' : Nat) (c' : Int), ((j + m : Nat) : Int) = q' * most + c' ∧ 1 ≤ c' ∧ c' ≤ most ∧
      ofGo most (some (from_ + j - 1)) (full from_ most q ++ [⟨from_ + q * most, c⟩]) (span (from_ + j) m) = some (full from_ most q' ++ [⟨from_ + q' * most, c'⟩]) := by
  intro m
  induction m with
  | zero => intro j q c hj h1 h2 hb; exact ⟨q, c, hj, h1, h2, rfl⟩
  | succ m ih =>
    intro j q c hj h1 h2 hb
    simp only [span, ofGo]
    have nb : ¬ badS (some (from_ + j - 1)) (from_ + j) := by
      rintro (h | h | ⟨p, hp, h⟩)
      · omega
      · omega
      · injection hp with hp; omega
    rw [if_neg nb]
    have hlast : (full from_ most q ++ [(⟨from_ + q * most, c⟩ : S40)]).getLast? = some ⟨from_ + q * most, c⟩ := by simp
    by_cases hc : c < most
    · obtain ⟨q', c', e1, e2, e3, e4⟩ := ih (j + 1) q (c + 1) (by omega) (by omega) (by omega) (by omega)
      refine ⟨q', c', by rw [← e1]; congr 1; omega, e2, e3, ?_⟩
      rw [← e4]
      have : stepR most (full from_ most q ++ [⟨from_ + q * most, c⟩]) (from_ + j) = full from_ most q ++ [⟨from_ + q * most, c + 1⟩] := by
        unfold stepR; rw [hlast]; simp only; rw [if_pos ⟨by omega, hc⟩]; simp
      rw [this]
      congr 1
      · congr 1; omega
      · congr 1; omega
    · have hc' : c = most := by omega
      subst hc'
      have e0 : ((q + 1 : Nat) : Int) * c = q * c + c := by rw [Int.natCast_add, Int.add_mul]; simp
      obtain ⟨q', c', e1, e2, e3, e4⟩ := ih (j + 1) (q + 1) 1 (by rw [e0]; omega) (by omega) (by omega) (by omega)
      refine ⟨q', c', by rw [← e1]; congr 1; omega, e2, e3, ?_⟩
      rw [← e4]
      have : stepR c (full from_ c q ++ [⟨from_ + q * c, c⟩]) (from_ + j) = full from_ c (q + 1) ++ [⟨from_ + ((q + 1 : Nat) : Int) * c, 1⟩] := by
        unfold stepR; rw [hlast]; simp only; rw [if_neg (by omega), full_succ, e0, hj]
      rw [this]
      congr 1
      · congr 1; omega
      · congr 1; omega
theorem go_one (from_ most : Int) (n : Nat) (hm : 1 ≤ most) (hf : 0 ≤ from_) (hb : from_ + n ≤ 512) (hn : 0 < n) :
    ∃ (q : Nat) (c : Int), (n : Int) = q * most + c ∧ 1 ≤ c ∧ c ≤ most ∧ ofGo most none [] (span from_ n) = some (full from_ most q ++ [⟨from_ + q * most, c⟩]) := by
  obtain ⟨n, rfl⟩ : ∃ m, n = m + 1 := ⟨n - 1, by omega⟩
  obtain ⟨q', c', e1, e2, e3, e4⟩ := go_span from_ most hm hf n 1 0 1 (by simp) (by omega) (by omega) (by omega)
  refine ⟨q', c', by rw [← e1]; congr 1; omega, e2, e3, ?_⟩
  rw [← e4]
  simp only [span, ofGo]
  rw [if_neg (by rintro (h | h | ⟨p, hp, h⟩); omega; omega; cases hp)]
  have : stepR most [] from_ = full from_ most 0 ++ [⟨from_ + ((0 : Nat) : Int) * most, 1⟩] := by simp [stepR, full]
  rw [this]
  congr 1
  congr 1; omega
theorem one_l1 (x0 x1 x2 : Int) (a : List S40) (hl : a.length ≤ 512) (hx0 : 0 ≤ x0 ∧ x0 ≤ 1000) (hx1 : 0 ≤ x1 ∧ x1 ≤ 1000) (hx2 : 1 ≤ x2 ∧ x2 ≤ 1000)
    (h : ∀ i (hi : i < a.length), (a[i]).f0 = x0 + i * x2 ∧ (a[i]).f1 = min x2 (x1 - i * x2) ∧ i * x2 ≤ 1000) : ∀ (d i k : Nat), a.length - i = d → i ≤ a.length → d + 1001 ≤ k → woodcutlaw21_RunsOne.l1 k x0 x1 x2 a i = some true := by
  intro d
  induction d with
  | zero =>
    intro i k hd hi hk
    obtain ⟨k, rfl⟩ : ∃ m, k = m + 1 := ⟨k - 1, by omega⟩
    rw [woodcutlaw21_RunsOne.l1, if_neg (by omega), wakes_all k (by omega)]; rfl
  | succ d ih =>
    intro i k hd hi hk
    obtain ⟨k, rfl⟩ : ∃ m, k = m + 1 := ⟨k - 1, by omega⟩
    have hi' : i < a.length := by omega
    obtain ⟨e1, e2, e3⟩ := h i hi'
    have e4 : (0 : Int) ≤ i * x2 := Int.mul_nonneg (by omega) (by omega)
    rw [woodcutlaw21_RunsOne.l1, if_pos (by omega), if_pos (by omega), rdT_eq hi', e1, e2, w64 (x := (i : Int) * x2) (by omega) (by omega), w64 (x := x0 + (i : Int) * x2) (by omega) (by omega), w64 (x := x1 - (i : Int) * x2) (by omega) (by omega), w64 (x := (i : Int) + 1) (by omega) (by omega), if_pos rfl, if_pos (by unfold mn; omega)]
    exact ih (i + 1) k (by omega) (by omega) (by omega)
theorem one_l0 (x0 x1 x2 : Int) (hx0 : 0 ≤ x0 ∧ x0 < 400) (hx1 : 0 ≤ x1 ∧ x1 < 100) : ∀ (d : Nat) (x7 : List Int) (i : Int) (k : Nat), i + d = x1 → 0 ≤ i → x7.length ≤ 100000 - d →
    woodcutlaw21_RunsOne.l0 (k + d) x0 x1 x2 x7 i = woodcutlaw21_RunsOne.l0 k x0 x1 x2 (x7 ++ span (x0 + i) d) x1 := by
  intro d
  induction d with
  | zero => intro x7 i k hd h0 hl; simp only [span]; rw [show i = x1 by omega]; simp
  | succ d ih =>
    intro x7 i k hd h0 hl
    rw [show k + (d + 1) = (k + d) + 1 by omega, woodcutlaw21_RunsOne.l0, if_pos (by omega), if_pos (by omega), w64 (x := x0 + i) (by omega) (by omega), w64 (x := i + 1) (by omega) (by omega), ih (x7 ++ [x0 + i]) (i + 1) k (by omega) (by omega) (by simp; omega)]
    simp [span, Int.add_assoc]
theorem RunsOne : woodcutlaw21_RunsOne.Pure := by
  intro a0 a1 a2 w0 w1 w2
  have h0 := urem a0 400 (by omega) (by omega)
  have h1 := urem a1 100 (by omega) (by omega)
  have h2 := urem a2 30 (by omega) (by omega)
  refine ⟨5000, ?_⟩
  unfold woodcutlaw21_RunsOne.f
  generalize wrap64 (Int.tmod (IntKind.u64.wrap a0) 400) = x0 at *
  generalize wrap64 (Int.tmod (IntKind.u64.wrap a1) 100) = x1 at *
  generalize wrap64 (Int.tmod (IntKind.u64.wrap a2) 30) = y2 at *
  rw [w64 (x := 1 + y2) (by omega) (by omega)]
  obtain ⟨x2, hx2⟩ : ∃ x2, x2 = 1 + y2 := ⟨_, rfl⟩
  rw [← hx2]
  obtain ⟨n, rfl⟩ := Int.eq_ofNat_of_zero_le h1.1
  rw [show 5000 = (5000 - n) + n by omega, one_l0 x0 n x2 h0 ⟨h1.1, h1.2⟩ n [] 0 (5000 - n) (by omega) (by omega) (by simp)]
  obtain ⟨k, hk⟩ : ∃ m, 5000 - n = m + 2 := ⟨5000 - n - 2, by omega⟩
  rw [hk, woodcutlaw21_RunsOne.l0, if_neg (by omega), List.nil_append, Int.add_zero, of_all _ _ (by rw [span_len]; omega) _ (by rw [span_len]; omega), if_neg (by omega)]
  simp only [Option.bind_some]
  by_cases hn : n = 0
  · subst hn
    simp only [span, ofGo, resR]
    rw [if_pos trivial, if_neg (by omega), w64 (x := ((0 : Nat) : Int) + x2) (by omega) (by omega), w64 (x := ((0 : Nat) : Int) + x2 - 1) (by omega) (by omega), Int.tdiv_eq_ediv_of_nonneg (by omega), Int.ediv_eq_zero_of_lt (by omega) (by omega)]
    rw [woodcutlaw21_RunsOne.j1, if_neg (by simp [wrap64])]
    exact one_l1 _ _ _ _ (by simp) (by omega) (by omega) (by omega) (fun i hi => by simp at hi) 0 0 k rfl (by simp) (by omega)
  · obtain ⟨q, c, e1, e2, e3, e4⟩ := go_one x0 x2 n (by omega) (by omega) (by omega) (by omega)
    rw [e4]
    simp only [resR]
    have hlen : (full x0 x2 q ++ [(⟨x0 + q * x2, c⟩ : S40)]).length = q + 1 := by simp [full_len]
    have hdiv : wrap64 (Int.tdiv (wrap64 (wrap64 ((n : Int) + x2) - 1)) x2) = ((q + 1 : Nat) : Int) := by
      rw [w64 (x := (n : Int) + x2) (by omega) (by omega), w64 (x := (n : Int) + x2 - 1) (by omega) (by omega), Int.tdiv_eq_ediv_of_nonneg (by omega)]
      have : (n : Int) + x2 - 1 = (c - 1) + x2 * (q + 1) := by rw [e1, Int.mul_add, Int.mul_comm x2]; omega
      rw [this, Int.add_mul_ediv_left _ _ (by omega), Int.ediv_eq_zero_of_lt (by omega) (by omega)]
      have : (q : Int) ≤ q * x2 := by conv => lhs; rw [← Int.mul_one (q : Int)]
                                      exact Int.mul_le_mul_of_nonneg_left (by omega) (by omega)
      rw [w64 (by omega) (by omega)]; omega
    rw [if_pos trivial, if_neg (by omega), hdiv, hlen, woodcutlaw21_RunsOne.j1, if_neg (by simp)]
    have hq : (q : Int) ≤ q * x2 := by conv => lhs; rw [← Int.mul_one (q : Int)]
                                       exact Int.mul_le_mul_of_nonneg_left (by omega) (by omega)
    refine one_l1 _ _ _ _ (by rw [hlen]; omega) (by omega) (by omega) (by omega) (fun i hi => ?_) (q + 1) 0 k (by rw [hlen]; rfl) (by simp) (by omega)
    rw [hlen] at hi
    by_cases hiq : i < q
    · rw [List.getElem_append_left (by rw [full_len]; exact hiq)]
      simp only [full, List.getElem_map, List.getElem_range]
      have m1 : ((i : Int) + 1) * x2 ≤ q * x2 := Int.mul_le_mul_of_nonneg_right (by omega) (by omega)
      rw [Int.add_mul, Int.one_mul] at m1
      exact ⟨trivial, by omega, by omega⟩
    · obtain rfl : i = q := by omega
      rw [List.getElem_append_right (by rw [full_len]; exact Nat.le_refl _)]
      simp only [full_len, Nat.sub_self, List.getElem_singleton]
      exact ⟨trivial, by omega, by omega⟩
end Go.Proofs.Ytijfghknjkegpaa.PRunsOne
