/- Four bytes side by side changed: a block whose sum was right has none that is. Nothing here names the program. -/
import Derived.Test.YtaaemamcdhebhaaBlk
namespace Go.Proofs.Ytaaemamcdhebhaa
open Go Go.Am
theorem xshift (i a b : Nat) (h : b < 2 ^ i) : b ^^^ (a <<< i) = 2 ^ i * a + b := by
  apply Nat.eq_of_testBit_eq
  intro j
  rw [Nat.testBit_xor, Nat.testBit_shiftLeft, Nat.testBit_two_pow_mul_add a h]
  by_cases c : j < i
  · rw [if_pos c, decide_eq_false (by omega), Bool.false_and, Bool.xor_false]
  · rw [if_neg c, decide_eq_true (by omega), Bool.true_and, Nat.testBit_lt_two_pow (Nat.lt_of_lt_of_le h (Nat.pow_le_pow_right (by omega) (by omega))), Bool.false_xor]
theorem le4_val (c0 c1 c2 c3 : Nat) (h0 : c0 < 256) (h1 : c1 < 256) (h2 : c2 < 256) (h3 : c3 < 256) : (Crc.le4 c0 c1 c2 c3).toNat = c0 + 256 * c1 + 65536 * c2 + 16777216 * c3 := by
  unfold Crc.le4 Crc.by8
  simp only [BitVec.toNat_xor, BitVec.toNat_shiftLeft, BitVec.toNat_ofNat]
  have e0 : c0 % 2 ^ 32 = c0 := Nat.mod_eq_of_lt (by omega)
  have e1 : (c1 % 2 ^ 32) <<< 8 % 2 ^ 32 = c1 <<< 8 := by rw [Nat.mod_eq_of_lt (show c1 < 2 ^ 32 by omega), Nat.shiftLeft_eq]; exact Nat.mod_eq_of_lt (by omega)
  have e2 : (c2 % 2 ^ 32) <<< 16 % 2 ^ 32 = c2 <<< 16 := by rw [Nat.mod_eq_of_lt (show c2 < 2 ^ 32 by omega), Nat.shiftLeft_eq]; exact Nat.mod_eq_of_lt (by omega)
  have e3 : (c3 % 2 ^ 32) <<< 24 % 2 ^ 32 = c3 <<< 24 := by rw [Nat.mod_eq_of_lt (show c3 < 2 ^ 32 by omega), Nat.shiftLeft_eq]; exact Nat.mod_eq_of_lt (by omega)
  rw [e0, e1, e2, e3, xshift 8 c1 c0 (by omega), xshift 16 c2 _ (by omega), xshift 24 c3 _ (by omega)]
  omega
def bys (l : List Int) : List Crc.W := l.map (fun x => Crc.by8 x.toNat)
theorem st_fold (l : List Int) (hb : ∀ x ∈ l, 0 ≤ x ∧ x < 256) : ∀ v, Crc.st l v = Crc.fold v (bys l) := by
  induction l with
  | nil => intro v; rfl
  | cons x t ih =>
    intro v
    have hx := hb x (List.mem_cons_self ..)
    have e : BitVec.ofInt 32 x = Crc.by8 x.toNat := by
      obtain ⟨n, rfl⟩ := Int.eq_ofNat_of_zero_le hx.1
      unfold Crc.by8
      rw [Int.toNat_natCast]
      apply BitVec.eq_of_toNat_eq
      simp
    show Crc.st t (Crc.Zn 8 (v ^^^ BitVec.ofInt 32 x)) = Crc.fold (Crc.Bs v (Crc.by8 x.toNat)) (bys t)
    rw [ih (fun y hy => hb y (List.mem_cons_of_mem _ hy)), e]
    rfl
theorem good_fold (b : List Int) (hl : b.length = 64) (hb : ∀ x ∈ b, 0 ≤ x ∧ x < 256) : goodB b = true ↔ Crc.fold 0xFFFFFFFF#32 (bys b) = Crc.Zn 32 0xFFFFFFFF#32 := by
  obtain ⟨t, c0, c1, c2, c3, ht, rfl⟩ : ∃ (t : List Int) (c0 c1 c2 c3 : Int), t.length = 60 ∧ b = t ++ [c0, c1, c2, c3] := by
    have hd : (b.drop 60).length = 4 := by rw [List.length_drop, hl]
    match hh : b.drop 60, hd with
    | [c0, c1, c2, c3], _ => exact ⟨b.take 60, c0, c1, c2, c3, by rw [List.length_take, hl]; rfl, by rw [← hh, List.take_append_drop]⟩
  have k0 := hb c0 (by simp)
  have k1 := hb c1 (by simp)
  have k2 := hb c2 (by simp)
  have k3 := hb c3 (by simp)
  have kt : ∀ x ∈ t, 0 ≤ x ∧ x < 256 := fun x hx => hb x (List.mem_append_left _ hx)
  have hs := Crc.sealed (bys t) c0.toNat c1.toNat c2.toNat c3.toNat (by omega) (by omega) (by omega)
  rw [show bys (t ++ [c0, c1, c2, c3]) = bys t ++ [Crc.by8 c0.toNat, Crc.by8 c1.toNat, Crc.by8 c2.toNat, Crc.by8 c3.toNat] by unfold bys; rw [List.map_append]; rfl, hs]
  have hv := le4_val c0.toNat c1.toNat c2.toNat c3.toNat (by omega) (by omega) (by omega) (by omega)
  have hn : leN [c0, c1, c2, c3] = Crc.nt (Crc.le4 c0.toNat c1.toNat c2.toNat c3.toNat) := by
    unfold Crc.nt
    rw [hv]
    simp only [leN]
    omega
  unfold goodB leGet
  rw [hl, show (64 - 4 : Nat) = 60 from rfl, List.drop_left' ht, List.take_left' ht, show List.take 4 [c0, c1, c2, c3] = [c0, c1, c2, c3] from rfl, hn, if_neg (by have := Crc.nt1 (Crc.le4 c0.toNat c1.toNat c2.toNat c3.toNat); omega), beq_iff_eq]
  unfold Crc.sum
  rw [st_fold t kt, show (~~~ BitVec.ofInt 32 0 : Crc.W) = 0xFFFFFFFF#32 by decide]
  exact ⟨fun h => Crc.nt_inj h, fun h => by rw [h]⟩
theorem fold_app (v : Crc.W) (a b : List Crc.W) : Crc.fold v (a ++ b) = Crc.fold (Crc.fold v a) b := by unfold Crc.fold; rw [List.foldl_append]
theorem four_of {b : List Int} {p : Nat} (hl : b.length = 64) (hp : p + 4 ≤ 64) : ∃ c0 c1 c2 c3, b = b.take p ++ (c0 :: c1 :: c2 :: c3 :: b.drop (p + 4)) := by
  have hd : ((b.drop p).take 4).length = 4 := by rw [List.length_take, List.length_drop, hl]; omega
  match hh : (b.drop p).take 4, hd with
  | [c0, c1, c2, c3], _ =>
    refine ⟨c0, c1, c2, c3, ?_⟩
    have e : b.drop p = [c0, c1, c2, c3] ++ b.drop (p + 4) := by
      rw [← hh, ← List.drop_drop]
      exact (List.take_append_drop 4 (b.drop p)).symm
    calc b = b.take p ++ b.drop p := (List.take_append_drop p b).symm
      _ = _ := by rw [e]; rfl
theorem bys_four (pre post : List Int) (c0 c1 c2 c3 : Int) : bys (pre ++ (c0 :: c1 :: c2 :: c3 :: post)) = bys pre ++ (Crc.by8 c0.toNat :: Crc.by8 c1.toNat :: Crc.by8 c2.toNat :: Crc.by8 c3.toNat :: bys post) := by
  unfold bys; rw [List.map_append]; rfl
/-- Two blocks whose sums are right and that differ in four bytes side by side alone are one. -/
theorem burst_good {b b' : List Int} {p : Nat} (hp : p + 4 ≤ 64) (hl : b.length = 64) (hl' : b'.length = 64) (hb : ∀ x ∈ b, 0 ≤ x ∧ x < 256) (hb' : ∀ x ∈ b', 0 ≤ x ∧ x < 256)
    (ht : b.take p = b'.take p) (hd : b.drop (p + 4) = b'.drop (p + 4)) (hg : goodB b = true) (hg' : goodB b' = true) : b = b' := by
  have g1 := (good_fold b hl hb).1 hg
  have g2 := (good_fold b' hl' hb').1 hg'
  obtain ⟨c0, c1, c2, c3, hc⟩ := four_of hl hp
  obtain ⟨d0, d1, d2, d3, he⟩ := four_of hl' hp
  rw [← ht, ← hd] at he
  generalize b.take p = pre at *
  generalize b.drop (p + 4) = post at *
  subst hc
  subst he
  rw [bys_four, fold_app] at g1 g2
  have k0 := hb c0 (by simp)
  have k1 := hb c1 (by simp)
  have k2 := hb c2 (by simp)
  have k3 := hb c3 (by simp)
  have m0 := hb' d0 (by simp)
  have m1 := hb' d1 (by simp)
  have m2 := hb' d2 (by simp)
  have m3 := hb' d3 (by simp)
  obtain ⟨e0, e1, e2, e3⟩ := Crc.burst (by omega) (by omega) (by omega) (by omega) (by omega) (by omega) (by omega) (by omega) _ (g1.trans g2.symm)
  rw [show c0 = d0 by omega, show c1 = d1 by omega, show c2 = d2 by omega, show c3 = d3 by omega]
theorem readB_good {m : List Int} {fl : List (Nat × Nat)} {b : List Int} (h : readB m fl b = 0) : goodB b = true ∧ b.length = 64 := by
  unfold readB at h
  by_cases c1 : b.length ≠ 64
  · rw [if_pos c1] at h; cases h
  · rw [if_neg c1] at h
    by_cases c2 : b.take 4 ≠ m
    · rw [if_pos c2] at h; cases h
    · rw [if_neg c2] at h
      by_cases c3 : goodB b = false
      · rw [if_pos c3] at h; cases h
      · exact ⟨by simpa using c3, by omega⟩
end Go.Proofs.Ytaaemamcdhebhaa
