/- CRC-32C over BitVec 32: a bit's step is linear and injective; four bytes side by side come to one step of 32 bits; so up to four bytes side by side changed change the state. Nothing here names the program. -/
import Derived.RowKit
namespace Go.Proofs.Ytaaemamcdhebhaa.Crc
abbrev W := BitVec 32
def poly : W := 0x82F63B78#32
/-- One bit. -/
def Z (v : W) : W := (v >>> 1) ^^^ (if v.getLsbD 0 then poly else 0#32)
theorem lc (a b c : W) : a ^^^ (b ^^^ c) = b ^^^ (a ^^^ c) := by rw [← BitVec.xor_assoc, BitVec.xor_comm a b, BitVec.xor_assoc]
theorem Z_xor (a b : W) : Z (a ^^^ b) = Z a ^^^ Z b := by
  unfold Z
  rw [BitVec.getLsbD_xor, BitVec.ushiftRight_xor_distrib]
  generalize a >>> 1 = p
  generalize b >>> 1 = q
  cases a.getLsbD 0 <;> cases b.getLsbD 0
  · simp
  · simp [BitVec.xor_assoc]
  · simp [BitVec.xor_assoc]; rw [BitVec.xor_comm]
  · simp [BitVec.xor_assoc]; rw [lc poly q poly, BitVec.xor_self, BitVec.xor_zero]
theorem Z_zero : Z 0#32 = 0#32 := by decide
theorem Z_inj0 (v : W) (h : Z v = 0#32) : v = 0#32 := by
  unfold Z at h
  cases hb : v.getLsbD 0 with
  | true =>
    rw [hb] at h
    have h31 := congrArg (fun x : W => x.getLsbD 31) h
    simp [poly] at h31
  | false =>
    rw [hb] at h
    simp at h
    apply BitVec.eq_of_getLsbD_eq
    intro i hi
    rw [BitVec.getLsbD_zero]
    match i with
    | 0 => exact hb
    | i + 1 =>
      have h1 := congrArg (fun x : W => x.getLsbD i) h
      simp only [BitVec.getLsbD_ushiftRight, BitVec.getLsbD_zero] at h1
      rw [Nat.add_comm]; exact h1
def Zn : Nat → W → W
  | 0, v => v
  | n + 1, v => Zn n (Z v)
theorem Zn_xor (n : Nat) : ∀ a b, Zn n (a ^^^ b) = Zn n a ^^^ Zn n b := by
  induction n with
  | zero => intro a b; rfl
  | succ n ih => intro a b; rw [Zn, Zn, Zn, Z_xor, ih]
theorem Zn_add (m : Nat) : ∀ n v, Zn (m + n) v = Zn n (Zn m v) := by
  induction m with
  | zero => intro n v; rw [Nat.zero_add]; rfl
  | succ m ih => intro n v; rw [Nat.succ_add, Zn, Zn, ih]
theorem Zn_inj0 (n : Nat) : ∀ v, Zn n v = 0#32 → v = 0#32 := by
  induction n with
  | zero => intro v h; exact h
  | succ n ih => intro v h; exact Z_inj0 v (ih _ h)
theorem Zn_inj (n : Nat) (a b : W) (h : Zn n a = Zn n b) : a = b := by
  have h1 : Zn n (a ^^^ b) = 0#32 := by rw [Zn_xor, h, BitVec.xor_self]
  have h2 := Zn_inj0 n _ h1
  have h3 : a ^^^ (a ^^^ b) = a ^^^ 0#32 := by rw [h2]
  rw [← BitVec.xor_assoc, BitVec.xor_self, BitVec.zero_xor, BitVec.xor_zero] at h3
  exact h3.symm
/-- One byte. -/
def Bs (r c : W) : W := Zn 8 (r ^^^ c)
theorem Bs_inj {r s c : W} (h : Bs r c = Bs s c) : r = s := by
  have h1 := Zn_inj 8 _ _ h
  have h2 : (r ^^^ c) ^^^ c = (s ^^^ c) ^^^ c := by rw [h1]
  rw [BitVec.xor_assoc, BitVec.xor_self, BitVec.xor_zero, BitVec.xor_assoc, BitVec.xor_self, BitVec.xor_zero] at h2
  exact h2
def fold (r : W) (l : List W) : W := l.foldl Bs r
theorem fold_inj (l : List W) : ∀ {r s : W}, fold r l = fold s l → r = s := by
  induction l with
  | nil => intro r s h; exact h
  | cons c l ih => intro r s h; exact Bs_inj (ih h)
/-- A byte as a word. -/
def by8 (n : Nat) : W := BitVec.ofNat 32 n
theorem sh8 (n : Nat) (h : n < 256) : Zn 8 (by8 n <<< 8) = by8 n := by
  have : ∀ m : Fin 256, Zn 8 (by8 m.1 <<< 8) = by8 m.1 := by decide +kernel
  exact this ⟨n, h⟩
theorem sh16 (n : Nat) (h : n < 256) : Zn 16 (by8 n <<< 16) = by8 n := by
  have : ∀ m : Fin 256, Zn 16 (by8 m.1 <<< 16) = by8 m.1 := by decide +kernel
  exact this ⟨n, h⟩
theorem sh24 (n : Nat) (h : n < 256) : Zn 24 (by8 n <<< 24) = by8 n := by
  have : ∀ m : Fin 256, Zn 24 (by8 m.1 <<< 24) = by8 m.1 := by decide +kernel
  exact this ⟨n, h⟩
/-- Four bytes, the least one first, as a word. -/
def le4 (c0 c1 c2 c3 : Nat) : W := by8 c0 ^^^ (by8 c1 <<< 8) ^^^ (by8 c2 <<< 16) ^^^ (by8 c3 <<< 24)
theorem four (r : W) (c0 c1 c2 c3 : Nat) (h1 : c1 < 256) (h2 : c2 < 256) (h3 : c3 < 256) : Bs (Bs (Bs (Bs r (by8 c0)) (by8 c1)) (by8 c2)) (by8 c3) = Zn 32 (r ^^^ le4 c0 c1 c2 c3) := by
  unfold le4
  rw [← BitVec.xor_assoc, ← BitVec.xor_assoc, ← BitVec.xor_assoc]
  have a1 : ∀ v, Zn 32 v = Zn 8 (Zn 24 v) := Zn_add 24 8
  have a2 : ∀ v, Zn 24 v = Zn 8 (Zn 16 v) := Zn_add 16 8
  have a3 : ∀ v, Zn 16 v = Zn 8 (Zn 8 v) := Zn_add 8 8
  rw [a1, Zn_xor 24, sh24 c3 h3, a2, Zn_xor 16, sh16 c2 h2, a3, Zn_xor 8 (r ^^^ by8 c0) (by8 c1 <<< 8), sh8 c1 h1]
  rfl
theorem by8_bit (n i : Nat) (h : n < 256) : (by8 n).getLsbD i = (decide (i < 8) && n.testBit i) := by
  unfold by8
  rw [BitVec.getLsbD_ofNat]
  by_cases c : i < 8
  · rw [decide_eq_true c, decide_eq_true (show i < 32 by omega)]
  · rw [decide_eq_false c, Nat.testBit_lt_two_pow (Nat.lt_of_lt_of_le h (show 2 ^ 8 ≤ 2 ^ i from Nat.pow_le_pow_right (by decide) (by omega)))]; simp
theorem le4_bit (c0 c1 c2 c3 j : Nat) (h0 : c0 < 256) (h1 : c1 < 256) (h2 : c2 < 256) (h3 : c3 < 256) (hj : j < 8) :
    (le4 c0 c1 c2 c3).getLsbD j = c0.testBit j ∧ (le4 c0 c1 c2 c3).getLsbD (8 + j) = c1.testBit j ∧ (le4 c0 c1 c2 c3).getLsbD (16 + j) = c2.testBit j ∧ (le4 c0 c1 c2 c3).getLsbD (24 + j) = c3.testBit j := by
  unfold le4
  simp only [BitVec.getLsbD_xor, BitVec.getLsbD_shiftLeft, by8_bit _ _ h0, by8_bit _ _ h1, by8_bit _ _ h2, by8_bit _ _ h3]
  refine ⟨?_, ?_, ?_, ?_⟩
  · simp [show j < 8 from hj, show j < 16 by omega, show j < 24 by omega]
  · simp [show ¬ (8 + j < 8) by omega, show 8 + j < 16 by omega, show 8 + j < 24 by omega, show 8 + j < 32 by omega, hj]
  · simp [show ¬ (16 + j < 8) by omega, show ¬ (16 + j < 16) by omega, show 16 + j < 24 by omega, show 16 + j < 32 by omega, hj, show ¬ (16 + j - 8 < 8) by omega]
  · simp [show ¬ (24 + j < 8) by omega, show ¬ (24 + j < 16) by omega, show ¬ (24 + j < 24) by omega, show 24 + j < 32 by omega, hj, show ¬ (24 + j - 8 < 8) by omega, show ¬ (24 + j - 16 < 8) by omega]
theorem byte_ext {a b : Nat} (ha : a < 256) (hb : b < 256) (h : ∀ j, j < 8 → a.testBit j = b.testBit j) : a = b := by
  apply Nat.eq_of_testBit_eq
  intro i
  by_cases c : i < 8
  · exact h i c
  · rw [Nat.testBit_lt_two_pow (Nat.lt_of_lt_of_le ha (show 2 ^ 8 ≤ 2 ^ i from Nat.pow_le_pow_right (by decide) (by omega))), Nat.testBit_lt_two_pow (Nat.lt_of_lt_of_le hb (show 2 ^ 8 ≤ 2 ^ i from Nat.pow_le_pow_right (by decide) (by omega)))]
theorem le4_inj {c0 c1 c2 c3 d0 d1 d2 d3 : Nat} (h0 : c0 < 256) (h1 : c1 < 256) (h2 : c2 < 256) (h3 : c3 < 256) (k0 : d0 < 256) (k1 : d1 < 256) (k2 : d2 < 256) (k3 : d3 < 256) (h : le4 c0 c1 c2 c3 = le4 d0 d1 d2 d3) : c0 = d0 ∧ c1 = d1 ∧ c2 = d2 ∧ c3 = d3 := by
  refine ⟨byte_ext h0 k0 fun j hj => ?_, byte_ext h1 k1 fun j hj => ?_, byte_ext h2 k2 fun j hj => ?_, byte_ext h3 k3 fun j hj => ?_⟩
  · rw [← (le4_bit c0 c1 c2 c3 j h0 h1 h2 h3 hj).1, ← (le4_bit d0 d1 d2 d3 j k0 k1 k2 k3 hj).1, h]
  · rw [← (le4_bit c0 c1 c2 c3 j h0 h1 h2 h3 hj).2.1, ← (le4_bit d0 d1 d2 d3 j k0 k1 k2 k3 hj).2.1, h]
  · rw [← (le4_bit c0 c1 c2 c3 j h0 h1 h2 h3 hj).2.2.1, ← (le4_bit d0 d1 d2 d3 j k0 k1 k2 k3 hj).2.2.1, h]
  · rw [← (le4_bit c0 c1 c2 c3 j h0 h1 h2 h3 hj).2.2.2, ← (le4_bit d0 d1 d2 d3 j k0 k1 k2 k3 hj).2.2.2, h]
/-- Four bytes behind one state: two unlike fours leave unlike states, and any bytes behind them keep those unlike. -/
theorem burst {r : W} {c0 c1 c2 c3 d0 d1 d2 d3 : Nat} (h0 : c0 < 256) (h1 : c1 < 256) (h2 : c2 < 256) (h3 : c3 < 256) (k0 : d0 < 256) (k1 : d1 < 256) (k2 : d2 < 256) (k3 : d3 < 256) (l : List W)
    (h : fold r (by8 c0 :: by8 c1 :: by8 c2 :: by8 c3 :: l) = fold r (by8 d0 :: by8 d1 :: by8 d2 :: by8 d3 :: l)) : c0 = d0 ∧ c1 = d1 ∧ c2 = d2 ∧ c3 = d3 := by
  have h' : Bs (Bs (Bs (Bs r (by8 c0)) (by8 c1)) (by8 c2)) (by8 c3) = Bs (Bs (Bs (Bs r (by8 d0)) (by8 d1)) (by8 d2)) (by8 d3) := fold_inj l h
  rw [four r c0 c1 c2 c3 h1 h2 h3, four r d0 d1 d2 d3 k1 k2 k3] at h'
  have h2' := Zn_inj 32 _ _ h'
  have h3' : r ^^^ (r ^^^ le4 c0 c1 c2 c3) = r ^^^ (r ^^^ le4 d0 d1 d2 d3) := by rw [h2']
  rw [← BitVec.xor_assoc, ← BitVec.xor_assoc, BitVec.xor_self, BitVec.zero_xor, BitVec.zero_xor] at h3'
  exact le4_inj h0 h1 h2 h3 k0 k1 k2 k3 h3'
/-- What stands in a block's last four bytes is the sum of those ahead, just if the state behind all is one fixed word. -/
theorem sealed (l : List W) (c0 c1 c2 c3 : Nat) (h1 : c1 < 256) (h2 : c2 < 256) (h3 : c3 < 256) : fold 0xFFFFFFFF#32 (l ++ [by8 c0, by8 c1, by8 c2, by8 c3]) = Zn 32 0xFFFFFFFF#32 ↔ le4 c0 c1 c2 c3 = ~~~ (fold 0xFFFFFFFF#32 l) := by
  have e : fold 0xFFFFFFFF#32 (l ++ [by8 c0, by8 c1, by8 c2, by8 c3]) = Zn 32 (fold 0xFFFFFFFF#32 l ^^^ le4 c0 c1 c2 c3) := by
    rw [← four _ c0 c1 c2 c3 h1 h2 h3]; unfold fold; rw [List.foldl_append]; rfl
  rw [e]
  generalize fold 0xFFFFFFFF#32 l = r
  constructor
  · intro h
    have h' := Zn_inj 32 _ _ h
    have h3' : r ^^^ (r ^^^ le4 c0 c1 c2 c3) = r ^^^ 0xFFFFFFFF#32 := by rw [h']
    rw [← BitVec.xor_assoc, BitVec.xor_self, BitVec.zero_xor] at h3'
    rw [h3', show (0xFFFFFFFF#32 : W) = BitVec.allOnes 32 from by decide, BitVec.xor_allOnes]
  · intro h
    rw [h, ← BitVec.xor_allOnes, ← BitVec.xor_assoc, BitVec.xor_self, BitVec.zero_xor]
    rfl
end Go.Proofs.Ytaaemamcdhebhaa.Crc
