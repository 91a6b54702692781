/- Words of 32 bits as whole numbers: what the walk of the sums needs. Nothing here names the program. -/
import Derived.Test.YtaaemamcdhebhaaBurst
import Derived.Test.YtaaemamcdhebhaaWWords
import Derived.IntWalk
namespace Go.Proofs.Ytaaemamcdhebhaa.Crc
open Go.RowKit
theorem u32_toNat (a : W) : IntKind.u32.wrap (a.toNat : Int) = a.toNat := by
  have := a.isLt
  rw [IntKind.wrap_u32]; omega
theorem xor32 (a b : W) : bits .xor .u32 (a.toNat : Int) (b.toNat : Int) = ((a ^^^ b).toNat : Int) := by
  unfold bits
  have e : ∀ x : W, BitVec.ofInt IntKind.u32.bits (x.toNat : Int) = x := fun x => by
    show BitVec.ofInt 32 (x.toNat : Int) = x
    rw [BitVec.ofInt_natCast, BitVec.ofNat_toNat]; rfl
  rw [e a, e b]
  exact u32_toNat (a ^^^ b)
theorem Z_nat (v : W) : (Z v).toNat = if v.toNat % 2 = 1 then ((v >>> 1) ^^^ poly).toNat else v.toNat / 2 := by
  unfold Z
  have hb : v.getLsbD 0 = decide (v.toNat % 2 = 1) := by
    rw [BitVec.getLsbD, Nat.testBit_zero]
  rw [hb]
  by_cases c : v.toNat % 2 = 1
  · rw [decide_eq_true c, if_pos c]; rfl
  · rw [decide_eq_false c, if_neg c]; simp [Nat.shiftRight_eq_div_pow]
theorem half (v : W) : (v >>> 1).toNat = v.toNat / 2 := by simp [Nat.shiftRight_eq_div_pow]
theorem Zn_succ (n : Nat) (v : W) : Zn (n + 1) v = Z (Zn n v) := Zn_add n 1 v
/-- A word's number. -/
def nt (a : W) : Int := a.toNat
theorem nt0 (a : W) : 0 ≤ nt a := by unfold nt; omega
theorem nt1 (a : W) : nt a < 4294967296 := by have := a.isLt; unfold nt; omega
theorem nt_inj {a b : W} (h : nt a = nt b) : a = b := by
  apply BitVec.eq_of_toNat_eq; unfold nt at h; omega
theorem nt_u32 (a : W) : IntKind.u32.wrap (nt a) = nt a := u32_toNat a
theorem nt_ofInt (x : Int) : nt (BitVec.ofInt 32 x) = IntKind.u32.wrap x := by
  unfold nt; rw [BitVec.toNat_ofInt, IntKind.wrap_u32]; omega
theorem nt_u64 (a : W) : IntKind.u64.wrap (nt a) = nt a := by
  have h0 := nt0 a
  have h1 := nt1 a
  unfold IntKind.wrap; simp [IntKind.signed, IntKind.bits] <;> omega
theorem nt_i64 (a : W) : IntKind.i64.wrap (nt a) = nt a := by
  have h0 := nt0 a
  have h1 := nt1 a
  rw [IntKind.wrap_i64]; omega
theorem not32 (a : W) : bits .xor .u32 IntKind.u32.max (nt a) = nt (~~~ a) := by
  have h := xor32 (BitVec.allOnes 32) a
  rw [BitVec.allOnes_xor] at h
  exact h
theorem poly32 (a : W) : bits .xor .u32 (nt a) 2197175160 = nt (a ^^^ poly) := xor32 a poly
theorem byte32 (a : W) (x : Int) : bits .xor .u32 (nt a) (IntKind.u32.wrap x) = nt (a ^^^ BitVec.ofInt 32 x) := by
  have h := xor32 a (BitVec.ofInt 32 x)
  rw [← nt_ofInt]; exact h
theorem byte32m (a : W) (x : Int) : bits .xor .u32 (nt a) (x % (4294967296 : Int)) = nt (a ^^^ BitVec.ofInt 32 x) := by
  rw [← byte32, IntKind.wrap_u32]
theorem nt_half (a : W) : nt (a >>> 1) = nt a / 2 := by unfold nt; rw [half]; omega
theorem half32 (a : W) : (nt a).tdiv 2 % (4294967296 : Int) = nt (a >>> 1) := by
  have h0 := nt0 a
  have h1 := nt1 a
  rw [Int.tdiv_eq_ediv_of_nonneg h0, nt_half]; omega
theorem u32_u64 (x : Int) : IntKind.u32.wrap (IntKind.u64.wrap x) = IntKind.u32.wrap x := by
  rw [IntKind.wrap_u32, IntKind.wrap_u32]; unfold IntKind.wrap; simp [IntKind.signed, IntKind.bits] <;> omega
theorem and1 (a : W) : bits .and .u32 (nt a) 1 = nt a % 2 := by
  unfold bits nt
  have e : ∀ x : W, BitVec.ofInt IntKind.u32.bits (x.toNat : Int) = x := fun x => by
    show BitVec.ofInt 32 (x.toNat : Int) = x
    rw [BitVec.ofInt_natCast, BitVec.ofNat_toNat]; rfl
  have e1 : BitVec.ofInt IntKind.u32.bits 1 = (1#32 : W) := rfl
  rw [e a, e1]
  have h : ((a &&& 1#32 : W).toNat : Int) = (a.toNat : Int) % 2 := by
    rw [BitVec.toNat_and]
    have : (1#32 : W).toNat = 1 := by decide
    rw [this, Nat.and_one_is_mod]; omega
  rw [← h]
  exact u32_toNat (a &&& 1#32)
theorem Z_odd (v : W) (h : nt v % 2 = 1) : Z v = (v >>> 1) ^^^ poly := by
  apply BitVec.eq_of_toNat_eq; rw [Z_nat, if_pos (by unfold nt at h; omega)]
theorem Z_even (v : W) (h : ¬ nt v % 2 = 1) : Z v = v >>> 1 := by
  apply BitVec.eq_of_toNat_eq; rw [Z_nat, if_neg (by unfold nt at h; omega), half]
/-- The state behind bytes. -/
def st (l : List Int) (v : W) : W := l.foldl (fun s x => Zn 8 (s ^^^ BitVec.ofInt 32 x)) v
theorem st_snoc (l : List Int) (x : Int) (v : W) : st (l ++ [x]) v = Zn 8 (st l v ^^^ BitVec.ofInt 32 x) := by
  unfold st; rw [List.foldl_append]; rfl
/-- The sum of bytes, gone on from a sum. -/
def sum (a : Int) (l : List Int) : Int := nt (~~~ st l (~~~ BitVec.ofInt 32 a))
theorem sum0 (a : Int) (l : List Int) : 0 ≤ sum a l := nt0 _
theorem sum1 (a : Int) (l : List Int) : sum a l < 4294967296 := nt1 _
end Go.Proofs.Ytaaemamcdhebhaa.Crc
