/- Blocks of numbers: what the code writes and reads, over lists alone. Nothing here names the program. -/
import Derived.Test.YtaaemamcdhebhaaCrcw
import Derived.Laws.CopyOwn
namespace Go.Proofs.Ytaaemamcdhebhaa.Blk
open Go.RowKit
/-- A number's bytes, the least one first. -/
def leB : Nat → Int → List Int
  | 0, _ => []
  | n + 1, v => v % 256 :: leB n (v / 256)
theorem leB_len (n : Nat) : ∀ v, (leB n v).length = n := by
  induction n with
  | zero => intro v; rfl
  | succ n ih => intro v; rw [leB, List.length_cons, ih]
theorem leB_snoc (n : Nat) : ∀ v : Int, leB (n + 1) v = leB n v ++ [v / 256 ^ n % 256] := by
  induction n with
  | zero => intro v; simp [leB]
  | succ n ih =>
    intro v
    rw [leB, ih, leB, List.cons_append]
    congr 3
    rw [Int.pow_succ, Int.mul_comm, Int.ediv_ediv_of_nonneg (by omega)]
theorem leB_mem {n : Nat} : ∀ {v x : Int}, x ∈ leB n v → 0 ≤ x ∧ x < 256 := by
  induction n with
  | zero => intro v x h; simp [leB] at h
  | succ n ih =>
    intro v x h
    rw [leB, List.mem_cons] at h
    rcases h with rfl | h
    · omega
    · exact ih h
/-- The number of bytes. -/
def leN : List Int → Int
  | [] => 0
  | x :: t => x + 256 * leN t
theorem leN_leB (n : Nat) : ∀ v : Int, leN (leB n v) = v % 256 ^ n := by
  induction n with
  | zero => intro v; simp [leB, leN, Int.emod_one]
  | succ n ih =>
    intro v
    rw [leB, leN, ih, Int.pow_succ, Int.mul_comm (256 ^ n) 256]
    have h1 := Int.emod_add_mul_ediv v 256
    have h2 := Int.emod_add_mul_ediv (v / 256) (256 ^ n)
    have h3 : v / (256 * 256 ^ n) = v / 256 / 256 ^ n := (Int.ediv_ediv_of_nonneg (by omega)).symm
    have h4 := Int.emod_add_mul_ediv v (256 * 256 ^ n)
    rw [h3, Int.mul_assoc] at h4
    have h5 : 256 * (v / 256 % 256 ^ n + 256 ^ n * (v / 256 / 256 ^ n)) = 256 * (v / 256) := by rw [h2]
    rw [Int.mul_add] at h5
    omega
theorem leN_nonneg : ∀ {l : List Int}, (∀ x ∈ l, 0 ≤ x ∧ x < 256) → 0 ≤ leN l ∧ leN l < 256 ^ l.length := by
  intro l
  induction l with
  | nil => intro _; simp [leN]
  | cons x t ih =>
    intro h
    have h1 := h x (List.mem_cons_self ..)
    have h2 := ih (fun y hy => h y (List.mem_cons_of_mem _ hy))
    rw [leN, List.length_cons, Int.pow_succ, Int.mul_comm (256 ^ t.length) 256]
    omega
theorem leB_leN : ∀ {l : List Int}, (∀ x ∈ l, 0 ≤ x ∧ x < 256) → leB l.length (leN l) = l := by
  intro l
  induction l with
  | nil => intro _; rfl
  | cons x t ih =>
    intro h
    have h1 := h x (List.mem_cons_self ..)
    have h2 := ih (fun y hy => h y (List.mem_cons_of_mem _ hy))
    rw [List.length_cons, leB, leN]
    have e1 : (x + 256 * leN t) % 256 = x := by omega
    have e2 : (x + 256 * leN t) / 256 = leN t := by omega
    rw [e1, e2, h2]
/-- Zeros behind bytes, up to so many. -/
def padTo (n : Nat) (b : List Int) : List Int := b ++ List.replicate (n - b.length) 0
theorem padTo_len {n : Nat} {b : List Int} (h : b.length ≤ n) : (padTo n b).length = n := by unfold padTo; simp; omega
theorem splice_pad {n : Nat} {b c : List Int} (h : b.length + c.length ≤ n) : splice (padTo n b) b.length c = padTo n (b ++ c) := by
  unfold splice padTo
  rw [List.take_left', List.drop_append, List.drop_replicate, List.length_append, List.append_assoc]
  · congr 2
    rw [List.drop_of_length_le (by omega), List.nil_append]
    congr 1; omega
  · rfl
theorem splice_seal {n m : Nat} {b c : List Int} (h : b.length ≤ m) (h2 : m + c.length = n) : splice (padTo n b) m c = padTo m b ++ c ∧ (padTo n b).take m = padTo m b := by
  have e : (padTo n b).take m = padTo m b := by
    unfold padTo
    rw [List.take_append, List.take_of_length_le h, List.take_replicate]
    congr 2; omega
  refine ⟨?_, e⟩
  unfold splice
  rw [e]
  have : (padTo n b).drop (m + c.length) = [] := List.drop_of_length_le (by rw [padTo_len (by omega)]; omega)
  rw [this, List.append_nil]
theorem splice_set {l c : List Int} {p : Nat} {i : Nat} {b : Int} (hc : c.length = i) (h : p + i < l.length) : (splice l p c).set (p + i) b = splice l p (c ++ [b]) := by
  subst hc
  have e : splice l p c = (l.take p ++ c) ++ l.drop (p + c.length) := by unfold splice; rw [List.append_assoc]
  have hl : (l.take p ++ c).length = p + c.length := by simp; omega
  rw [e, List.set_append_right _ _ (by omega), hl, Nat.sub_self]
  unfold splice
  rw [List.drop_eq_getElem_cons h, List.set_cons_zero, List.append_assoc, List.append_assoc, List.length_append]
  rfl
/-- Numbers side by side. -/
def flatB : List Nat → List Int → List Int
  | s :: ss, v :: vs => leB s v ++ flatB ss vs
  | _, _ => []
theorem flatB_snoc : ∀ (ss : List Nat) (vs : List Int) (s : Nat) (v : Int), ss.length = vs.length → flatB (ss ++ [s]) (vs ++ [v]) = flatB ss vs ++ leB s v := by
  intro ss
  induction ss with
  | nil =>
    intro vs s v h
    obtain rfl : vs = [] := List.eq_nil_of_length_eq_zero (by simpa using h.symm)
    simp [flatB]
  | cons a ss ih =>
    intro vs s v h
    cases vs with
    | nil => simp at h
    | cons b vs =>
      simp only [List.cons_append, flatB]
      rw [ih vs s v (by simpa using h), List.append_assoc]
theorem flatB_len : ∀ (ss : List Nat) (vs : List Int), ss.length = vs.length → (flatB ss vs).length = ss.sum := by
  intro ss
  induction ss with
  | nil => intro vs h; simp [flatB]
  | cons a ss ih =>
    intro vs h
    cases vs with
    | nil => simp at h
    | cons b vs => simp only [flatB, List.length_append, leB_len, List.sum_cons, ih vs (by simpa using h)]
/-- Sixty bytes with their sum behind them. -/
def sealB (b : List Int) : List Int := b ++ leB 4 (Crc.sum 0 b)
/-- A block: its magic, its numbers, zeros, the sum. -/
def blk (m : List Int) (ss : List Nat) (vs : List Int) : List Int := sealB (padTo 60 (m ++ flatB ss vs))
/-- Are numbers bytes? -/
def bytesOk (l : List Int) : Bool := l.all (fun x => decide (0 ≤ x) && decide (x < 256))
theorem bytesOk_iff {l : List Int} : bytesOk l = true ↔ ∀ x ∈ l, 0 ≤ x ∧ x < 256 := by
  unfold bytesOk; rw [List.all_eq_true]
  constructor
  · intro h x hx; have := h x hx; simpa using this
  · intro h x hx; have := h x hx; simpa using this
/-- Numbers read side by side. -/
def numsB : List Nat → List Int → List Int
  | [], _ => []
  | s :: ss, b => leN (b.take s) :: numsB ss (b.drop s)
theorem numsB_len : ∀ (ss : List Nat) (b : List Int), (numsB ss b).length = ss.length := by
  intro ss
  induction ss with
  | nil => intro b; rfl
  | cons s ss ih => intro b; simp [numsB, ih]
def maxId : Int := 4611686018427387903
/-- Is a block's sum that of what stands ahead of it? -/
def goodB (b : List Int) : Bool := leN (b.drop 60) == Crc.sum 0 (b.take 60)
def zerosB (l : List Int) (a b : Nat) : Bool := ((l.take b).drop a).all (fun x => x == 0)
/-- What a block says: why not (0: it says so), its numbers. -/
def readB (m : List Int) (ss : List Nat) (b : List Int) : Int × List Int :=
  if b.length ≠ 64 then (2, []) else if b.take 4 ≠ m then (4, []) else if goodB b = false then (5, []) else
  if (numsB ss (b.drop 4)).all (fun n => decide (n ≤ maxId)) && zerosB b (4 + ss.sum) 60 then (0, numsB ss (b.drop 4)) else (1, [])
theorem or_join (a b : Int) (i : Nat) (ha0 : 0 ≤ a) (ha : a < 256 ^ i) (hb0 : 0 ≤ b) (hb : b < 256) (hi : i < 8) : bits .or .u64 a (b * 256 ^ i) = a + b * 256 ^ i := by
  have hc : ∀ x y : Int, bits .or .u64 x y = bits .or .u64 y x := fun x y => by unfold bits; simp only; rw [BitVec.or_comm]
  have hk : ∀ n : Int, 0 ≤ n → n < 2 ^ 64 → IntKind.u64.wrap n = n := fun n h0 h1 => by
    have : (2 : Int) ^ 64 = 18446744073709551616 := by decide
    rw [this] at h1
    unfold IntKind.wrap; simp [IntKind.signed, IntKind.bits]; omega
  have e8 : (256 : Int) ^ i = 2 ^ (8 * i) := by rw [Int.pow_mul]; rfl
  have hm : (256 : Int) ^ i ≤ 256 ^ 7 := by
    have : i = 0 ∨ i = 1 ∨ i = 2 ∨ i = 3 ∨ i = 4 ∨ i = 5 ∨ i = 6 ∨ i = 7 := by omega
    rcases this with rfl | rfl | rfl | rfl | rfl | rfl | rfl | rfl <;> decide
  have h7 : (256 : Int) ^ 7 = 72057594037927936 := by decide
  have h64 : (2 : Int) ^ 64 = 18446744073709551616 := by decide
  have hp : (0 : Int) < 256 ^ i := Int.pow_pos (by decide)
  have hlt : b * 256 ^ i < 2 ^ 64 := by
    have h1 : b * 256 ^ i ≤ 255 * 256 ^ i := Int.mul_le_mul_of_nonneg_right (by omega) (by omega)
    have h2 : 255 * 256 ^ i ≤ 255 * (256 : Int) ^ 7 := Int.mul_le_mul_of_nonneg_left hm (by decide)
    rw [h7] at h2; rw [h64]; omega
  rw [hc, bits_join .u64 64 (by decide) hk (8 * i) (b * 256 ^ i) a (Int.mul_nonneg hb0 (by omega)) (by rw [e8]; exact Int.mul_emod_left _ _) hlt ha0 (by rw [← e8]; exact ha) (by rw [h64]; rw [h7] at hm; omega), Int.add_comm]
theorem leN_snoc : ∀ (l : List Int) (x : Int), leN (l ++ [x]) = leN l + x * 256 ^ l.length := by
  intro l
  induction l with
  | nil => intro x; simp [leN]
  | cons y t ih =>
    intro x
    rw [List.cons_append, leN, ih, leN, List.length_cons, Int.pow_succ, Int.mul_add, Int.add_assoc]
    congr 2
    rw [← Int.mul_assoc, Int.mul_comm 256 x, Int.mul_assoc, Int.mul_comm 256 (256 ^ t.length)]
end Go.Proofs.Ytaaemamcdhebhaa.Blk
