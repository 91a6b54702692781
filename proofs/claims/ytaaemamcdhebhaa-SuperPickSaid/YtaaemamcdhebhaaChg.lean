/- Four bytes side by side changed by xor, one after the other. Nothing here names the program. -/
import Derived.Test.YtaaemamcdhebhaaBst
namespace Go.Proofs.Ytaaemamcdhebhaa
open Go Go.Am
/-- A byte changed. -/
def xb (c x : Int) : Int := IntKind.u8.wrap (BitVec.ofInt IntKind.u8.bits c ^^^ BitVec.ofInt IntKind.u8.bits x).toNat
theorem u8_toNat (a : BitVec 8) : IntKind.u8.wrap (a.toNat : Int) = a.toNat := by
  have := a.isLt
  simp only [IntKind.wrap]
  first | omega | (simp only [IntKind.bits, IntKind.signed]; omega) | (simp [IntKind.bits, IntKind.signed]; omega)
theorem xor8 (a b : BitVec 8) : xb (a.toNat : Int) (b.toNat : Int) = ((a ^^^ b).toNat : Int) := by
  unfold xb
  have e : ∀ x : BitVec 8, BitVec.ofInt IntKind.u8.bits (x.toNat : Int) = x := fun x => by
    show BitVec.ofInt 8 (x.toNat : Int) = x
    rw [BitVec.ofInt_natCast, BitVec.ofNat_toNat]; rfl
  rw [e a, e b]
  exact u8_toNat (a ^^^ b)
theorem byte_bv {c : Int} (h : 0 ≤ c ∧ c < 256) : ∃ a : BitVec 8, c = (a.toNat : Int) := by
  obtain ⟨n, rfl⟩ := Int.eq_ofNat_of_zero_le h.1
  refine ⟨BitVec.ofNat 8 n, ?_⟩
  rw [BitVec.toNat_ofNat, Nat.mod_eq_of_lt (by omega)]
theorem xb_byte {c x : Int} (hc : 0 ≤ c ∧ c < 256) (hx : 0 ≤ x ∧ x < 256) : 0 ≤ xb c x ∧ xb c x < 256 := by
  obtain ⟨a, rfl⟩ := byte_bv hc
  obtain ⟨b, rfl⟩ := byte_bv hx
  rw [xor8]
  have := (a ^^^ b).isLt
  omega
theorem xb_same {c x : Int} (hc : 0 ≤ c ∧ c < 256) (hx : 0 ≤ x ∧ x < 256) : xb c x = c ↔ x = 0 := by
  obtain ⟨a, rfl⟩ := byte_bv hc
  obtain ⟨b, rfl⟩ := byte_bv hx
  rw [xor8]
  constructor
  · intro h
    have h1 : a ^^^ b = a := BitVec.eq_of_toNat_eq (by omega)
    have h2 : a ^^^ (a ^^^ b) = a ^^^ a := by rw [h1]
    rw [← BitVec.xor_assoc, BitVec.xor_self, BitVec.zero_xor] at h2
    rw [h2]; rfl
  · intro h
    have h1 : b = 0#8 := BitVec.eq_of_toNat_eq (by show b.toNat = 0; omega)
    rw [h1, BitVec.xor_zero]
/-- The list behind so many changes from a place on. -/
def chg (b : List Int) (p : Nat) (x : List Int) : Nat → List Int
  | 0 => b
  | n + 1 => (chg b p x n).set (p + n) (xb ((chg b p x n).getD (p + n) 0) (x.getD n 0))
theorem chg_len (b : List Int) (p : Nat) (x : List Int) : ∀ n, (chg b p x n).length = b.length
  | 0 => rfl
  | n + 1 => by rw [chg, List.length_set, chg_len b p x n]
theorem chg_at (b : List Int) (p : Nat) (x : List Int) : ∀ n j, (chg b p x n).getD j 0 = if p ≤ j ∧ j < p + n ∧ j < b.length then xb (b.getD j 0) (x.getD (j - p) 0) else b.getD j 0 := by
  intro n
  induction n with
  | zero => intro j; rw [if_neg (by omega)]; rfl
  | succ n ih =>
    intro j
    rw [chg]
    by_cases c : j = p + n
    · subst c
      by_cases hl : p + n < b.length
      · rw [if_pos ⟨by omega, by omega, hl⟩, List.getD_eq_getElem?_getD, List.getElem?_set_self (by rw [chg_len]; exact hl), ih, if_neg (by omega)]
        simp
      · rw [if_neg (by omega), List.getD_eq_getElem?_getD, List.getElem?_eq_none (by rw [List.length_set, chg_len]; omega), List.getD_eq_getElem?_getD, List.getElem?_eq_none (by omega)]
    · rw [List.getD_eq_getElem?_getD, List.getElem?_set_ne (by omega), ← List.getD_eq_getElem?_getD, ih]
      by_cases h : p ≤ j ∧ j < p + n ∧ j < b.length
      · rw [if_pos h, if_pos (by omega)]
      · rw [if_neg h, if_neg (by omega)]
theorem ext_getD {a b : List Int} (h : a.length = b.length) (hj : ∀ j, j < a.length → a.getD j 0 = b.getD j 0) : a = b := by
  apply List.ext_getElem h
  intro j h1 h2
  have := hj j h1
  rwa [List.getD_eq_getElem?_getD, List.getD_eq_getElem?_getD, List.getElem?_eq_getElem h1, List.getElem?_eq_getElem h2] at this
theorem chg_take (b : List Int) (p n : Nat) (x : List Int) : (chg b p x n).take p = b.take p := by
  apply ext_getD
  · rw [List.length_take, List.length_take, chg_len]
  · intro j hj
    rw [List.length_take] at hj
    have e : ∀ l : List Int, (l.take p).getD j 0 = l.getD j 0 := fun l => by
      rw [List.getD_eq_getElem?_getD, List.getElem?_take_of_lt (by omega), ← List.getD_eq_getElem?_getD]
    rw [e, e, chg_at, if_neg (by omega)]
theorem chg_drop (b : List Int) (p n : Nat) (x : List Int) : (chg b p x n).drop (p + n) = b.drop (p + n) := by
  apply ext_getD
  · rw [List.length_drop, List.length_drop, chg_len]
  · intro j hj
    have e : ∀ l : List Int, (l.drop (p + n)).getD j 0 = l.getD (p + n + j) 0 := fun l => by
      rw [List.getD_eq_getElem?_getD, List.getElem?_drop, ← List.getD_eq_getElem?_getD]
    rw [e, e, chg_at, if_neg (by omega)]
def bytes (l : List Int) : Prop := ∀ x ∈ l, 0 ≤ x ∧ x < 256
theorem bytes_at {l : List Int} (h : bytes l) (j : Nat) : 0 ≤ l.getD j 0 ∧ l.getD j 0 < 256 := by
  rw [List.getD_eq_getElem?_getD]
  cases hj : l[j]? with
  | none => show (0 : Int) ≤ 0 ∧ (0 : Int) < 256; omega
  | some v => exact h v (List.mem_of_getElem? hj)
theorem chg_bytes {b x : List Int} (hb : bytes b) (hx : bytes x) (p n : Nat) : bytes (chg b p x n) := by
  intro v hv
  obtain ⟨j, hj, rfl⟩ := List.getElem_of_mem hv
  have e : (chg b p x n)[j] = (chg b p x n).getD j 0 := by rw [List.getD_eq_getElem?_getD, List.getElem?_eq_getElem hj]; rfl
  rw [e, chg_at]
  split
  · exact xb_byte (bytes_at hb _) (bytes_at hx _)
  · exact bytes_at hb _
theorem chg_same {b x : List Int} (hb : bytes b) (hx : bytes x) {p : Nat} (hp : p + 4 ≤ b.length) : chg b p x 4 = b ↔ ∀ i, i < 4 → x.getD i 0 = 0 := by
  constructor
  · intro h i hi
    have := chg_at b p x 4 (p + i)
    rw [h, if_pos (by omega), show p + i - p = i by omega] at this
    exact (xb_same (bytes_at hb _) (bytes_at hx _)).1 this.symm
  · intro h
    apply ext_getD (chg_len _ _ _ _)
    intro j hj
    rw [chg_at]
    split
    · rename_i c
      exact (xb_same (bytes_at hb _) (bytes_at hx _)).2 (h _ (by omega))
    · rfl
/-- A block that was right is right no more when one of four bytes side by side was changed. -/
theorem chg_bad {m : List Int} {fl : List (Nat × Nat)} {b x : List Int} (hb : bytes b) (hx : bytes x) {p : Nat} (hp : p + 4 ≤ 64) (h0 : readB m fl b = 0) : readB m fl (chg b p x 4) = 0 ↔ ∀ i, i < 4 → x.getD i 0 = 0 := by
  have hg := readB_good h0
  rw [← chg_same hb hx (by rw [hg.2]; exact hp)]
  constructor
  · intro h1
    have hg1 := readB_good h1
    exact burst_good hp hg1.2 hg.2 (chg_bytes hb hx _ _) hb (chg_take _ _ _ _) (chg_drop _ _ _ _) hg1.1 hg.1
  · intro h1
    rw [h1]; exact h0
end Go.Proofs.Ytaaemamcdhebhaa
