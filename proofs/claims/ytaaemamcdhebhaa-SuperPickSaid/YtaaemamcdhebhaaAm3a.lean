/- Am3a: part of a calculus over an abstract machine that stands beside the model, and contracts of functions by it.
Conditions: what each theorem says of its arguments. -/
import Derived.Test.YtaaemamcdhebhaaAm2
import Derived.Laws.Append
set_option linter.unusedVariables false
namespace Go.Am
open Go.RowKit

section
variable {P : Program} {μ : Mu} {w : World}

theorem runU {t : TypeId} {d : TypeDesc} (h : P.underlying t = some d) (w : World) : (underlying t).run P w = .ok d w := by
  simp [underlying, h]
theorem runI {t : TypeId} {i : TypeInfo} (h : P.info? t = some i) (w : World) : (typeInfo t).run P w = .ok i w := by
  simp [typeInfo, h]
theorem runS {t : TypeId} {n : Nat} (h : Am.sizeOf P t = some n) (w : World) : (Go.sizeOf t).run P w = .ok n w := by
  unfold Am.sizeOf at h
  cases hi : P.info? t with
  | none => rw [hi] at h; cases h
  | some i => rw [hi] at h; cases h; simp [Go.sizeOf, runI hi]
theorem zeroOf_some {t : TypeId} {z : Value} (h : zeroOf P t = some z) : ∃ i, P.info? t = some i ∧ i.zero = some z ∧ closedV z = true := by
  unfold zeroOf at h
  cases hi : P.info? t with
  | none => rw [hi] at h; cases h
  | some i =>
    rw [hi] at h
    simp only at h
    cases hz : i.zero with
    | none => rw [hz] at h; cases h
    | some z' =>
      rw [hz] at h
      simp only at h
      cases hc : closedV z' with
      | false => rw [hc] at h; cases h
      | true => rw [hc] at h; cases h; exact ⟨i, rfl, hz, hc⟩
theorem runZ {t : TypeId} {z : Value} (h : zeroOf P t = some z) (w : World) : (zeroValue t).run P w = .ok z w := by
  obtain ⟨i, h1, h2, _⟩ := zeroOf_some h
  simp [zeroValue, runI h1, h2]
theorem zeroOf_rel (μ : Mu) {t : TypeId} {z : Value} (h : zeroOf P t = some z) : VRel μ z z := by
  obtain ⟨_, _, _, h3⟩ := zeroOf_some h
  exact closedV_rel μ h3
theorem runA {t : TypeId} {b : Bool} (h : Am.isAgg P t = some b) (w : World) : (Go.isAgg t).run P w = .ok b w := by
  unfold Am.isAgg at h
  cases hu : P.underlying t with
  | none => rw [hu] at h; cases h
  | some d =>
    rw [hu] at h
    cases d <;> cases h <;> simp [Go.isAgg, runU hu]
theorem cellsOf_eq (v : Value) : cellsOf v = v.cells.toList := by cases v <;> rfl

theorem wrap_in (k : IntKind) (lo hi : Int) (n : Int) (h1 : lo ≤ n) (h2 : n ≤ hi) (hk : (k = .i64 ∧ lo = -9223372036854775808 ∧ hi = 9223372036854775807) ∨ (k = .u64 ∧ lo = 0 ∧ hi = 9223372036854775807) ∨ (k = .u8 ∧ lo = 0 ∧ hi = 255) ∨ (k = .u32 ∧ lo = 0 ∧ hi = 4294967295)) : k.wrap n = n := by
  rcases hk with ⟨rfl, rfl, rfl⟩ | ⟨rfl, rfl, rfl⟩ | ⟨rfl, rfl, rfl⟩ | ⟨rfl, rfl, rfl⟩
  · unfold IntKind.wrap
    rw [show ((2 : Int) ^ IntKind.i64.bits) = 18446744073709551616 from rfl, show ((2 : Int) ^ (IntKind.i64.bits - 1)) = 9223372036854775808 from rfl]
    simp only [IntKind.signed, Bool.true_and, decide_eq_true_eq]
    split <;> omega
  · unfold IntKind.wrap
    rw [show ((2 : Int) ^ IntKind.u64.bits) = 18446744073709551616 from rfl]
    simp only [IntKind.signed, Bool.false_and, Bool.false_eq_true, if_false]
    omega
  · unfold IntKind.wrap
    rw [show ((2 : Int) ^ IntKind.u8.bits) = 256 from rfl]
    simp only [IntKind.signed, Bool.false_and, Bool.false_eq_true, if_false]
    omega
  · unfold IntKind.wrap
    rw [show ((2 : Int) ^ IntKind.u32.bits) = 4294967296 from rfl]
    simp only [IntKind.signed, Bool.false_and, Bool.false_eq_true, if_false]
    omega
theorem cond_id {c : Bool} {x y : Int} (h : c = true → y = x) : cond c x y = y := by cases c; rfl; exact (h rfl).symm
theorem fwrap_eq (k : IntKind) (n : Int) : fwrap k n = k.wrap n := by
  cases n with
  | ofNat m =>
    cases k <;> simp only [fwrap] <;> refine cond_id (fun h => ?_) <;> have h := Nat.le_of_ble_eq_true h
    · exact wrap_in .i64 _ _ _ (by simp only [Int.ofNat_eq_natCast]; omega) (by simp only [Int.ofNat_eq_natCast]; omega) (.inl ⟨rfl, rfl, rfl⟩)
    · exact wrap_in .u8 _ _ _ (by simp only [Int.ofNat_eq_natCast]; omega) (by simp only [Int.ofNat_eq_natCast]; omega) (.inr (.inr (.inl ⟨rfl, rfl, rfl⟩)))
    · exact wrap_in .u32 _ _ _ (by simp only [Int.ofNat_eq_natCast]; omega) (by simp only [Int.ofNat_eq_natCast]; omega) (.inr (.inr (.inr ⟨rfl, rfl, rfl⟩)))
    · exact wrap_in .u64 _ _ _ (by simp only [Int.ofNat_eq_natCast]; omega) (by simp only [Int.ofNat_eq_natCast]; omega) (.inr (.inl ⟨rfl, rfl, rfl⟩))
  | negSucc m =>
    cases k <;> simp only [fwrap] <;> refine cond_id (fun h => ?_) <;> have h := Nat.le_of_ble_eq_true h
    · exact wrap_in .i64 _ _ _ (by omega) (by omega) (.inl ⟨rfl, rfl, rfl⟩)

theorem condN {α : Type} {c : Bool} {x : Option α} {v : α} (h : cond c x none = some v) : c = true ∧ x = some v := by
  cases c
  · cases h
  · exact ⟨rfl, h⟩
theorem condN' {α : Type} {c : Bool} {x : Option α} {v : α} (h : cond c none x = some v) : c = false ∧ x = some v := by
  cases c
  · exact ⟨rfl, h⟩
  · cases h

theorem abin_sound {op : BinOp} {k k' : IntKind} {x y : Int} {v : Value} (t : TypeId) (h : abin op k x k' y = some v) : (binOp op t (.int k x) (.int k' y)).run P w = .ok v w ∧ VRel μ v v := by
  cases op <;> simp only [abin] at h
  case shl | shr =>
    obtain ⟨hy, h2⟩ := condN' h
    have hy := of_decide_eq_false hy
    cases h2
    exact ⟨by simp [binOp, Op.shift, hy, fwrap_eq], .int _ _⟩
  all_goals
    obtain ⟨hk, h2⟩ := condN h
    have hk := of_decide_eq_true hk
    subst hk
    clear h
  case quo | rem =>
    obtain ⟨hy, h3⟩ := condN' h2
    have hy := of_decide_eq_false hy
    cases h3
    exact ⟨by simp [binOp, Op.intDiv, hy, fwrap_eq], .int _ _⟩
  case add | sub | mul => cases h2; exact ⟨by simp [binOp, Op.intArith, fwrap_eq], .int _ _⟩
  case and | or | xor | andNot => cases h2; exact ⟨by simp [binOp, Op.intBits], .int _ _⟩
  all_goals first | (cases h2; done) | (cases h2; exact ⟨by simp [binOp, Op.intCmp], .bool _⟩)

theorem eqGuard_int (op : BinOp) (t : TypeId) (ox oy : Operand) (a b : Value) (ha : ∀ cs, a ≠ .agg cs) (hb : a ≠ .nilIface) : (eqGuard op t ox oy a b).run P w = .ok () w := by
  unfold eqGuard
  cases op <;> simp <;> cases a <;> simp_all

theorem aunop_sound {op : UnOp} {x x' v : Value} (h : aunop op x = some v) (hx : VRel μ x x') : (Op.unary op x').run P w = .ok v w ∧ VRel μ v v := by
  unfold aunop at h
  split at h
  · cases hx; cases h; exact ⟨rfl, .bool _⟩
  · cases hx; cases h; exact ⟨by rw [fwrap_eq]; rfl, .int _ _⟩
  · cases hx; cases h; exact ⟨rfl, .int _ _⟩
  · cases h

theorem aconvert_sound {s d : TypeId} {x x' v : Value} (h : aconvert P s d x = some v) (hx : VRel μ x x') : (convert s d x').run P w = .ok v w ∧ VRel μ v v := by
  unfold aconvert at h
  split at h
  · rename_i ds k k0 n hs hd
    cases hx
    cases h
    refine ⟨?_, .int _ _⟩
    rw [fwrap_eq]
    cases ds <;> simp [convert, runU hs, runU hd, Conv.intToInt]
  · cases h
end
end Go.Am
