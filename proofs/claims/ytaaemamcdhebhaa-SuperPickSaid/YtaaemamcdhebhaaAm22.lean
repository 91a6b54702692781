/- Am22: part of a calculus over an abstract machine that stands beside the model, and contracts of functions by it.
Conditions: what each theorem says of its arguments. -/
import Derived.Test.YtaaemamcdhebhaaAm21
set_option linter.unusedVariables false
namespace Go.Am
open Go.RowKit
theorem reps_one (z : Value) : ∀ n, reps [z] n = List.replicate n z
  | 0 => rfl
  | n + 1 => by show z :: reps [z] n = _; rw [reps_one z n]; rfl
section
variable {P : Program} {n : Nat} {ops rest : List Oper} {E E1 : Env} {h h1 : Heap} {Q : Env → Heap → Prop}
/-- A row made. -/
theorem make_sl {t e : TypeId} {i : TypeInfo} {z : Value} {m : Nat} {k k' : IntKind} (hu : P.underlying t = some (.slice e)) (hi : P.info? e = some i) (hz : zeroOf P e = some z) (hl : lenIs (cellsOf z) i.size = true) (hb : i.bytes * m ≤ 281474976710656) (hm : m ≤ 9223372036854775807) :
    amakeSlice P h t (.int k (m : Int)) (.int k' (m : Int)) = some (.slice (some ⟨h.next, 0, none⟩) m (exc m), h.push ⟨reps (cellsOf z) m, true⟩) := by
  show (match P.underlying t, Value.int k (.ofNat m), Value.int k' (.ofNat m) with
    | some (.slice e), .int _ (.ofNat n), .int _ (.ofNat m) => _
    | _, _, _ => none) = _
  have e1 : Nat.ble m m = true := Nat.ble_eq_true_of_le (Nat.le_refl _)
  have e2 : Nat.ble (Nat.mul i.bytes m) 281474976710656 = true := Nat.ble_eq_true_of_le hb
  have e3 : Nat.ble m 9223372036854775807 = true := Nat.ble_eq_true_of_le hm
  simp only [hu, hi, hz, hl, cond_true, e1, e2, e3]
theorem RunO.make {d : Tmp} {t ty e : TypeId} {x y : Operand} {pos : String} {after : Array Edge} {i : TypeInfo} {z : Value} {m : Nat} {k k' : IntKind} (hx : gE E x = some (.int k (m : Int))) (hy : gE E y = some (.int k' (m : Int)))
    (hu : P.underlying t = some (.slice e)) (hi : P.info? e = some i) (hz : zeroOf P e = some z) (hl : lenIs (cellsOf z) i.size = true) (hb : i.bytes * m ≤ 281474976710656) (hm : m ≤ 9223372036854775807) (hd : Nat.ble (Nat.succ d) n = true)
    (r : RunO P n ops rest (upd E d (.slice (some ⟨h.next, 0, none⟩) m (exc m))) (h.push ⟨reps (cellsOf z) m, true⟩) Q) : RunO P n ops (⟨some d, .makeSlice t x y, ty, pos, after, none⟩ :: rest) E h Q := by
  refine RunO.one (v := .slice (some ⟨h.next, 0, none⟩) m (exc m)) rfl ?_ (by simp only [eput, hd, cond_true]) r
  simp only [eop, hx, hy]
  exact make_sl hu hi hz hl hb hm
end
end Go.Am
