/- Am18: part of a calculus over an abstract machine that stands beside the model, and contracts of functions by it.
Conditions: what each theorem says of its arguments. -/
import Derived.Test.YtaaemamcdhebhaaAm17
set_option linter.unusedVariables false
namespace Go.Am
open Go.RowKit
section
variable {P : Program} {n : Nat} {ops rest : List Oper} {E E1 : Env} {h h1 : Heap} {Q : Env → Heap → Prop}
/-- Something appended to a row that has no room left: a new block. -/
theorem append_full {t e : TypeId} {i : TypeInfo} {z : Value} {s k m c c' : Nat} {olds news : List Value} {a b : Addr}
    (hu : P.underlying t = some (.slice e)) (hi : P.info? e = some i) (hz : zeroOf P e = some z) (hlz : lenIs (cellsOf z) i.size = true) (hs : i.size = s) (hs1 : 1 ≤ s)
    (ro : Rd h b olds) (hk : olds.length = k * s) (hc : isUnk c = false) (hc2 : half c < k + m)
    (rd : Rd h a news) (hn : news.length = m * s) (hm : 1 ≤ m) (hb : 2 * (k + m) * i.bytes ≤ 281474976710656) (hb2 : k + m ≤ 9223372036854775807) :
    aappend P h t t (.slice (some b) k c) (.slice (some a) m c') = some (.slice (some ⟨h.next, 0, none⟩) (k + m) (unkc s), h.push ⟨olds ++ news, true⟩) := by
  subst hs
  obtain ⟨m, rfl⟩ : ∃ j, m = j + 1 := ⟨m - 1, by omega⟩
  have hr : asrc h i.size (.slice (some a) (m + 1) c') = some (m + 1, news) := by
    have hq : aread h a (Nat.mul (m + 1) i.size) = some (news.take ((m + 1) * i.size)) := rd.read0 (m := (m + 1) * i.size) (by omega)
    simp only [asrc, hq]
    rw [List.take_of_length_le (by omega)]
  have e1 : Nat.ble (Nat.mul (Nat.mul 2 (Nat.add k (Nat.succ m))) i.bytes) 281474976710656 = true := Nat.ble_eq_true_of_le hb
  have e2 : Nat.ble (Nat.add k (Nat.succ m)) 9223372036854775807 = true := Nat.ble_eq_true_of_le hb2
  have e3 : aread h b (Nat.mul k i.size) = some olds := by
    have := ro.read0 (m := k * i.size) (by omega)
    rw [List.take_of_length_le (by omega)] at this
    exact this
  have e4 : Nat.ble (Nat.add k (Nat.succ m)) (half c) = false := by
    cases hbb : Nat.ble (Nat.add k (Nat.succ m)) (half c) with
    | false => rfl
    | true => exact absurd (Nat.le_of_ble_eq_true hbb) (by show ¬ k + (m + 1) ≤ half c; omega)
  simp only [aappend, hu, Nat.beq_refl, cond_true, hi, hz, hlz, Nat.ble_eq_true_of_le hs1, hr, e1, e2, e3, hc, cond_false, e4]
  rfl
end
end Go.Am
