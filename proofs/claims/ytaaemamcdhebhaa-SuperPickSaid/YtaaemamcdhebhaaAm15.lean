/- Am15: part of a calculus over an abstract machine that stands beside the model, and contracts of functions by it.
Conditions: what each theorem says of its arguments. -/
import Derived.Test.YtaaemamcdhebhaaAm14
set_option linter.unusedVariables false
namespace Go.Am
open Go.RowKit
theorem unk_exc (c : Nat) : isUnk (exc c) = false := beqF (show 2 * c % 2 ≠ 1 by omega)
theorem unk_unkc (s : Nat) : isUnk (unkc s) = true := beqT (show (2 * s + 1) % 2 = 1 by omega)
/-- A capacity that fits. -/
def Cp (s len c : Nat) : Prop := (isUnk c = true ∧ half c = s) ∨ (isUnk c = false ∧ len ≤ half c)
theorem Cp.exc {s len c : Nat} (h : len ≤ c) : Cp s len (exc c) := .inr ⟨unk_exc c, by rw [half_exc]; exact h⟩
theorem Cp.unkc (s len : Nat) : Cp s len (unkc s) := .inl ⟨unk_unkc s, half_unkc s⟩
section
variable {P : Program} {n : Nat} {ops rest : List Oper} {E E1 : Env} {h h1 : Heap} {Q : Env → Heap → Prop}
theorem slice_pre {t e : TypeId} {b o len c s k : Nat} {ik : IntKind} (hu : P.underlying t = some (.slice e)) (hs : sizeOf P e = some s) (hc : Cp s len c) (hk : k ≤ len) :
    ∃ c', Cp s k c' ∧ aslice P t (.slice (some ⟨b, o, none⟩) len c) none (some (.int ik (k : Int))) none = some (.slice (some ⟨b, o, none⟩) k c') := by
  rcases hc with ⟨h1, h2⟩ | ⟨h1, h2⟩
  · refine ⟨c, .inl ⟨h1, h2⟩, ?_⟩
    have e2 : abounds len len none (some (.int ik (k : Int))) none = some (0, k, len) := by
      show (match cond (Nat.ble k len) (some k) none with | none => none | some h => some (0, h, len)) = _
      rw [Nat.ble_eq_true_of_le hk]; rfl
    simp only [aslice, hu, hs, h1, cond_true, h2, Nat.beq_refl, e2]
    simp [addrAdd]
  · have e2 : abounds len (half c) none (some (.int ik (k : Int))) none = some (0, k, half c) := by
      show (match cond (Nat.ble k (half c)) (some k) none with | none => none | some h => some (0, h, half c)) = _
      rw [Nat.ble_eq_true_of_le (by omega)]; rfl
    refine ⟨exc (half c), Cp.exc (by omega), ?_⟩
    simp only [aslice, hu, hs, h1, cond_false, e2]
    congr 2
    cases Nat.beq (half c) 0 <;> simp [addrAdd]
theorem RunO.slicePre {d : Tmp} {t ty e : TypeId} {x y : Operand} {pos : String} {after : Array Edge} {b o len c s k : Nat} {ik : IntKind}
    (hx : gE E x = some (.slice (some ⟨b, o, none⟩) len c)) (hy : gE E y = some (.int ik (k : Int))) (hu : P.underlying t = some (.slice e)) (hs : sizeOf P e = some s) (hc : Cp s len c) (hk : k ≤ len) (hd : Nat.ble (Nat.succ d) n = true)
    (r : ∀ c', Cp s k c' → RunO P n ops rest (upd E d (.slice (some ⟨b, o, none⟩) k c')) h Q) : RunO P n ops (⟨some d, .slice t x none (some y) none, ty, pos, after, none⟩ :: rest) E h Q := by
  obtain ⟨c', h1, h2⟩ := slice_pre (b := b) (o := o) (ik := ik) hu hs hc hk
  refine RunO.one rfl (v := .slice (some ⟨b, o, none⟩) k c') ?_ (by simp only [eput, hd, cond_true]) (r c' h1)
  simp only [eop, hx, hy, go, h2, pureR]

theorem slice_mid {t e : TypeId} {b o len c s k m : Nat} {ik jk : IntKind} (hu : P.underlying t = some (.slice e)) (hs : sizeOf P e = some s) (hc : Cp s len c) (hk : k < m) (hm : m ≤ len) :
    ∃ c', Cp s (m - k) c' ∧ aslice P t (.slice (some ⟨b, o, none⟩) len c) (some (.int ik (k : Int))) (some (.int jk (m : Int))) none = some (.slice (some ⟨b, o + k * s, none⟩) (m - k) c') := by
  have hkm : (match cond (Nat.ble k m) (some k) none with | none => none | some l => some (l, m, len)) = some (k, m, len) := by rw [Nat.ble_eq_true_of_le (by omega)]; rfl
  rcases hc with ⟨h1, h2⟩ | ⟨h1, h2⟩
  · refine ⟨c, .inl ⟨h1, h2⟩, ?_⟩
    have e2 : abounds len len (some (.int ik (k : Int))) (some (.int jk (m : Int))) none = some (k, m, len) := by
      show (match cond (Nat.ble m len) (some m) none with | none => none | some h => match cond (Nat.ble k h) (some k) none with | none => none | some l => some (l, h, len)) = _
      rw [Nat.ble_eq_true_of_le hm]; simp only [cond_true]; rw [Nat.ble_eq_true_of_le (by omega)]; rfl
    simp only [aslice, hu, hs, h1, cond_true, h2, Nat.beq_refl, e2]
    rfl
  · have e2 : abounds len (half c) (some (.int ik (k : Int))) (some (.int jk (m : Int))) none = some (k, m, half c) := by
      show (match cond (Nat.ble m (half c)) (some m) none with | none => none | some h => match cond (Nat.ble k h) (some k) none with | none => none | some l => some (l, h, half c)) = _
      rw [Nat.ble_eq_true_of_le (by omega)]; simp only [cond_true]; rw [Nat.ble_eq_true_of_le (by omega)]; rfl
    refine ⟨exc (half c - k), Cp.exc (by omega), ?_⟩
    simp only [aslice, hu, hs, h1, cond_false, e2, beqF (show half c ≠ k by omega)]
    rfl
theorem RunO.sliceMid {d : Tmp} {t ty e : TypeId} {x y z : Operand} {pos : String} {after : Array Edge} {b o len c s k m : Nat} {ik jk : IntKind}
    (hx : gE E x = some (.slice (some ⟨b, o, none⟩) len c)) (hy : gE E y = some (.int ik (k : Int))) (hz : gE E z = some (.int jk (m : Int))) (hu : P.underlying t = some (.slice e)) (hs : sizeOf P e = some s) (hc : Cp s len c) (hk : k < m) (hm : m ≤ len) (hd : Nat.ble (Nat.succ d) n = true)
    (r : ∀ c', Cp s (m - k) c' → RunO P n ops rest (upd E d (.slice (some ⟨b, o + k * s, none⟩) (m - k) c')) h Q) : RunO P n ops (⟨some d, .slice t x (some y) (some z) none, ty, pos, after, none⟩ :: rest) E h Q := by
  obtain ⟨c', h1, h2⟩ := slice_mid (b := b) (o := o) (ik := ik) (jk := jk) hu hs hc hk hm
  refine RunO.one rfl (v := .slice (some ⟨b, o + k * s, none⟩) (m - k) c') ?_ (by simp only [eput, hd, cond_true]) (r c' h1)
  simp only [eop, hx, hy, hz, go, h2, pureR]
theorem RunO.indexA {d : Tmp} {t ty : TypeId} {x i : Operand} {pos : String} {after : Array Edge} {gd : Option (Nat × Bool)} {b o len s k : Nat} {ik : IntKind} {e : TypeId}
    (hw : ewanted ops E ⟨some d, .indexAddr t x i, ty, pos, after, gd⟩ = some true) (hx : gE E x = some (.pointer (some ⟨b, o, none⟩))) (hi : gE E i = some (.int ik (k : Int))) (hu : P.underlying t = some (.array len e)) (hs : sizeOf P e = some s) (hk : k < len) (hd : Nat.ble (Nat.succ d) n = true)
    (r : RunO P n ops rest (upd E d (.pointer (some ⟨b, o + k * s, none⟩))) h Q) : RunO P n ops (⟨some d, .indexAddr t x i, ty, pos, after, gd⟩ :: rest) E h Q := by
  refine RunO.oneG hw (v := .pointer (some ⟨b, o + k * s, none⟩)) ?_ (by simp only [eput, hd, cond_true]) r
  have hi : gE E i = some (.int ik (.ofNat k)) := hi
  simp only [eop, hx, hi, aindexAddr, hu, hs, Nat.ble_eq_true_of_le (show Nat.succ k ≤ len from hk), cond_true]
  rfl
/-- A growing row, of its own, in a block from lo on: n elements of s cells. -/
def Row (lo : Nat) (h : Heap) (v : Value) (s n : Nat) (cells : List Value) : Prop :=
  cells.length = n * s ∧ ((v = .slice none 0 0 ∧ n = 0) ∨ ∃ b, lo ≤ b ∧ v = .slice (some ⟨b, 0, none⟩) n (unkc s) ∧ Ow h b cells)
theorem Row.nil (lo : Nat) (h : Heap) (s : Nat) : Row lo h (.slice none 0 0) s 0 [] := ⟨by simp, .inl ⟨rfl, rfl⟩⟩
theorem Row.fr {lo : Nat} {h h' : Heap} {v : Value} {s n : Nat} {cells : List Value} {m : Nat → Prop} (r : Row lo h v s n cells) (f : Fr m h h') (hm : ∀ b, lo ≤ b → b < h.next → ¬ m b) : Row lo h' v s n cells := by
  refine ⟨r.1, r.2.imp (fun x => x) ?_⟩
  rintro ⟨b, h1, h2, h3⟩
  exact ⟨b, h1, h2, h3.fr f (hm b h1 h3.1)⟩
/-- A slice at a block's front. -/
def At (v : Value) (b : Nat) : Prop := ∃ n c, v = .slice (some ⟨b, 0, none⟩) n c
theorem Row.at {lo : Nat} {h : Heap} {v : Value} {s n b : Nat} {cells : List Value} (r : Row lo h v s n cells) (a : At v b) : lo ≤ b ∧ b < h.next := by
  obtain ⟨m, c, rfl⟩ := a
  rcases r.2 with ⟨e, _⟩ | ⟨b', h1, h2, h3⟩
  · cases e
  · cases h2; exact ⟨h1, h3.1⟩
theorem append_row {t e : TypeId} {i : TypeInfo} {z : Value} {lo s k m c' : Nat} {xv : Value} {cells news : List Value} {a : Addr}
    (hu : P.underlying t = some (.slice e)) (hi : P.info? e = some i) (hz : zeroOf P e = some z) (hlz : lenIs (cellsOf z) i.size = true) (hs : i.size = s) (hs1 : 1 ≤ s) (row : Row lo h xv s k cells) (hlo : lo ≤ h.next)
    (rd : Rd h a news) (hn : news.length = m * s) (hm : 1 ≤ m) (ha : allCells news = true) (hb : 2 * (k + m) * i.bytes ≤ 281474976710656) (hb2 : k + m ≤ 9223372036854775807) :
    ∃ v' h', aappend P h t t xv (.slice (some a) m c') = some (v', h') ∧ Row lo h' v' s (k + m) (cells ++ news) ∧ Fr (At xv) h h' := by
  subst hs
  obtain ⟨hl, row⟩ := row
  obtain ⟨m, rfl⟩ : ∃ j, m = j + 1 := ⟨m - 1, by omega⟩
  have hr : asrc h i.size (.slice (some a) (m + 1) c') = some (m + 1, news) := by
    have hq : aread h a (Nat.mul (m + 1) i.size) = some (news.take ((m + 1) * i.size)) := rd.read0 (m := (m + 1) * i.size) (by omega)
    simp only [asrc, hq]
    rw [List.take_of_length_le (by omega)]
  rcases row with ⟨rfl, rfl⟩ | ⟨b, hb1, rfl, ow⟩
  · have hc : cells = [] := List.eq_nil_of_length_eq_zero (by omega)
    subst hc
    refine ⟨.slice (some ⟨h.next, 0, none⟩) (m + 1) (unkc i.size), h.push ⟨news, true⟩, ?_, ⟨by simp; omega, .inr ⟨h.next, hlo, by simp, Ow.push _ _⟩⟩, Fr.push _ _ _⟩
    have e1 : Nat.ble (Nat.mul (Nat.mul 2 (Nat.succ m)) i.bytes) 281474976710656 = true := Nat.ble_eq_true_of_le (by simpa using hb)
    have e2 : Nat.ble (Nat.succ m) 9223372036854775807 = true := Nat.ble_eq_true_of_le (by simpa using hb2)
    simp only [aappend, hu, Nat.beq_refl, cond_true, hi, hz, hlz, Nat.ble_eq_true_of_le hs1, hr, e1, e2]
  · refine ⟨.slice (some ⟨h.next, 0, none⟩) (k + (m + 1)) (unkc i.size), (h.put b none).push ⟨cells ++ news, true⟩, ?_, ⟨by rw [List.length_append, hl, hn, ← Nat.add_mul], .inr ⟨h.next, hlo, rfl, Ow.push _ _⟩⟩, (Fr.put none (.inl ⟨_, _, rfl⟩)).same (Fr.push _ _ _)⟩
    have e1 : Nat.ble (Nat.mul (Nat.mul 2 (Nat.add k (Nat.succ m))) i.bytes) 281474976710656 = true := Nat.ble_eq_true_of_le hb
    have e2 : Nat.ble (Nat.add k (Nat.succ m)) 9223372036854775807 = true := Nat.ble_eq_true_of_le hb2
    have e3 : aread h ⟨b, 0, none⟩ (Nat.mul k i.size) = some cells := by
      have := ow.all.read0 (m := k * i.size) (by omega)
      rw [List.take_of_length_le (by omega)] at this
      exact this
    have e4 : lenIs cells (Nat.add 0 (Nat.mul k i.size)) = true := (lenIs_iff _ _).2 (by show _ = 0 + k * i.size; omega)
    simp only [aappend, hu, Nat.beq_refl, cond_true, hi, hz, hlz, Nat.ble_eq_true_of_le hs1, hr, e1, e2, e3, unk_unkc, half_unkc, ow.2, e4, ha]
    rfl
theorem RunO.append {d : Tmp} {t ty e : TypeId} {x y : Operand} {pos : String} {after : Array Edge} {i : TypeInfo} {z : Value} {lo s k m c' : Nat} {xv : Value} {cells news : List Value} {a : Addr}
    (hx : gE E x = some xv) (hy : gE E y = some (.slice (some a) m c')) (hd : Nat.ble (Nat.succ d) n = true)
    (hu : P.underlying t = some (.slice e)) (hi : P.info? e = some i) (hz : zeroOf P e = some z) (hlz : lenIs (cellsOf z) i.size = true) (hs : i.size = s) (hs1 : 1 ≤ s) (row : Row lo h xv s k cells) (hlo : lo ≤ h.next)
    (rd : Rd h a news) (hn : news.length = m * s) (hm : 1 ≤ m) (ha : allCells news = true) (hb : 2 * (k + m) * i.bytes ≤ 281474976710656) (hb2 : k + m ≤ 9223372036854775807)
    (r : ∀ v' h', Row lo h' v' s (k + m) (cells ++ news) → Fr (At xv) h h' → RunO P n ops rest (upd E d v') h' Q) : RunO P n ops (⟨some d, .call ⟨.builtin .append, #[x, y], #[t, t]⟩, ty, pos, after, none⟩ :: rest) E h Q := by
  obtain ⟨v', h', h1, h2, h3⟩ := append_row (c' := c') hu hi hz hlz hs hs1 row hlo rd hn hm ha hb hb2
  refine RunO.one rfl (v := v') (h1 := h') ?_ (by simp only [eput, hd, cond_true]) (r v' h' h2 h3)
  simp only [eop, gs, hx, hy, abuiltin, h1]
/-- A string copied to the front of a row of one's own. -/
theorem copy_str {t e : TypeId} {b len c : Nat} {m : ByteArray} {cs : List Value} (hu : P.underlying t = some (.slice e)) (hs : sizeOf P e = some 1) (ow : Ow h b cs) (hm : 1 ≤ m.data.toList.length) (hl : m.data.toList.length ≤ len) (hc : m.data.toList.length ≤ cs.length) :
    acopy P h t (.slice (some ⟨b, 0, none⟩) len c) (.string m) = some (goInt m.data.toList.length, h.put b (some ⟨strCells m ++ cs.drop m.data.toList.length, true⟩)) := by
  have hk : (strCells m).length = m.data.toList.length := List.length_map _
  obtain ⟨k, hk2⟩ : ∃ k, m.data.toList.length = k + 1 := ⟨m.data.toList.length - 1, by omega⟩
  have e1 : Nat.min m.data.toList.length len = k + 1 := by rw [← hk2]; exact Nat.min_eq_left hl
  have e2 : takeN (Nat.succ k) (strCells m) = some (strCells m) := by
    rw [takeN_eq, if_pos (by omega), List.take_of_length_le (by omega)]
  have e3 : allCells (strCells m) = true := by
    unfold strCells
    generalize m.data.toList = l
    induction l with
    | nil => rfl
    | cons x l ih => exact ih
  have e4 := storeL_ow (off := 0) ow e3 (by omega)
  simp only [acopy, hu, hs, e1, e2, e4]
  rw [hk, hk2]
  simp
end
end Go.Am
