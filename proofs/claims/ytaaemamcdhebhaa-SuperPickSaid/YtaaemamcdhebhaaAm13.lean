/- Am13: part of a calculus over an abstract machine that stands beside the model, and contracts of functions by it.
Conditions: what each theorem says of its arguments. -/
import Derived.Test.YtaaemamcdhebhaaAm12
set_option linter.unusedVariables false
namespace Go.Am
open Go.RowKit
section
variable {P : Program} {n : Nat} {ops rest : List Oper} {E E1 : Env} {h h1 : Heap} {Q : Env → Heap → Prop}

theorem RunO.mono {Q' : Env → Heap → Prop} (r : RunO P n ops rest E h Q) (w : ∀ E h, Q E h → Q' E h) : RunO P n ops rest E h Q' := by
  obtain ⟨E', h', q, r⟩ := r
  exact ⟨E', h', w _ _ q, r⟩
theorem RunO.one {o : Oper} {v : Value} (g : o.guard = none) (e : eop P E o h = some (v, h1)) (p : eput n E o.dst v = some E1) (r : RunO P n ops rest E1 h1 Q) : RunO P n ops (o :: rest) E h Q := by
  refine RunO.part (E1 := E1) (h1 := h1) 1 ?_ r
  show eops P n ops [o] E h = _
  simp only [eops, estep, ewanted, g, e, p]

/- Memory. -/
theorem get_push (h : Heap) (o : AObj) (i : Nat) : (h.push o).get i = if i = h.next then some o else h.get i := Tr.get_set _ _ _ _
theorem get_put (h : Heap) (b : Nat) (o : Option AObj) (i : Nat) : (h.put b o).get i = if i = b then o else h.get i := Tr.get_set _ _ _ _
theorem next_push (h : Heap) (o : AObj) : (h.push o).next = h.next + 1 := rfl
theorem next_put (h : Heap) (b : Nat) (o : Option AObj) : (h.put b o).next = h.next := rfl
theorem low_push (h : Heap) (o : AObj) : (h.push o).low = h.low := rfl
theorem lowput_eq (h : Heap) (b : Nat) (o : Option AObj) : (h.put b o).low = min h.low b := by
  show cond (Nat.ble h.low b) h.low b = _
  cases e : Nat.ble h.low b with
  | true => have := Nat.le_of_ble_eq_true e; simp only [cond_true]; omega
  | false =>
    have : ¬ h.low ≤ b := fun x => by rw [Nat.ble_eq_true_of_le x] at e; cases e
    simp only [cond_false]; omega

/-- All but the blocks of m stay. -/
structure Fr (m : Nat → Prop) (h h' : Heap) : Prop where
  next : h.next ≤ h'.next
  get : ∀ i, i < h.next → ¬ m i → h'.get i = h.get i
  low : ∀ l, l ≤ h.low → l ≤ h.next → (∀ i, m i → l ≤ i) → l ≤ h'.low
abbrev no : Nat → Prop := fun _ => False
theorem Fr.refl (m : Nat → Prop) (h : Heap) : Fr m h h := ⟨Nat.le_refl _, fun _ _ _ => rfl, fun _ a _ _ => a⟩
theorem Fr.trans {m m1 : Nat → Prop} {h h1 h2 : Heap} (a : Fr m h h1) (b : Fr m1 h1 h2) (w : ∀ i, m1 i → m i ∨ h.next ≤ i) : Fr m h h2 := by
  refine ⟨Nat.le_trans a.next b.next, fun i hi hm => ?_, fun l h1 h2 h3 => ?_⟩
  · rw [b.get i (Nat.lt_of_lt_of_le hi a.next) (fun g => (w i g).elim hm (fun x => absurd hi (Nat.not_lt.2 x))), a.get i hi hm]
  · refine b.low l (a.low l h1 h2 h3) (Nat.le_trans h2 a.next) (fun i g => (w i g).elim (h3 i) (fun x => Nat.le_trans h2 x))
theorem Fr.same {m : Nat → Prop} {h h1 h2 : Heap} (a : Fr m h h1) (b : Fr m h1 h2) : Fr m h h2 := a.trans b (fun _ g => .inl g)
theorem Fr.quiet {m : Nat → Prop} {h h1 h2 : Heap} (a : Fr m h h1) (b : Fr no h1 h2) : Fr m h h2 := a.trans b (fun _ g => g.elim)
theorem Fr.push (m : Nat → Prop) (h : Heap) (o : AObj) : Fr m h (h.push o) :=
  ⟨Nat.le_succ _, fun i hi _ => by rw [get_push, if_neg (by omega)], fun l a _ _ => a⟩
theorem Fr.put {m : Nat → Prop} {h : Heap} {b : Nat} (o : Option AObj) (hb : m b ∨ h.next ≤ b) : Fr m h (h.put b o) :=
  ⟨Nat.le_refl _, fun i hi hm => by
    rw [get_put, if_neg]
    intro e; subst e
    exact hb.elim hm (fun x => absurd hi (Nat.not_lt.2 x)), fun l h1 h2 h3 => by
    rw [lowput_eq]
    have : l ≤ b := hb.elim (h3 b) (fun x => Nat.le_trans h2 x)
    omega⟩
theorem Fr.weak {m m1 : Nat → Prop} {h h1 : Heap} (a : Fr m h h1) (w : ∀ i, m i → m1 i ∨ h.next ≤ i) : Fr m1 h h1 := (Fr.refl m1 h).trans a w

/-- At an address stand these cells. -/
def Rd (h : Heap) (a : Addr) (cs : List Value) : Prop := a.spot = none ∧ a.block < h.next ∧ ∃ o, h.get a.block = some o ∧ (o.cells.drop a.off).take cs.length = cs
/-- A block is one's own, and holds just these cells. -/
def Ow (h : Heap) (b : Nat) (cs : List Value) : Prop := b < h.next ∧ h.get b = some ⟨cs, true⟩
theorem Rd.fr {m : Nat → Prop} {h h' : Heap} {a : Addr} {cs : List Value} (r : Rd h a cs) (f : Fr m h h') (hm : ¬ m a.block) : Rd h' a cs :=
  ⟨r.1, Nat.lt_of_lt_of_le r.2.1 f.next, by rw [f.get _ r.2.1 hm]; exact r.2.2⟩
theorem Ow.fr {m : Nat → Prop} {h h' : Heap} {b : Nat} {cs : List Value} (r : Ow h b cs) (f : Fr m h h') (hm : ¬ m b) : Ow h' b cs :=
  ⟨Nat.lt_of_lt_of_le r.1 f.next, by rw [f.get _ r.1 hm]; exact r.2⟩
theorem Ow.push (h : Heap) (cs : List Value) : Ow (h.push ⟨cs, true⟩) h.next cs := ⟨Nat.lt_succ_self _, by rw [get_push, if_pos rfl]⟩
theorem Ow.put {h : Heap} {b : Nat} (cs : List Value) (hb : b < h.next) : Ow (h.put b (some ⟨cs, true⟩)) b cs := ⟨hb, by rw [get_put, if_pos rfl]⟩
theorem Ow.rd {h : Heap} {b off : Nat} {cs ds : List Value} (r : Ow h b cs) (e : (cs.drop off).take ds.length = ds) : Rd h ⟨b, off, none⟩ ds := ⟨rfl, r.1, _, r.2, e⟩
theorem Ow.all {h : Heap} {b : Nat} {cs : List Value} (r : Ow h b cs) : Rd h ⟨b, 0, none⟩ cs := r.rd (by simp)

theorem Rd.cell {h : Heap} {a : Addr} {cs : List Value} (r : Rd h a cs) {k : Nat} {v : Value} (hk : cs[k]? = some v) : ∃ o, h.get a.block = some o ∧ o.cells[a.off + k]? = some v := by
  obtain ⟨_, _, o, ho, he⟩ := r
  refine ⟨o, ho, ?_⟩
  rw [← he, List.getElem?_take, List.getElem?_drop] at hk
  split at hk
  · exact hk
  · cases hk
theorem Rd.part {h : Heap} {a : Addr} {cs : List Value} (r : Rd h a cs) {t : TypeId} {k : Nat} {v : Value} (e : apart P t cs k = some v) : aload P h t ⟨a.block, a.off + k, none⟩ = some v := by
  obtain ⟨_, _, o, ho, he⟩ := r
  simp only [aload, ho]
  unfold apart at e ⊢
  split at e
  · rename_i ha
    try simp only [ha]
    split at e
    · rename_i n hn
      try simp only [hn]
      rw [takeN_eq, dropN_eq] at e ⊢
      have hl := congrArg List.length he
      rw [List.length_take, List.length_drop] at hl
      split at e
      · rename_i l hl2
        split at hl2
        · rename_i hle
          cases hl2
          cases e
          rw [List.length_drop] at hle
          rw [List.length_drop, if_pos (by omega)]
          simp only
          congr 3
          apply List.ext_getElem?
          intro i
          rw [List.getElem?_take, List.getElem?_take]
          split
          · rename_i hi
            rw [List.getElem?_drop, List.getElem?_drop]
            conv => rhs; rw [← he]
            rw [List.getElem?_take, if_pos (by omega), List.getElem?_drop]
            congr 1; omega
          · rfl
        · cases hl2
      · cases e
    · cases e
  · rename_i ha
    try simp only [ha]
    rw [nth_eq] at e ⊢
    obtain ⟨o', ho', hk⟩ := Rd.cell ⟨by assumption, by assumption, o, ho, he⟩ e
    rw [ho] at ho'; cases ho'
    exact hk
  · cases e
theorem Rd.read {h : Heap} {a : Addr} {cs : List Value} (r : Rd h a cs) {k m : Nat} (e : k + m ≤ cs.length) : aread h ⟨a.block, a.off + k, none⟩ m = some ((cs.drop k).take m) := by
  obtain ⟨_, _, o, ho, he⟩ := r
  simp only [aread, ho]
  have hl := congrArg List.length he
  rw [List.length_take, List.length_drop] at hl
  rw [takeN_eq, dropN_eq, List.length_drop, if_pos (by omega)]
  congr 1
  apply List.ext_getElem?
  intro i
  rw [List.getElem?_take, List.getElem?_take]
  split
  · rename_i hi
    rw [List.getElem?_drop, List.getElem?_drop]
    conv => rhs; rw [← he]
    rw [List.getElem?_take, if_pos (by omega), List.getElem?_drop]
    congr 1; omega
  · rfl
theorem Rd.read0 {h : Heap} {a : Addr} {cs : List Value} (r : Rd h a cs) {m : Nat} (e : m ≤ cs.length) : aread h a m = some (cs.take m) := by
  obtain ⟨b, o, s⟩ := a
  have hs : s = none := r.1
  subst hs
  exact r.read (k := 0) (by omega)
theorem storeL_ow {h : Heap} {b off : Nat} {cs vs : List Value} (r : Ow h b cs) (ha : allCells vs = true) (hl : off + vs.length ≤ cs.length) : astoreL h ⟨b, off, none⟩ vs = some (h.put b (some ⟨cs.take off ++ vs ++ cs.drop (off + vs.length), true⟩)) := by
  simp only [astoreL, r.2, cond_true, ha]
  rw [splice_eq, if_pos hl]
theorem store_ow {h : Heap} {b off : Nat} {cs : List Value} {v : Value} {t : TypeId} (r : Ow h b cs) {s : Nat} (hs : sizeOf P t = some s) (hl : (cellsOf v).length = s) (ha : allCells (cellsOf v) = true) (hb : off + s ≤ cs.length) : astore P h t ⟨b, off, none⟩ v = some (h.put b (some ⟨cs.take off ++ cellsOf v ++ cs.drop (off + s), true⟩)) := by
  simp only [astore, hs]
  rw [(lenIs_iff _ _).2 hl, cond_true, storeL_ow r ha (by omega), hl]
theorem store1_ow {h : Heap} {b off : Nat} {cs : List Value} {v : Value} {t : TypeId} (r : Ow h b cs) (hs : sizeOf P t = some 1) (hc : cellsOf v = [v]) (ha : isCell v = true) (hb : off < cs.length) : astore P h t ⟨b, off, none⟩ v = some (h.put b (some ⟨cs.set off v, true⟩)) := by
  rw [store_ow r hs (by rw [hc]; rfl) (by rw [hc]; simp [allCells, ha]) (by omega), hc]
  rw [List.set_eq_take_append_cons_drop, if_pos hb]
  simp

/- Operations. -/
theorem RunO.index {d : Tmp} {t ty : TypeId} {x i : Operand} {pos : String} {after : Array Edge} {b o len c s k : Nat} {ik : IntKind} {e : TypeId}
    (hx : gE E x = some (.slice (some ⟨b, o, none⟩) len c)) (hi : gE E i = some (.int ik (k : Int))) (hu : P.underlying t = some (.slice e)) (hs : sizeOf P e = some s) (hk : k < len) (hd : Nat.ble (Nat.succ d) n = true)
    (r : RunO P n ops rest (upd E d (.pointer (some ⟨b, o + k * s, none⟩))) h Q) : RunO P n ops (⟨some d, .indexAddr t x i, ty, pos, after, none⟩ :: rest) E h Q := by
  refine RunO.one (v := .pointer (some ⟨b, o + k * s, none⟩)) rfl ?_ (by simp only [eput, hd, cond_true]) r
  have hi : gE E i = some (.int ik (.ofNat k)) := hi
  simp only [eop, hx, hi, aindexAddr, hu, hs, Nat.ble_eq_true_of_le (show Nat.succ k ≤ len from hk), cond_true]
  rfl
theorem RunO.load {d : Tmp} {t ty : TypeId} {x : Operand} {pos : String} {after : Array Edge} {a : Addr} {v : Value}
    (hx : gE E x = some (.pointer (some a))) (hl : aload P h t a = some v) (hd : Nat.ble (Nat.succ d) n = true)
    (r : RunO P n ops rest (upd E d v) h Q) : RunO P n ops (⟨some d, .load t x, ty, pos, after, none⟩ :: rest) E h Q := by
  refine RunO.one (v := v) rfl ?_ (by simp only [eput, hd, cond_true]) r
  simp only [eop, hx, hl, pureR]
theorem RunO.store {t ty : TypeId} {x y : Operand} {pos : String} {after : Array Edge} {a : Addr} {v : Value} {h1 : Heap}
    (hx : gE E x = some (.pointer (some a))) (hy : gE E y = some v) (hl : astore P h t a v = some h1)
    (r : RunO P n ops rest E h1 Q) : RunO P n ops (⟨none, .store t x y, ty, pos, after, none⟩ :: rest) E h Q := by
  refine RunO.one (v := undef) (E1 := E) rfl ?_ rfl r
  simp only [eop, hx, hy, hl]
theorem RunO.bin {d : Tmp} {op : BinOp} {t t2 ty : TypeId} {x y : Operand} {pos : String} {after : Array Edge} {a b v : Value}
    (hx : gE E x = some a) (hy : gE E y = some b) (hl : abinop P op t a b = some v) (hd : Nat.ble (Nat.succ d) n = true)
    (r : RunO P n ops rest (upd E d v) h Q) : RunO P n ops (⟨some d, .binOp op t x y t2, ty, pos, after, none⟩ :: rest) E h Q := by
  refine RunO.one (v := v) rfl ?_ (by simp only [eput, hd, cond_true]) r
  simp only [eop, hx, hy, hl, pureR]
theorem RunO.un {d : Tmp} {op : UnOp} {t ty : TypeId} {x : Operand} {pos : String} {after : Array Edge} {a v : Value}
    (hx : gE E x = some a) (hl : aunop op a = some v) (hd : Nat.ble (Nat.succ d) n = true)
    (r : RunO P n ops rest (upd E d v) h Q) : RunO P n ops (⟨some d, .unOp op t x, ty, pos, after, none⟩ :: rest) E h Q := by
  refine RunO.one (v := v) rfl ?_ (by simp only [eput, hd, cond_true]) r
  simp only [eop, hx, hl, pureR]
theorem RunO.conv {d : Tmp} {s t ty : TypeId} {x : Operand} {pos : String} {after : Array Edge} {a v : Value}
    (hx : gE E x = some a) (hl : aconvert P s t a = some v) (hd : Nat.ble (Nat.succ d) n = true)
    (r : RunO P n ops rest (upd E d v) h Q) : RunO P n ops (⟨some d, .convert s t x, ty, pos, after, none⟩ :: rest) E h Q := by
  refine RunO.one (v := v) rfl ?_ (by simp only [eput, hd, cond_true]) r
  simp only [eop, hx, hl]
end

/- Numbers. -/
theorem fw64 {x : Int} (h : -9223372036854775808 ≤ x) (h2 : x ≤ 9223372036854775807) : fwrap .i64 x = x := by
  cases x with
  | ofNat m => show cond (Nat.ble m 9223372036854775807) _ _ = _; rw [Nat.ble_eq_true_of_le (by have : (m : Int) ≤ 9223372036854775807 := h2; omega)]; rfl
  | negSucc m => show cond (Nat.ble m 9223372036854775807) _ _ = _; rw [Nat.ble_eq_true_of_le (by have : -9223372036854775808 ≤ Int.negSucc m := h; omega)]; rfl
theorem shr64 {x : Int} {k : Nat} (hk : k ≤ 64) : abin .shr .i64 x .i64 (k : Int) = some (.int .i64 (x / 2 ^ k)) := by
  show cond (decide ((k : Int) < 0)) none (some (Value.int .i64 (x.fdiv (2 ^ (min (Int.toNat (k : Int)) 64))))) = _
  rw [decide_eq_false (by omega), cond_false, Int.toNat_natCast, Nat.min_eq_left hk, Int.fdiv_eq_ediv_of_nonneg]
  exact Int.le_of_lt (Int.pow_pos (by decide))
theorem fwu8 {x : Int} : fwrap .u8 x = x % 256 := by
  have e : IntKind.u8.wrap x = x % 256 := by unfold IntKind.wrap; simp [IntKind.signed, IntKind.bits]
  cases x with
  | ofNat m =>
    show cond (Nat.ble m 255) _ _ = _
    cases hb : Nat.ble m 255 with
    | true => have := Nat.le_of_ble_eq_true hb; simp only [cond_true]; show (m : Int) = (m : Int) % 256; omega
    | false => exact e
  | negSucc m => exact e
end Go.Am
