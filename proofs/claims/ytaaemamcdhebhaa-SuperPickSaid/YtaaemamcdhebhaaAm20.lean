/- Am20: part of a calculus over an abstract machine that stands beside the model, and contracts of functions by it.
Conditions: what each theorem says of its arguments. -/
import Derived.Test.YtaaemamcdhebhaaAm19
set_option linter.unusedVariables false
namespace Go.Am
open Go.RowKit
/- Slices in any memory. -/
theorem Sl.form {h : Heap} {v : Value} {s n : Nat} {cells : List Value} (r : Sl h v s n cells) :
    ∃ A c, v = .slice A n c ∧ Cp s n c ∧ (0 < n → ∃ b o, A = some ⟨b, o, none⟩ ∧ Rd h ⟨b, o, none⟩ cells) := by
  obtain ⟨hl, hm, ⟨rfl, rfl⟩ | ⟨b, o, c, rfl, hc, rd⟩⟩ := r
  · exact ⟨none, 0, rfl, .inr ⟨rfl, Nat.zero_le _⟩, fun g => absurd g (Nat.lt_irrefl 0)⟩
  · exact ⟨_, c, rfl, hc, fun _ => ⟨b, o, rfl, rd⟩⟩
theorem Sl.formA {h : Heap} {v : Value} {s n : Nat} {cells : List Value} (r : Sl h v s n cells) :
    ∃ A c, v = .slice A n c ∧ Cp s n c ∧ (0 < n → ∃ a, A = some a ∧ Rd h a cells) := by
  obtain ⟨A, c, h1, h2, h3⟩ := r.form
  exact ⟨A, c, h1, h2, fun g => by obtain ⟨b, o, e, rd⟩ := h3 g; exact ⟨_, e, rd⟩⟩
theorem Sl.nil (h : Heap) (s : Nat) : Sl h (.slice none 0 0) s 0 [] := ⟨by simp, Nat.zero_le _, .inl ⟨rfl, rfl⟩⟩
theorem Rd.sl {h : Heap} {b o c s n : Nat} {cells : List Value} (rd : Rd h ⟨b, o, none⟩ cells) (hl : cells.length = n * s) (hm : n ≤ 9223372036854775807) (hc : Cp s n c) : Sl h (.slice (some ⟨b, o, none⟩) n c) s n cells :=
  ⟨hl, hm, .inr ⟨b, o, c, rfl, hc, rd⟩⟩
theorem Row.sl {lo : Nat} {h : Heap} {v : Value} {s n : Nat} {cells : List Value} (r : Row lo h v s n cells) (hm : n ≤ 9223372036854775807) : Sl h v s n cells := by
  obtain ⟨h1, ⟨rfl, rfl⟩ | ⟨b, _, rfl, ow⟩⟩ := r
  · exact ⟨h1, hm, .inl ⟨rfl, rfl⟩⟩
  · exact ⟨h1, hm, .inr ⟨b, 0, _, rfl, Cp.unkc _ _, ow.all⟩⟩
/-- A slice of one's own, from a block's front to its end. -/
def Osl (lo : Nat) (h : Heap) (v : Value) (s n : Nat) (cells : List Value) : Prop :=
  cells.length = n * s ∧ n ≤ 9223372036854775807 ∧ ((v = .slice none 0 0 ∧ n = 0) ∨ ∃ b c, lo ≤ b ∧ v = .slice (some ⟨b, 0, none⟩) n c ∧ Cp s n c ∧ Ow h b cells)
theorem Osl.sl {lo : Nat} {h : Heap} {v : Value} {s n : Nat} {cells : List Value} (r : Osl lo h v s n cells) : Sl h v s n cells := by
  obtain ⟨h1, hm, ⟨rfl, rfl⟩ | ⟨b, c, _, rfl, hc, ow⟩⟩ := r
  · exact ⟨h1, hm, .inl ⟨rfl, rfl⟩⟩
  · exact ⟨h1, hm, .inr ⟨b, 0, _, rfl, hc, ow.all⟩⟩
theorem Row.os {lo : Nat} {h : Heap} {v : Value} {s n : Nat} {cells : List Value} (r : Row lo h v s n cells) (hm : n ≤ 9223372036854775807) : Osl lo h v s n cells := by
  obtain ⟨h1, ⟨rfl, rfl⟩ | ⟨b, hb, rfl, ow⟩⟩ := r
  · exact ⟨h1, hm, .inl ⟨rfl, rfl⟩⟩
  · exact ⟨h1, hm, .inr ⟨b, _, hb, rfl, Cp.unkc _ _, ow⟩⟩
theorem Osl.fr {lo : Nat} {h h' : Heap} {v : Value} {s n : Nat} {cells : List Value} {m : Nat → Prop} (r : Osl lo h v s n cells) (f : Fr m h h') (hm : ∀ b, lo ≤ b → b < h.next → ¬ m b) : Osl lo h' v s n cells := by
  refine ⟨r.1, r.2.1, r.2.2.imp (fun x => x) ?_⟩
  rintro ⟨b, c, h1, h2, h3, h4⟩
  exact ⟨b, c, h1, h2, h3, h4.fr f (hm b h1 h4.1)⟩
theorem Osl.fr0 {lo : Nat} {h h' : Heap} {v : Value} {s n : Nat} {cells : List Value} (r : Osl lo h v s n cells) (f : Fr no h h') : Osl lo h' v s n cells := r.fr f (fun _ _ _ g => g)
theorem Osl.lo {lo lo' : Nat} {h : Heap} {v : Value} {s n : Nat} {cells : List Value} (r : Osl lo h v s n cells) (hl : lo' ≤ lo) : Osl lo' h v s n cells := by
  refine ⟨r.1, r.2.1, r.2.2.imp (fun x => x) ?_⟩
  rintro ⟨b, c, h1, h2⟩
  exact ⟨b, c, by omega, h2⟩
theorem Sl.fr0 {h h' : Heap} {v : Value} {s n : Nat} {cs : List Value} (r : Sl h v s n cs) (f : Fr no h h') : Sl h' v s n cs := r.ex f.ex
theorem Sl.nz {h : Heap} {v : Value} {s n : Nat} {cells : List Value} (r : Sl h v s n cells) (hn : 0 < n) : ∃ b o c, v = .slice (some ⟨b, o, none⟩) n c ∧ Cp s n c ∧ Rd h ⟨b, o, none⟩ cells := by
  obtain ⟨h1, hm, ⟨rfl, rfl⟩ | h2⟩ := r
  · exact absurd hn (Nat.lt_irrefl 0)
  · exact h2
/-- An element of a row. -/
def elm (P : Program) (t : TypeId) (cells : List Value) (off : Nat) : Option Value := apart P t cells off
section
variable {P : Program} {n : Nat} {ops rest : List Oper} {E E1 : Env} {h h1 : Heap} {Q : Env → Heap → Prop}
theorem upd2_le {E : Env} {d d2 : Nat} {p u : Value} (he : E d = none) : Le (upd E d2 u) (upd (upd E d p) d2 u) := by
  intro j w hj
  unfold upd at hj ⊢
  cases h2 : Nat.beq j d2 with
  | true => rw [h2] at hj; exact hj
  | false =>
    rw [h2] at hj
    cases h3 : Nat.beq j d with
    | true => rw [Nat.eq_of_beq_eq_true h3] at hj; rw [show E d = some w from hj] at he; cases he
    | false => exact hj
/-- An element looked at: its address, then a load. -/
theorem RunO.at {d d2 : Tmp} {t ty ty2 e : TypeId} {x i : Operand} {pos pos2 : String} {after after2 : Array Edge} {v : Value} {m s k : Nat} {ik : IntKind} {cells : List Value} {u : Value}
    (hx : gE E x = some v) (hi : gE E i = some (.int ik (k : Int))) (sl : Sl h v s m cells) (hu : P.underlying t = some (.slice e)) (hs : sizeOf P e = some s) (hk : k < m) (hv : apart P e cells (k * s) = some u)
    (hd : Nat.ble (Nat.succ d) n = true) (hd2 : Nat.ble (Nat.succ d2) n = true) (hE : E d = none)
    (r : RunO P n ops rest (upd E d2 u) h Q) : RunO P n ops (⟨some d, .indexAddr t x i, ty, pos, after, none⟩ :: ⟨some d2, .load e (.tmp d), ty2, pos2, after2, none⟩ :: rest) E h Q := by
  obtain ⟨b, o, c, rfl, hc, rd⟩ := sl.nz (by omega)
  refine RunO.index hx hi hu hs hk hd ?_
  refine RunO.load (v := u) (a := ⟨b, o + k * s, none⟩) (by show upd E d _ d = _; unfold upd; rw [Nat.beq_refl]; rfl) (rd.part hv) hd2 ?_
  exact r.le (upd2_le hE)
theorem allCells_take : ∀ (k : Nat) (l : List Value), allCells l = true → allCells (l.take k) = true
  | 0, l, _ => rfl
  | k + 1, [], _ => rfl
  | k + 1, x :: l, ha => by
    unfold allCells at ha
    cases hx : isCell x with
    | false => rw [hx] at ha; cases ha
    | true =>
      rw [hx] at ha
      show cond (isCell x) (allCells (l.take k)) false = true
      rw [hx, cond_true]
      exact allCells_take k l ha
theorem copy_zero {t e : TypeId} {A B : Option Addr} {sn dn sc dc : Nat} (hu : P.underlying t = some (.slice e)) (hs : sizeOf P e = some 1) (hm : Nat.min sn dn = 0) :
    acopy P h t (.slice A dn dc) (.slice B sn sc) = some (goInt 0, h) := by
  simp only [acopy, hu, hs, hm]
theorem copy_some {t e : TypeId} {a b : Addr} {sn dn sc dc k : Nat} {cs : List Value} {h1 : Heap} (hu : P.underlying t = some (.slice e)) (hs : sizeOf P e = some 1) (hm : Nat.min sn dn = k + 1) (e1 : aread h b (Nat.succ k) = some cs) (e2 : astoreL h a cs = some h1) :
    acopy P h t (.slice (some a) dn dc) (.slice (some b) sn sc) = some (goInt ((k + 1 : Nat) : Int), h1) := by
  simp only [acopy, hu, hs, hm, e1, e2]
/-- A row copied over a part of one's own. -/
theorem copy_sl {t e : TypeId} {b o dn dc sn k : Nat} {src : Value} {cs news : List Value} (hu : P.underlying t = some (.slice e)) (hs : sizeOf P e = some 1) (ow : Ow h b cs) (sl : Sl h src 1 sn news) (ha : allCells news = true) (hm : min sn dn = k) (hc : o + k ≤ cs.length) :
    ∃ h', acopy P h t (.slice (some ⟨b, o, none⟩) dn dc) src = some (goInt k, h') ∧ Ow h' b (cs.take o ++ news.take k ++ cs.drop (o + k)) ∧ Fr (· = b) h h' ∧ h'.next = h.next := by
  obtain ⟨A, c, rfl, _, hr⟩ := sl.form
  have hl : news.length = sn * 1 := sl.1
  cases k with
  | zero =>
    refine ⟨h, copy_zero hu hs hm, ?_, Fr.refl _ _, rfl⟩
    rw [List.take_zero, List.append_nil, Nat.add_zero, List.take_append_drop]; exact ow
  | succ k =>
    obtain ⟨b2, o2, rfl, rd⟩ := hr (by omega)
    have e1 : aread h ⟨b2, o2, none⟩ (Nat.succ k) = some (news.take (k + 1)) := rd.read0 (m := k + 1) (by omega)
    have e3 : (news.take (k + 1)).length = k + 1 := by rw [List.length_take]; omega
    have e4 := storeL_ow (off := o) ow (allCells_take (k + 1) news ha) (by omega)
    rw [e3] at e4
    exact ⟨_, copy_some hu hs hm e1 e4, Ow.put _ ow.1, Fr.put _ (.inl rfl), rfl⟩
theorem Sl.src0 {v : Value} {s : Nat} {cells : List Value} (sl : Sl h v s 0 cells) : asrc h s v = some (0, []) := by
  obtain ⟨_, _, ⟨rfl, _⟩ | ⟨b, o, c, rfl, _, _, hb, ob, ho, _⟩⟩ := sl
  · rfl
  · have : aread h ⟨b, o, none⟩ (Nat.mul 0 s) = some [] := by
      have hz : Nat.mul 0 s = 0 := Nat.zero_mul s
      have ho : h.get b = some ob := ho
      rw [hz]
      simp only [aread, ho]
      rw [takeN_eq, if_pos (Nat.zero_le _), List.take_zero]
    simp only [asrc, this]
/-- A row that is appended to nothing, or to a row of one's own that is full. -/
theorem RunO.appendOs {d : Tmp} {t ty e : TypeId} {x y : Operand} {pos : String} {after : Array Edge} {i : TypeInfo} {z : Value} {lo s k m : Nat} {xv yv : Value} {cells news : List Value}
    (hx : gE E x = some xv) (hy : gE E y = some yv) (hd : Nat.ble (Nat.succ d) n = true)
    (hu : P.underlying t = some (.slice e)) (hi : P.info? e = some i) (hz : zeroOf P e = some z) (hlz : lenIs (cellsOf z) i.size = true) (hs : i.size = s) (hs1 : 1 ≤ s) (row : Row lo h xv s k cells) (hlo : lo ≤ h.next)
    (sl : Sl h yv s m news) (ha : allCells news = true) (hb : 2 * (k + m) * i.bytes ≤ 281474976710656) (hb2 : k + m ≤ 9223372036854775807)
    (r : ∀ v' h', Row lo h' v' s (k + m) (cells ++ news) → Fr (At xv) h h' → RunO P n ops rest (upd E d v') h' Q) : RunO P n ops (⟨some d, .call ⟨.builtin .append, #[x, y], #[t, t]⟩, ty, pos, after, none⟩ :: rest) E h Q := by
  by_cases hm : 0 < m
  · obtain ⟨b, o, c, rfl, hc, rd⟩ := sl.nz hm
    exact RunO.append hx hy hd hu hi hz hlz hs hs1 row hlo rd sl.1 hm ha hb hb2 r
  · have hm : m = 0 := by omega
    subst hm
    have hn : news = [] := List.eq_nil_of_length_eq_zero (by rw [sl.1, Nat.zero_mul])
    subst hn
    subst hs
    have key : aappend P h t t xv yv = some (xv, h) := by
      have hsrc : asrc h i.size yv = some (0, []) := sl.src0
      rcases row.2 with ⟨rfl, rfl⟩ | ⟨b, _, rfl, ow⟩
      · simp only [aappend, hu, Nat.beq_refl, cond_true, hi, hz, hlz, Nat.ble_eq_true_of_le hs1, hsrc]
      · simp only [aappend, hu, Nat.beq_refl, cond_true, hi, hz, hlz, Nat.ble_eq_true_of_le hs1, hsrc]
    refine RunO.one rfl (v := xv) (h1 := h) ?_ (by simp only [eput, hd, cond_true]) (r xv h (by rw [Nat.add_zero, List.append_nil]; exact row) (Fr.refl _ _))
    simp only [eop, gs, hx, hy, abuiltin, key]
end
theorem allCells_map {α : Type} {f : α → Value} (hf : ∀ x, isCell (f x) = true) : ∀ l : List α, allCells (l.map f) = true
  | [] => rfl
  | x :: l => by show cond (isCell (f x)) (allCells (l.map f)) false = true; rw [hf, cond_true]; exact allCells_map hf l
/-- Is there one of the first n? -/
def anyI (p : Nat → Bool) (n : Nat) : Bool := (List.range n).any p
theorem anyI_true {p : Nat → Bool} {n i : Nat} (hi : i < n) (hp : p i = true) : anyI p n = true := List.any_eq_true.2 ⟨i, List.mem_range.2 hi, hp⟩
theorem anyI_false {p : Nat → Bool} {n : Nat} (hp : ∀ j, j < n → p j = false) : anyI p n = false := by
  unfold anyI
  rw [List.any_eq_false]
  intro x hx
  rw [hp x (List.mem_range.1 hx)]; exact Bool.false_ne_true
theorem anyI_list {α : Type} {p : Nat → Bool} {q : α → Bool} {l : List α} (h : ∀ j x, l[j]? = some x → p j = q x) : anyI p l.length = l.any q := by
  cases e : l.any q with
  | true =>
    obtain ⟨x, hx, hq⟩ := List.any_eq_true.1 e
    obtain ⟨j, hj⟩ := List.getElem?_of_mem hx
    exact anyI_true (List.getElem?_eq_some_iff.1 hj).1 ((h j x hj).trans hq)
  | false =>
    rw [List.any_eq_false] at e
    refine anyI_false (fun j hj => ?_)
    have hx := List.getElem?_eq_getElem hj
    rw [h j _ hx]
    cases hq : q l[j] with
    | false => rfl
    | true => exact absurd hq (e _ (List.getElem_mem hj))
end Go.Am
