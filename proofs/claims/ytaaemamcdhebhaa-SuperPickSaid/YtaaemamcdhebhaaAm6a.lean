/- Am6a: part of a calculus over an abstract machine that stands beside the model, and contracts of functions by it.
Conditions: what each theorem says of its arguments. -/
import Derived.Test.YtaaemamcdhebhaaAm5
set_option linter.unusedVariables false
namespace Go.Am
open Go.RowKit

theorem binds_any (e : Edge) : Region.binds .any e = bindsB e := by
  obtain ⟨on, g⟩ := e
  cases g <;> rfl

theorem edgesOk_spec {i : Nat} : ∀ {l : List Edge}, edgesOk i l = true → ∀ e ∈ l, bindsB e = true → e.on < i
  | [], _, e, he, _ => by simp at he
  | x :: l, h, e, he, hb => by
    unfold edgesOk at h
    cases hx : bindsB x with
    | false =>
      rw [hx] at h
      rcases List.mem_cons.1 he with rfl | he
      · rw [hx] at hb; cases hb
      · exact edgesOk_spec h e he hb
    | true =>
      rw [hx] at h
      simp only [cond_true] at h
      cases hl : Nat.ble (Nat.succ x.on) i with
      | false => rw [hl] at h; cases h
      | true =>
        rw [hl] at h
        rcases List.mem_cons.1 he with rfl | he
        · exact ble_lt hl
        · exact edgesOk_spec h e he hb
theorem allEdges_spec : ∀ {l : List Oper} {i : Nat}, allEdges l i = true → ∀ k o, l[k]? = some o → ∀ e ∈ o.after.toList, bindsB e = true → e.on < i + k
  | [], _, _, k, o, h, _, _, _ => by simp at h
  | x :: l, i, h, k, o, ho, e, he, hb => by
    unfold allEdges at h
    cases hx : edgesOk i x.after.toList with
    | false => rw [hx] at h; cases h
    | true =>
      rw [hx] at h
      cases k with
      | zero => simp at ho; subst ho; exact edgesOk_spec hx e he hb
      | succ k =>
        have := allEdges_spec (i := i + 1) h k o (by simpa using ho) e he hb
        omega

theorem mask_spec {an : List Nat} {i j : Nat} : ∀ {l : List Edge}, (edgeMask an i l).testBit j = true → ∃ e ∈ l, bindsB e = true ∧ e.on < i ∧ (j = e.on ∨ ∃ m, an[e.on]? = some m ∧ m.testBit j = true)
  | [], h => by simp [edgeMask] at h
  | e :: l, h => by
    have hrec : (edgeMask an i l).testBit j = true → ∃ e' ∈ e :: l, bindsB e' = true ∧ e'.on < i ∧ (j = e'.on ∨ ∃ m, an[e'.on]? = some m ∧ m.testBit j = true) := by
      intro h
      obtain ⟨e', h1, h2⟩ := mask_spec h
      exact ⟨e', List.mem_cons_of_mem _ h1, h2⟩
    unfold edgeMask at h
    cases hb : bindsB e with
    | false => rw [hb] at h; exact hrec h
    | true =>
      rw [hb] at h
      simp only [cond_true] at h
      cases hl : Nat.ble (Nat.succ e.on) i with
      | false => rw [hl] at h; exact hrec h
      | true =>
        rw [hl] at h
        simp only [cond_true] at h
        have h : ((1 <<< e.on ||| (match nth an e.on with | some m => m | none => 0)) ||| edgeMask an i l).testBit j = true := h
        rw [Nat.testBit_or, Nat.testBit_or, Bool.or_eq_true, Bool.or_eq_true] at h
        rcases h with (h | h) | h
        · rw [Nat.testBit_shiftLeft] at h
          simp only [ge_iff_le, Bool.and_eq_true, decide_eq_true_eq] at h
          obtain ⟨h1, h2⟩ := h
          refine ⟨e, List.mem_cons_self .., hb, ble_lt hl, .inl ?_⟩
          have : j - e.on = 0 := by
            rcases Nat.eq_zero_or_pos (j - e.on) with h | h
            · exact h
            · rw [Nat.testBit_lt_two_pow (Nat.one_lt_two_pow (by omega))] at h2; cases h2
          omega
        · rw [nth_eq] at h
          cases hm : an[e.on]? with
          | none => rw [hm] at h; simp at h
          | some m =>
            rw [hm] at h
            exact ⟨e, List.mem_cons_self .., hb, ble_lt hl, .inr ⟨m, hm, h⟩⟩
        · exact hrec h

theorem ancs_take : ∀ (l : List Oper) (i : Nat) (an : List Nat), (ancs l i an).take an.length = an ∧ an.length ≤ (ancs l i an).length
  | [], i, an => by simp [ancs]
  | o :: l, i, an => by
    unfold ancs
    obtain ⟨h1, h2⟩ := ancs_take l (Nat.succ i) (an ++ [edgeMask an i o.after.toList])
    have h3 := congrArg (List.take an.length) h1
    rw [List.take_take, List.take_left'] at h3
    · simp only [List.length_append, List.length_cons, List.length_nil] at h3 h2
      rw [show min an.length (an.length + (0 + 1)) = an.length by omega] at h3
      exact ⟨h3, by omega⟩
    · rfl
theorem ancs_spec : ∀ (l : List Oper) (i : Nat) (an : List Nat), an.length = i → ∀ k m, (ancs l i an)[k]? = some m → (k < i ∧ an[k]? = some m) ∨ (∃ o, l[k - i]? = some o ∧ i ≤ k ∧ m = edgeMask ((ancs l i an).take k) k o.after.toList)
  | [], i, an, hi, k, m, h => by
    have h : an[k]? = some m := h
    refine .inl ⟨?_, h⟩
    rcases Nat.lt_or_ge k an.length with hk | hk
    · omega
    · rw [List.getElem?_eq_none hk] at h; cases h
  | o :: l, i, an, hi, k, m, h => by
    unfold ancs at h ⊢
    rcases ancs_spec l (Nat.succ i) (an ++ [edgeMask an i o.after.toList]) (by simp [hi]) k m h with ⟨h1, h2⟩ | ⟨o', h1, h2, h3⟩
    · by_cases hk : k < i
      · left
        rw [List.getElem?_append_left (by omega)] at h2
        exact ⟨hk, h2⟩
      · right
        have hki : k = i := by omega
        subst hki
        rw [List.getElem?_append_right (by omega), hi, Nat.sub_self] at h2
        simp at h2
        have := (ancs_take l (Nat.succ k) (an ++ [edgeMask an k o.after.toList])).1
        have h4 := congrArg (List.take k) this
        rw [List.take_take, List.take_left' hi] at h4
        simp only [List.length_append, List.length_cons, List.length_nil] at h4
        rw [show min k (an.length + (0 + 1)) = k by omega] at h4
        exact ⟨o, by simp, Nat.le_refl _, by rw [h4]; exact h2.symm⟩
    · right
      have h2 : i + 1 ≤ k := h2
      refine ⟨o', ?_, by omega, h3⟩
      rw [show k - i = (k - (i + 1)) + 1 by omega]
      simpa using h1

/-- What must come ahead: as the masks tell. -/
def Bef (ops : Array Oper) (i j : Nat) : Prop := ∃ m, (ancs ops.toList 0 [])[j]? = some m ∧ m.testBit i = true

theorem Bef.edge {ops : Array Oper} {i j : Nat} (h : Bef ops i j) : ∃ o e, ops[j]? = some o ∧ e ∈ o.after.toList ∧ bindsB e = true ∧ e.on < j ∧ (i = e.on ∨ Bef ops i e.on) := by
  obtain ⟨m, h1, h2⟩ := h
  rcases ancs_spec ops.toList 0 [] rfl j m h1 with ⟨h3, _⟩ | ⟨o, h3, _, h4⟩
  · omega
  · rw [h4] at h2
    obtain ⟨e, h5, h6, h7, h8⟩ := mask_spec h2
    refine ⟨o, e, by rw [← Array.getElem?_toList]; simpa using h3, h5, h6, h7, ?_⟩
    rcases h8 with h8 | ⟨m', h8, h9⟩
    · exact .inl h8
    · rw [List.getElem?_take, if_pos h7] at h8
      exact .inr ⟨m', h8, h9⟩

theorem rowPairs_spec {ops : Array Oper} {oj : Oper} {j m : Nat} : ∀ {l : List Oper} {i : Nat} {r : List (Nat × Nat)}, rowPairs ops oj j m l i = some r → ∀ k o, l[k]? = some o → i + k < j → m.testBit (i + k) = true ∨ (o.apart ops oj = true ∧ (confl (kindOf o) (kindOf oj) = false ∨ (i + k, j) ∈ r))
  | [], _, _, _, k, o, h, _ => by simp at h
  | x :: l, i, r, h, k, o, ho, hk => by
    unfold rowPairs at h
    have hle : Nat.ble j i = false := by
      cases e : Nat.ble j i with
      | false => rfl
      | true => have := Nat.le_of_ble_eq_true e; omega
    rw [hle] at h
    simp only [cond_false] at h
    cases hr : rowPairs ops oj j m l (Nat.succ i) with
    | none => rw [hr] at h; cases h
    | some r' =>
      rw [hr] at h
      simp only at h
      have hsub : ∀ p, p ∈ r' → p ∈ r := by
        cases hm : Nat.testBit m i with
        | true => rw [hm] at h; cases h; exact fun p hp => hp
        | false =>
          rw [hm] at h
          simp only [cond_false] at h
          obtain ⟨_, h⟩ := condN h
          cases hc : confl (kindOf x) (kindOf oj) with
          | true => rw [hc] at h; cases h; exact fun p hp => List.mem_cons_of_mem _ hp
          | false => rw [hc] at h; cases h; exact fun p hp => hp
      cases k with
      | zero =>
        simp at ho
        subst ho
        cases hm : Nat.testBit m i with
        | true => exact .inl rfl
        | false =>
          rw [hm] at h
          simp only [cond_false] at h
          obtain ⟨ha, h⟩ := condN h
          refine .inr ⟨ha, ?_⟩
          cases hc : confl (kindOf x) (kindOf oj) with
          | true => rw [hc] at h; cases h; exact .inr (List.mem_cons_self ..)
          | false => exact .inl rfl
      | succ k =>
        have := rowPairs_spec hr k o (by simpa using ho) (by show i + 1 + k < j; omega)
        rw [show Nat.succ i + k = i + (k + 1) by omega] at this
        rcases this with h1 | ⟨h1, h2 | h2⟩
        · exact .inl h1
        · exact .inr ⟨h1, .inl h2⟩
        · exact .inr ⟨h1, .inr (hsub _ h2)⟩

theorem allPairs_spec {ops : Array Oper} : ∀ {l : List Oper} {ms : List Nat} {j0 : Nat} {r : List (Nat × Nat)}, allPairs ops l ms j0 = some r → ∀ k oj m, l[k]? = some oj → ms[k]? = some m → ∀ i o, ops[i]? = some o → i < j0 + k → m.testBit i = true ∨ (o.apart ops oj = true ∧ (confl (kindOf o) (kindOf oj) = false ∨ (i, j0 + k) ∈ r))
  | [], _, _, _, _, k, oj, m, h, _, _, _, _, _ => by simp at h
  | x :: l, [], _, _, h, _, _, _, _, _, _, _, _, _ => by simp [allPairs] at h
  | x :: l, y :: ms, j0, r, h, k, oj, m, ho, hm, i, o, hi, hlt => by
    unfold allPairs at h
    split at h
    · rename_i a b ha hb
      cases h
      cases k with
      | zero =>
        simp at ho hm
        subst ho hm
        have := rowPairs_spec ha i o (by rw [Array.getElem?_toList]; exact hi) (by omega)
        simp only [Nat.zero_add] at this
        rcases this with h1 | ⟨h1, h2 | h2⟩
        · exact .inl h1
        · exact .inr ⟨h1, .inl h2⟩
        · exact .inr ⟨h1, .inr (List.mem_append_left _ h2)⟩
      | succ k =>
        have := allPairs_spec hb k oj m (by simpa using ho) (by simpa using hm) i o hi (by show i < j0 + 1 + k; omega)
        rw [show Nat.succ j0 + k = j0 + (k + 1) by omega] at this
        rcases this with h1 | ⟨h1, h2 | h2⟩
        · exact .inl h1
        · exact .inr ⟨h1, .inl h2⟩
        · exact .inr ⟨h1, .inr (List.mem_append_right _ h2)⟩
    · cases h

theorem ancs_length : ∀ (l : List Oper) (i : Nat) (an : List Nat), (ancs l i an).length = an.length + l.length
  | [], _, _ => rfl
  | o :: l, i, an => by unfold ancs; rw [ancs_length l]; simp; omega

theorem drawOk_spec {ops : Array Oper} {r : List (Nat × Nat)} (h : drawOk ops = some r) :
    (∀ k o, ops[k]? = some o → ∀ e ∈ o.after.toList, bindsB e = true → e.on < k) ∧
    (∀ i j o oj, i < j → ops[i]? = some o → ops[j]? = some oj → Bef ops i j ∨ (o.apart ops oj = true ∧ (confl (kindOf o) (kindOf oj) = false ∨ (i, j) ∈ r))) := by
  unfold drawOk at h
  obtain ⟨h1, h2⟩ := condN h
  refine ⟨fun k o ho e he hb => ?_, fun i j o oj hij ho hoj => ?_⟩
  · have := allEdges_spec h1 k o (by rw [Array.getElem?_toList]; exact ho) e he hb
    omega
  · have hlen := ancs_length ops.toList 0 []
    have hj : j < ops.toList.length := by
      rcases Nat.lt_or_ge j ops.toList.length with h | h
      · exact h
      · rw [← Array.getElem?_toList, List.getElem?_eq_none h] at hoj; cases hoj
    have hm := List.getElem?_eq_getElem (l := ancs ops.toList 0 []) (i := j) (by rw [hlen]; simpa using hj)
    have := allPairs_spec h2 j oj _ (by rw [Array.getElem?_toList]; exact hoj) hm i o ho (by omega)
    simp only [Nat.zero_add] at this
    rcases this with h3 | h3
    · exact .inl ⟨_, hm, h3⟩
    · exact .inr h3

theorem fp_kind (T : Tr Value) (o : Oper) (q : Bool) : (kindOf o = 0 ∧ fpOf T o q = .none) ∨ (kindOf o = 2 ∧ (fpOf T o q = .none ∨ ∃ i, fpOf T o q = .rd i)) ∨ (kindOf o = 3 ∧ (fpOf T o q = .none ∨ ∃ l, fpOf T o q = .wr l)) ∨ (kindOf o = 4 ∧ fpOf T o q = .all q) := by
  obtain ⟨dst, op, type, pos, after, guard⟩ := o
  cases op with
  | load t a =>
    refine .inr (.inl ⟨rfl, ?_⟩)
    simp only [fpOf]
    split
    · exact .inr ⟨_, rfl⟩
    · exact .inl rfl
  | convert s d x =>
    refine .inr (.inl ⟨rfl, ?_⟩)
    simp only [fpOf]
    split
    · exact .inr ⟨_, rfl⟩
    · exact .inl rfl
  | store t a x =>
    refine .inr (.inr (.inl ⟨rfl, ?_⟩))
    simp only [fpOf]
    split
    · exact .inr ⟨_, rfl⟩
    · exact .inl rfl
  | call c =>
    obtain ⟨callee, args, tys⟩ := c
    cases callee with
    | value f => exact .inr (.inr (.inr ⟨rfl, rfl⟩))
    | invoke r m => exact .inr (.inr (.inr ⟨rfl, rfl⟩))
    | builtin b =>
      cases b <;> first
        | exact .inl ⟨rfl, rfl⟩
        | (refine .inr (.inr (.inl ⟨rfl, ?_⟩)); simp only [fpOf]; split; exact .inr ⟨_, rfl⟩; exact .inl rfl)
  | _ => exact .inl ⟨rfl, rfl⟩

theorem memN_iff {i : Nat} : ∀ {l : List Nat}, memN i l = true ↔ i ∈ l
  | [] => by simp [memN]
  | j :: l => by
    unfold memN
    by_cases h : i = j
    · subst h; rw [beqT rfl]; simp
    · rw [beqF h, cond_false, memN_iff]; simp [h]
theorem anyN_iff {l : List Nat} : ∀ {m : List Nat}, anyN l m = false → ∀ i ∈ m, i ∉ l
  | [], _, i, hi => by simp at hi
  | j :: m, h, i, hi => by
    unfold anyN at h
    cases hj : memN j l with
    | true => rw [hj] at h; cases h
    | false =>
      rw [hj] at h
      rcases List.mem_cons.1 hi with rfl | hi
      · intro hl; rw [memN_iff.2 hl] at hj; cases hj
      · exact anyN_iff h i hi
theorem fpOk_spec {f g : Fp} (h : fpOk f g = true) : (∀ i, f.W i → ¬ g.D i) ∧ (∀ i, f.D i → ¬ g.W i) := by
  cases f <;> cases g <;> simp only [fpOk, Fp.W, Fp.D] at h ⊢ <;> first
    | (exact ⟨fun i hi => hi.elim, fun i hi => hi.elim⟩)
    | (exact ⟨fun i hi => hi.elim, fun i hi h2 => h2.elim⟩)
    | (exact ⟨fun i hi h2 => h2.elim, fun i hi => hi.elim⟩)
    | (exact ⟨fun i hi h2 => h2.elim, fun i hi h2 => h2.elim⟩)
    | skip
  · rename_i i l
    simp only [Bool.not_eq_true'] at h
    have : i ∉ l := fun hi => by rw [memN_iff.2 hi] at h; cases h
    exact ⟨fun j hj => hj.elim, fun j hj h2 => this (hj ▸ h2)⟩
  · rename_i i q
    subst h
    exact ⟨fun j hj => hj.elim, fun j hj h2 => by cases h2⟩
  · rename_i l i
    simp only [Bool.not_eq_true'] at h
    have : i ∉ l := fun hi => by rw [memN_iff.2 hi] at h; cases h
    exact ⟨fun j hj h2 => this (h2 ▸ hj), fun j hj h2 => h2.elim⟩
  · rename_i l m
    simp only [Bool.not_eq_true'] at h
    exact ⟨fun j hj h2 => anyN_iff h j h2 hj, fun j hj h2 => anyN_iff h j h2 hj⟩
  · cases h
  · rename_i q i
    subst h
    exact ⟨fun j hj => (by cases hj), fun j hj h2 => h2.elim⟩
  · cases h
  · rename_i q r
    simp only [Bool.and_eq_true] at h
    obtain ⟨rfl, rfl⟩ := h
    exact ⟨fun j hj => (by cases hj), fun j hj h2 => (by cases h2)⟩
theorem fpOk_kind {T U : Tr Value} {o p : Oper} {q r : Bool} (h : confl (kindOf o) (kindOf p) = false) : fpOk (fpOf T o q) (fpOf U p r) = true := by
  rcases fp_kind T o q with ⟨h1, h2⟩ | ⟨h1, h2⟩ | ⟨h1, h2⟩ | ⟨h1, h2⟩ <;> rcases fp_kind U p r with ⟨h3, h4⟩ | ⟨h3, h4⟩ | ⟨h3, h4⟩ | ⟨h3, h4⟩ <;>
    (rw [h1, h3] at h; first | (cases h; done) | skip) <;>
    (first | (rw [h2]) | (rcases h2 with h2 | ⟨_, h2⟩ <;> rw [h2])) <;>
    (first | (rw [h4]) | (rcases h4 with h4 | ⟨_, h4⟩ <;> rw [h4])) <;> rfl
theorem fpOk_none_right (f : Fp) : fpOk f .none = true := by cases f <;> rfl

end Go.Am
