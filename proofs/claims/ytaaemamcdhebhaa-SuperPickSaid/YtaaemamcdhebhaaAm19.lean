/- Am19: part of a calculus over an abstract machine that stands beside the model, and contracts of functions by it.
Conditions: what each theorem says of its arguments. -/
import Derived.Test.YtaaemamcdhebhaaAm18
import Derived.ChangeArms
import Derived.OpenShut
import Derived.Deep.Slices
import Derived.WideShapes
import Derived.DataReads
set_option linter.unusedVariables false
namespace Go.Am
open Go.RowKit
/-- Shapes of values that are laid open. -/
inductive Sh where
  | int (k : IntKind)
  | bool
  | str
  | slice (s : Sh)
  | unit
  | pair (a b : Sh)
def Sh.T : Sh → Type
  | .int _ => Int
  | .bool => Bool
  | .str => ByteArray
  | .slice s => List s.T
  | .unit => Unit
  | .pair a b => a.T × b.T
def Sh.sz : Sh → Nat
  | .unit => 0
  | .pair a b => a.sz + b.sz
  | _ => 1
/-- A slice of cells that stand side by side, in any memory. -/
def Sl (h : Heap) (v : Value) (s n : Nat) (cells : List Value) : Prop :=
  cells.length = n * s ∧ n ≤ 9223372036854775807 ∧ ((v = .slice none 0 0 ∧ n = 0) ∨ ∃ b o c, v = .slice (some ⟨b, o, none⟩) n c ∧ Cp s n c ∧ Rd h ⟨b, o, none⟩ cells)
def Sh.K : (s : Sh) → Heap → s.T → List Value → Prop
  | .int k, _, n, cs => cs = [.int k n] ∧ (Lit.int k n).wf = true
  | .bool, _, b, cs => cs = [.bool b]
  | .str, _, b, cs => cs = [.string b]
  | .slice s, h, l, cs => ∃ v acs, cs = [v] ∧ Sl h v s.sz (List.length (α := s.T) l) acs ∧ ∀ (j : Nat) (x : s.T), nth (α := s.T) l j = some x → s.K h x ((acs.drop (j * s.sz)).take s.sz)
  | .unit, _, _, cs => cs = []
  | .pair a b, h, p, cs => ∃ c1 c2, cs = c1 ++ c2 ∧ c1.length = a.sz ∧ c2.length = b.sz ∧ a.K h p.1 c1 ∧ b.K h p.2 c2
structure Ex (h h' : Heap) : Prop where
  next : h.next ≤ h'.next
  get : ∀ i, i < h.next → h'.get i = h.get i
theorem Ex.refl (h : Heap) : Ex h h := ⟨Nat.le_refl _, fun _ _ => rfl⟩
theorem Ex.trans {a b c : Heap} (x : Ex a b) (y : Ex b c) : Ex a c := ⟨Nat.le_trans x.next y.next, fun i hi => (y.get i (Nat.lt_of_lt_of_le hi x.next)).trans (x.get i hi)⟩
theorem Rd.ex {h h' : Heap} {a : Addr} {cs : List Value} (r : Rd h a cs) (x : Ex h h') : Rd h' a cs := ⟨r.1, Nat.lt_of_lt_of_le r.2.1 x.next, by rw [x.get _ r.2.1]; exact r.2.2⟩
theorem Sl.ex {h h' : Heap} {v : Value} {s n : Nat} {cs : List Value} (r : Sl h v s n cs) (x : Ex h h') : Sl h' v s n cs := by
  refine ⟨r.1, r.2.1, r.2.2.imp (fun y => y) ?_⟩
  rintro ⟨b, o, c, h1, h2, h3⟩
  exact ⟨b, o, c, h1, h2, h3.ex x⟩
theorem Fr.ex {h h' : Heap} (f : Fr no h h') : Ex h h' := ⟨f.next, fun i hi => f.get i hi (fun g => g)⟩
theorem Sl.fr {h h' : Heap} {v : Value} {s n : Nat} {cs : List Value} {m : Nat → Prop} (r : Sl h v s n cs) (f : Fr m h h') (hm : ∀ b, m b → h.next ≤ b) : Sl h' v s n cs :=
  r.ex ⟨f.next, fun i hi => f.get i hi (fun g => absurd hi (Nat.not_lt.2 (hm i g)))⟩
theorem Sh.K_ex : ∀ (s : Sh) {h h' : Heap} {x : s.T} {cs : List Value}, Ex h h' → s.K h x cs → s.K h' x cs
  | .int k, _, _, _, _, _, g => g
  | .bool, _, _, _, _, _, g => g
  | .str, _, _, _, _, _, g => g
  | .slice s, h, h', l, cs, e, ⟨v, acs, g1, g2, g3⟩ => ⟨v, acs, g1, g2.ex e, fun j x hx => Sh.K_ex s e (g3 j x hx)⟩
  | .unit, _, _, _, _, _, g => g
  | .pair a b, h, h', p, cs, e, ⟨c1, c2, g1, g2, g3, g4, g5⟩ => ⟨c1, c2, g1, g2, g3, Sh.K_ex a e g4, Sh.K_ex b e g5⟩
theorem Sh.K_len : ∀ (s : Sh) {h : Heap} {x : s.T} {cs : List Value}, s.K h x cs → cs.length = s.sz
  | .int k, _, _, _, g => by rw [g.1]; rfl
  | .bool, _, _, _, g => by rw [show _ = _ from g]; rfl
  | .str, _, _, _, g => by rw [show _ = _ from g]; rfl
  | .slice s, h, l, cs, ⟨v, acs, g1, g2, g3⟩ => by rw [g1]; rfl
  | .unit, _, _, _, g => by rw [show _ = _ from g]; rfl
  | .pair a b, h, p, cs, ⟨c1, c2, g1, g2, g3, g4, g5⟩ => by rw [g1, List.length_append, g2, g3]; rfl

def Sh.rep (s : Sh) : Nat → Sh
  | 0 => .unit
  | n + 1 => .pair s (s.rep n)
def Sh.fields (g : TypeId → Option Sh) (P : Program) : List Field → Nat → Nat → Option Sh
  | [], off, all => cond (Nat.beq off all) (some .unit) none
  | fd :: l, off, all => match g fd.type with
    | some s => cond (Nat.beq fd.offset off) (cond (Nat.beq (P.cellsOf fd.type) s.sz) (match Sh.fields g P l (off + s.sz) all with
      | some r => some (.pair s r)
      | none => none) none) none
    | none => none
def Sh.of (P : Program) : Nat → TypeId → Option Sh
  | 0, _ => none
  | f + 1, t => match P.underlying t with
    | some (.int k) => some (.int k)
    | some .bool => some .bool
    | some .string => some .str
    | some (.slice e) => (match Sh.of P f e with
      | some s => cond (Nat.beq (P.cellsOf e) s.sz) (cond (Nat.ble 1 s.sz) (some (.slice s)) none) none
      | none => none)
    | some (.struct fs) => Sh.fields (Sh.of P f) P fs.toList 0 (P.cellsOf t)
    | some (.array n e) => (match Sh.of P f e with
      | some s => cond (Nat.beq (P.cellsOf e) s.sz) (cond (Nat.beq (P.cellsOf t) (n * s.sz)) (some (s.rep n)) none) none
      | none => none)
    | _ => none
theorem condS {α : Type} {b : Bool} {x : Option α} {y : α} (h : cond b x none = some y) : b = true ∧ x = some y := by
  cases b with
  | true => exact ⟨rfl, h⟩
  | false => cases h

/-- A memory of rows that are not one's own, beside a world. -/
structure Ini (h : Heap) (μ : Mu) (w : World) : Prop where
  rel : Rel (fun _ => True) μ h w
  fresh : ∀ i, h.next ≤ i → μ i = none
  old : ∀ i o, h.get i = some o → o.own = false
theorem Ini.nil (w : World) : Ini ⟨.leaf, 0, 0⟩ (fun _ => none) w :=
  ⟨⟨fun i o p _ g => (by cases g), fun i j o o' p p' off _ _ _ g => (by cases g), fun i o g => (by cases g)⟩, fun _ _ => rfl, fun i o g => by cases g⟩
def Mu.put (μ : Mu) (i : Nat) (p : Place) : Mu := fun j => if j = i then some p else μ j
theorem Ini.push {h : Heap} {μ : Mu} {w : World} (I : Ini h μ w) {acs : List Value} {b off : Nat} (hc : ∀ j v, acs[j]? = some v → ∃ v', w.cell? ⟨b, off + j, none⟩ = some v' ∧ VRel μ v v') :
    Ini (h.push ⟨acs, false⟩) (μ.put h.next ⟨b, off, 0⟩) w ∧ μ.le (μ.put h.next ⟨b, off, 0⟩) ∧ Ex h (h.push ⟨acs, false⟩) ∧ (μ.put h.next ⟨b, off, 0⟩) h.next = some ⟨b, off, 0⟩ := by
  have hle : μ.le (μ.put h.next ⟨b, off, 0⟩) := by
    intro i p hp
    unfold Mu.put
    rw [if_neg]; exact hp
    intro e; subst e; rw [I.fresh _ (Nat.le_refl _)] at hp; cases hp
  have hex : Ex h (h.push ⟨acs, false⟩) := ⟨Nat.le_succ _, fun i hi => by rw [get_push, if_neg (by omega)]⟩
  have hold : ∀ i o, (h.push ⟨acs, false⟩).get i = some o → o.own = false := by
    intro i o g
    rw [get_push] at g
    split at g
    · cases g; rfl
    · exact I.old i o g
  refine ⟨⟨⟨?_, ?_, ?_⟩, ?_, hold⟩, hle, hex, by unfold Mu.put; rw [if_pos rfl]⟩
  · intro i o p _ g m
    rw [get_push] at g
    unfold Mu.put at m
    split at g
    · rename_i hi
      rw [if_pos hi] at m
      cases g; cases m
      exact ⟨fun j v hj => by obtain ⟨v', h1, h2⟩ := hc j v hj; exact ⟨v', h1, h2.mono hle⟩, fun ho => (by cases ho), fun ho => (by cases ho)⟩
    · rename_i hi
      rw [if_neg hi] at m
      have := I.rel.cells i o p trivial g m
      exact ⟨fun j v hj => by obtain ⟨v', h1, h2⟩ := this.cells j v hj; exact ⟨v', h1, h2.mono hle⟩, this.ext, this.own⟩
  · intro i j o o' p p' off' _ _ hij g g' ho
    rw [hold i o g] at ho; cases ho
  · intro i o g
    rw [get_push] at g
    split at g
    · rename_i hi; rw [hi]; exact Nat.lt_succ_self _
    · exact Nat.lt_succ_of_lt (I.rel.live i o g)
  · intro i hi
    have hi : h.next + 1 ≤ i := hi
    unfold Mu.put
    rw [if_neg (by omega)]
    exact I.fresh i (by omega)
section
open Go.ChangeShapes Go.Deep
variable {H : Type} {enc : TypeId × Value → H} {P : Program} {w : World} {base : Nat} {held : Bool}
/-- What a type's reading gives beside a memory. -/
def Opens (enc : TypeId × Value → H) (P : Program) (w : World) (base : Nat) (held : Bool) (t : TypeId) (s : Sh) : Prop :=
  ∀ n cs x, DataW.trod enc P w base (fun _ => true) held n t cs = some x → ∀ h μ, Ini h μ w → ∃ h' μ' acs p, Ini h' μ' w ∧ μ.le μ' ∧ Ex h h' ∧ VRels μ' acs cs ∧ s.K h' p acs
theorem opens_slice {t e : TypeId} {s : Sh} (ht : P.underlying t = some (.slice e)) (hz : P.cellsOf e = s.sz) (h1 : 1 ≤ s.sz) (hel : Opens enc P w base held e s) : Opens enc P w base held t (.slice s) := by
  intro n cs x hx h μ I
  rcases open_slice ht hx with ⟨rfl, _⟩ | ⟨a, len, cap, m, n', D, Pl, rfl, hb, hl, hm, hmm, _, hi⟩
  · exact ⟨h, μ, [.slice none 0 0], ([] : List s.T), I, Mu.le_refl _, Ex.refl _, .cons (.sliceNil 0 0) .nil, .slice none 0 0, [], rfl, ⟨by simp, Nat.zero_le _, .inl ⟨rfl, rfl⟩⟩, fun j x hx => by rw [nth_eq] at hx; simp at hx⟩
  rw [if_pos rfl] at hmm
  subst hmm
  have hmx : m ≤ 9223372036854775807 := by unfold maxLen at hm; omega
  have key : ∀ k, k ≤ len → ∃ (h' : Heap) (μ' : Mu) (acs : List Value) (l : List s.T), Ini h' μ' w ∧ μ.le μ' ∧ Ex h h' ∧ acs.length = k * s.sz ∧ l.length = k ∧ (∀ j v, acs[j]? = some v → ∃ v', w.cell? (a.add j) = some v' ∧ VRel μ' v v') ∧
      ∀ j x, l[j]? = some x → s.K h' x ((acs.drop (j * s.sz)).take s.sz) := by
    intro k
    induction k with
    | zero => intro _; exact ⟨h, μ, [], [], I, Mu.le_refl _, Ex.refl _, by simp, rfl, fun j v hj => by simp at hj, fun j x hj => by simp at hj⟩
    | succ k ih =>
      intro hk
      obtain ⟨h1, μ1, acs, l, I1, le1, ex1, hla, hll, hcs, hK⟩ := ih (by omega)
      obtain ⟨cs', hc', ht'⟩ := hi k (by omega)
      obtain ⟨h2, μ2, ac2, p, I2, le2, ex2, hv, hk2⟩ := hel n' cs' _ ht' h1 μ1 I1
      obtain ⟨_, hcl, hat⟩ := World.cells?_some hc'
      have hl2 := s.K_len hk2
      refine ⟨h2, μ2, acs ++ ac2, l ++ [p], I2, Mu.le_trans le1 le2, ex1.trans ex2, by rw [List.length_append, hla, hl2, Nat.succ_mul], by simp [hll], ?_, ?_⟩
      · intro j v hj
        by_cases c : j < acs.length
        · rw [List.getElem?_append_left c] at hj
          obtain ⟨v', e1, e2⟩ := hcs j v hj
          exact ⟨v', e1, e2.mono le2⟩
        · rw [List.getElem?_append_right (by omega)] at hj
          obtain ⟨v', e1, e2⟩ := hv.nth _ v hj
          have hjl : j - acs.length < P.cellsOf e := by
            have := (List.getElem?_eq_some_iff.1 e1).1; omega
          have e3 := hat _ hjl
          rw [add_add, e1, hz, ← hla, show acs.length + (j - acs.length) = j by omega] at e3
          exact ⟨v', e3, e2⟩
      · intro j x hj
        by_cases c : j < l.length
        · rw [List.getElem?_append_left c] at hj
          have := s.K_ex ex2 (hK j x hj)
          have hb : j * s.sz + s.sz ≤ acs.length := by
            rw [hla, ← Nat.succ_mul]; exact Nat.mul_le_mul_right _ (by omega)
          rw [List.drop_append_of_le_length (by omega), List.take_append_of_le_length (by rw [List.length_drop]; omega)]
          exact this
        · rw [List.getElem?_append_right (by omega)] at hj
          have : j - l.length = 0 := by
            have := (List.getElem?_eq_some_iff.1 hj).1
            simp at this; omega
          rw [this] at hj
          have e : p = x := by simpa using hj
          subst e
          have ej : j * s.sz = acs.length := by rw [hla, show j = k by omega]
          rw [ej, List.drop_left, ← hl2, List.take_length]
          exact hk2
  obtain ⟨h1, μ1, acs, l, I1, le1, ex1, hla, hll, hcs, hK⟩ := key len (Nat.le_refl _)
  obtain ⟨b, off, spot⟩ := a
  by_cases h0 : m = 0
  · subst h0
    have hl0 : len = 0 := by omega
    subst hl0
    obtain ⟨I2, le2, ex2, hp⟩ := I1.push (acs := []) (b := b) (off := off) (fun j v hj => by simp at hj)
    have hacs : acs = [] := List.length_eq_zero_iff.1 (by omega)
    subst hacs
    refine ⟨_, _, [.slice (some ⟨h1.next, 0, none⟩) 0 (unkc s.sz)], l, I2, Mu.le_trans le1 le2, ex1.trans ex2, .cons (.sliceUn hp (Nat.le_refl _) (.inr ⟨rfl, rfl⟩)) .nil, _, [], rfl, ⟨by simp [hll], by omega, .inr ⟨h1.next, 0, unkc s.sz, by rw [hll], by rw [hll]; exact Cp.unkc _ _, rfl, Nat.lt_succ_self _, ⟨[], false⟩, by rw [get_push, if_pos rfl], by simp⟩⟩, fun j x hj => by
      rw [nth_eq] at hj
      have := (List.getElem?_eq_some_iff.1 hj).1
      exact absurd this (by omega)⟩
  · obtain ⟨cs0, hc0, _⟩ := hi 0 (by omega)
    obtain ⟨_, hcl0, hat0⟩ := World.cells?_some hc0
    have hs : spot = none := by
      have := hat0 0 (by omega)
      rw [add_add, Nat.zero_mul, Nat.zero_add] at this
      rw [List.getElem?_eq_getElem (by omega)] at this
      unfold World.cell? Addr.add at this
      simp only [if_true] at this
      split at this
      · cases spot with
        | none => rfl
        | some q => simp at this
      · cases this
    subst hs
    have hadd : ∀ j, (⟨b, off, none⟩ : Addr).add j = ⟨b, off + j, none⟩ := by
      intro j; unfold Addr.add
      split
      · rename_i e; rw [e]; rfl
      · rfl
    obtain ⟨I2, le2, ex2, hp⟩ := I1.push (acs := acs) (b := b) (off := off) (fun j v hj => by rw [← hadd]; exact hcs j v hj)
    refine ⟨_, _, [.slice (some ⟨h1.next, 0, none⟩) len (exc m)], l, I2, Mu.le_trans le1 le2, ex1.trans ex2, .cons (.sliceEx hp hl) .nil, _, acs, rfl, ⟨by rw [hla, hll], by omega, .inr ⟨h1.next, 0, exc m, by rw [hll], Cp.exc (by omega), rfl, Nat.lt_succ_self _, ⟨acs, false⟩, by rw [get_push, if_pos rfl], by simp⟩⟩, fun j x hj => s.K_ex ex2 (hK j x (by rw [nth_eq] at hj; exact hj))⟩
theorem opens_fields {g : TypeId → Option Sh} (hg : ∀ t s, g t = some s → Opens enc P w base held t s) {n : Nat} {cs : List Value} : ∀ (l : List Field) (off all : Nat) (s : Sh), Sh.fields g P l off all = some s → cs.length = all →
    (∀ f ∈ l, ∃ x, DataW.trod enc P w base (fun _ => true) held n f.type ((cs.drop f.offset).take (P.cellsOf f.type)) = some x) →
    ∀ h μ, Ini h μ w → ∃ h' μ' acs p, Ini h' μ' w ∧ μ.le μ' ∧ Ex h h' ∧ VRels μ' acs (cs.drop off) ∧ s.K h' p acs
  | [], off, all, s, e, hl, _, h, μ, I => by
    unfold Sh.fields at e
    obtain ⟨e1, e2⟩ := condS e
    cases e2
    have := Nat.eq_of_beq_eq_true e1
    refine ⟨h, μ, [], (), I, Mu.le_refl _, Ex.refl _, ?_, rfl⟩
    rw [List.drop_of_length_le (by omega)]
    exact .nil
  | fd :: l, off, all, s, e, hl, hx, h, μ, I => by
    unfold Sh.fields at e
    split at e
    · rename_i s1 hs1
      obtain ⟨e1, e⟩ := condS e
      obtain ⟨e2, e⟩ := condS e
      split at e
      · rename_i r hr
        cases e
        have e1 := Nat.eq_of_beq_eq_true e1
        have e2 := Nat.eq_of_beq_eq_true e2
        obtain ⟨x, hx1⟩ := hx fd (List.mem_cons_self ..)
        rw [e1, e2] at hx1
        obtain ⟨h1, μ1, ac1, p1, I1, le1, ex1, v1, k1⟩ := hg _ _ hs1 _ _ _ hx1 h μ I
        obtain ⟨h2, μ2, ac2, p2, I2, le2, ex2, v2, k2⟩ := opens_fields hg l (off + s1.sz) all r hr hl (fun f hf => hx f (List.mem_cons_of_mem _ hf)) h1 μ1 I1
        refine ⟨h2, μ2, ac1 ++ ac2, (p1, p2), I2, Mu.le_trans le1 le2, ex1.trans ex2, ?_, ac1, ac2, rfl, s1.K_len k1, r.K_len k2, s1.K_ex ex2 k1, k2⟩
        have := (v1.mono le2).append v2
        rw [← List.drop_drop, List.take_append_drop] at this
        exact this
      · cases e
    · cases e
theorem opens_rep {e : TypeId} {s : Sh} (hel : Opens enc P w base held e s) {n : Nat} {cs : List Value} {N : Nat} (hl : cs.length = N * s.sz)
    (hx : ∀ i, i < N → ∃ x, DataW.trod enc P w base (fun _ => true) held n e ((cs.drop (i * s.sz)).take s.sz) = some x) :
    ∀ k, k ≤ N → ∀ h μ, Ini h μ w → ∃ h' μ' acs p, Ini h' μ' w ∧ μ.le μ' ∧ Ex h h' ∧ VRels μ' acs (cs.drop ((N - k) * s.sz)) ∧ (s.rep k).K h' p acs
  | 0, _, h, μ, I => by
    refine ⟨h, μ, [], (), I, Mu.le_refl _, Ex.refl _, ?_, rfl⟩
    rw [List.drop_of_length_le (by rw [hl]; exact Nat.le_refl _)]
    exact .nil
  | k + 1, hk, h, μ, I => by
    obtain ⟨x, hx1⟩ := hx (N - (k + 1)) (by omega)
    obtain ⟨h1, μ1, ac1, p1, I1, le1, ex1, v1, k1⟩ := hel _ _ _ hx1 h μ I
    obtain ⟨h2, μ2, ac2, p2, I2, le2, ex2, v2, k2⟩ := opens_rep hel hl hx k (by omega) h1 μ1 I1
    refine ⟨h2, μ2, ac1 ++ ac2, (p1, p2), I2, Mu.le_trans le1 le2, ex1.trans ex2, ?_, ac1, ac2, rfl, s.K_len k1, (s.rep k).K_len k2, s.K_ex ex2 k1, k2⟩
    have := (v1.mono le2).append v2
    rw [show (N - k) * s.sz = (N - (k + 1)) * s.sz + s.sz by rw [← Nat.succ_mul]; congr 1; omega, ← List.drop_drop, List.take_append_drop] at this
    exact this
theorem opens_of : ∀ (f : Nat) (t : TypeId) (s : Sh), Sh.of P f t = some s → Opens enc P w base held t s
  | 0, t, s, e => by cases e
  | f + 1, t, s, e => by
    unfold Sh.of at e
    split at e
    · rename_i k hu
      cases e
      intro n cs x hx h μ I
      obtain ⟨v, rfl, _, hw⟩ := DataW.trod_int hu hx
      exact ⟨h, μ, [.int k v], v, I, Mu.le_refl _, Ex.refl _, .cons (.int k v) .nil, rfl, hw⟩
    · rename_i hu
      cases e
      intro n cs x hx h μ I
      obtain ⟨v, rfl, _⟩ := DataW.trod_bool hu hx
      exact ⟨h, μ, [.bool v], v, I, Mu.le_refl _, Ex.refl _, .cons (.bool v) .nil, rfl⟩
    · rename_i hu
      cases e
      intro n cs x hx h μ I
      obtain ⟨v, rfl, _⟩ := DataW.trod_string hu hx
      exact ⟨h, μ, [.string v], v, I, Mu.le_refl _, Ex.refl _, .cons (.string v) .nil, rfl⟩
    · rename_i el hu
      split at e
      · rename_i s1 hs1
        obtain ⟨e1, e⟩ := condS e
        obtain ⟨e2, e⟩ := condS e
        cases e
        exact opens_slice hu (Nat.eq_of_beq_eq_true e1) (Nat.le_of_ble_eq_true e2) (opens_of f _ _ hs1)
      · cases e
    · rename_i fs hu
      intro n cs x hx h μ I
      obtain ⟨xs, m, _, _, hlen, hxl, hf⟩ := DataW.trod_struct hu hx
      obtain ⟨h', μ', acs, p, g⟩ := opens_fields (opens_of f) (n := m) fs.toList 0 _ s e hlen (fun fd hfd => by
        obtain ⟨i, hi⟩ := List.getElem?_of_mem hfd
        have hi2 : fs[i]? = some fd := by rw [← Array.getElem?_toList]; exact hi
        have := hf i fd hi2
        have hil : i < xs.length := by rw [hxl]; exact (Array.getElem?_eq_some_iff.1 hi2).1
        rw [List.getElem?_eq_getElem hil] at this
        exact ⟨_, this⟩) h μ I
      rw [List.drop_zero] at g
      exact ⟨h', μ', acs, p, g⟩
    · rename_i N el hu
      split at e
      · rename_i s1 hs1
        obtain ⟨e1, e⟩ := condS e
        obtain ⟨e2, e⟩ := condS e
        cases e
        have e1 := Nat.eq_of_beq_eq_true e1
        have e2 := Nat.eq_of_beq_eq_true e2
        intro n cs x hx h μ I
        obtain ⟨xs, m, _, _, hlen, hxl, hf⟩ := DataW.trod_array hu hx
        obtain ⟨h', μ', acs, p, g⟩ := opens_rep (opens_of f _ _ hs1) (n := m) (cs := cs) (N := N) (hlen.trans e2) (fun i hi => by
          have := hf i hi
          rw [e1, List.getElem?_eq_getElem (by omega)] at this
          exact ⟨_, this⟩) N (Nat.le_refl _) h μ I
        rw [Nat.sub_self, Nat.zero_mul, List.drop_zero] at g
        exact ⟨h', μ', acs, p, g⟩
      · cases e
    · cases e
def Sh.flat : Sh → Bool
  | .unit | .pair _ _ => false
  | _ => true
/-- A value of a shape. -/
def Sh.V (s : Sh) (h : Heap) (x : s.T) (v : Value) : Prop := cond s.flat (s.K h x [v]) (∃ acs, v = .agg ⟨acs⟩ ∧ s.K h x acs)
def ArgsT : List Sh → Type
  | [] => Unit
  | s :: l => s.T × ArgsT l
def ArgsK : (l : List Sh) → Heap → ArgsT l → List Value → Prop
  | [], _, _, vs => vs = []
  | s :: l, h, x, vs => ∃ v vr, vs = v :: vr ∧ s.V h x.1 v ∧ ArgsK l h x.2 vr
theorem Sh.V_ex {s : Sh} {h h' : Heap} {x : s.T} {v : Value} (e : Ex h h') (k : s.V h x v) : s.V h' x v := by
  unfold Sh.V at k ⊢
  cases hf : s.flat with
  | true => rw [hf] at k; exact s.K_ex e k
  | false =>
    rw [hf] at k
    obtain ⟨acs, h1, h2⟩ := k
    exact ⟨acs, h1, s.K_ex e h2⟩
theorem ArgsK_ex : ∀ (l : List Sh) {h h' : Heap} {x : ArgsT l} {vs : List Value}, Ex h h' → ArgsK l h x vs → ArgsK l h' x vs
  | [], _, _, _, _, _, k => k
  | s :: l, h, h', x, vs, e, ⟨v, vr, h1, h2, h3⟩ => ⟨v, vr, h1, Sh.V_ex e h2, ArgsK_ex l e h3⟩
end
theorem rep_flat (s : Sh) (n : Nat) : (s.rep n).flat = false := by cases n <;> rfl
theorem fields_flat {g : TypeId → Option Sh} {P : Program} : ∀ {l : List Field} {off all : Nat} {s : Sh}, Sh.fields g P l off all = some s → s.flat = false
  | [], off, all, s, e => by
    unfold Sh.fields at e
    obtain ⟨_, e2⟩ := condS e
    cases e2; rfl
  | fd :: l, off, all, s, e => by
    unfold Sh.fields at e
    split at e
    · obtain ⟨e1, e⟩ := condS e
      obtain ⟨e2, e⟩ := condS e
      split at e
      · cases e; rfl
      · cases e
    · cases e
section
open Go.ChangeShapes Go.WideShapes Go.Deep
variable {H : Type} {enc : TypeId × Value → H} {P : Program} {w : World} {base : Nat} {held : Bool} {r : Reach} {b0 : Nat}
theorem VRels.of_cells {μ : Mu} {v : Value} (hc : v.cells = #[v]) {acs : List Value} (hv : VRels μ acs v.cells.toList) : ∃ a, acs = [a] ∧ VRel μ a v := by
  rw [hc] at hv
  cases hv with
  | cons h1 h2 => cases h2; exact ⟨_, rfl, h1⟩
theorem VRels.of_agg {μ : Mu} {cs : Array Value} {acs : List Value} (hv : VRels μ acs (Value.agg cs).cells.toList) : VRel μ (.agg ⟨acs⟩) (.agg cs) := by
  have hv : VRels μ acs cs.toList := hv
  have e : cs = ⟨cs.toList⟩ := by simp
  rw [e]
  exact .agg hv
theorem opens_arg {f : Nat} {t : TypeId} {s : Sh} (e : Sh.of P f t = some s) {v : Value} (hval : Value.okWide P w r b0 t v) {d : DataW H} {ps : List MemPlace} (hd : DataW.Trod enc P w base (fun _ => true) held t v d ps) :
    ∀ h μ, Ini h μ w → ∃ h' μ' av p, Ini h' μ' w ∧ μ.le μ' ∧ Ex h h' ∧ VRel μ' av v ∧ s.V h' p av := by
  intro h μ I
  obtain ⟨fuel, hf⟩ := hd
  obtain ⟨h', μ', acs, p, I', le, ex, hv, k⟩ := opens_of f t s e _ _ _ hf h μ I
  have one : v.cells = #[v] → s.flat = true → ∃ h' μ' av p, Ini h' μ' w ∧ μ.le μ' ∧ Ex h h' ∧ VRel μ' av v ∧ s.V h' p av := by
    intro hc hfl
    obtain ⟨a, rfl, ha⟩ := VRels.of_cells hc hv
    exact ⟨h', μ', a, p, I', le, ex, ha, by unfold Sh.V; rw [hfl]; exact k⟩
  have many : (∃ cs, v = .agg cs) → s.flat = false → ∃ h' μ' av p, Ini h' μ' w ∧ μ.le μ' ∧ Ex h h' ∧ VRel μ' av v ∧ s.V h' p av := by
    rintro ⟨cs, rfl⟩ hfl
    exact ⟨h', μ', .agg ⟨acs⟩, p, I', le, ex, VRels.of_agg hv, by unfold Sh.V; rw [hfl]; exact ⟨acs, rfl, k⟩⟩
  cases f with
  | zero => cases e
  | succ f =>
  unfold Sh.of at e
  split at e
  · rename_i k' hu
    cases e
    obtain ⟨n, rfl⟩ := okWide_int hu hval
    exact one rfl rfl
  · rename_i hu
    cases e
    obtain ⟨n, rfl⟩ := okWide_bool hu hval
    exact one rfl rfl
  · rename_i hu
    cases e
    obtain ⟨n, rfl⟩ := okWide_string hu hval
    exact one rfl rfl
  · rename_i el hu
    split at e
    · rename_i s1 hs1
      obtain ⟨e1, e⟩ := condS e
      obtain ⟨e2, e⟩ := condS e
      cases e
      obtain ⟨a, n, c, rfl⟩ := okWide_slice hu hval
      exact one rfl rfl
    · cases e
  · rename_i fs hu
    refine many ?_ (fields_flat e)
    unfold Value.okWide at hval
    rw [hu] at hval
    obtain ⟨cs, hc, _⟩ := hval
    exact ⟨cs, hc⟩
  · rename_i N el hu
    split at e
    · rename_i s1 hs1
      obtain ⟨e1, e⟩ := condS e
      obtain ⟨e2, e⟩ := condS e
      cases e
      refine many ?_ (rep_flat _ _)
      unfold Value.okWide at hval
      rw [hu] at hval
      obtain ⟨cs, hc, _⟩ := hval
      exact ⟨cs, hc⟩
    · cases e
  · cases e
theorem opens_args {f : Nat} : ∀ (ts : List TypeId) (ss : List Sh) (vs : List Value) (ds : List (DataW H)) (ps : List MemPlace), ts.map (Sh.of P f) = ss.map some → DataW.TrodAll enc P w base (fun _ => true) held ts vs ds ps →
    (∀ (j : Nat) t v, ts[j]? = some t → vs[j]? = some v → Value.okWide P w r b0 t v) → ∀ h μ, Ini h μ w → ∃ h' μ' avs xs, Ini h' μ' w ∧ μ.le μ' ∧ Ex h h' ∧ VRels μ' avs vs ∧ ArgsK ss h' xs avs
  | [], [], vs, ds, ps, _, hA, _, h, μ, I => by
    cases vs with
    | nil => exact ⟨h, μ, [], (), I, Mu.le_refl _, Ex.refl _, .nil, rfl⟩
    | cons v vs => cases ds <;> exact hA.elim
  | [], s :: ss, vs, ds, ps, e, hA, _, h, μ, I => by cases e
  | t :: ts, [], vs, ds, ps, e, hA, _, h, μ, I => by cases e
  | t :: ts, s :: ss, vs, ds, ps, e, hA, hok, h, μ, I => by
    rw [List.map_cons, List.map_cons] at e
    injection e with e1 e2
    cases vs with
    | nil => cases ds <;> exact hA.elim
    | cons v vs =>
      cases ds with
      | nil => exact hA.elim
      | cons d ds =>
        obtain ⟨p, q, h1, h2, _⟩ := hA
        obtain ⟨h', μ', av, x, I1, le1, ex1, v1, k1⟩ := opens_arg e1 (hok 0 t v rfl rfl) h1 h μ I
        obtain ⟨h'', μ'', avs, xs, I2, le2, ex2, v2, k2⟩ := opens_args ts ss vs ds q e2 h2 (fun j t' v' a b => hok (j + 1) t' v' (by simpa using a) (by simpa using b)) h' μ' I1
        exact ⟨h'', μ'', av :: avs, (x, xs), I2, Mu.le_trans le1 le2, ex1.trans ex2, .cons (v1.mono le2) v2, av, avs, rfl, Sh.V_ex ex2 k1, k2⟩
/-- A call that tells true by the calculus, of any arguments of these shapes: so tells the world. -/
theorem RunF.callsA (hm : P.follows .mixedOrders = true) (hn : noRoutine P = true) {f : FuncId} {F : Nat} {ts : List TypeId} {ss : List Sh} {vs : List Value} {ds : List (DataW H)} {ps : List MemPlace}
    (run : ∀ h xs avs, ArgsK ss h xs avs → RunF P f avs h (fun v _ => v = .bool true))
    (hts : ts.map (Sh.of P F) = ss.map some) (hA : DataW.TrodAll enc P w base (fun _ => true) held ts vs ds ps) (hok : ∀ (j : Nat) t v, ts[j]? = some t → vs[j]? = some v → Value.okWide P w r b0 t v) :
    Calls P f ⟨vs⟩ w fun e w' => e = .returned (.bool true) ∧ Below w.heap.size w w' := by
  obtain ⟨h, μ, avs, xs, I, _, _, hv, hk⟩ := opens_args ts ss vs ds ps hts hA hok _ _ (Ini.nil w)
  obtain ⟨v, h', rfl, N, hN⟩ := run h xs avs hk
  have e := hN N (Nat.le_refl _) N (Nat.le_refl _)
  obtain ⟨_, _, h3⟩ := acall_sound hm (noRoutine_iff hn) (sp := fun _ => none) (fun f s args h v h' e => by cases e) N N f avs _ _ h' e
  refine (h3 μ w ⟨vs⟩ I.rel (fun i hi _ => I.fresh i hi) hv).mono ?_
  rintro e w' ⟨v', ν, rfl, h1, h2⟩
  have hvv := closedV_eq (show closedV (.bool true) = true from rfl) h1
  have hown : ∀ b off, ¬ Own h μ (fun i => h'.low ≤ i) b off := by
    rintro b off ⟨i, o, p, _, g, ho, _⟩
    rw [I.old i o g] at ho; cases ho
  exact ⟨by rw [hvv], h2.keep.os, h2.keep.tape, h2.keep.output, h2.keep.size, fun k hk => h2.keep.block k hk (fun off => hown k off)⟩
end
theorem argInt {k : IntKind} {l : List Sh} {h : Heap} {x : ArgsT (.int k :: l)} {vs : List Value} (a : ArgsK (.int k :: l) h x vs) :
    ∃ (n : Int) (r : ArgsT l) (vr : List Value), vs = .int k n :: vr ∧ (Lit.int k n).wf = true ∧ ArgsK l h r vr := by
  obtain ⟨v, vr, rfl, h1, h2⟩ := a
  obtain ⟨h3, h4⟩ : [v] = [.int k x.1] ∧ (Lit.int k x.1).wf = true := h1
  injection h3 with h3
  subst h3
  exact ⟨x.1, x.2, vr, rfl, h4, h2⟩
theorem argBool {l : List Sh} {h : Heap} {x : ArgsT (.bool :: l)} {vs : List Value} (a : ArgsK (.bool :: l) h x vs) :
    ∃ (n : Bool) (r : ArgsT l) (vr : List Value), vs = .bool n :: vr ∧ ArgsK l h r vr := by
  obtain ⟨v, vr, rfl, h1, h2⟩ := a
  have h3 : [v] = [.bool x.1] := h1
  injection h3 with h3
  subst h3
  exact ⟨x.1, x.2, vr, rfl, h2⟩
theorem map_of_ones {k : IntKind} : ∀ (l : List Int) (acs : List Value), acs.length = l.length → (∀ (j : Nat) (x : Int), l[j]? = some x → (acs.drop j).take 1 = [.int k x]) → acs = l.map (Value.int k)
  | [], [], _, _ => rfl
  | [], _ :: _, h, _ => by cases h
  | _ :: _, [], h, _ => by cases h
  | x :: l, v :: acs, h, H => by
    have h0 := H 0 x rfl
    have e : v = .int k x := by simpa using h0
    rw [List.map_cons, e, map_of_ones l acs (by simpa using h) (fun j y hy => by simpa using H (j + 1) y (by simpa using hy))]
/-- A slice of whole numbers. -/
theorem slInts {k : IntKind} {h : Heap} {l : List Int} {cs : List Value} (a : (Sh.slice (.int k)).K h l cs) : ∃ v, cs = [v] ∧ Sl h v 1 l.length (l.map (Value.int k)) ∧ ∀ x ∈ l, (Lit.int k x).wf = true := by
  obtain ⟨v, acs, rfl, hs, H⟩ := a
  have H' : ∀ (j : Nat) (x : Int), l[j]? = some x → (acs.drop (j * 1)).take 1 = [.int k x] ∧ (Lit.int k x).wf = true := fun j x hj => H j x ((nth_eq l j).trans hj)
  have e : acs = l.map (Value.int k) := map_of_ones l acs (by have h1 : acs.length = l.length * 1 := hs.1; omega) (fun j x hj => by have := (H' j x hj).1; rwa [Nat.mul_one] at this)
  refine ⟨v, rfl, e ▸ hs, fun x hx => ?_⟩
  obtain ⟨j, hj⟩ := List.getElem?_of_mem hx
  exact (H' j x hj).2
theorem argInts {k : IntKind} {l : List Sh} {h : Heap} {x : ArgsT (.slice (.int k) :: l)} {vs : List Value} (a : ArgsK (.slice (.int k) :: l) h x vs) :
    ∃ (n : List Int) (r : ArgsT l) (v : Value) (vr : List Value), vs = v :: vr ∧ Sl h v 1 n.length (n.map (Value.int k)) ∧ (∀ x ∈ n, (Lit.int k x).wf = true) ∧ ArgsK l h r vr := by
  obtain ⟨v, vr, rfl, h1, h2⟩ := a
  obtain ⟨v', h3, h4, h5⟩ := slInts (cs := [v]) h1
  injection h3 with h3
  subst h3
  exact ⟨x.1, x.2, v, vr, rfl, h4, h5, h2⟩
theorem argNil {h : Heap} {x : ArgsT []} {vs : List Value} (a : ArgsK [] h x vs) : vs = [] := a
theorem wf_i64 {x : Int} (h : (Lit.int .i64 x).wf = true) : -9223372036854775808 ≤ x ∧ x ≤ 9223372036854775807 := by
  simp [Lit.wf, IntKind.min, IntKind.max, IntKind.signed, IntKind.bits] at h
  omega
theorem wf_u8 {x : Int} (h : (Lit.int .u8 x).wf = true) : 0 ≤ x ∧ x < 256 := by
  simp [Lit.wf, IntKind.min, IntKind.max, IntKind.signed, IntKind.bits] at h
  omega
theorem modU (x m : Int) (hm : 0 < m) : 0 ≤ (x % 18446744073709551616).tmod m ∧ (x % 18446744073709551616).tmod m < m := by
  have h := Int.emod_nonneg x (show (18446744073709551616 : Int) ≠ 0 by decide)
  rw [Int.tmod_eq_emod_of_nonneg h]
  exact ⟨Int.emod_nonneg _ (by omega), Int.emod_lt_of_pos _ hm⟩
end Go.Am
