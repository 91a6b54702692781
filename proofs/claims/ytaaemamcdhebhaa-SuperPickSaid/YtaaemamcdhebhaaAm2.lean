/- Am2: part of a calculus over an abstract machine that stands beside the model, and contracts of functions by it.
Conditions: what each theorem says of its arguments. -/
import Derived.Test.YtaaemamcdhebhaaAm1
import Derived.Laws.IdiomCopy
namespace Go.Am
open Go.RowKit

theorem Heap.get_push (h : Heap) (o : AObj) (i : Nat) : (h.push o).get i = if i = h.next then some o else h.get i := Tr.get_set _ _ _ _
theorem Heap.get_put (h : Heap) (i j : Nat) (o : Option AObj) : (h.put i o).get j = if j = i then o else h.get j := Tr.get_set _ _ _ _
theorem Heap.next_push (h : Heap) (o : AObj) : (h.push o).next = h.next + 1 := rfl
theorem Heap.next_put (h : Heap) (i : Nat) (o : Option AObj) : (h.put i o).next = h.next := rfl

theorem low_put (h : Heap) (i : Nat) (o : Option AObj) : (h.put i o).low ≤ h.low ∧ (h.put i o).low ≤ i := by
  show cond (Nat.ble h.low i) h.low i ≤ h.low ∧ cond (Nat.ble h.low i) h.low i ≤ i
  cases e : Nat.ble h.low i with
  | true => exact ⟨Nat.le_refl _, Nat.le_of_ble_eq_true e⟩
  | false =>
    have : ¬ h.low ≤ i := fun x => by rw [Nat.ble_eq_true_of_le x] at e; cases e
    exact ⟨by simp only [cond_false]; omega, Nat.le_refl _⟩

def Mu.set (μ : Mu) (i : Nat) (p : Place) : Mu := fun j => if j = i then some p else μ j
theorem Mu.set_eq (μ : Mu) (i : Nat) (p : Place) : μ.set i p i = some p := if_pos rfl
theorem Mu.set_ne (μ : Mu) {i j : Nat} (p : Place) (h : j ≠ i) : μ.set i p j = μ j := if_neg h
theorem Mu.le_set {μ : Mu} {i : Nat} (p : Place) (h : μ i = none) : μ.le (μ.set i p) := by
  intro j q hq
  rw [Mu.set_ne]
  · exact hq
  · intro e; subst e; rw [h] at hq; cases hq

variable {D Wr : Nat → Prop} {μ ν : Mu} {h h' : Heap} {w w' : World}

theorem StepR.trans {ξ : Mu} {h2 : Heap} {w2 : World} (a : StepR D Wr μ h w ν h' w') (b : StepR (fun i => D i ∨ h.next ≤ i) (fun i => Wr i ∨ h.next ≤ i) ν h' w' ξ h2 w2) : StepR D Wr μ h w ξ h2 w2 where
  le := Mu.le_trans a.le b.le
  dom := by
    intro i hi
    by_cases e : ξ i = ν i
    · rw [e] at hi
      have := a.dom i hi
      exact ⟨this.1, Nat.lt_of_lt_of_le this.2 b.next⟩
    · have := b.dom i e
      exact ⟨Nat.le_trans a.next this.1, this.2⟩
  next := Nat.le_trans a.next b.next
  abs := by
    intro i hi hn
    rw [b.abs i (Nat.lt_of_lt_of_le hi a.next) (by rintro (h | h); exact hn h; omega), a.abs i hi hn]
  rel := b.rel.mono (by rintro i (h | h); exact .inl (.inl h); exact .inl (.inr h))
  keep := a.keep.trans b.keep (fun x off hx => a.regs x off hx)
  regs := by
    intro x off hx ho
    refine a.regs x off hx (b.regs x off (Nat.lt_of_lt_of_le hx a.keep.size) (ho.mono ?_))
    rintro i (h | h)
    · exact .inl (.inl h)
    · exact .inl (.inr h)
  owns := by
    intro i o hi hg
    rcases b.owns i o (.inl hi) hg with h1 | ⟨h1, h2⟩
    · exact .inl h1
    · rw [h2] at hg ⊢
      exact a.owns i o hi hg
  mapd := by
    intro i hi e
    by_cases e2 : h2.get i = h'.get i
    · rw [e2] at e; exact a.mapd i hi e
    · have h3 := b.mapd i (Nat.lt_of_lt_of_le hi a.next) e2
      have : ν i = μ i := Classical.byContradiction fun e => by have := a.dom i e; omega
      rwa [this] at h3

theorem StepR.weaken {Wr' : Nat → Prop} (s : StepR D Wr μ h w ν h' w') (hW : ∀ i, Wr i → Wr' i) : StepR D Wr' μ h w ν h' w' := by
  refine ⟨s.le, s.dom, s.next, fun i hi hn => s.abs i hi (fun x => hn (hW i x)), s.rel, s.keep.mono (fun x off _ => Own.mono hW), ?_, ?_, s.mapd⟩
  · rintro b off hb ⟨i, o, p, hi, g, ho, m, h5, h6⟩
    by_cases hw : Wr i ∨ h.next ≤ i
    · exact (s.regs b off hb ⟨i, o, p, hw, g, ho, m, h5, h6⟩).mono hW
    · have hlt : i < h.next := by omega
      rw [s.abs i hlt (fun x => hw (.inl x))] at g
      have hm : ν i = μ i := Classical.byContradiction fun e => by have := s.dom i e; omega
      rw [hm] at m
      exact ⟨i, o, p, hi.resolve_right (by omega), g, ho, m, h5, h6⟩
  · intro i o hi g
    by_cases hw : Wr i ∨ h.next ≤ i
    · exact s.owns i o hw g
    · have hlt : i < h.next := by omega
      exact .inr ⟨hlt, s.abs i hlt (fun x => hw (.inl x))⟩

/-- Nothing that was there is written. -/
theorem StepR.quiet (s : StepR D Wr μ h w ν h' w') (r : ∀ i o, h.get i = some o → i < h.next) (hq : ∀ i, Wr i → h.next ≤ i) : StepR D (fun _ => False) μ h w ν h' w' := by
  have ho : ∀ b off, ¬ Own h μ Wr b off := by
    rintro b off ⟨i, o, p, h1, h2, _⟩
    have := r i o h2
    have := hq i h1
    omega
  refine ⟨s.le, s.dom, s.next, fun i hi _ => s.abs i hi (fun x => by have := hq i x; omega), s.rel, s.keep.mono (fun x off _ y => absurd y (ho x off)), fun b off hb x => ?_, fun i o hi g => ?_, s.mapd⟩
  · exact absurd (s.regs b off hb (x.mono (fun i hi => .inr (hi.resolve_left id)))) (ho b off)
  · exact s.owns i o (.inr (hi.resolve_left id)) g

/-- The frame. -/
theorem StepR.frame {D' Wr' : Nat → Prop} (s : StepR D Wr μ h w ν h' w') (r : Rel D' μ h w) (hD : ∀ i, D i → D' i) (hW : ∀ i, Wr i → D i) (hW' : ∀ i, Wr i → Wr' i) : StepR D' Wr' μ h w ν h' w' := by
  have hsame : ∀ i, i < h.next → ν i = μ i := fun i hi => Classical.byContradiction fun e => by have := s.dom i e; omega
  have hold : ∀ i o, ¬ (D i ∨ h.next ≤ i) → h'.get i = some o → h.get i = some o ∧ ν i = μ i := by
    intro i o hn g
    have hlt : i < h.next := by omega
    rw [s.abs i hlt (fun hw => hn (.inl (hW i hw)))] at g
    exact ⟨g, hsame i hlt⟩
  have hnot : ∀ i o p, D' i → h.get i = some o → μ i = some p → ¬ Wr i → ∀ off, InReg o p off → ¬ Own h μ Wr p.block off := by
    rintro i o p d g m nw off hr ⟨k, ok, pk, k1, k2, k3, k4, k5, k6⟩
    exact r.disj k i ok o pk p off (hD k (hW k k1)) d (by rintro rfl; exact nw k1) k2 g k3 k4 m k5 k6 hr
  -- a row of the step's own: written, or new, or as it was
  have hown : ∀ i o, (D i ∨ h.next ≤ i) → h'.get i = some o → (h.get i = some o ∧ i < h.next ∧ D' i) ∨ ((Wr i ∨ h.next ≤ i) ∧ o.own = true) := by
    intro i o hi g
    by_cases hw : Wr i ∨ h.next ≤ i
    · rcases s.owns i o hw g with h1 | ⟨h1, h2⟩
      · exact .inr ⟨hw, h1⟩
      · exact .inl ⟨by rw [← h2]; exact g, h1, by rcases hi with hi | hi; exact hD i hi; omega⟩
    · have hlt : i < h.next := by omega
      rw [s.abs i hlt (fun x => hw (.inl x))] at g
      exact .inl ⟨g, hlt, by rcases hi with hi | hi; exact hD i hi; omega⟩
  refine ⟨s.le, s.dom, s.next, fun i hi hn => s.abs i hi (fun x => hn (hW' i x)), ⟨?_, ?_, s.rel.live⟩, s.keep.mono (fun x off _ => Own.mono hW'), ?_, ?_, s.mapd⟩
  · intro i o p d g m
    by_cases hi : D i ∨ h.next ≤ i
    · exact s.rel.cells i o p hi g m
    · obtain ⟨g', e⟩ := hold i o hi g
      have d' : D' i := by rcases d with d | d; exact d; omega
      rw [e] at m
      exact (r.cells i o p d' g' m).keep s.le s.keep (hnot i o p d' g' m (fun x => hi (.inl (hW i x))))
  · intro i j o o' p p' off d d' hij g g' ho m m' hb hr hr'
    by_cases hi : D i ∨ h.next ≤ i
    · by_cases hj : D j ∨ h.next ≤ j
      · exact s.rel.disj i j o o' p p' off hi hj hij g g' ho m m' hb hr hr'
      · obtain ⟨gj, ej⟩ := hold j o' hj g'
        rw [ej] at m'
        have dj : D' j := by rcases d' with d' | d'; exact d'; omega
        rcases hown i o hi g with ⟨gi, hlt, di⟩ | ⟨hw, _⟩
        · rw [hsame i hlt] at m
          exact r.disj i j o o' p p' off di dj hij gi gj ho m m' hb hr hr'
        · have hlt := (r.cells j o' p' dj gj m').inReg_lt hr'
          have := s.regs p.block off (by rw [hb]; exact hlt) ⟨i, o, p, hw, g, ho, m, rfl, hr⟩
          rw [hb] at this
          exact hnot j o' p' dj gj m' (fun x => hj (.inl (hW j x))) off hr' this
    · obtain ⟨gi, ei⟩ := hold i o hi g
      rw [ei] at m
      have di : D' i := by rcases d with d | d; exact d; omega
      by_cases hj : D j ∨ h.next ≤ j
      · rcases hown j o' hj g' with ⟨gj, hlt, dj⟩ | ⟨hw, ho'⟩
        · rw [hsame j hlt] at m'
          exact r.disj i j o o' p p' off di dj hij gi gj ho m m' hb hr hr'
        · have hlt := (r.cells i o p di gi m).inReg_lt hr
          have := s.regs p'.block off (by rw [← hb]; exact hlt) ⟨j, o', p', hw, g', ho', m', rfl, hr'⟩
          rw [← hb] at this
          exact hnot i o p di gi m (fun x => hi (.inl (hW i x))) off hr this
      · obtain ⟨gj, ej⟩ := hold j o' hj g'
        rw [ej] at m'
        exact r.disj i j o o' p p' off di (by rcases d' with d' | d'; exact d'; omega) hij gi gj ho m m' hb hr hr'
  · rintro b off hb ⟨i, o, p, hi, g, ho, m, h5, h6⟩
    by_cases hw : Wr i ∨ h.next ≤ i
    · exact (s.regs b off hb ⟨i, o, p, hw, g, ho, m, h5, h6⟩).mono hW'
    · have hlt : i < h.next := by omega
      rw [s.abs i hlt (fun x => hw (.inl x))] at g
      rw [hsame i hlt] at m
      exact ⟨i, o, p, hi.resolve_right (by omega), g, ho, m, h5, h6⟩
  · intro i o hi g
    by_cases hw : Wr i ∨ h.next ≤ i
    · exact s.owns i o hw g
    · have hlt : i < h.next := by omega
      exact .inr ⟨hlt, s.abs i hlt (fun x => hw (.inl x))⟩

/-- A new row. -/
theorem StepR.alloc (r : Rel D μ h w) (hf : μ h.next = none) {cs : List Value} {C : Array Value} {E : TypeId} (hw : w'.heap = w.heap.push (.cells C E)) (h1 : w'.os = w.os) (h2 : w'.tape = w.tape) (h3 : w'.output = w.output)
    (hc : ∀ (j : Nat) v, cs[j]? = some v → ∃ v', C[j]? = some v' ∧ VRel μ v v') (hl : cs.length ≤ C.size) (Wr : Nat → Prop) :
    StepR D Wr μ h w (μ.set h.next ⟨w.heap.size, 0, C.size⟩) (h.push ⟨cs, true⟩) w' := by
  have hk : Keep (fun _ _ => False) w w' := by
    have hh : ∀ b, b < w.heap.size → w'.heap[b]? = w.heap[b]? := fun b hb => by rw [hw, Array.getElem?_push, if_neg (by omega)]
    have hcell : ∀ b off, b < w.heap.size → w'.cell? ⟨b, off, none⟩ = w.cell? ⟨b, off, none⟩ := fun b off hb => by simp [World.cell?, hh b hb]
    exact ⟨h1, h2, h3, by rw [hw]; simp, fun b hb _ => hh b hb, fun b off hb _ => hcell b off hb, fun b off hb => by simp [World.frozen?, hh b hb], fun b off hb hs => by rw [hcell b off hb]; exact hs⟩
  have hnew : ∀ off, w'.cell? ⟨w.heap.size, 0 + off, none⟩ = C[off]? := fun off => by simp [World.cell?, hw]
  have hle := Mu.le_set ⟨w.heap.size, 0, C.size⟩ hf
  have hlive : ∀ i o, (h.push ⟨cs, true⟩).get i = some o → i < h.next + 1 := by
    intro i o g
    rw [Heap.get_push] at g
    split at g
    · omega
    · have := r.live i o g; omega
  have hmatch : Match (μ.set h.next ⟨w.heap.size, 0, C.size⟩) ⟨cs, true⟩ ⟨w.heap.size, 0, C.size⟩ w' := by
    refine ⟨fun j v hj => ?_, fun _ => hl, fun _ j hj => ?_⟩
    · obtain ⟨v', h4, h5⟩ := hc j v hj
      exact ⟨v', by rw [hnew, h4], h5.mono hle⟩
    · rw [hnew]
      refine ⟨by simpa using hj, by simp [World.frozen?, hw]⟩
  -- each row: the new one, or one of the old ones
  have hsplit : ∀ i o p, (D i ∨ h.next ≤ i) → (h.push ⟨cs, true⟩).get i = some o → (μ.set h.next ⟨w.heap.size, 0, C.size⟩) i = some p →
      (i = h.next ∧ o = ⟨cs, true⟩ ∧ p = ⟨w.heap.size, 0, C.size⟩) ∨ (i ≠ h.next ∧ D i ∧ h.get i = some o ∧ μ i = some p) := by
    intro i o p d g m
    rw [Heap.get_push] at g
    by_cases e : i = h.next
    · rw [if_pos e] at g
      rw [e, Mu.set_eq] at m
      exact .inl ⟨e, (Option.some.inj g).symm, (Option.some.inj m).symm⟩
    · rw [if_neg e] at g
      rw [Mu.set_ne _ _ e] at m
      have := r.live i o g
      exact .inr ⟨e, d.resolve_right (by omega), g, m⟩
  refine ⟨hle, ?_, by rw [Heap.next_push]; omega, ?_, ⟨?_, ?_, hlive⟩, hk.mono (fun _ _ _ x => x.elim), ?_, ?_, fun i hi e => absurd (by rw [Heap.get_push, if_neg (by omega)]) e⟩
  · intro i hi
    by_cases e : i = h.next
    · rw [Heap.next_push]; omega
    · exact absurd (Mu.set_ne _ _ e) hi
  · intro i hi _
    rw [Heap.get_push, if_neg (by omega)]
  · intro i o p d g m
    rcases hsplit i o p d g m with ⟨rfl, rfl, rfl⟩ | ⟨_, d', g', m'⟩
    · exact hmatch
    · exact (r.cells i o p d' g' m').keep hle hk (fun _ _ x => x)
  · intro i j o o' p p' off d d' hij g g' ho m m' hb hr hr'
    rcases hsplit i o p d g m with ⟨rfl, rfl, rfl⟩ | ⟨_, di, gi, mi⟩
    · rcases hsplit j o' p' d' g' m' with ⟨rfl, _, _⟩ | ⟨_, dj, gj, mj⟩
      · exact hij rfl
      · have := (r.cells j o' p' dj gj mj).inReg_lt hr'
        rw [← hb] at this
        exact absurd this (Nat.lt_irrefl _)
    · rcases hsplit j o' p' d' g' m' with ⟨rfl, rfl, rfl⟩ | ⟨_, dj, gj, mj⟩
      · have := (r.cells i o p di gi mi).inReg_lt hr
        rw [hb] at this
        exact absurd this (Nat.lt_irrefl _)
      · exact r.disj i j o o' p p' off di dj hij gi gj ho mi mj hb hr hr'
  · rintro b off hb ⟨i, o, p, hi, g, ho, m, h5, h6⟩
    rw [Heap.get_push] at g
    by_cases e : i = h.next
    · rw [e, Mu.set_eq] at m
      cases m
      simp at h5
      omega
    · rw [if_neg e] at g
      rw [Mu.set_ne _ _ e] at m
      have := r.live i o g
      exact ⟨i, o, p, hi.resolve_right (by omega), g, ho, m, h5, h6⟩
  · intro i o _ g
    rw [Heap.get_push] at g ⊢
    by_cases e : i = h.next
    · rw [if_pos e] at g
      exact .inl (by rw [← Option.some.inj g])
    · rw [if_neg e] at g ⊢
      exact .inr ⟨r.live i o g, rfl⟩

/-- A row of one's own, written. -/
theorem StepR.write (r : Rel D μ h w) {i : Nat} {o : AObj} {p : Place} {cs : List Value} (d : D i) (hWr : Wr i) (g : h.get i = some o) (ho : o.own = true) (m : μ i = some p)
    (hk : Keep (fun b off => b = p.block ∧ InReg o p off) w w') (hc : ∀ (j : Nat) v, cs[j]? = some v → ∃ v', w'.cell? ⟨p.block, p.base + j, none⟩ = some v' ∧ VRel μ v v') (hl : cs.length ≤ p.ext) :
    StepR D Wr μ h w μ (h.put i (some ⟨cs, true⟩)) w' := by
  have hi := r.live i o g
  have hmo := r.cells i o p d g m
  have hreg : ∀ off, InReg ⟨cs, true⟩ p off ↔ InReg o p off := by
    intro off; unfold InReg; rw [if_pos ho, if_pos rfl]
  have hkO : Keep (Own h μ Wr) w w' := hk.mono (fun b off _ x => ⟨i, o, p, hWr, g, ho, m, x.1.symm, x.2⟩)
  have hsplit : ∀ j o' p', (D j ∨ h.next ≤ j) → (h.put i (some ⟨cs, true⟩)).get j = some o' → μ j = some p' →
      (j = i ∧ o' = ⟨cs, true⟩ ∧ p' = p) ∨ (j ≠ i ∧ D j ∧ h.get j = some o' ∧ μ j = some p') := by
    intro j o' p' d' g' m'
    rw [Heap.get_put] at g'
    by_cases e : j = i
    · rw [if_pos e] at g'
      rw [e, m] at m'
      exact .inl ⟨e, (Option.some.inj g').symm, (Option.some.inj m').symm⟩
    · rw [if_neg e] at g'
      have := r.live j o' g'
      exact .inr ⟨e, d'.resolve_right (by omega), g', m'⟩
  have hlive : ∀ j o', (h.put i (some ⟨cs, true⟩)).get j = some o' → j < h.next := by
    intro j o' g'
    rw [Heap.get_put] at g'
    split at g'
    · omega
    · exact r.live j o' g'
  refine ⟨Mu.le_refl μ, fun j hj => absurd rfl hj, Nat.le_refl _, ?_, ⟨?_, ?_, hlive⟩, hkO, ?_, ?_, fun j hj e => by
    by_cases h2 : j = i
    · subst h2; rw [m]; simp
    · exact absurd (by rw [Heap.get_put, if_neg h2]) e⟩
  · intro j hj hn
    rw [Heap.get_put, if_neg (by rintro rfl; exact hn hWr)]
  · intro j o' p' d' g' m'
    rcases hsplit j o' p' d' g' m' with ⟨rfl, rfl, rfl⟩ | ⟨hne, dj, gj, mj⟩
    · refine ⟨hc, fun _ => hl, fun _ q hq => ?_⟩
      obtain ⟨h1, h2⟩ := hmo.own ho q hq
      have hb := lt_of_cell h1
      exact ⟨hk.some _ _ hb h1, by rw [hk.frozen _ _ hb, h2]⟩
    · refine (r.cells j o' p' dj gj mj).keep (Mu.le_refl μ) hk (fun off hr hx => ?_)
      exact r.disj i j o o' p p' off d dj (fun e => hne e.symm) g gj ho m mj hx.1.symm hx.2 hr
  · intro j k oj ok pj pk off dj dk hjk gj gk hoj mj mk hb hr hr'
    rcases hsplit j oj pj dj gj mj with ⟨rfl, rfl, rfl⟩ | ⟨_, dj', gj', mj'⟩
    · rcases hsplit k ok pk dk gk mk with ⟨rfl, _, _⟩ | ⟨_, dk', gk', mk'⟩
      · exact hjk rfl
      · exact r.disj j k o ok pj pk off d dk' hjk g gk' ho mj mk' hb ((hreg off).1 hr) hr'
    · rcases hsplit k ok pk dk gk mk with ⟨rfl, rfl, rfl⟩ | ⟨_, dk', gk', mk'⟩
      · exact r.disj j k oj o pj pk off dj' d hjk gj' g hoj mj' mk hb hr ((hreg off).1 hr')
      · exact r.disj j k oj ok pj pk off dj' dk' hjk gj' gk' hoj mj' mk' hb hr hr'
  · rintro b off hb ⟨j, oj, pj, hj, gj, hoj, mj, h5, h6⟩
    rw [Heap.get_put] at gj
    by_cases e : j = i
    · rw [if_pos e] at gj
      rw [e, m] at mj
      cases mj
      cases gj
      exact ⟨i, o, p, hWr, g, ho, m, h5, (hreg off).1 h6⟩
    · rw [if_neg e] at gj
      have := r.live j oj gj
      exact ⟨j, oj, pj, hj.resolve_right (by omega), gj, hoj, mj, h5, h6⟩
  · intro j oj _ gj
    rw [Heap.get_put] at gj ⊢
    by_cases e : j = i
    · rw [if_pos e] at gj
      exact .inl (by rw [← Option.some.inj gj])
    · rw [if_neg e] at gj ⊢
      exact .inr ⟨r.live j oj gj, rfl⟩

/-- A row given up, its own place taken by a new one that is grown within it. -/
theorem StepR.grow (r : Rel D μ h w) {i off0 : Nat} {o : AObj} {p : Place} {cs : List Value} (d : D i) (hWr : Wr i) (g : h.get i = some o) (ho : o.own = true) (m : μ i = some p) (hf : μ h.next = none) (h0 : off0 ≤ p.ext)
    (hk : Keep (fun b off => b = p.block ∧ InReg o p off) w w') (hc : ∀ (j : Nat) v, cs[j]? = some v → ∃ v', w'.cell? ⟨p.block, p.base + off0 + j, none⟩ = some v' ∧ VRel μ v v') (hl : off0 + cs.length ≤ p.ext) :
    StepR D Wr μ h w (μ.set h.next ⟨p.block, p.base + off0, p.ext - off0⟩) ((h.put i none).push ⟨cs, true⟩) w' := by
  have hi := r.live i o g
  have hmo := r.cells i o p d g m
  have hle := Mu.le_set ⟨p.block, p.base + off0, p.ext - off0⟩ hf
  have hreg : ∀ off, InReg ⟨cs, true⟩ ⟨p.block, p.base + off0, p.ext - off0⟩ off → InReg o p off := by
    intro off; unfold InReg; rw [if_pos ho, if_pos rfl]; simp only; omega
  have hkO : Keep (Own h μ Wr) w w' := hk.mono (fun b off _ x => ⟨i, o, p, hWr, g, ho, m, x.1.symm, x.2⟩)
  have hget : ∀ j, ((h.put i none).push ⟨cs, true⟩).get j = if j = h.next then some ⟨cs, true⟩ else if j = i then none else h.get j := by
    intro j; rw [Heap.get_push, Heap.get_put, Heap.next_put]
  have hsplit : ∀ j o' p', (D j ∨ h.next ≤ j) → ((h.put i none).push ⟨cs, true⟩).get j = some o' → (μ.set h.next ⟨p.block, p.base + off0, p.ext - off0⟩) j = some p' →
      (j = h.next ∧ o' = ⟨cs, true⟩ ∧ p' = ⟨p.block, p.base + off0, p.ext - off0⟩) ∨ (j ≠ h.next ∧ j ≠ i ∧ D j ∧ h.get j = some o' ∧ μ j = some p') := by
    intro j o' p' d' g' m'
    rw [hget] at g'
    by_cases e : j = h.next
    · rw [if_pos e] at g'
      rw [e, Mu.set_eq] at m'
      exact .inl ⟨e, (Option.some.inj g').symm, (Option.some.inj m').symm⟩
    · rw [if_neg e] at g'
      rw [Mu.set_ne _ _ e] at m'
      by_cases e2 : j = i
      · rw [if_pos e2] at g'; cases g'
      · rw [if_neg e2] at g'
        have := r.live j o' g'
        exact .inr ⟨e, e2, d'.resolve_right (by omega), g', m'⟩
  refine ⟨hle, ?_, by rw [Heap.next_push, Heap.next_put]; omega, ?_, ⟨?_, ?_, ?_⟩, hkO, ?_, ?_, fun j hj e => by
    by_cases h2 : j = i
    · subst h2; rw [m]; simp
    · exact absurd (by rw [hget, if_neg (by omega), if_neg h2]) e⟩
  · intro j hj
    by_cases e : j = h.next
    · rw [Heap.next_push, Heap.next_put]; omega
    · exact absurd (Mu.set_ne _ _ e) hj
  · intro j hj hn
    rw [hget, if_neg (by omega), if_neg (by rintro rfl; exact hn hWr)]
  · intro j o' p' d' g' m'
    rcases hsplit j o' p' d' g' m' with ⟨rfl, rfl, rfl⟩ | ⟨_, hne, dj, gj, mj⟩
    · refine ⟨fun q v hq => ?_, fun _ => by simp only; omega, fun _ q hq => ?_⟩
      · obtain ⟨v', h4, h5⟩ := hc q v hq
        exact ⟨v', h4, h5.mono hle⟩
      · simp only at hq
        obtain ⟨h1, h2⟩ := hmo.own ho (off0 + q) (by omega)
        have hb := lt_of_cell h1
        rw [Nat.add_assoc]
        exact ⟨hk.some _ _ hb h1, by rw [hk.frozen _ _ hb, h2]⟩
    · refine (r.cells j o' p' dj gj mj).keep hle hk (fun off hr hx => ?_)
      exact r.disj i j o o' p p' off d dj (fun e => hne e.symm) g gj ho m mj hx.1.symm hx.2 hr
  · intro j k oj ok pj pk off dj dk hjk gj gk hoj mj mk hb hr hr'
    rcases hsplit j oj pj dj gj mj with ⟨rfl, rfl, rfl⟩ | ⟨_, hj, dj', gj', mj'⟩
    · rcases hsplit k ok pk dk gk mk with ⟨rfl, _, _⟩ | ⟨_, hk', dk', gk', mk'⟩
      · exact hjk rfl
      · exact r.disj i k o ok p pk off d dk' (fun e => hk' e.symm) g gk' ho m mk' hb (hreg off hr) hr'
    · rcases hsplit k ok pk dk gk mk with ⟨rfl, rfl, rfl⟩ | ⟨_, hk', dk', gk', mk'⟩
      · exact r.disj j i oj o pj p off dj' d hj gj' g hoj mj' m hb hr (hreg off hr')
      · exact r.disj j k oj ok pj pk off dj' dk' hjk gj' gk' hoj mj' mk' hb hr hr'
  · intro j o' g'
    rw [Heap.next_push, Heap.next_put]
    rw [hget] at g'
    split at g'
    · omega
    · split at g'
      · cases g'
      · have := r.live j o' g'; omega
  · rintro b off hb ⟨j, oj, pj, hj, gj, hoj, mj, h5, h6⟩
    rw [hget] at gj
    by_cases e : j = h.next
    · rw [if_pos e] at gj
      rw [e, Mu.set_eq] at mj
      cases mj
      cases gj
      exact ⟨i, o, p, hWr, g, ho, m, h5, hreg off h6⟩
    · rw [if_neg e] at gj
      rw [Mu.set_ne _ _ e] at mj
      by_cases e2 : j = i
      · rw [if_pos e2] at gj; cases gj
      · rw [if_neg e2] at gj
        have := r.live j oj gj
        exact ⟨j, oj, pj, hj.resolve_right (by omega), gj, hoj, mj, h5, h6⟩
  · intro j oj _ gj
    rw [hget] at gj ⊢
    by_cases e : j = h.next
    · rw [if_pos e] at gj
      exact .inl (by rw [← Option.some.inj gj])
    · rw [if_neg e] at gj ⊢
      by_cases e2 : j = i
      · rw [if_pos e2] at gj; cases gj
      · rw [if_neg e2] at gj ⊢
        exact .inr ⟨r.live j oj gj, rfl⟩

/-- A row given up. -/
theorem StepR.kill (r : Rel D μ h w) {i : Nat} (hWr : Wr i) (hm : μ i ≠ none) : StepR D Wr μ h w μ (h.put i none) w := by
  have hsub : ∀ j o, (h.put i none).get j = some o → j ≠ i ∧ h.get j = some o := by
    intro j o g
    rw [Heap.get_put] at g
    by_cases e : j = i
    · rw [if_pos e] at g; cases g
    · rw [if_neg e] at g; exact ⟨e, g⟩
  refine ⟨Mu.le_refl μ, fun j hj => absurd rfl hj, Nat.le_refl _, ?_, ⟨?_, ?_, fun j o g => r.live j o (hsub j o g).2⟩, Keep.refl _ _, ?_, ?_, fun j hj e => by
    by_cases h2 : j = i
    · subst h2; exact hm
    · exact absurd (by rw [Heap.get_put, if_neg h2]) e⟩
  · intro j hj hn
    rw [Heap.get_put, if_neg (by rintro rfl; exact hn hWr)]
  · intro j o p dj g m
    have := r.live j o (hsub j o g).2
    exact r.cells j o p (dj.resolve_right (by omega)) (hsub j o g).2 m
  · intro j k oj ok pj pk off dj dk hjk gj gk
    have h1 := r.live j oj (hsub j oj gj).2
    have h2 := r.live k ok (hsub k ok gk).2
    exact r.disj j k oj ok pj pk off (dj.resolve_right (by omega)) (dk.resolve_right (by omega)) hjk (hsub j oj gj).2 (hsub k ok gk).2
  · rintro b off hb ⟨j, oj, pj, hj, gj, hr⟩
    have h1 := r.live j oj (hsub j oj gj).2
    exact ⟨j, oj, pj, hj.resolve_right (by omega), (hsub j oj gj).2, hr⟩
  · intro j oj _ gj
    obtain ⟨h1, h2⟩ := hsub j oj gj
    refine .inr ⟨r.live j oj h2, ?_⟩
    rw [gj, h2]

/-- Only what there is is written. -/
theorem StepR.lt (s : StepR D Wr μ h w ν h' w') (r : ∀ i o, h.get i = some o → i < h.next) : StepR D (fun i => Wr i ∧ i < h.next) μ h w ν h' w' := by
  have ho : ∀ b off, Own h μ Wr b off → Own h μ (fun i => Wr i ∧ i < h.next) b off := by
    rintro b off ⟨i, o, p, h1, h2, h3⟩
    exact ⟨i, o, p, ⟨h1, r i o h2⟩, h2, h3⟩
  refine ⟨s.le, s.dom, s.next, fun i hi hn => s.abs i hi (fun x => hn ⟨x, hi⟩), s.rel, s.keep.mono (fun x off _ => ho x off), fun b off hb x => ho b off (s.regs b off hb (x.mono (fun i hi => ?_))), fun i o hi g => s.owns i o ?_ g, s.mapd⟩
  · rcases hi with hi | hi; exact .inl hi.1; exact .inr hi
  · rcases hi with hi | hi; exact .inl hi.1; exact .inr hi

theorem Own.congr {g : Heap} {W : Nat → Prop} {b off : Nat} (hg : ∀ i, g.get i = h.get i) (x : Own g μ W b off) : Own h μ W b off := by
  obtain ⟨i, o, p, h1, h2, h3⟩ := x
  exact ⟨i, o, p, h1, by rw [← hg]; exact h2, h3⟩
theorem Rel.congr {g : Heap} (r : Rel D μ h w) (hg : ∀ i, g.get i = h.get i) (hn : g.next = h.next) : Rel D μ g w :=
  ⟨fun i o p d e => r.cells i o p d (by rw [← hg]; exact e), fun i j o o' p p' off d d' hij e e' => r.disj i j o o' p p' off d d' hij (by rw [← hg]; exact e) (by rw [← hg]; exact e'), fun i o e => by rw [hn]; rw [hg] at e; exact r.live i o e⟩
theorem StepR.congr {g g' : Heap} (s : StepR D Wr μ h w ν h' w') (hg : ∀ i, g.get i = h.get i) (hn : g.next = h.next) (hg' : ∀ i, g'.get i = h'.get i) (hn' : g'.next = h'.next) : StepR D Wr μ g w ν g' w' where
  le := s.le
  dom := fun i hi => by rw [hn, hn']; exact s.dom i hi
  next := by rw [hn, hn']; exact s.next
  abs := fun i hi hw => by rw [hg, hg']; exact s.abs i (by omega) hw
  rel := by rw [hn]; exact s.rel.congr hg' hn'
  keep := s.keep.mono (fun x off _ y => y.congr (fun i => (hg i).symm))
  regs := fun b off hb x => (s.regs b off hb (by rw [hn] at x; exact x.congr hg')).congr (fun i => (hg i).symm)
  owns := fun i o hi e => by
    rw [hn] at hi ⊢
    rw [hg'] at e
    rw [hg, hg']
    exact s.owns i o hi e
  mapd := fun i hi e => s.mapd i (by omega) (by rw [← hg, ← hg']; exact e)

end Go.Am
