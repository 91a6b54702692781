/- Am1: part of a calculus over an abstract machine that stands beside the model, and contracts of functions by it.
Conditions: what each theorem says of its arguments. -/
import Derived.Test.YtaaemamcdhebhaaAm0
import Derived.Laws.Sem
import Derived.Laws.World
import Derived.Below
namespace Go.Am
open Go.RowKit

structure Place where
  block : Nat
  base : Nat
  ext : Nat
abbrev Mu := Nat → Option Place

mutual
inductive VRel (μ : Mu) : Value → Value → Prop where
  | bool (b : Bool) : VRel μ (.bool b) (.bool b)
  | int (k : IntKind) (n : Int) : VRel μ (.int k n) (.int k n)
  | string (s : ByteArray) : VRel μ (.string s) (.string s)
  | nilFunc : VRel μ .nilFunc .nilFunc
  | nilIface : VRel μ .nilIface .nilIface
  | ptrNil : VRel μ (.pointer none) (.pointer none)
  | ptr {i off : Nat} {p : Place} : μ i = some p → VRel μ (.pointer (some ⟨i, off, none⟩)) (.pointer (some ⟨p.block, p.base + off, none⟩))
  | sliceNil (n c : Nat) : VRel μ (.slice none n c) (.slice none n c)
  | sliceEx {i off n c : Nat} {p : Place} : μ i = some p → n ≤ c → VRel μ (.slice (some ⟨i, off, none⟩) n (exc c)) (.slice (some ⟨p.block, p.base + off, none⟩) n c)
  | sliceUn {i off n e c : Nat} {p : Place} {ca : Addr} : μ i = some p → n ≤ c → (ca = ⟨p.block, p.base + off, none⟩ ∧ off + c * e ≤ p.ext ∨ n = 0 ∧ c = 0) →
      VRel μ (.slice (some ⟨i, off, none⟩) n (unkc e)) (.slice (some ca) n c)
  | func (fn : Fn) {a a' b b' : List Value} : VRels μ a a' → VRels μ b b' → VRel μ (.func fn ⟨a⟩ ⟨b⟩) (.func fn ⟨a'⟩ ⟨b'⟩)
  | agg {l l' : List Value} : VRels μ l l' → VRel μ (.agg ⟨l⟩) (.agg ⟨l'⟩)
  | tuple {l l' : List Value} : VRels μ l l' → VRel μ (.tuple ⟨l⟩) (.tuple ⟨l'⟩)
inductive VRels (μ : Mu) : List Value → List Value → Prop where
  | nil : VRels μ [] []
  | cons {v v' : Value} {l l' : List Value} : VRel μ v v' → VRels μ l l' → VRels μ (v :: l) (v' :: l')
end

def Mu.le (μ ν : Mu) : Prop := ∀ i p, μ i = some p → ν i = some p
theorem Mu.le_refl (μ : Mu) : μ.le μ := fun _ _ h => h
theorem Mu.le_trans {a b c : Mu} (h : a.le b) (k : b.le c) : a.le c := fun i p e => k i p (h i p e)

mutual
theorem VRel.mono {μ ν : Mu} (h : μ.le ν) {v v' : Value} : VRel μ v v' → VRel ν v v'
  | .bool b => .bool b
  | .int k n => .int k n
  | .string s => .string s
  | .nilFunc => .nilFunc
  | .nilIface => .nilIface
  | .ptrNil => .ptrNil
  | .ptr e => .ptr (h _ _ e)
  | .sliceNil n c => .sliceNil n c
  | .sliceEx e a => .sliceEx (h _ _ e) a
  | .sliceUn e a b => .sliceUn (h _ _ e) a b
  | .func fn a b => .func fn (VRels.mono h a) (VRels.mono h b)
  | .agg a => .agg (VRels.mono h a)
  | .tuple a => .tuple (VRels.mono h a)
theorem VRels.mono {μ ν : Mu} (h : μ.le ν) {l l' : List Value} : VRels μ l l' → VRels ν l l'
  | .nil => .nil
  | .cons a b => .cons (VRel.mono h a) (VRels.mono h b)
end

theorem VRels.length {μ : Mu} : ∀ {l l' : List Value}, VRels μ l l' → l'.length = l.length
  | _, _, .nil => rfl
  | _, _, .cons _ b => by simp [VRels.length b]
theorem VRels.nth {μ : Mu} : ∀ {l l' : List Value}, VRels μ l l' → ∀ (n : Nat) (v : Value), l[n]? = some v → ∃ v', l'[n]? = some v' ∧ VRel μ v v'
  | _, _, .nil, n, v, h => by simp at h
  | _, _, .cons (v' := x') a b, 0, v, h => by simp at h; subst h; exact ⟨x', by simp, a⟩
  | _, _, .cons a b, n + 1, v, h => by simp at h; obtain ⟨v', h1, h2⟩ := VRels.nth b n v h; exact ⟨v', by simpa using h1, h2⟩
theorem VRels.of_nth {μ : Mu} : ∀ {l l' : List Value}, l'.length = l.length → (∀ (n : Nat) (v v' : Value), l[n]? = some v → l'[n]? = some v' → VRel μ v v') → VRels μ l l'
  | [], [], _, _ => .nil
  | [], _ :: _, h, _ => by simp at h
  | _ :: _, [], h, _ => by simp at h
  | x :: l, y :: l', h, k => .cons (k 0 x y rfl rfl) (VRels.of_nth (by simpa using h) (fun n v v' h1 h2 => k (n + 1) v v' (by simpa using h1) (by simpa using h2)))
theorem VRels.append {μ : Mu} : ∀ {a a' b b' : List Value}, VRels μ a a' → VRels μ b b' → VRels μ (a ++ b) (a' ++ b')
  | _, _, _, _, .nil, k => k
  | _, _, _, _, .cons x y, k => .cons x (VRels.append y k)
theorem VRels.take {μ : Mu} : ∀ {l l' : List Value} (n : Nat), VRels μ l l' → VRels μ (l.take n) (l'.take n)
  | _, _, 0, _ => by simpa using VRels.nil
  | _, _, n + 1, .nil => by simpa using VRels.nil
  | _, _, n + 1, .cons a b => by simpa using VRels.cons a (VRels.take n b)
theorem VRels.drop {μ : Mu} : ∀ {l l' : List Value} (n : Nat), VRels μ l l' → VRels μ (l.drop n) (l'.drop n)
  | _, _, 0, h => by simpa using h
  | _, _, n + 1, .nil => by simpa using VRels.nil
  | _, _, n + 1, .cons a b => by simpa using VRels.drop n b

theorem closedC_rel (μ : Mu) {v : Value} (h : closedC v = true) : VRel μ v v := by
  cases v with
  | bool b => exact .bool b
  | int k n => exact .int k n
  | string s => exact .string s
  | pointer a => cases a with
    | none => exact .ptrNil
    | some a => simp [closedC] at h
  | slice a n c => cases a with
    | none => exact .sliceNil n c
    | some a => simp [closedC] at h
  | nilFunc => exact .nilFunc
  | nilIface => exact .nilIface
  | _ => simp [closedC] at h
theorem closedL_rel (μ : Mu) : ∀ {l : List Value}, closedL l = true → VRels μ l l
  | [], _ => .nil
  | v :: l, h => by
    unfold closedL at h
    cases e : closedC v with
    | false => rw [e] at h; cases h
    | true => rw [e] at h; exact .cons (closedC_rel μ e) (closedL_rel μ h)
theorem closedV_rel (μ : Mu) {v : Value} (h : closedV v = true) : VRel μ v v := by
  cases v with
  | agg cs => exact .agg (closedL_rel μ h)
  | _ => exact closedC_rel μ h

theorem VRel.cells {μ : Mu} {v v' : Value} (h : VRel μ v v') : VRels μ (cellsOf v) v'.cells.toList := by
  cases h with
  | agg a => exact a
  | bool b => exact .cons (.bool b) .nil
  | int k n => exact .cons (.int k n) .nil
  | string s => exact .cons (.string s) .nil
  | nilFunc => exact .cons .nilFunc .nil
  | nilIface => exact .cons .nilIface .nil
  | ptrNil => exact .cons .ptrNil .nil
  | ptr e => exact .cons (.ptr e) .nil
  | sliceNil n c => exact .cons (.sliceNil n c) .nil
  | sliceEx e a => exact .cons (.sliceEx e a) .nil
  | sliceUn e a b => exact .cons (.sliceUn e a b) .nil
  | func fn a b => exact .cons (.func fn a b) .nil
  | tuple a => exact .cons (.tuple a) .nil

theorem VRel.isCell {μ : Mu} {v v' : Value} (h : VRel μ v v') (hc : isCell v = true) : v'.oneCell' = true := by
  cases h <;> first | rfl | (simp [Am.isCell] at hc)
theorem VRels.allCells {μ : Mu} : ∀ {l l' : List Value}, VRels μ l l' → allCells l = true → ∀ v ∈ l', v.oneCell' = true
  | _, _, .nil, _, v, hv => by simp at hv
  | _, _, .cons (v := x) a b, h, v, hv => by
    unfold Am.allCells at h
    cases e : Am.isCell x with
    | false => rw [e] at h; cases h
    | true =>
      rw [e] at h
      rcases List.mem_cons.1 hv with rfl | hv
      · exact a.isCell e
      · exact VRels.allCells b h v hv

/- Memory. -/
def InReg (o : AObj) (p : Place) (off : Nat) : Prop := p.base ≤ off ∧ off < p.base + (if o.own = true then p.ext else o.cells.length)

structure Match (μ : Mu) (o : AObj) (p : Place) (w : World) : Prop where
  cells : ∀ j v, o.cells[j]? = some v → ∃ v', w.cell? ⟨p.block, p.base + j, none⟩ = some v' ∧ VRel μ v v'
  ext : o.own = true → o.cells.length ≤ p.ext
  own : o.own = true → ∀ j, j < p.ext → (w.cell? ⟨p.block, p.base + j, none⟩).isSome = true ∧ w.frozen? ⟨p.block, p.base + j, none⟩ = false

structure Rel (D : Nat → Prop) (μ : Mu) (h : Heap) (w : World) : Prop where
  cells : ∀ i o p, D i → h.get i = some o → μ i = some p → Match μ o p w
  disj : ∀ i j o o' p p' off, D i → D j → i ≠ j → h.get i = some o → h.get j = some o' → o.own = true → μ i = some p → μ j = some p' → p.block = p'.block → InReg o p off → ¬ InReg o' p' off
  live : ∀ i o, h.get i = some o → i < h.next

def Own (h : Heap) (μ : Mu) (W : Nat → Prop) (b off : Nat) : Prop := ∃ i o p, W i ∧ h.get i = some o ∧ o.own = true ∧ μ i = some p ∧ p.block = b ∧ InReg o p off

/-- What was there stays, but for the cells of W. -/
structure Keep (W : Nat → Nat → Prop) (w w' : World) : Prop where
  os : w'.os = w.os
  tape : w'.tape = w.tape
  output : w'.output = w.output
  size : w.heap.size ≤ w'.heap.size
  block : ∀ b, b < w.heap.size → (∀ off, ¬ W b off) → w'.heap[b]? = w.heap[b]?
  cell : ∀ b off, b < w.heap.size → ¬ W b off → w'.cell? ⟨b, off, none⟩ = w.cell? ⟨b, off, none⟩
  frozen : ∀ b off, b < w.heap.size → w'.frozen? ⟨b, off, none⟩ = w.frozen? ⟨b, off, none⟩
  some : ∀ b off, b < w.heap.size → (w.cell? ⟨b, off, none⟩).isSome = true → (w'.cell? ⟨b, off, none⟩).isSome = true

theorem Keep.refl (W : Nat → Nat → Prop) (w : World) : Keep W w w := ⟨rfl, rfl, rfl, Nat.le_refl _, fun _ _ _ => rfl, fun _ _ _ _ => rfl, fun _ _ _ => rfl, fun _ _ _ h => h⟩
theorem Keep.trans {W W1 : Nat → Nat → Prop} {a b c : World} (h : Keep W a b) (k : Keep W1 b c) (hw : ∀ x off, x < a.heap.size → W1 x off → W x off) : Keep W a c where
  os := k.os.trans h.os
  tape := k.tape.trans h.tape
  output := k.output.trans h.output
  size := Nat.le_trans h.size k.size
  block := fun x hx hn => (k.block x (Nat.lt_of_lt_of_le hx h.size) (fun off hy => hn off (hw x off hx hy))).trans (h.block x hx hn)
  cell := fun x off hx hn => (k.cell x off (Nat.lt_of_lt_of_le hx h.size) (fun hy => hn (hw x off hx hy))).trans (h.cell x off hx hn)
  frozen := fun x off hx => (k.frozen x off (Nat.lt_of_lt_of_le hx h.size)).trans (h.frozen x off hx)
  some := fun x off hx hs => k.some x off (Nat.lt_of_lt_of_le hx h.size) (h.some x off hx hs)
theorem Keep.mono {W W' : Nat → Nat → Prop} {a b : World} (h : Keep W a b) (hw : ∀ x off, x < a.heap.size → W x off → W' x off) : Keep W' a b where
  os := h.os
  tape := h.tape
  output := h.output
  size := h.size
  block := fun x hx hn => h.block x hx (fun off hy => hn off (hw x off hx hy))
  cell := fun x off hx hn => h.cell x off hx (fun hy => hn (hw x off hx hy))
  frozen := h.frozen
  some := h.some

theorem lt_of_cell {w : World} {b off : Nat} (h : (w.cell? ⟨b, off, none⟩).isSome = true) : b < w.heap.size := by
  rcases Nat.lt_or_ge b w.heap.size with hlt | hge
  · exact hlt
  · simp [World.cell?, Array.getElem?_eq_none hge] at h

theorem Match.inReg_lt {μ : Mu} {o : AObj} {p : Place} {w : World} (m : Match μ o p w) {off : Nat} (h : InReg o p off) : p.block < w.heap.size := by
  obtain ⟨h1, h2⟩ := h
  obtain ⟨j, rfl⟩ := Nat.exists_eq_add_of_le h1
  by_cases ho : o.own = true
  · rw [if_pos ho] at h2
    exact lt_of_cell (m.own ho j (by omega)).1
  · rw [if_neg ho] at h2
    have hj : j < o.cells.length := by omega
    obtain ⟨v', h3, _⟩ := m.cells j _ (List.getElem?_eq_getElem hj)
    exact lt_of_cell (by rw [h3]; rfl)

/-- A row keeps, where the world keeps its cells. -/
theorem Match.keep {μ ν : Mu} {o : AObj} {p : Place} {w w' : World} {W : Nat → Nat → Prop} (m : Match μ o p w) (hm : μ.le ν) (k : Keep W w w') (hn : ∀ off, InReg o p off → ¬ W p.block off) : Match ν o p w' where
  cells := by
    intro j v hj
    obtain ⟨v', h1, h2⟩ := m.cells j v hj
    refine ⟨v', ?_, h2.mono hm⟩
    have hb := lt_of_cell (w := w) (b := p.block) (off := p.base + j) (by rw [h1]; rfl)
    have hlen : j < o.cells.length := by
      rcases Nat.lt_or_ge j o.cells.length with h | h
      · exact h
      · rw [List.getElem?_eq_none h] at hj; cases hj
    have hreg : InReg o p (p.base + j) := by
      refine ⟨by omega, ?_⟩
      by_cases ho : o.own = true
      · rw [if_pos ho]; have := m.ext ho; omega
      · rw [if_neg ho]; omega
    rw [k.cell _ _ hb (hn _ hreg), h1]
  ext := m.ext
  own := by
    intro ho j hj
    obtain ⟨h1, h2⟩ := m.own ho j hj
    have hb := lt_of_cell h1
    exact ⟨k.some _ _ hb h1, by rw [k.frozen _ _ hb, h2]⟩

/-- One step of the abstract memory beside one of the world: D what it looks at, Wr what it writes. -/
structure StepR (D Wr : Nat → Prop) (μ : Mu) (h : Heap) (w : World) (ν : Mu) (h' : Heap) (w' : World) : Prop where
  le : μ.le ν
  dom : ∀ i, ν i ≠ μ i → h.next ≤ i ∧ i < h'.next
  next : h.next ≤ h'.next
  abs : ∀ i, i < h.next → ¬ Wr i → h'.get i = h.get i
  rel : Rel (fun i => D i ∨ h.next ≤ i) ν h' w'
  keep : Keep (Own h μ Wr) w w'
  regs : ∀ b off, b < w.heap.size → Own h' ν (fun i => Wr i ∨ h.next ≤ i) b off → Own h μ Wr b off
  owns : ∀ i o, (Wr i ∨ h.next ≤ i) → h'.get i = some o → o.own = true ∨ (i < h.next ∧ h'.get i = h.get i)
  mapd : ∀ i, i < h.next → h'.get i ≠ h.get i → μ i ≠ none

theorem Rel.mono {D D' : Nat → Prop} {μ : Mu} {h : Heap} {w : World} (r : Rel D μ h w) (hd : ∀ i, D' i → D i) : Rel D' μ h w :=
  ⟨fun i o p d => r.cells i o p (hd i d), fun i j o o' p p' off d d' => r.disj i j o o' p p' off (hd i d) (hd j d'), r.live⟩

theorem Own.mono {h : Heap} {μ : Mu} {W W' : Nat → Prop} {b off : Nat} (hw : ∀ i, W i → W' i) (x : Own h μ W b off) : Own h μ W' b off := by
  obtain ⟨i, o, p, h1, h2⟩ := x; exact ⟨i, o, p, hw i h1, h2⟩

/-- Nothing but draws: same memory, same heap of the world. -/
theorem Rel.sameHeap {D : Nat → Prop} {μ : Mu} {h : Heap} {w w' : World} (r : Rel D μ h w) (e : w'.heap = w.heap) : Rel D μ h w' := by
  have hc : ∀ a, w'.cell? a = w.cell? a := fun a => by simp [World.cell?, e]
  have hf : ∀ a, w'.frozen? a = w.frozen? a := fun a => by simp [World.frozen?, e]
  refine ⟨fun i o p d g m => ?_, r.disj, r.live⟩
  have := r.cells i o p d g m
  exact ⟨fun j v hj => by rw [hc]; exact this.cells j v hj, this.ext, fun ho j hj => by rw [hc, hf]; exact this.own ho j hj⟩
theorem Keep.sameHeap {W : Nat → Nat → Prop} {w w' : World} (e : w'.heap = w.heap) (h1 : w'.os = w.os) (h2 : w'.tape = w.tape) (h3 : w'.output = w.output) : Keep W w w' := by
  refine ⟨h1, h2, h3, by rw [e]; exact Nat.le_refl _, fun _ _ _ => by rw [e], fun _ _ _ _ => by simp [World.cell?, e], fun _ _ _ => by simp [World.frozen?, e], fun _ _ _ h => by simpa [World.cell?, e] using h⟩

/-- Nothing has turned. -/
theorem StepR.same {D : Nat → Prop} {μ : Mu} {h : Heap} {w w' : World} (r : Rel D μ h w) (e : w'.heap = w.heap) (h1 : w'.os = w.os) (h2 : w'.tape = w.tape) (h3 : w'.output = w.output) (Wr : Nat → Prop) : StepR D Wr μ h w μ h w' where
  le := Mu.le_refl μ
  dom := fun i hi => absurd rfl hi
  next := Nat.le_refl _
  abs := fun _ _ _ => rfl
  rel := by
    refine ⟨fun i o p d g m => ?_, fun i j o o' p p' off d d' hij g g' => ?_, r.live⟩
    · rcases d with d | d
      · exact (r.sameHeap e).cells i o p d g m
      · have := r.live i o g; omega
    · have l1 := r.live i o g
      have l2 := r.live j o' g'
      exact r.disj i j o o' p p' off (d.resolve_right (by omega)) (d'.resolve_right (by omega)) hij g g'
  keep := Keep.sameHeap e h1 h2 h3
  regs := fun b off _ x => by
    obtain ⟨i, o, p, h1, h2, h3⟩ := x
    have := r.live i o h2
    exact ⟨i, o, p, h1.resolve_right (by omega), h2, h3⟩
  owns := fun i o _ g => .inr ⟨r.live i o g, rfl⟩
  mapd := fun i _ e => absurd rfl e
theorem StepR.refl {D : Nat → Prop} {μ : Mu} {h : Heap} {w : World} (r : Rel D μ h w) (Wr : Nat → Prop) : StepR D Wr μ h w μ h w := .same r rfl rfl rfl rfl Wr

end Go.Am
