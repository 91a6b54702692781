/- BuildExact: a calculus over an abstract machine that stands beside the model, and contracts of functions by it (part 2).
Conditions: what each theorem says of its arguments. -/
import Derived.Test.YtdcggjkcbheolaaGBuildExact1
section
set_option linter.unusedVariables false
namespace Go.Am
open Go.RowKit

def Fp.D : Fp → Nat → Prop
  | .none, _ => False
  | .rd j, i => i = j
  | .wr l, i => i ∈ l
  | .all _, _ => True
def Fp.W : Fp → Nat → Prop
  | .none, _ => False
  | .rd _, _ => False
  | .wr l, i => i ∈ l
  | .all q, _ => q = false
theorem Fp.W_D (f : Fp) (i : Nat) (h : f.W i) : f.D i := by cases f <;> simp_all [Fp.W, Fp.D]

def Live (h : Heap) : Prop := ∀ i o, h.get i = some o → i < h.next
/-- What becomes of the abstract memory: W may be written. -/
structure HS (W : Nat → Prop) (h h' : Heap) : Prop where
  next : h.next ≤ h'.next
  low : h'.low ≤ h.low
  abs : ∀ i, i < h.next → h'.get i ≠ h.get i → W i ∧ h'.low ≤ i
  live : Live h → Live h'
  owns : ∀ i o, h'.get i = some o → o.own = true ∨ h.get i = some o
theorem HS.refl (W : Nat → Prop) (h : Heap) : HS W h h := ⟨Nat.le_refl _, Nat.le_refl _, fun _ _ e => absurd rfl e, id, fun _ _ e => .inr e⟩
theorem HS.push (W : Nat → Prop) (h : Heap) (cs : List Value) : HS W h (h.push ⟨cs, true⟩) := by
  refine ⟨Nat.le_succ _, Nat.le_refl _, fun i hi e => absurd ?_ e, fun l i o' g => ?_, fun i o g => ?_⟩
  · rw [Heap.get_push, if_neg (by omega)]
  · rw [Heap.get_push] at g
    rw [Heap.next_push]
    split at g
    · omega
    · have := l i o' g; omega
  · rw [Heap.get_push] at g
    split at g
    · cases g; exact .inl rfl
    · exact .inr g
theorem HS.put {W : Nat → Prop} (h : Heap) {i : Nat} (o : Option AObj) {o0 : AObj} (hw : W i) (hi : h.get i = some o0) (ho : ∀ x, o = some x → x.own = true) : HS W h (h.put i o) := by
  refine ⟨Nat.le_refl _, (low_put h i o).1, fun j hj e => ?_, fun l j o' g => ?_, fun j o' g => ?_⟩
  · rw [Heap.get_put] at e
    by_cases h2 : j = i
    · subst h2; exact ⟨hw, (low_put h j o).2⟩
    · rw [if_neg h2] at e; exact absurd rfl e
  · rw [Heap.get_put] at g
    rw [Heap.next_put]
    by_cases h2 : j = i
    · subst h2; exact l j o0 hi
    · rw [if_neg h2] at g; exact l j o' g
  · rw [Heap.get_put] at g
    by_cases h2 : j = i
    · rw [if_pos h2] at g; exact .inl (ho o' g)
    · rw [if_neg h2] at g; exact .inr g
theorem HS.trans {W : Nat → Prop} {a b c : Heap} (h : HS W a b) (k : HS W b c) : HS W a c := by
  refine ⟨Nat.le_trans h.next k.next, Nat.le_trans k.low h.low, fun i hi e => ?_, fun l => k.live (h.live l), fun i o g => (k.owns i o g).elim .inl (h.owns i o)⟩
  by_cases e2 : c.get i = b.get i
  · rw [e2] at e
    have := h.abs i hi e
    exact ⟨this.1, Nat.le_trans k.low this.2⟩
  · exact k.abs i (Nat.lt_of_lt_of_le hi h.next) e2
theorem HS.mono {W W' : Nat → Prop} {a b : Heap} (h : HS W a b) (hw : ∀ i, W i → W' i) : HS W' a b := ⟨h.next, h.low, fun i hi e => ⟨hw i (h.abs i hi e).1, (h.abs i hi e).2⟩, h.live, h.owns⟩

def CallSound (P : Program) (callf : CallF) : Prop :=
  ∀ f args h v h', callf f args h = some (v, h') → HS (fun _ => True) h h' ∧ (∀ (cargs : Array Value) (w : World), (callFunc f cargs).run P w = .ok (.enter f cargs) w) ∧
    ∀ (μ : Mu) (w : World) (cargs : Array Value), Rel (fun _ => True) μ h w → (∀ i, h.next ≤ i → i < h'.next → μ i = none) → VRels μ args cargs.toList →
      Calls P f cargs w fun e w' => ∃ v' ν, e = .returned v' ∧ VRel ν v v' ∧ StepR (fun _ => True) (fun i => h'.low ≤ i) μ h w ν h' w'

section
variable {P : Program} {μ : Mu} {w : World} {D Wr : Nat → Prop} {h h' : Heap}

theorem frz_freeze {w : World} {b n off : Nat} (h : off < n) : frz? (w.freeze ⟨b, n, none⟩ 1) ⟨b, off, none⟩ = frz? w ⟨b, off, none⟩ := by
  unfold frz? World.freeze
  rw [if_neg (by decide)]
  simp only
  rw [Array.getElem?_modify, if_pos rfl]
  cases w.heap[b]? with
  | none => rfl
  | some o =>
    cases o with
    | cells c e fr =>
      obtain ⟨lo, hi⟩ := fr
      simp only [Option.map_some]
      by_cases e1 : lo = hi
      · simp [e1]; omega
      · have e2 : (lo == hi) = false := beq_eq_false_iff_ne.2 e1
        simp only [e2, Bool.false_eq_true, if_false]
        by_cases e3 : lo ≤ off
        · rw [decide_eq_true e3, decide_eq_true (show min lo n ≤ off by omega), show (min lo n == max hi (n + 1)) = false from beq_eq_false_iff_ne.2 (by omega)]
        · rw [decide_eq_false e3, decide_eq_false (show ¬ min lo n ≤ off by omega), Bool.and_false, Bool.and_false]
    | _ => rfl
theorem cell_freeze (w : World) (b n : Nat) (a : Addr) : (w.freeze ⟨b, n, none⟩ 1).cell? a = w.cell? a := by
  unfold World.cell? World.freeze
  rw [if_neg (by decide)]
  simp only
  rw [Array.getElem?_modify]
  by_cases e : b = a.block
  · rw [if_pos e]
    cases w.heap[a.block]? with
    | none => rfl
    | some o => cases o <;> rfl
  · rw [if_neg e]
theorem mark_sound {s d : TypeId} {x x' v : Value} (r : Rel D μ h w) (hd : ∀ a n c, x = .slice (some a) n c → D a.block) (hWr : ∀ a n c, x = .slice (some a) n c → h'.low ≤ a.block → Wr a.block) (hx : VRel μ x x') (e : amark P h s d x = some (v, h')) :
    ∃ w', (convert s d x').run P w = .ok x' w' ∧ v = x ∧ StepR D Wr μ h w μ h' w' := by
  unfold amark at e
  cases hsd : Nat.beq s d with
  | false => rw [hsd] at e; cases e
  | true =>
    rw [hsd] at e
    obtain rfl := Nat.eq_of_beq_eq_true hsd
    simp only [cond_true] at e
    split at e
    · rename_i a n c
      cases hu : isUnk c with
      | true => rw [hu] at e; cases e
      | false =>
        rw [hu] at e
        simp only [cond_false] at e
        split at e
        · rename_i el hs
          split at e
          · rename_i o hel hg
            obtain ⟨ho, e⟩ := condN e
            split at e
            · cases e
            · rename_i c0 cl hcs
              cases e
              cases hx with
              | @sliceUn i off n e0 c p ca m hnc hca =>
                have : isUnk (unkc e0) = true := by
                  show Nat.beq (Nat.succ (Nat.mul 2 e0) % 2) 1 = true
                  rw [show Nat.succ (Nat.mul 2 e0) % 2 = 1 by show (2 * e0 + 1) % 2 = 1; omega]; rfl
                rw [this] at hu; cases hu
              | @sliceEx i off n c p m hnc =>
                have hd1 : D i := hd ⟨i, off, none⟩ n _ rfl
                have hw1 := hWr ⟨i, off, none⟩ n _ rfl
                have hm := r.cells _ o p hd1 hg m
                obtain ⟨v0, hv0, _⟩ := hm.cells 0 c0 (by rw [hcs]; rfl)
                have hb := lt_of_cell (w := w) (b := p.block) (off := p.base + 0) (by rw [hv0]; rfl)
                obtain ⟨C, E, fr, hC⟩ : ∃ C E fr, w.heap[p.block]? = some (.cells C E fr) := by
                  unfold World.cell? at hv0
                  split at hv0
                  · rename_i h1; exact ⟨_, _, _, h1⟩
                  · cases hv0
                have hsh : w.shape? p.block = some (E, C.size) := by unfold World.shape?; rw [hC]
                have hin : ∀ q, (w.cell? ⟨p.block, q, none⟩).isSome = true → q < C.size := fun q hq => by
                  unfold World.cell? at hq
                  rw [hC] at hq
                  simp only [Option.isSome_none, Bool.false_eq_true, if_false] at hq
                  rcases Nat.lt_or_ge q C.size with g | g
                  · exact g
                  · rw [Array.getElem?_eq_none g] at hq; cases hq
                refine ⟨w.freeze ⟨p.block, C.size, none⟩ 1, ?_, rfl, ?_⟩
                · simp [convert, runU hs, runU hel, markStringish, hsh]
                · refine StepR.write r hd1 (hw1 (low_put _ _ _).2) hg ho m ?_ ?_ (hm.ext ho)
                  · refine ⟨?_, ?_, ?_, ?_, ?_, ?_, ?_, ?_⟩
                    · rfl
                    · rfl
                    · rfl
                    · unfold World.freeze; rw [if_neg (by decide)]; simp
                    · intro b hbl hn
                      unfold World.freeze
                      rw [if_neg (by decide)]
                      simp only
                      rw [Array.getElem?_modify, if_neg]
                      intro e
                      have e : p.block = b := e
                      refine hn (p.base + 0) ⟨e.symm, ?_⟩
                      unfold InReg
                      rw [if_pos ho]
                      have := hm.ext ho
                      rw [hcs] at this
                      simp only [List.length_cons] at this
                      omega
                    · intro b off hbl hn
                      exact cell_freeze _ _ _ _
                    · intro b off hbl hq
                      by_cases e : b = p.block
                      · subst e; exact frz_freeze (hin _ hq)
                      · unfold frz? World.freeze
                        rw [if_neg (by decide)]
                        simp only
                        rw [Array.getElem?_modify, if_neg (fun g => e g.symm)]
                    · intro b off hbl hq
                      rw [cell_freeze]; exact hq
                  · intro j v hj
                    obtain ⟨v', h1, h2⟩ := hm.cells j v hj
                    exact ⟨v', by rw [cell_freeze]; exact h1, h2⟩
          · cases e
        · cases e
    · cases e
theorem evs_sound {T : Tr Value} {ρ : Operand → Value} : ∀ {xs : List Operand} {vs : List Value}, (∀ x ∈ xs, ∀ v, ev T x = some v → VRel μ v (ρ x)) → evs T xs = some vs → VRels μ vs (xs.map ρ)
  | [], vs, _, h => by cases h; exact .nil
  | x :: xs, vs, hx, h => by
    unfold evs at h
    cases hv : ev T x with
    | none => rw [hv] at h; cases h
    | some v =>
      rw [hv] at h
      simp only at h
      cases hl : evs T xs with
      | none => rw [hl] at h; cases h
      | some l =>
        rw [hl] at h
        cases h
        exact .cons (hx x (List.mem_cons_self ..) v hv) (evs_sound (fun y hy => hx y (List.mem_cons_of_mem _ hy)) hl)
theorem evps_sound {T : Tr Value} {ρ : Operand → Value} : ∀ {xs : List (Nat × Operand)} {vs : List (Nat × Value)}, (∀ x ∈ xs, ∀ v, ev T x.2 = some v → VRel μ v (ρ x.2)) → evps T xs = some vs → PRels μ vs (xs.map fun x => (x.1, ρ x.2))
  | [], vs, _, h => by cases h; exact .nil
  | (i, x) :: xs, vs, hx, h => by
    unfold evps at h
    cases hv : ev T x with
    | none => rw [hv] at h; cases h
    | some v =>
      rw [hv] at h
      simp only at h
      cases hl : evps T xs with
      | none => rw [hl] at h; cases h
      | some l =>
        rw [hl] at h
        cases h
        exact .cons (hx (i, x) (List.mem_cons_self ..) v hv) (evps_sound (fun y hy => hx y (List.mem_cons_of_mem _ hy)) hl)
theorem evo_sound {T : Tr Value} {ρ : Operand → Value} {x : Option Operand} {r : Option Value} (hx : ∀ y, x = some y → ∀ v, ev T y = some v → VRel μ v (ρ y)) (h : evo T x = some r) : ORel μ r (x.map ρ) := by
  cases x with
  | none => cases h; exact .none
  | some y =>
    cases hv : ev T y with
    | none => simp only [evo, hv] at h; cases h
    | some v => simp only [evo, hv] at h; cases h; exact .some (hx y rfl v hv)

theorem wp_value {o : Oper} {a : Act} {K : Act → World → Prop} {Q : Exit → Act → World → Prop} {v' : Value} {w' : World} (h : (execOp a.eval o).run P w = .ok (.value v') w') (k : K (a.put o.dst v') w') : o.wp P a w K Q := by
  unfold Oper.wp
  rw [h]
  exact k
theorem wp_skip' {o : Oper} {a : Act} {K : Act → World → Prop} {Q : Exit → Act → World → Prop} {w' : World} (h : (execOp a.eval o).run P w = .ok .skip w') (k : K (a.put o.dst undef) w') : o.wp P a w K Q := by
  unfold Oper.wp
  rw [h]
  exact k

theorem pureR_some {h h' : Heap} {r : Option Value} {v : Value} (e : pureR h r = some (v, h')) : r = some v ∧ h' = h := by
  cases r with
  | none => cases e
  | some x => cases e; exact ⟨rfl, rfl⟩

theorem undef_rel (μ : Mu) : VRel μ undef undef := .tuple .nil

theorem runV {s : Sem Value} {v' : Value} {w' : World} (h : s.run P w = .ok v' w') : (do pure (.value (← s)) : Sem Next).run P w = .ok (.value v') w' := by
  simp [h]

theorem mem_ids {a : Addr} {n c : Nat} : ∀ {l : List Value}, Value.slice (some a) n c ∈ l → a.block ∈ idsOf l
  | [], h => by simp at h
  | x :: l, h => by
    rcases List.mem_cons.1 h with rfl | h
    · simp [idsOf]
    · have := mem_ids h
      unfold idsOf
      split
      · rename_i heq; cases heq
      · rename_i heq; cases heq; exact List.mem_cons_of_mem _ this
      · rename_i heq; cases heq; exact this

/-- Whatever an operation does to the abstract memory, it does to the world. -/
theorem aop_sound {callf : CallF} (hcall : CallSound P callf) {o : Oper} {T : Tr Value} {a : Act} {v : Value} {q : Bool} {K : Act → World → Prop} {Q : Exit → Act → World → Prop}
    (hop : aop P callf T o h = some (v, h')) (hq : q = true → h.next ≤ h'.low) (r : Rel (fpOf T o q).D μ h w) (hev : ∀ x ∈ o.op.operands.toList, ∀ v, ev T x = some v → VRel μ v (a.eval x))
    (hf : ∀ i, h.next ≤ i → i < h'.next → μ i = none) (hK : ∀ v' ν w', VRel ν v v' → StepR (fpOf T o q).D (fun i => (fpOf T o q).W i ∧ h'.low ≤ i) μ h w ν h' w' → K (a.put o.dst v') w') : o.wp P a w K Q := by
  obtain ⟨dst, op, type, pos, after, guard⟩ := o
  have hpure : ∀ {x : Option Value} {s : Sem Value}, pureR h x = some (v, h') → (∃ v', s.run P w = .ok v' w ∧ ∀ u, x = some u → VRel μ u v') → (execOp a.eval ⟨dst, op, type, pos, after, guard⟩) = (do pure (.value (← s)) : Sem Next) →
      (⟨dst, op, type, pos, after, guard⟩ : Oper).wp P a w K Q := by
    intro x s h1 h2 h3
    obtain ⟨h4, rfl⟩ := pureR_some h1
    obtain ⟨v', h5, h6⟩ := h2
    exact wp_value (by rw [h3]; exact runV h5) (hK v' μ w (h6 v h4) (.refl r _))
  cases op with
  | move x =>
    simp only [aop] at hop
    obtain ⟨h1, rfl⟩ := pureR_some hop
    exact wp_value (v' := a.eval x) (w' := w) rfl (hK _ μ w (hev x (by simp [Op.operands]) v h1) (.refl r _))
  | assign x =>
    simp only [aop] at hop
    obtain ⟨h1, rfl⟩ := pureR_some hop
    exact wp_value (v' := a.eval x) (w' := w) rfl (hK _ μ w (hev x (by simp [Op.operands]) v h1) (.refl r _))
  | pick c x y =>
    simp only [aop] at hop
    cases hc : ev T c with
    | none => rw [hc] at hop; cases hop
    | some cv =>
      rw [hc] at hop
      cases cv with
      | bool t =>
        simp only at hop
        obtain ⟨h1, rfl⟩ := pureR_some hop
        have hcr := hev c (by simp [Op.operands]) _ hc
        have hce : a.eval c = .bool t := by generalize a.eval c = x at hcr; cases hcr; rfl
        refine wp_value (v' := if t then a.eval x else a.eval y) (w' := w) ?_ (hK _ μ w ?_ (.refl r _))
        · simp [execOp, hce, asBool]
        · cases t
          · exact hev y (by simp [Op.operands]) v h1
          · exact hev x (by simp [Op.operands]) v h1
      | _ => simp at hop
  | alloc e =>
    simp only [aop] at hop
    cases hz : zeroOf P e with
    | none => rw [hz] at hop; cases hop
    | some z =>
      rw [hz] at hop
      cases hop
      exact wp_value (by simp [execOp, Instr.alloc, runZ hz, newVar, newRow]) (hK _ _ _ (ptr_new μ _ _ _) (new_exact (E := e) (w' := w.alloc (.cells z.cells e)) r (hf _ (Nat.le_refl _) (Nat.lt_succ_self _)) rfl rfl rfl rfl rfl ((zeroOf_rel μ hz).cells) _))
  | box e x =>
    simp only [aop] at hop
    cases hx : ev T x with
    | none => rw [hx] at hop; cases hop
    | some u =>
      rw [hx] at hop
      cases hop
      have hu := hev x (by simp [Op.operands]) u hx
      exact wp_value (by simp [execOp, Instr.box, newVar, newRow]) (hK _ _ _ (ptr_new μ _ _ _) (new_exact (E := e) (w' := w.alloc (.cells (a.eval x).cells e)) r (hf _ (Nat.le_refl _) (Nat.lt_succ_self _)) rfl rfl rfl rfl rfl hu.cells _))
  | build t ps =>
    simp only [aop] at hop
    cases hp : evps T ps.toList with
    | none => rw [hp] at hop; cases hop
    | some l =>
      rw [hp] at hop
      obtain ⟨h1, rfl⟩ := pureR_some hop
      have hpr := evps_sound (ρ := a.eval) (fun x hx u hu => hev x.2 (by simp only [Op.operands, List.toList_toArray]; exact List.mem_map_of_mem hx) u hu) hp
      obtain ⟨v', h2, h3⟩ := build_sound (w := w) h1 hpr
      refine wp_value (v' := v') (w' := w) ?_ (hK _ μ w h3 (.refl r _))
      have : (⟨ps.toList.map fun x => (x.1, a.eval x.2)⟩ : Array (Nat × Value)) = ps.map fun (i, x) => (i, a.eval x) := by
        apply Array.ext'; simp
      rw [this] at h2
      simp [execOp, h2]
  | buildSlice t n ps =>
    simp only [aop] at hop
    cases hp : evps T ps.toList with
    | none => rw [hp] at hop; cases hop
    | some l =>
      rw [hp] at hop
      have hpr := evps_sound (ρ := a.eval) (fun x hx u hu => hev x.2 (by simp only [Op.operands, List.toList_toArray]; exact List.mem_map_of_mem hx) u hu) hp
      have hnx : h'.next = h.next + 1 := by
        simp only [abuildSlice] at hop
        split at hop
        · split at hop
          · have hcn := condN hop; clear hop; obtain ⟨_, hop⟩ := hcn
            have hcn := condN hop; clear hop; obtain ⟨_, hop⟩ := hcn
            split at hop
            · cases hop; rfl
            · cases hop
          · cases hop
        · cases hop
      obtain ⟨v', ν, w', h2, h3, h4⟩ := buildSlice_sound r (hf _ (Nat.le_refl _) (by omega)) hop hpr (fun i => (fpOf T ⟨dst, .buildSlice t n ps, type, pos, after, guard⟩ q).W i ∧ h'.low ≤ i)
      refine wp_value (v' := v') (w' := w') ?_ (hK _ ν w' h3 h4)
      have : (⟨ps.toList.map fun x => (x.1, a.eval x.2)⟩ : Array (Nat × Value)) = ps.map fun (i, x) => (i, a.eval x) := by
        apply Array.ext'; simp
      rw [this] at h2
      simp [execOp, h2]
  | load t x =>
    simp only [aop] at hop
    cases hx : ev T x with
    | none => rw [hx] at hop; cases hop
    | some u =>
      rw [hx] at hop
      have hu := hev x (by simp [Op.operands]) u hx
      cases u with
      | pointer ad =>
        cases ad with
        | none => cases hop
        | some ad =>
          simp only at hop
          obtain ⟨h1, rfl⟩ := pureR_some hop
          have hfp : (fpOf T ⟨dst, .load t x, type, pos, after, guard⟩ q) = .rd ad.block := by simp [fpOf, hx]
          rw [hfp] at r hK
          generalize hax : a.eval x = ax at hu
          cases hu with
          | ptr m =>
            obtain ⟨_, v', h2, h3⟩ := load_sound r rfl m h1
            refine wp_value (v' := v') (w' := w) ?_ (hK _ μ w h3 (.refl r _))
            simp [execOp, Instr.loadAt, hax, Instr.sureAddr, h2]
      | _ => simp at hop
  | store t x y =>
    simp only [aop] at hop
    cases hx : ev T x with
    | none => rw [hx] at hop; cases hop
    | some u =>
      cases hy : ev T y with
      | none => rw [hx, hy] at hop; cases u <;> simp at hop
      | some z =>
        rw [hx, hy] at hop
        have hu := hev x (by simp [Op.operands]) u hx
        have hz := hev y (by simp [Op.operands]) z hy
        cases u with
        | pointer ad =>
          cases ad with
          | none => simp at hop
          | some ad =>
            simp only at hop
            cases hst : astore P h t ad z with
            | none => rw [hst] at hop; cases hop
            | some h2 =>
              rw [hst] at hop
              cases hop
              have hfp : (fpOf T ⟨dst, .store t x y, type, pos, after, guard⟩ q) = .wr [ad.block] := by simp [fpOf, hx]
              rw [hfp] at r hK
              generalize hax : a.eval x = ax at hu
              cases hu with
              | ptr m =>
                obtain ⟨w', h3, h4⟩ := store_sound (Wr := fun i => (Fp.wr [_]).W i ∧ h'.low ≤ i) r (List.mem_singleton.2 rfl) (fun hl => ⟨List.mem_singleton.2 rfl, hl⟩) m hst hz
                refine wp_skip' (w' := w') ?_ (hK _ μ w' (undef_rel μ) h4)
                simp [execOp, Instr.storeAt, hax, Instr.sureAddr, h3]
        | _ => simp at hop
  | nilCheck x =>
    simp only [aop] at hop
    cases hx : ev T x with
    | none => rw [hx] at hop; cases hop
    | some u =>
      rw [hx] at hop
      have hu := hev x (by simp [Op.operands]) u hx
      split at hop
      · rename_i ad heq
        cases hop
        cases heq
        generalize hax : a.eval x = ax at hu
        refine wp_value (v' := ax) (w' := w) ?_ (hK _ μ w hu (.refl r _))
        cases hu
        simp [execOp, hax]
      · rename_i f aa bb heq
        cases hop
        cases heq
        generalize hax : a.eval x = ax at hu
        refine wp_value (v' := ax) (w' := w) ?_ (hK _ μ w hu (.refl r _))
        cases hu
        simp [execOp, hax]
      · cases hop
  | binOp op t x y t2 =>
    simp only [aop] at hop
    cases hx : ev T x with
    | none => rw [hx] at hop; cases hop
    | some u =>
      cases hy : ev T y with
      | none => rw [hx, hy] at hop; cases hop
      | some z =>
        rw [hx, hy] at hop
        obtain ⟨h1, rfl⟩ := pureR_some hop
        obtain ⟨v', h2, h3⟩ := abinop_sound (w := w) x y h1 (hev x (by simp [Op.operands]) u hx) (hev y (by simp [Op.operands]) z hy)
        exact wp_value (v' := v') (w' := w) (runV h2) (hK _ μ w h3 (.refl r _))
  | unOp op t x =>
    simp only [aop] at hop
    cases hx : ev T x with
    | none => rw [hx] at hop; cases hop
    | some u =>
      rw [hx] at hop
      obtain ⟨h1, rfl⟩ := pureR_some hop
      obtain ⟨h2, h3⟩ := aunop_sound (P := P) (w := w) h1 (hev x (by simp [Op.operands]) u hx)
      exact wp_value (w' := w) (runV h2) (hK _ μ w h3 (.refl r _))
  | convert s d x =>
    simp only [aop] at hop
    cases hx : ev T x with
    | none => rw [hx] at hop; cases hop
    | some u =>
      rw [hx] at hop
      simp only at hop
      have hu := hev x (by simp [Op.operands]) u hx
      split at hop
      · rename_i y hy
        cases hop
        obtain ⟨h2, h3⟩ := aconvert_sound (w := w) hy hu
        exact wp_value (w' := w) (runV h2) (hK _ μ w h3 (.refl r _))
      · split at hop
        · rename_i rr hrr
          obtain ⟨v1, h1⟩ := rr
          cases hop
          have hsd : Nat.beq s d = true := by
            unfold amark at hrr
            cases g : Nat.beq s d with
            | true => rfl
            | false => rw [g] at hrr; cases hrr
          obtain ⟨ad, n, c, hul⟩ : ∃ ad n c, u = .slice (some ad) n c := by
            unfold amark at hrr
            rw [hsd] at hrr
            simp only [cond_true] at hrr
            split at hrr
            · exact ⟨_, _, _, rfl⟩
            · cases hrr
          subst hul
          have hfp : (fpOf T ⟨dst, .convert s d x, type, pos, after, guard⟩ q) = .wr [ad.block] := by simp [fpOf, hx, hsd]
          rw [hfp] at r hK
          obtain ⟨w', h3, rfl, h4⟩ := mark_sound (Wr := fun i => (Fp.wr [_]).W i ∧ h'.low ≤ i) r (fun a n c e => by cases e; exact List.mem_singleton.2 rfl) (fun a n c e hl => by cases e; exact ⟨List.mem_singleton.2 rfl, hl⟩) hu hrr
          exact wp_value (w' := w') (runV h3) (hK _ μ w' hu h4)
        obtain ⟨h1, rfl⟩ := pureR_some hop
        have hdd : ∀ a n c, u = .slice (some a) n c → (fpOf T ⟨dst, .convert s d x, type, pos, after, guard⟩ q).D a.block := by
          intro a n c e
          simp only [fpOf, hx, e]
          cases Nat.beq s d
          · rfl
          · exact List.mem_singleton.2 rfl
        obtain ⟨h2, h3⟩ := bytes_sound r hdd hu h1
        exact wp_value (w' := w) (runV h2) (hK _ μ w h3 (.refl r _))
  | makeFunc fn first captured =>
    cases fn with
    | func f =>
      simp only [aop] at hop
      cases hx : evs T first.toList with
      | none => rw [hx] at hop; cases hop
      | some u =>
        cases hy : evs T captured.toList with
        | none => rw [hx, hy] at hop; cases hop
        | some z =>
          rw [hx, hy] at hop
          cases hop
          have h1 := evs_sound (ρ := a.eval) (fun x hx u hu => hev x (by simp [Op.operands]; exact .inl (by simpa using hx)) u hu) hx
          have h2 := evs_sound (ρ := a.eval) (fun x hx u hu => hev x (by simp [Op.operands]; exact .inr (by simpa using hx)) u hu) hy
          refine wp_value (v' := .func (.func f) ⟨first.toList.map a.eval⟩ ⟨captured.toList.map a.eval⟩) (w' := w) ?_ (hK _ μ w (.func _ h1 h2) (.refl r _))
          have e1 : (⟨first.toList.map a.eval⟩ : Array Value) = first.map a.eval := by apply Array.ext'; simp
          have e2 : (⟨captured.toList.map a.eval⟩ : Array Value) = captured.map a.eval := by apply Array.ext'; simp
          rw [e1, e2]
          rfl
    | _ => simp [aop] at hop
  | makeSlice t x y =>
    simp only [aop] at hop
    cases hx : ev T x with
    | none => rw [hx] at hop; cases hop
    | some u =>
      cases hy : ev T y with
      | none => rw [hx, hy] at hop; cases hop
      | some z =>
        rw [hx, hy] at hop
        simp only at hop
        have hnx : h'.next = h.next + 1 := by
          simp only [amakeSlice] at hop
          split at hop
          · split at hop
            · have hcn := condN hop; clear hop; obtain ⟨_, hop⟩ := hcn
              have hcn := condN hop; clear hop; obtain ⟨_, hop⟩ := hcn
              have hcn := condN hop; clear hop; obtain ⟨_, hop⟩ := hcn
              have hcn := condN hop; clear hop; obtain ⟨_, hop⟩ := hcn
              cases hop; rfl
            · cases hop
          · cases hop
        obtain ⟨v', ν, w', h2, h3, h4⟩ := makeSlice_sound r (hf _ (Nat.le_refl _) (by omega)) (hev x (by simp [Op.operands]) u hx) (hev y (by simp [Op.operands]) z hy) hop (fun i => (fpOf T ⟨dst, .makeSlice t x y, type, pos, after, guard⟩ q).W i ∧ h'.low ≤ i)
        exact wp_value (v' := v') (w' := w') (runV h2) (hK _ ν w' h3 h4)
  | slice t x lo hi mx =>
    simp only [aop] at hop
    cases hx : ev T x with
    | none => rw [hx] at hop; cases hop
    | some u =>
      cases h1 : evo T lo with
      | none => rw [hx, h1] at hop; cases hop
      | some l =>
        cases h2 : evo T hi with
        | none => rw [hx, h1, h2] at hop; cases hop
        | some hh =>
          cases h3 : evo T mx with
          | none => rw [hx, h1, h2, h3] at hop; cases hop
          | some m =>
            rw [hx, h1, h2, h3] at hop
            obtain ⟨h4, rfl⟩ := pureR_some hop
            have g1 := evo_sound (ρ := a.eval) (fun y hy u hu => hev y (by simp [Op.operands, hy]) u hu) h1
            have g2 := evo_sound (ρ := a.eval) (fun y hy u hu => hev y (by simp [Op.operands, hy]) u hu) h2
            have g3 := evo_sound (ρ := a.eval) (fun y hy u hu => hev y (by simp [Op.operands, hy]) u hu) h3
            obtain ⟨v', h5, h6⟩ := slice_sound (w := w) (hev x (by simp [Op.operands]) u hx) g1 g2 g3 h4
            exact wp_value (v' := v') (w' := w) (runV h5) (hK _ μ w h6 (.refl r _))
  | fieldAddr t x f =>
    simp only [aop] at hop
    cases hx : ev T x with
    | none => rw [hx] at hop; cases hop
    | some u =>
      rw [hx] at hop
      obtain ⟨h1, rfl⟩ := pureR_some hop
      obtain ⟨v', h2, h3⟩ := fieldAddr_sound (w := w) (hev x (by simp [Op.operands]) u hx) h1
      exact wp_value (v' := v') (w' := w) (runV h2) (hK _ μ w h3 (.refl r _))
  | field t x f =>
    simp only [aop] at hop
    cases hx : ev T x with
    | none => rw [hx] at hop; cases hop
    | some u =>
      rw [hx] at hop
      obtain ⟨h1, rfl⟩ := pureR_some hop
      obtain ⟨v', h2, h3⟩ := field_sound (w := w) (hev x (by simp [Op.operands]) u hx) h1
      exact wp_value (v' := v') (w' := w) (runV h2) (hK _ μ w h3 (.refl r _))
  | indexAddr t x y =>
    simp only [aop] at hop
    cases hx : ev T x with
    | none => rw [hx] at hop; cases hop
    | some u =>
      cases hy : ev T y with
      | none => rw [hx, hy] at hop; cases hop
      | some z =>
        rw [hx, hy] at hop
        obtain ⟨h1, rfl⟩ := pureR_some hop
        obtain ⟨v', h2, h3⟩ := indexAddr_sound (w := w) (hev x (by simp [Op.operands]) u hx) (hev y (by simp [Op.operands]) z hy) h1
        exact wp_value (v' := v') (w' := w) (runV h2) (hK _ μ w h3 (.refl r _))
  | index t x y =>
    simp only [aop] at hop
    cases hx : ev T x with
    | none => rw [hx] at hop; cases hop
    | some u =>
      cases hy : ev T y with
      | none => rw [hx, hy] at hop; cases hop
      | some z =>
        rw [hx, hy] at hop
        obtain ⟨h1, rfl⟩ := pureR_some hop
        obtain ⟨v', h2, h3⟩ := index_sound (w := w) (hev x (by simp [Op.operands]) u hx) (hev y (by simp [Op.operands]) z hy) h1
        exact wp_value (v' := v') (w' := w) (runV h2) (hK _ μ w h3 (.refl r _))
  | extract x i =>
    simp only [aop] at hop
    cases hx : ev T x with
    | none => rw [hx] at hop; cases hop
    | some u =>
      rw [hx] at hop
      have hu := hev x (by simp [Op.operands]) u hx
      cases u with
      | tuple vs =>
        simp only at hop
        obtain ⟨h1, rfl⟩ := pureR_some hop
        generalize hax : a.eval x = ax at hu
        cases hu with
        | tuple hr =>
          rw [nth_eq] at h1
          obtain ⟨v', h2, h3⟩ := hr.nth _ _ h1
          refine wp_value (v' := v') (w' := w) ?_ (hK _ μ w h3 (.refl r _))
          simp [execOp, hax, Instr.extract, h2]
      | _ => simp at hop
  | call c =>
    obtain ⟨callee, args, argTypes⟩ := c
    have hargs : ∀ x ∈ args.toList, ∀ v, ev T x = some v → VRel μ v (a.eval x) := fun x hx u hu => hev x (by simp [Op.operands, Call.operands]; exact .inr (by simpa using hx)) u hu
    have hmap : (args.map a.eval).toList = args.toList.map a.eval := by simp
    cases callee with
    | value f =>
      simp only [aop, acallv] at hop
      cases hfv : ev T f with
      | none => rw [hfv] at hop; cases hop
      | some fv =>
        cases hvs : evs T args.toList with
        | none => rw [hfv, hvs] at hop; cases fv <;> simp at hop
        | some vs =>
          rw [hfv, hvs] at hop
          have hfr := hev f (by simp [Op.operands, Call.operands]) fv hfv
          have hvr := evs_sound (ρ := a.eval) hargs hvs
          split at hop
          · rename_i g first captured vs' heq1 heq2
            cases heq1
            cases heq2
            have hfp : (fpOf T ⟨dst, .call ⟨.value f, args, argTypes⟩, type, pos, after, guard⟩ q) = .all q := by simp [fpOf]
            rw [hfp] at r hK
            generalize hax : a.eval f = ax at hfr
            cases hfr with
            | func _ ha hb =>
              rename_i fa fa' fb fb'
              obtain ⟨c1, c3, c4⟩ := hcall _ _ _ _ _ hop
              have hex : (execOp a.eval ⟨dst, .call ⟨.value f, args, argTypes⟩, type, pos, after, guard⟩).run P w = .ok (.enter g ((⟨fa'⟩ ++ args.map a.eval) ++ ⟨fb'⟩)) w := by
                simp [execOp, resolve, hax, Deferred.ofValue, invoke, c3]
              unfold Oper.wp
              rw [hex]
              simp only [Oper.upon]
              refine (c4 μ w _ (r.mono (fun _ _ => trivial)) hf ?_).mono ?_
              · have : ((⟨fa'⟩ ++ args.map a.eval) ++ ⟨fb'⟩ : Array Value).toList = fa' ++ (args.toList.map a.eval ++ fb') := by simp
                rw [this]
                exact ha.append (hvr.append hb)
              · rintro e w' ⟨v', ν, rfl, h1, h2⟩
                refine hK v' ν w' h1 ?_
                cases q with
                | false => exact h2.weaken (fun i hi => ⟨rfl, hi⟩)
                | true => exact (h2.quiet r.live (fun i hi => Nat.le_trans (hq rfl) hi)).weaken (fun i hi => hi.elim)
          · cases hop
    | builtin b =>
      simp only [aop] at hop
      cases hvs : evs T args.toList with
      | none => rw [hvs] at hop; cases hop
      | some vs =>
        rw [hvs] at hop
        simp only at hop
        have hvr := evs_sound (ρ := a.eval) hargs hvs
        have hex : (execOp a.eval ⟨dst, .call ⟨.builtin b, args, argTypes⟩, type, pos, after, guard⟩) = builtin b argTypes type (args.map fun | .const _ => true | _ => false) (args.map a.eval) := rfl
        have hmp : args.map a.eval = ⟨args.toList.map a.eval⟩ := by apply Array.ext'; simp
        have hrunV : ∀ {s : Sem Value} {v' : Value} {w' : World}, s.run P w = .ok v' w' → (do pure (.value (← s)) : Sem Next).run P w = .ok (.value v') w' := fun e => runV e
        generalize hL : args.toList.map a.eval = L at hvr hmp
        cases b with
        | append =>
          simp only [abuiltin] at hop
          split at hop
          · rename_i t t2 x y he
            have hfp : fpOf T ⟨dst, .call ⟨.builtin .append, args, argTypes⟩, type, pos, after, guard⟩ q = .wr (idsOf [x, y]) := by simp [fpOf, hvs]
            rw [hfp] at r hK
            cases hvr with
            | cons hx hr =>
              cases hr with
              | cons hy hn =>
                cases hn
                have hargT : argTypes = #[t, t2] := by apply Array.ext'; simpa using he
                subst hargT
                cases hap : aappend P h t t2 x y with
                | some r0 =>
                  rw [hap] at hop
                  have hop : aappend P h t t2 x y = some (v, h') := by rw [hap]; exact hop
                  obtain ⟨v', ν, w', h1, h2, h3⟩ := append_sound (ty := type) (Wr := fun i => (Fp.wr (idsOf [x, y])).W i ∧ h'.low ≤ i) r (fun hlt => hf _ (Nat.le_refl _) hlt) hx hy
                    (fun a n c e => ⟨mem_ids (n := n) (c := c) (by rw [e]; simp), fun hl => ⟨mem_ids (n := n) (c := c) (by rw [e]; simp), hl⟩⟩) (fun a n c e => mem_ids (n := n) (c := c) (by rw [e]; simp)) hop
                  refine wp_value (v' := v') (w' := w') ?_ (hK _ ν w' h2 h3)
                  rw [hex, hmp]
                  simp only [builtin]
                  exact hrunV h1
                | none =>
                  rw [hap] at hop
                  have hop : amake P h t t2 x y = some (v, h') := hop
                  obtain ⟨v', ν, w', h1, h2, h3⟩ := amake_sound (ty := type) (Wr := fun i => (Fp.wr (idsOf [x, y])).W i ∧ h'.low ≤ i) r (fun hlt => hf _ (Nat.le_refl _) hlt) hx hy hop
                  refine wp_value (v' := v') (w' := w') ?_ (hK _ ν w' h2 h3)
                  rw [hex, hmp]
                  simp only [builtin]
                  exact hrunV h1
          · cases hop
        | copy =>
          simp only [abuiltin] at hop
          split at hop
          · rename_i t t2 rest x y he
            have hfp : fpOf T ⟨dst, .call ⟨.builtin .copy, args, argTypes⟩, type, pos, after, guard⟩ q = .wr (idsOf [x, y]) := by simp [fpOf, hvs]
            rw [hfp] at r hK
            cases hvr with
            | cons hx hr =>
              cases hr with
              | cons hy hn =>
                cases hn
                obtain ⟨v', w', h1, h2, h3⟩ := copy_sound (ty := type) (Wr := fun i => (Fp.wr (idsOf [x, y])).W i ∧ h'.low ≤ i) r hx hy ⟨t2, rest, by apply Array.ext'; simpa using he⟩
                  (fun a n c e => ⟨mem_ids (n := n) (c := c) (by rw [e]; simp), fun hl => ⟨mem_ids (n := n) (c := c) (by rw [e]; simp), hl⟩⟩) (fun a n c e => mem_ids (n := n) (c := c) (by rw [e]; simp)) hop
                refine wp_value (v' := v') (w' := w') ?_ (hK _ μ w' h2 h3)
                rw [hex, hmp]
                simp only [builtin]
                exact hrunV h1
          · cases hop
        | clear =>
          simp only [abuiltin] at hop
          split at hop
          · rename_i t x he
            have hfp : fpOf T ⟨dst, .call ⟨.builtin .clear, args, argTypes⟩, type, pos, after, guard⟩ q = .wr (idsOf [x]) := by simp [fpOf, hvs]
            rw [hfp] at r hK
            cases hvr with
            | cons hx hr =>
              cases hr
              have hargT : argTypes = #[t] := by apply Array.ext'; simpa using he
              subst hargT
              obtain ⟨v', w', h1, h2, h3⟩ := clear_sound (ty := type) (Wr := fun i => (Fp.wr (idsOf [x])).W i ∧ h'.low ≤ i) r hx
                (fun a n c e => ⟨mem_ids (n := n) (c := c) (by rw [e]; simp), fun hl => ⟨mem_ids (n := n) (c := c) (by rw [e]; simp), hl⟩⟩) hop
              refine wp_value (v' := v') (w' := w') ?_ (hK _ μ w' h2 h3)
              rw [hex, hmp]
              simp only [builtin]
              exact hrunV h1
          · cases hop
        | len =>
          simp only [abuiltin] at hop
          split at hop
          · rename_i t rest x he
            split at hop
            · rename_i u hu
              cases hop
              cases hvr with
              | cons hx hr =>
                cases hr
                obtain ⟨h1, h2⟩ := len_sound (w := w) (args := argTypes) (ty := type) hx (by rw [← Array.getElem?_toList, he]; rfl) hu
                refine wp_value (w' := w) ?_ (hK _ μ w h2 (.refl r _))
                rw [hex, hmp]
                simp only [builtin]
                exact hrunV h1
            · cases hop
          · cases hop
        | cap =>
          simp only [abuiltin] at hop
          split at hop
          · rename_i t he
            have hcn := condN hop; clear hop; obtain ⟨hk, hop⟩ := hcn
            cases hop
            cases hvr with
            | cons hx hr =>
              cases hr
              cases hx
              have hargT : argTypes = #[t] := by apply Array.ext'; simpa using he
              subst hargT
              unfold isSlice at hk
              split at hk
              · rename_i e hu
                refine wp_value (v' := goInt 0) (w' := w) ?_ (hK _ μ w (.int _ _) (.refl r _))
                rw [hex, hmp]
                simp only [builtin]
                exact hrunV (by simp [Builtin.cap_, runU hu])
              · cases hk
          · cases hop
        | min =>
          simp only [abuiltin] at hop
          split at hop
          · rename_i k x k' y
            have hcn := condN hop; clear hop; obtain ⟨hk, hop⟩ := hcn
            have hk := of_decide_eq_true hk
            subst hk
            cases hop
            cases hvr with
            | cons hx hr =>
              cases hr with
              | cons hy hn =>
                cases hn
                cases hx
                cases hy
                refine wp_value (v' := .int k (cond (decide (y < x)) y x)) (w' := w) ?_ (hK _ μ w (.int _ _) (.refl r _))
                rw [hex, hmp]
                simp only [builtin]
                exact hrunV (by simp only [Builtin.min_, List.foldlM_cons, List.foldlM_nil, Builtin.min2]; by_cases hc : y < x <;> simp [hc])
          · cases hop
        | max =>
          simp only [abuiltin] at hop
          split at hop
          · rename_i k x k' y
            have hcn := condN hop; clear hop; obtain ⟨hk, hop⟩ := hcn
            have hk := of_decide_eq_true hk
            subst hk
            cases hop
            cases hvr with
            | cons hx hr =>
              cases hr with
              | cons hy hn =>
                cases hn
                cases hx
                cases hy
                refine wp_value (v' := .int k (cond (decide (y > x)) y x)) (w' := w) ?_ (hK _ μ w (.int _ _) (.refl r _))
                rw [hex, hmp]
                simp only [builtin]
                exact hrunV (by simp only [Builtin.max_, List.foldlM_cons, List.foldlM_nil, Builtin.max2]; by_cases hc : y > x <;> simp [hc])
          · cases hop
        | _ => simp [abuiltin] at hop
    | invoke x m => simp [aop] at hop
  | _ => simp [aop] at hop
end
end Go.Am
end
section
set_option linter.unusedVariables false
namespace Go.Am
open Go.RowKit

section
variable {P : Program} {callf : CallF}

theorem cond_or {α : Type} {c : Bool} {x y : Option α} {v : α} (h : cond c x y = some v) : x = some v ∨ y = some v := by cases c; exact .inr h; exact .inl h
theorem storeL_hs {h h' : Heap} {a : Addr} {vs : List Value} (hs : astoreL h a vs = some h') : HS (fun i => i = a.block) h h' := by
  unfold astoreL at hs
  split at hs
  · cases hs
  · split at hs
    · rename_i hg
      obtain ⟨_, h1⟩ := condN hs
      obtain ⟨_, h2⟩ := condN h1
      split at h2
      · cases h2; exact HS.put _ _ rfl hg (fun x e => by cases e; rfl)
      · cases h2
    · cases hs

theorem aappend_hs {h h' : Heap} {t t2 : TypeId} {x y v : Value} (hop : aappend P h t t2 x y = some (v, h')) : HS (fun i => ∃ a n c, x = .slice (some a) n c ∧ i = a.block) h h' := by
  unfold aappend at hop
  split at hop
  · split at hop
    · obtain ⟨_, h1⟩ := condN hop
      obtain ⟨_, h2⟩ := condN h1
      split at h2
      · split at h2
        · cases h2; exact HS.refl _ _
        · split at h2
          · cases h2; exact HS.refl _ _
          · cases h2
        · cases h2
      · split at h2
        · obtain ⟨_, h3⟩ := condN h2
          obtain ⟨_, h4⟩ := condN h3
          cases h4; exact HS.push _ _ _
        · split at h2
          · obtain ⟨_, h3⟩ := condN h2
            obtain ⟨_, h4⟩ := condN h3
            rcases cond_or h4 with h4 | h4
            · obtain ⟨_, h5⟩ := condN h4
              split at h5
              · rename_i hg
                obtain ⟨_, h6⟩ := condN h5
                obtain ⟨_, h7⟩ := condN h6
                obtain ⟨_, h8⟩ := condN h7
                cases h8
                exact (HS.put h none ⟨_, _, _, rfl, rfl⟩ hg (by simp)).trans (HS.push _ _ _)
              · cases h5
            · rcases cond_or h4 with h4 | h4
              · split at h4
                · rename_i hst
                  cases h4
                  exact (storeL_hs hst).mono (fun i hi => ⟨_, _, _, rfl, hi⟩)
                · cases h4
              · cases h4
                exact HS.push _ _ _
          · cases h2
        · cases h2
      · cases h2
    · cases hop
  · cases hop

theorem amake_hs {h h' : Heap} {t t2 : TypeId} {x y v : Value} {m : Nat → Prop} (hop : amake P h t t2 x y = some (v, h')) : HS m h h' := by
  unfold amake at hop
  split at hop
  · split at hop
    · obtain ⟨_, h1⟩ := condN hop
      obtain ⟨_, h2⟩ := condN h1
      obtain ⟨_, h3⟩ := condN h2
      obtain ⟨_, h4⟩ := condN h3
      cases h4
      exact HS.push _ _ _
    · cases hop
  · cases hop

theorem acopy_hs {h h' : Heap} {t : TypeId} {x y v : Value} (hop : acopy P h t x y = some (v, h')) : HS (fun i => ∃ a n c, x = .slice (some a) n c ∧ i = a.block) h h' := by
  unfold acopy at hop
  split at hop
  · split at hop
    · split at hop
      · split at hop
        · cases hop; exact HS.refl _ _
        · split at hop
          · split at hop
            · split at hop
              · rename_i hst
                cases hop
                exact (storeL_hs hst).mono (fun i hi => ⟨_, _, _, rfl, hi⟩)
              · cases hop
            · cases hop
          · cases hop
      · split at hop
        · cases hop; exact HS.refl _ _
        · split at hop
          · split at hop
            · split at hop
              · rename_i hst
                cases hop
                exact (storeL_hs hst).mono (fun i hi => ⟨_, _, _, rfl, hi⟩)
              · cases hop
            · cases hop
          · cases hop
      · cases hop
    · cases hop
  · cases hop

theorem aclear_hs {h h' : Heap} {t : TypeId} {x v : Value} (hop : aclear P h t x = some (v, h')) : HS (fun i => ∃ a n c, x = .slice (some a) n c ∧ i = a.block) h h' := by
  unfold aclear at hop
  split at hop
  · cases hop; exact HS.refl _ _
  · split at hop
    · cases hop; exact HS.refl _ _
    · split at hop
      · split at hop
        · rename_i hst
          cases hop
          exact (storeL_hs hst).mono (fun i hi => ⟨_, _, _, rfl, hi⟩)
        · cases hop
      · cases hop
  · cases hop

theorem aop_hs (hcall : CallSound P callf) {T : Tr Value} {o : Oper} {h h' : Heap} {v : Value} {q : Bool} (hop : aop P callf T o h = some (v, h')) (hq : q = true → h.next ≤ h'.low) : HS (fpOf T o q).W h h' := by
  have hp : ∀ {r : Option Value}, pureR h r = some (v, h') → HS (fpOf T o q).W h h' := fun e => by rw [(pureR_some e).2]; exact HS.refl _ _
  obtain ⟨dst, op, type, pos, after, guard⟩ := o
  by_cases hmf : ∃ fn a b, op = .makeFunc fn a b
  · obtain ⟨fn, x, y, rfl⟩ := hmf
    cases fn <;> simp only [aop] at hop
    · split at hop
      · cases hop; exact HS.refl _ _
      · cases hop
    all_goals cases hop
  cases op
  case makeFunc fn a b => exact absurd ⟨fn, a, b, rfl⟩ hmf
  all_goals simp only [aop] at hop
  all_goals first
    | exact hp hop
    | (cases hop; done)
    | (split at hop <;> first | exact hp hop | (cases hop; done) | (cases hop; exact HS.push _ _ _) | (cases hop; exact HS.refl _ _))
    | skip
  case buildSlice t n ps =>
    split at hop
    · unfold abuildSlice at hop
      split at hop
      · split at hop
        · obtain ⟨_, h1⟩ := condN hop
          obtain ⟨_, h2⟩ := condN h1
          split at h2
          · cases h2; exact HS.push _ _ _
          · cases h2
        · cases hop
      · cases hop
    · cases hop
  case store t x y =>
    split at hop
    · rename_i ad u hx hy
      split at hop
      · rename_i hst
        cases hop
        have hfp : fpOf T ⟨dst, .store t x y, type, pos, after, guard⟩ q = .wr [ad.block] := by simp [fpOf, hx]
        rw [hfp]
        unfold astore at hst
        split at hst
        · obtain ⟨_, h1⟩ := condN hst
          exact (storeL_hs h1).mono (fun i hi => List.mem_singleton.2 hi)
        · cases hst
      · cases hop
    · cases hop
  case convert s d x =>
    split at hop
    · rename_i u hu
      split at hop
      · cases hop; exact HS.refl _ _
      · split at hop
        · rename_i rr hrr
          cases hop
          unfold amark at hrr
          cases hsd : Nat.beq s d with
          | false => rw [hsd] at hrr; cases hrr
          | true =>
            rw [hsd] at hrr
            simp only [cond_true] at hrr
            split at hrr
            · rename_i a n c _
              have hfp : fpOf T ⟨dst, .convert s d x, type, pos, after, guard⟩ q = .wr [a.block] := by simp [fpOf, hu, hsd]
              rw [hfp]
              cases hun : isUnk c with
              | true => rw [hun] at hrr; cases hrr
              | false =>
                rw [hun] at hrr
                simp only [cond_false] at hrr
                split at hrr
                · split at hrr
                  · rename_i hg
                    obtain ⟨_, hrr⟩ := condN hrr
                    split at hrr
                    · cases hrr
                    · cases hrr
                      exact (HS.put _ _ rfl hg (fun x e => by cases e; rfl) : HS (fun i => i = a.block) _ _).mono (fun i hi => List.mem_singleton.2 hi)
                  · cases hrr
                · cases hrr
            · cases hrr
        · exact hp hop
    · cases hop
  case makeSlice t x y =>
    split at hop
    · unfold amakeSlice at hop
      split at hop
      · split at hop
        · obtain ⟨_, h1⟩ := condN hop
          obtain ⟨_, h2⟩ := condN h1
          obtain ⟨_, h3⟩ := condN h2
          obtain ⟨_, h4⟩ := condN h3
          cases h4; exact HS.push _ _ _
        · cases hop
      · cases hop
    · cases hop
  case call c =>
    obtain ⟨callee, args, argTypes⟩ := c
    split at hop
    · rename_i f heq
      simp only at heq
      subst heq
      unfold acallv at hop
      split at hop
      · have := (hcall _ _ _ _ _ hop).1
        have hfp : fpOf T ⟨dst, .call ⟨.value f, args, argTypes⟩, type, pos, after, guard⟩ q = .all q := by simp [fpOf]
        rw [hfp]
        refine ⟨this.next, this.low, fun i hi e => ?_, this.live, this.owns⟩
        have h2 := this.abs i hi e
        refine ⟨?_, h2.2⟩
        cases q with
        | false => rfl
        | true => have := hq rfl; omega
      · cases hop
    · rename_i b heq
      simp only at heq
      subst heq
      split at hop
      · rename_i vs hvs
        simp only at hvs
        cases b
        case append =>
          simp only [abuiltin] at hop
          split at hop
          · rename_i t t2 x y he
            have hfp : fpOf T ⟨dst, .call ⟨.builtin .append, args, argTypes⟩, type, pos, after, guard⟩ q = .wr (idsOf [x, y]) := by simp only [fpOf, hvs]
            rw [hfp]
            cases hap : aappend P h t t2 x y with
            | some r0 =>
              rw [hap] at hop
              have hop : aappend P h t t2 x y = some (v, h') := by rw [hap]; exact hop
              refine (aappend_hs hop).mono ?_
              rintro i ⟨a, n, c, rfl, rfl⟩
              exact mem_ids (n := n) (c := c) (by simp)
            | none =>
              rw [hap] at hop
              have hop : amake P h t t2 x y = some (v, h') := hop
              exact amake_hs hop
          · cases hop
        case copy =>
          simp only [abuiltin] at hop
          split at hop
          · rename_i t t2 rest x y he
            have hfp : fpOf T ⟨dst, .call ⟨.builtin .copy, args, argTypes⟩, type, pos, after, guard⟩ q = .wr (idsOf [x, y]) := by simp only [fpOf, hvs]
            rw [hfp]
            refine (acopy_hs hop).mono ?_
            rintro i ⟨a, n, c, rfl, rfl⟩
            exact mem_ids (n := n) (c := c) (by simp)
          · cases hop
        case clear =>
          simp only [abuiltin] at hop
          split at hop
          · rename_i t x he
            have hfp : fpOf T ⟨dst, .call ⟨.builtin .clear, args, argTypes⟩, type, pos, after, guard⟩ q = .wr (idsOf [x]) := by simp only [fpOf, hvs]
            rw [hfp]
            refine (aclear_hs hop).mono ?_
            rintro i ⟨a, n, c, rfl, rfl⟩
            exact mem_ids (n := n) (c := c) (by simp)
          · cases hop
        case len =>
          simp only [abuiltin] at hop
          split at hop
          · split at hop
            · cases hop; exact HS.refl _ _
            · cases hop
          · cases hop
        case cap =>
          simp only [abuiltin] at hop
          split at hop
          · obtain ⟨_, h1⟩ := condN hop
            cases h1; exact HS.refl _ _
          · cases hop
        case min =>
          simp only [abuiltin] at hop
          split at hop
          · obtain ⟨_, h1⟩ := condN hop
            cases h1; exact HS.refl _ _
          · cases hop
        case max =>
          simp only [abuiltin] at hop
          split at hop
          · obtain ⟨_, h1⟩ := condN hop
            cases h1; exact HS.refl _ _
          · cases hop
        all_goals (simp [abuiltin] at hop)
      · cases hop
    · cases hop

theorem aop_mono (hcall : CallSound P callf) {T : Tr Value} {o : Oper} {h h' : Heap} {v : Value} (hop : aop P callf T o h = some (v, h')) : h.next ≤ h'.next ∧ h'.low ≤ h.low :=
  have := aop_hs hcall (q := false) hop (by simp)
  ⟨this.next, this.low⟩

/- Temporaries. -/
structure TRel (μ : Mu) (n : Nat) (T : Tr Value) (a : Act) : Prop where
  size : n ≤ a.tmps.size
  val : ∀ t v, T.get t = some v → t < a.tmps.size ∧ VRel μ v (a.tmps.getD t undef)

theorem TRel.ev {μ : Mu} {n : Nat} {T : Tr Value} {a : Act} (r : TRel μ n T a) (x : Operand) (v : Value) (h : Am.ev T x = some v) : VRel μ v (a.eval x) := by
  cases x with
  | tmp t => exact (r.val t v h).2
  | const c =>
    have h : cond (closedV c) (some c) none = some v := h
    obtain ⟨h1, h2⟩ := condN h
    cases h2
    exact closedV_rel μ h1
  | global g => cases h
  | func f => cases h; exact .func _ .nil .nil
theorem TRel.mono {μ ν : Mu} {n : Nat} {T : Tr Value} {a : Act} (r : TRel μ n T a) (h : μ.le ν) : TRel ν n T a := ⟨r.size, fun t v e => ⟨(r.val t v e).1, (r.val t v e).2.mono h⟩⟩

theorem size_put (a : Act) (d : Option Tmp) (v : Value) : (a.put d v).tmps.size = a.tmps.size := by cases d <;> simp [Act.put]
theorem defers_put (a : Act) (d : Option Tmp) (v : Value) : (a.put d v).defers = a.defers := by cases d <;> rfl
theorem getD_put (a : Act) (d t : Nat) (v : Value) (h : d < a.tmps.size) : (a.put (some d) v).tmps.getD t undef = if t = d then v else a.tmps.getD t undef := by
  simp only [Act.put, Array.getD_eq_getD_getElem?, Array.getElem?_setIfInBounds]
  by_cases e : d = t
  · subst e; simp [h]
  · rw [if_neg e, if_neg (fun x => e x.symm)]

theorem TRel.put {μ : Mu} {n : Nat} {T T' : Tr Value} {a : Act} (r : TRel μ n T a) {d : Option Tmp} {v v' : Value} (hv : VRel μ v v') (h : aput n T d v = some T') : TRel μ n T' (a.put d v') := by
  cases d with
  | none => cases h; exact r
  | some d =>
    have h : cond (Nat.ble (Nat.succ d) n) (some (T.set d (some v))) none = some T' := h
    obtain ⟨h1, h2⟩ := condN h
    cases h2
    have hd := ble_lt h1
    have hds : d < a.tmps.size := Nat.lt_of_lt_of_le hd r.size
    refine ⟨by rw [size_put]; exact r.size, fun t u e => ?_⟩
    rw [Tr.get_set] at e
    rw [size_put, getD_put a d t v' hds]
    by_cases ht : t = d
    · rw [if_pos ht] at e; cases e
      rw [if_pos ht, ht]
      exact ⟨hds, hv⟩
    · rw [if_neg ht] at e
      rw [if_neg ht]
      exact r.val t u e

theorem wanted_sound {μ : Mu} {ops : Array Oper} {T : Tr Value} {a : Act} {o : Oper} {b : Bool} (hval : ∀ j want d, o.guard = some (j, want) → (∃ oj, ops[j]? = some oj ∧ oj.dst = some d) → ∀ v, T.get d = some v → d < a.tmps.size ∧ VRel μ v (a.tmps.getD d undef)) (h : awanted ops.toList T o = some b) : Region.wanted o (yielded ops a.tmps) = b := by
  unfold awanted at h
  unfold Region.wanted
  split at h
  · rename_i hg
    cases h
    rw [hg]
  · rename_i j want hg
    rw [hg]
    simp only
    rw [nth_eq, Array.getElem?_toList] at h
    unfold yielded
    split at h
    · rename_i oj hj
      rw [hj]
      simp only [Option.bind_some]
      split at h
      · rename_i d hd
        rw [hd]
        simp only [Option.bind_some]
        split at h
        · rename_i bb hb
          cases h
          obtain ⟨h1, h2⟩ := hval j want d hg ⟨oj, hj, hd⟩ _ hb
          have : a.tmps[d]? = some (.bool bb) := by
            rw [Array.getElem?_eq_getElem h1]
            have : a.tmps.getD d undef = a.tmps[d] := by simp [Array.getD, h1]
            rw [this] at h2
            generalize a.tmps[d] = x at h2
            cases h2
            rfl
          rw [this]
          cases bb <;> cases want <;> rfl
        · rename_i v hnb hv
          cases h
          obtain ⟨h1, h2⟩ := hval j want d hg ⟨oj, hj, hd⟩ _ hv
          have : a.tmps[d]? = some (a.tmps.getD d undef) := by
            rw [Array.getElem?_eq_getElem h1]; simp [Array.getD, h1]
          rw [this]
          generalize a.tmps.getD d undef = x at h2
          cases h2 <;> first | rfl | (exact absurd rfl (hnb _))
        · cases h
      · rename_i hd
        cases h
        rw [hd]
        rfl
    · rename_i hj
      cases h
      rw [hj]
      rfl

/-- The temporaries an operation looks at. -/
theorem looks_tmp {ops : Array Oper} {o : Oper} {x : Operand} {t : Tmp} (hx : x ∈ o.op.operands.toList) (e : x = .tmp t) : t ∈ o.looksAt ops := by
  unfold Oper.looksAt
  refine List.mem_append_left _ (List.mem_filterMap.2 ⟨x, hx, ?_⟩)
  rw [e]
theorem looks_guard {ops : Array Oper} {o oj : Oper} {j d : Nat} {want : Bool} (hg : o.guard = some (j, want)) (hj : ops[j]? = some oj) (hd : oj.dst = some d) : d ∈ o.looksAt ops := by
  unfold Oper.looksAt
  refine List.mem_append_right _ ?_
  rw [hg]
  simp [hj, hd]

theorem aops_mono (hcall : CallSound P callf) {ops : List Oper} {n : Nat} : ∀ (l : List Oper) (T T' : Tr Value) (h h' : Heap), aops P callf n ops l T h = some (T', h') → h.next ≤ h'.next ∧ h'.low ≤ h.low
  | [], T, T', h, h', e => by cases e; exact ⟨Nat.le_refl _, Nat.le_refl _⟩
  | o :: l, T, T', h, h', e => by
    unfold aops at e
    split at e
    · rename_i T1 h1 hst
      have h2 := aops_mono hcall l _ _ _ _ e
      unfold astep at hst
      split at hst
      · cases hst
      · split at hst
        · cases hst; exact h2
        · cases hst
      · split at hst
        · rename_i hao
          split at hst
          · cases hst
            have h3 := aop_mono hcall hao
            exact ⟨Nat.le_trans h3.1 h2.1, Nat.le_trans h2.2 h3.2⟩
          · cases hst
        · cases hst
    · cases e

theorem StepR.domain {D D' Wr : Nat → Prop} {μ ν : Mu} {h h' : Heap} {w w' : World} (s : StepR D Wr μ h w ν h' w') (hd : ∀ i, D' i ∨ h.next ≤ i → D i ∨ h.next ≤ i) : StepR D' Wr μ h w ν h' w' :=
  ⟨s.le, s.dom, s.next, s.abs, s.rel.mono hd, s.keep, s.regs, s.owns, s.mapd⟩

/-- In order. -/
theorem aops_sound (hcall : CallSound P callf) {ops : Array Oper} {n : Nat} {Q : Exit → Act → World → Prop} : ∀ (l : List Oper) (k : Nat), ops.toList.drop k = l → ∀ (T T' : Tr Value) (h h' : Heap) (μ : Mu) (w : World) (a : Act),
    aops P callf n ops.toList l T h = some (T', h') → Rel (fun _ => True) μ h w → TRel μ n T a → (∀ i, h.next ≤ i → i < h'.next → μ i = none) →
    (∀ a' ν w', a'.defers = a.defers → TRel ν n T' a' → StepR (fun _ => True) (fun i => h'.low ≤ i) μ h w ν h' w' → Q .normal a' w') → wpOps P ops Q (List.range' k l.length) a w
  | [], k, hd, T, T', h, h', μ, w, a, hop, r, rt, hf, hQ => by
    cases hop
    simp only [List.length_nil, List.range'_zero, wpOps]
    exact hQ a μ w rfl rt (.refl r _)
  | o :: l, k, hd, T, T', h, h', μ, w, a, hop, r, rt, hf, hQ => by
    unfold aops at hop
    have ho : ops[k]? = some o := by
      rw [← Array.getElem?_toList]
      have := congrArg (fun l => l[0]?) hd
      simpa [List.getElem?_drop] using this
    have hd' : ops.toList.drop (k + 1) = l := by
      have := congrArg (List.drop 1) hd
      simpa [List.drop_drop, Nat.add_comm] using this
    simp only [List.length_cons, List.range'_succ, wpOps, ho]
    split at hop
    · rename_i T1 h1 hst
      unfold astep at hst
      split at hst
      · cases hst
      · -- left out
        rename_i hw
        split at hst
        · rename_i T2 hp
          cases hst
          have hwn := wanted_sound (fun j want d _ _ v hv => rt.val d v hv) hw
          rw [hwn]
          simp only [Bool.false_eq_true, if_false]
          refine aops_sound hcall l (k + 1) hd' _ T' _ h' μ w _ hop r (rt.put (undef_rel μ) hp) hf (fun a' ν w' h3 h4 h5 => hQ a' ν w' (h3.trans (defers_put _ _ _)) h4 h5)
        · cases hst
      · rename_i hw
        split at hst
        · rename_i v h2 hao
          split at hst
          · rename_i T2 hp
            cases hst
            have hwn := wanted_sound (fun j want d _ _ v hv => rt.val d v hv) hw
            rw [hwn]
            simp only [if_true]
            obtain ⟨hm1, hm2⟩ := aop_mono hcall hao
            have hmono := aops_mono hcall l T1 T' h1 h' hop
            refine .inl ?_
            refine aop_sound hcall (q := false) hao (by simp) (r.mono (fun _ _ => trivial)) (fun x _ v hv => rt.ev x v hv) (fun i hi hi2 => hf i hi (Nat.lt_of_lt_of_le hi2 hmono.1)) ?_
            intro v' ν w' hv hst
            have hfr := hst.frame (D' := fun _ => True) (Wr' := fun i => h1.low ≤ i) r (fun _ _ => trivial) (fun i hi => (fpOf T o false).W_D i hi.1) (fun i hi => hi.2)
            refine aops_sound hcall l (k + 1) hd' T1 T' h1 h' ν w' (a.put o.dst v') hop (hfr.rel.mono (fun _ _ => .inl trivial)) ((rt.mono hfr.le).put hv hp) ?_ ?_
            · intro i hi hi2
              have h0 := hf i (by omega) hi2
              by_cases e : ν i = μ i
              · rw [e]; exact h0
              · have := hfr.dom i e; omega
            · intro a'' ν' w'' hd2 ht hs2
              refine hQ a'' ν' w'' (hd2.trans (defers_put _ _ _)) ht ?_
              refine (hfr.weaken (Wr' := fun i => h'.low ≤ i) (fun i hi => Nat.le_trans hmono.2 hi)).trans ?_
              refine (hs2.weaken (fun i hi => .inl hi)).domain (fun _ _ => .inl trivial)
          · cases hst
        · cases hst
    · cases hop
end
end Go.Am
end
section
set_option linter.unusedVariables false
namespace Go.Am
open Go.RowKit

theorem binds_any (e : Edge) : Region.binds .any e = bindsB e := by
  obtain ⟨on, g⟩ := e
  cases g <;> rfl

theorem edgesOk_spec {i : Nat} : ∀ {l : List Edge}, edgesOk i l = true → ∀ e ∈ l, bindsB e = true → e.on < i
  | [], _, e, he, _ => by simp at he
  | x :: l, h, e, he, hb => by
    unfold edgesOk at h
    cases hx : bindsB x with
    | false =>
      rw [hx] at h
      rcases List.mem_cons.1 he with rfl | he
      · rw [hx] at hb; cases hb
      · exact edgesOk_spec h e he hb
    | true =>
      rw [hx] at h
      simp only [cond_true] at h
      cases hl : Nat.ble (Nat.succ x.on) i with
      | false => rw [hl] at h; cases h
      | true =>
        rw [hl] at h
        rcases List.mem_cons.1 he with rfl | he
        · exact ble_lt hl
        · exact edgesOk_spec h e he hb
theorem allEdges_spec : ∀ {l : List Oper} {i : Nat}, allEdges l i = true → ∀ k o, l[k]? = some o → ∀ e ∈ o.after.toList, bindsB e = true → e.on < i + k
  | [], _, _, k, o, h, _, _, _ => by simp at h
  | x :: l, i, h, k, o, ho, e, he, hb => by
    unfold allEdges at h
    cases hx : edgesOk i x.after.toList with
    | false => rw [hx] at h; cases h
    | true =>
      rw [hx] at h
      cases k with
      | zero => simp at ho; subst ho; exact edgesOk_spec hx e he hb
      | succ k =>
        have := allEdges_spec (i := i + 1) h k o (by simpa using ho) e he hb
        omega

theorem mask_spec {an : List Nat} {i j : Nat} : ∀ {l : List Edge}, (edgeMask an i l).testBit j = true → ∃ e ∈ l, bindsB e = true ∧ e.on < i ∧ (j = e.on ∨ ∃ m, an[e.on]? = some m ∧ m.testBit j = true)
  | [], h => by simp [edgeMask] at h
  | e :: l, h => by
    have hrec : (edgeMask an i l).testBit j = true → ∃ e' ∈ e :: l, bindsB e' = true ∧ e'.on < i ∧ (j = e'.on ∨ ∃ m, an[e'.on]? = some m ∧ m.testBit j = true) := by
      intro h
      obtain ⟨e', h1, h2⟩ := mask_spec h
      exact ⟨e', List.mem_cons_of_mem _ h1, h2⟩
    unfold edgeMask at h
    cases hb : bindsB e with
    | false => rw [hb] at h; exact hrec h
    | true =>
      rw [hb] at h
      simp only [cond_true] at h
      cases hl : Nat.ble (Nat.succ e.on) i with
      | false => rw [hl] at h; exact hrec h
      | true =>
        rw [hl] at h
        simp only [cond_true] at h
        have h : ((1 <<< e.on ||| (match nth an e.on with | some m => m | none => 0)) ||| edgeMask an i l).testBit j = true := h
        rw [Nat.testBit_or, Nat.testBit_or, Bool.or_eq_true, Bool.or_eq_true] at h
        rcases h with (h | h) | h
        · rw [Nat.testBit_shiftLeft] at h
          simp only [ge_iff_le, Bool.and_eq_true, decide_eq_true_eq] at h
          obtain ⟨h1, h2⟩ := h
          refine ⟨e, List.mem_cons_self .., hb, ble_lt hl, .inl ?_⟩
          have : j - e.on = 0 := by
            rcases Nat.eq_zero_or_pos (j - e.on) with h | h
            · exact h
            · rw [Nat.testBit_lt_two_pow (Nat.one_lt_two_pow (by omega))] at h2; cases h2
          omega
        · rw [nth_eq] at h
          cases hm : an[e.on]? with
          | none => rw [hm] at h; simp at h
          | some m =>
            rw [hm] at h
            exact ⟨e, List.mem_cons_self .., hb, ble_lt hl, .inr ⟨m, hm, h⟩⟩
        · exact hrec h

theorem ancs_take : ∀ (l : List Oper) (i : Nat) (an : List Nat), (ancs l i an).take an.length = an ∧ an.length ≤ (ancs l i an).length
  | [], i, an => by simp [ancs]
  | o :: l, i, an => by
    unfold ancs
    obtain ⟨h1, h2⟩ := ancs_take l (Nat.succ i) (an ++ [edgeMask an i o.after.toList])
    have h3 := congrArg (List.take an.length) h1
    rw [List.take_take, List.take_left'] at h3
    · simp only [List.length_append, List.length_cons, List.length_nil] at h3 h2
      rw [show min an.length (an.length + (0 + 1)) = an.length by omega] at h3
      exact ⟨h3, by omega⟩
    · rfl
theorem ancs_spec : ∀ (l : List Oper) (i : Nat) (an : List Nat), an.length = i → ∀ k m, (ancs l i an)[k]? = some m → (k < i ∧ an[k]? = some m) ∨ (∃ o, l[k - i]? = some o ∧ i ≤ k ∧ m = edgeMask ((ancs l i an).take k) k o.after.toList)
  | [], i, an, hi, k, m, h => by
    have h : an[k]? = some m := h
    refine .inl ⟨?_, h⟩
    rcases Nat.lt_or_ge k an.length with hk | hk
    · omega
    · rw [List.getElem?_eq_none hk] at h; cases h
  | o :: l, i, an, hi, k, m, h => by
    unfold ancs at h ⊢
    rcases ancs_spec l (Nat.succ i) (an ++ [edgeMask an i o.after.toList]) (by simp [hi]) k m h with ⟨h1, h2⟩ | ⟨o', h1, h2, h3⟩
    · by_cases hk : k < i
      · left
        rw [List.getElem?_append_left (by omega)] at h2
        exact ⟨hk, h2⟩
      · right
        have hki : k = i := by omega
        subst hki
        rw [List.getElem?_append_right (by omega), hi, Nat.sub_self] at h2
        simp at h2
        have := (ancs_take l (Nat.succ k) (an ++ [edgeMask an k o.after.toList])).1
        have h4 := congrArg (List.take k) this
        rw [List.take_take, List.take_left' hi] at h4
        simp only [List.length_append, List.length_cons, List.length_nil] at h4
        rw [show min k (an.length + (0 + 1)) = k by omega] at h4
        exact ⟨o, by simp, Nat.le_refl _, by rw [h4]; exact h2.symm⟩
    · right
      have h2 : i + 1 ≤ k := h2
      refine ⟨o', ?_, by omega, h3⟩
      rw [show k - i = (k - (i + 1)) + 1 by omega]
      simpa using h1

/-- What must come ahead: as the masks tell. -/
def Bef (ops : Array Oper) (i j : Nat) : Prop := ∃ m, (ancs ops.toList 0 [])[j]? = some m ∧ m.testBit i = true

theorem Bef.edge {ops : Array Oper} {i j : Nat} (h : Bef ops i j) : ∃ o e, ops[j]? = some o ∧ e ∈ o.after.toList ∧ bindsB e = true ∧ e.on < j ∧ (i = e.on ∨ Bef ops i e.on) := by
  obtain ⟨m, h1, h2⟩ := h
  rcases ancs_spec ops.toList 0 [] rfl j m h1 with ⟨h3, _⟩ | ⟨o, h3, _, h4⟩
  · omega
  · rw [h4] at h2
    obtain ⟨e, h5, h6, h7, h8⟩ := mask_spec h2
    refine ⟨o, e, by rw [← Array.getElem?_toList]; simpa using h3, h5, h6, h7, ?_⟩
    rcases h8 with h8 | ⟨m', h8, h9⟩
    · exact .inl h8
    · rw [List.getElem?_take, if_pos h7] at h8
      exact .inr ⟨m', h8, h9⟩

theorem rowPairs_spec {ops : Array Oper} {oj : Oper} {j m : Nat} : ∀ {l : List Oper} {i : Nat} {r : List (Nat × Nat)}, rowPairs ops oj j m l i = some r → ∀ k o, l[k]? = some o → i + k < j → m.testBit (i + k) = true ∨ (o.apart ops oj = true ∧ (confl (kindOf o) (kindOf oj) = false ∨ (i + k, j) ∈ r))
  | [], _, _, _, k, o, h, _ => by simp at h
  | x :: l, i, r, h, k, o, ho, hk => by
    unfold rowPairs at h
    have hle : Nat.ble j i = false := by
      cases e : Nat.ble j i with
      | false => rfl
      | true => have := Nat.le_of_ble_eq_true e; omega
    rw [hle] at h
    simp only [cond_false] at h
    cases hr : rowPairs ops oj j m l (Nat.succ i) with
    | none => rw [hr] at h; cases h
    | some r' =>
      rw [hr] at h
      simp only at h
      have hsub : ∀ p, p ∈ r' → p ∈ r := by
        cases hm : Nat.testBit m i with
        | true => rw [hm] at h; cases h; exact fun p hp => hp
        | false =>
          rw [hm] at h
          simp only [cond_false] at h
          obtain ⟨_, h⟩ := condN h
          cases hc : confl (kindOf x) (kindOf oj) with
          | true => rw [hc] at h; cases h; exact fun p hp => List.mem_cons_of_mem _ hp
          | false => rw [hc] at h; cases h; exact fun p hp => hp
      cases k with
      | zero =>
        simp at ho
        subst ho
        cases hm : Nat.testBit m i with
        | true => exact .inl rfl
        | false =>
          rw [hm] at h
          simp only [cond_false] at h
          obtain ⟨ha, h⟩ := condN h
          refine .inr ⟨ha, ?_⟩
          cases hc : confl (kindOf x) (kindOf oj) with
          | true => rw [hc] at h; cases h; exact .inr (List.mem_cons_self ..)
          | false => exact .inl rfl
      | succ k =>
        have := rowPairs_spec hr k o (by simpa using ho) (by show i + 1 + k < j; omega)
        rw [show Nat.succ i + k = i + (k + 1) by omega] at this
        rcases this with h1 | ⟨h1, h2 | h2⟩
        · exact .inl h1
        · exact .inr ⟨h1, .inl h2⟩
        · exact .inr ⟨h1, .inr (hsub _ h2)⟩

theorem allPairs_spec {ops : Array Oper} : ∀ {l : List Oper} {ms : List Nat} {j0 : Nat} {r : List (Nat × Nat)}, allPairs ops l ms j0 = some r → ∀ k oj m, l[k]? = some oj → ms[k]? = some m → ∀ i o, ops[i]? = some o → i < j0 + k → m.testBit i = true ∨ (o.apart ops oj = true ∧ (confl (kindOf o) (kindOf oj) = false ∨ (i, j0 + k) ∈ r))
  | [], _, _, _, _, k, oj, m, h, _, _, _, _, _ => by simp at h
  | x :: l, [], _, _, h, _, _, _, _, _, _, _, _, _ => by simp [allPairs] at h
  | x :: l, y :: ms, j0, r, h, k, oj, m, ho, hm, i, o, hi, hlt => by
    unfold allPairs at h
    split at h
    · rename_i a b ha hb
      cases h
      cases k with
      | zero =>
        simp at ho hm
        subst ho hm
        have := rowPairs_spec ha i o (by rw [Array.getElem?_toList]; exact hi) (by omega)
        simp only [Nat.zero_add] at this
        rcases this with h1 | ⟨h1, h2 | h2⟩
        · exact .inl h1
        · exact .inr ⟨h1, .inl h2⟩
        · exact .inr ⟨h1, .inr (List.mem_append_left _ h2)⟩
      | succ k =>
        have := allPairs_spec hb k oj m (by simpa using ho) (by simpa using hm) i o hi (by show i < j0 + 1 + k; omega)
        rw [show Nat.succ j0 + k = j0 + (k + 1) by omega] at this
        rcases this with h1 | ⟨h1, h2 | h2⟩
        · exact .inl h1
        · exact .inr ⟨h1, .inl h2⟩
        · exact .inr ⟨h1, .inr (List.mem_append_right _ h2)⟩
    · cases h

theorem ancs_length : ∀ (l : List Oper) (i : Nat) (an : List Nat), (ancs l i an).length = an.length + l.length
  | [], _, _ => rfl
  | o :: l, i, an => by unfold ancs; rw [ancs_length l]; simp; omega

theorem drawOk_spec {ops : Array Oper} {r : List (Nat × Nat)} (h : drawOk ops = some r) :
    (∀ k o, ops[k]? = some o → ∀ e ∈ o.after.toList, bindsB e = true → e.on < k) ∧
    (∀ i j o oj, i < j → ops[i]? = some o → ops[j]? = some oj → Bef ops i j ∨ (o.apart ops oj = true ∧ (confl (kindOf o) (kindOf oj) = false ∨ (i, j) ∈ r))) := by
  unfold drawOk at h
  obtain ⟨h1, h2⟩ := condN h
  refine ⟨fun k o ho e he hb => ?_, fun i j o oj hij ho hoj => ?_⟩
  · have := allEdges_spec h1 k o (by rw [Array.getElem?_toList]; exact ho) e he hb
    omega
  · have hlen := ancs_length ops.toList 0 []
    have hj : j < ops.toList.length := by
      rcases Nat.lt_or_ge j ops.toList.length with h | h
      · exact h
      · rw [← Array.getElem?_toList, List.getElem?_eq_none h] at hoj; cases hoj
    have hm := List.getElem?_eq_getElem (l := ancs ops.toList 0 []) (i := j) (by rw [hlen]; simpa using hj)
    have := allPairs_spec h2 j oj _ (by rw [Array.getElem?_toList]; exact hoj) hm i o ho (by omega)
    simp only [Nat.zero_add] at this
    rcases this with h3 | h3
    · exact .inl ⟨_, hm, h3⟩
    · exact .inr h3

theorem fp_kind (T : Tr Value) (o : Oper) (q : Bool) : (kindOf o = 0 ∧ fpOf T o q = .none) ∨ (kindOf o = 2 ∧ (fpOf T o q = .none ∨ ∃ i, fpOf T o q = .rd i)) ∨ (kindOf o = 3 ∧ (fpOf T o q = .none ∨ ∃ l, fpOf T o q = .wr l)) ∨ (kindOf o = 4 ∧ fpOf T o q = .all q) := by
  obtain ⟨dst, op, type, pos, after, guard⟩ := o
  cases op with
  | load t a =>
    refine .inr (.inl ⟨rfl, ?_⟩)
    simp only [fpOf]
    split
    · exact .inr ⟨_, rfl⟩
    · exact .inl rfl
  | convert s d x =>
    cases hsd : Nat.beq s d with
    | false =>
      refine .inr (.inl ⟨by simp only [kindOf, hsd, cond_false], ?_⟩)
      simp only [fpOf, hsd, cond_false]
      split
      · exact .inr ⟨_, rfl⟩
      · exact .inl rfl
    | true =>
      refine .inr (.inr (.inl ⟨by simp only [kindOf, hsd, cond_true], ?_⟩))
      simp only [fpOf, hsd, cond_true]
      split
      · exact .inr ⟨_, rfl⟩
      · exact .inl rfl
  | store t a x =>
    refine .inr (.inr (.inl ⟨rfl, ?_⟩))
    simp only [fpOf]
    split
    · exact .inr ⟨_, rfl⟩
    · exact .inl rfl
  | call c =>
    obtain ⟨callee, args, tys⟩ := c
    cases callee with
    | value f => exact .inr (.inr (.inr ⟨rfl, rfl⟩))
    | invoke r m => exact .inr (.inr (.inr ⟨rfl, rfl⟩))
    | builtin b =>
      cases b <;> first
        | exact .inl ⟨rfl, rfl⟩
        | (refine .inr (.inr (.inl ⟨rfl, ?_⟩)); simp only [fpOf]; split; exact .inr ⟨_, rfl⟩; exact .inl rfl)
  | _ => exact .inl ⟨rfl, rfl⟩

theorem memN_iff {i : Nat} : ∀ {l : List Nat}, memN i l = true ↔ i ∈ l
  | [] => by simp [memN]
  | j :: l => by
    unfold memN
    by_cases h : i = j
    · subst h; rw [beqT rfl]; simp
    · rw [beqF h, cond_false, memN_iff]; simp [h]
theorem anyN_iff {l : List Nat} : ∀ {m : List Nat}, anyN l m = false → ∀ i ∈ m, i ∉ l
  | [], _, i, hi => by simp at hi
  | j :: m, h, i, hi => by
    unfold anyN at h
    cases hj : memN j l with
    | true => rw [hj] at h; cases h
    | false =>
      rw [hj] at h
      rcases List.mem_cons.1 hi with rfl | hi
      · intro hl; rw [memN_iff.2 hl] at hj; cases hj
      · exact anyN_iff h i hi
theorem fpOk_spec {f g : Fp} (h : fpOk f g = true) : (∀ i, f.W i → ¬ g.D i) ∧ (∀ i, f.D i → ¬ g.W i) := by
  cases f <;> cases g <;> simp only [fpOk, Fp.W, Fp.D] at h ⊢ <;> first
    | (exact ⟨fun i hi => hi.elim, fun i hi => hi.elim⟩)
    | (exact ⟨fun i hi => hi.elim, fun i hi h2 => h2.elim⟩)
    | (exact ⟨fun i hi h2 => h2.elim, fun i hi => hi.elim⟩)
    | (exact ⟨fun i hi h2 => h2.elim, fun i hi h2 => h2.elim⟩)
    | skip
  · rename_i i l
    simp only [Bool.not_eq_true'] at h
    have : i ∉ l := fun hi => by rw [memN_iff.2 hi] at h; cases h
    exact ⟨fun j hj => hj.elim, fun j hj h2 => this (hj ▸ h2)⟩
  · rename_i i q
    subst h
    exact ⟨fun j hj => hj.elim, fun j hj h2 => by cases h2⟩
  · rename_i l i
    simp only [Bool.not_eq_true'] at h
    have : i ∉ l := fun hi => by rw [memN_iff.2 hi] at h; cases h
    exact ⟨fun j hj h2 => this (h2 ▸ hj), fun j hj h2 => h2.elim⟩
  · rename_i l m
    simp only [Bool.not_eq_true'] at h
    exact ⟨fun j hj h2 => anyN_iff h j h2 hj, fun j hj h2 => anyN_iff h j h2 hj⟩
  · cases h
  · rename_i q i
    subst h
    exact ⟨fun j hj => (by cases hj), fun j hj h2 => h2.elim⟩
  · cases h
  · rename_i q r
    simp only [Bool.and_eq_true] at h
    obtain ⟨rfl, rfl⟩ := h
    exact ⟨fun j hj => (by cases hj), fun j hj h2 => (by cases h2)⟩
theorem fpOk_kind {T U : Tr Value} {o p : Oper} {q r : Bool} (h : confl (kindOf o) (kindOf p) = false) : fpOk (fpOf T o q) (fpOf U p r) = true := by
  rcases fp_kind T o q with ⟨h1, h2⟩ | ⟨h1, h2⟩ | ⟨h1, h2⟩ | ⟨h1, h2⟩ <;> rcases fp_kind U p r with ⟨h3, h4⟩ | ⟨h3, h4⟩ | ⟨h3, h4⟩ | ⟨h3, h4⟩ <;>
    (rw [h1, h3] at h; first | (cases h; done) | skip) <;>
    (first | (rw [h2]) | (rcases h2 with h2 | ⟨_, h2⟩ <;> rw [h2])) <;>
    (first | (rw [h4]) | (rcases h4 with h4 | ⟨_, h4⟩ <;> rw [h4])) <;> rfl
theorem fpOk_none_right (f : Fp) : fpOk f .none = true := by cases f <;> rfl

end Go.Am
end
section
set_option linter.unusedVariables false
namespace Go.Am
open Go.RowKit

def SOK (P : Program) (callf : CallF) (n : Nat) (L : List Oper) (o : Oper) (T : Tr Value) (H : Heap) (T' : Tr Value) (H' : Heap) (f : Fp) : Prop :=
  (awanted L T o = some false ∧ aput n T o.dst undef = some T' ∧ (∀ i, H'.get i = H.get i) ∧ H'.next = H.next ∧ H'.low ≤ H.low ∧ f = .none) ∨
  ∃ v G G' q, awanted L T o = some true ∧ (∀ i, G.get i = H.get i) ∧ G.next = H.next ∧ aop P callf T o G = some (v, G') ∧ (q = true → G.next ≤ G'.low) ∧ f = fpOf T o q ∧ aput n T o.dst v = some T' ∧
    (∀ i, H'.get i = G'.get i) ∧ H'.next = G'.next ∧ H'.low ≤ G'.low ∧ H'.low ≤ H.low

section
variable {P : Program} {callf : CallF}

theorem SOK.hs (hcall : CallSound P callf) {n : Nat} {L : List Oper} {o : Oper} {T T' : Tr Value} {H H' : Heap} {f : Fp} (s : SOK P callf n L o T H T' H' f) : HS f.W H H' := by
  rcases s with ⟨_, _, h1, h2, h3, _⟩ | ⟨v, G, G', q, _, h1, h2, h3, h4, rfl, _, h5, h6, h7, h8⟩
  · exact ⟨by omega, h3, fun i _ e => absurd (h1 i) e, fun l i o g => (by rw [h2]; rw [h1] at g; exact l i o g), fun i o g => .inr (by rw [← h1]; exact g)⟩
  · have hs := aop_hs hcall h3 h4
    refine ⟨by have := hs.next; omega, h8, fun i hi e => ?_, fun l i o g => ?_, fun i o g => by rw [← h1]; exact hs.owns i o (by rw [← h5]; exact g)⟩
    · have := hs.abs i (by omega) (by rw [← h5, h1]; exact e)
      exact ⟨this.1, by omega⟩
    · rw [h5] at g
      rw [h6]
      exact hs.live (fun i o g => by rw [h2]; rw [h1] at g; exact l i o g) i o g
theorem SOK.tmp {n : Nat} {L : List Oper} {o : Oper} {T T' : Tr Value} {H H' : Heap} {f : Fp} (s : SOK P callf n L o T H T' H' f) {t : Nat} (ht : o.dst ≠ some t) : T'.get t = T.get t := by
  have key : ∀ {v : Value}, aput n T o.dst v = some T' → T'.get t = T.get t := by
    intro v h
    unfold aput at h
    split at h
    · cases h; rfl
    · rename_i d hd
      obtain ⟨_, h⟩ := condN h
      cases h
      exact Tr.get_set_ne _ _ (fun e => ht (by rw [hd, e]))
  rcases s with ⟨_, h, _⟩ | ⟨_, _, _, _, _, _, _, _, _, _, h, _⟩ <;> exact key h

/-- The way the abstract machine went. -/
structure Way (P : Program) (callf : CallF) (n : Nat) (ops : Array Oper) (Ts : Nat → Tr Value) (Hs : Nat → Heap) (fs : Nat → Fp) : Prop where
  step : ∀ k o, ops[k]? = some o → SOK P callf n ops.toList o (Ts k) (Hs k) (Ts (k + 1)) (Hs (k + 1)) (fs k)
  edges : ∀ k o, ops[k]? = some o → ∀ e ∈ o.after.toList, bindsB e = true → e.on < k
  pairs : ∀ i j o oj, i < j → ops[i]? = some o → ops[j]? = some oj → Bef ops i j ∨ (o.apart ops oj = true ∧ fpOk (fs i) (fs j) = true)
  live : Live (Hs 0)

variable {n : Nat} {ops : Array Oper} {Ts : Nat → Tr Value} {Hs : Nat → Heap} {fs : Nat → Fp}

theorem lt_size {k : Nat} {o : Oper} (h : ops[k]? = some o) : k < ops.size := by
  rcases Nat.lt_or_ge k ops.size with hk | hk
  · exact hk
  · rw [Array.getElem?_eq_none hk] at h; cases h

theorem Way.hs (hcall : CallSound P callf) (y : Way P callf n ops Ts Hs fs) {k : Nat} (hk : k < ops.size) : HS (fs k).W (Hs k) (Hs (k + 1)) :=
  (y.step k _ (Array.getElem?_eq_getElem hk)).hs hcall
theorem Way.lives (hcall : CallSound P callf) (y : Way P callf n ops Ts Hs fs) : ∀ k, k ≤ ops.size → Live (Hs k)
  | 0, _ => y.live
  | k + 1, h => (y.hs hcall (by omega)).live (y.lives hcall k (by omega))
theorem Way.next_le (hcall : CallSound P callf) (y : Way P callf n ops Ts Hs fs) {k : Nat} : ∀ {m : Nat}, k ≤ m → m ≤ ops.size → (Hs k).next ≤ (Hs m).next ∧ (Hs m).low ≤ (Hs k).low
  | 0, h, _ => (by have h0 : k = 0 := (by omega); subst h0; exact ⟨Nat.le_refl _, Nat.le_refl _⟩)
  | m + 1, h, hm => by
    by_cases e : k = m + 1
    · subst e; exact ⟨Nat.le_refl _, Nat.le_refl _⟩
    · have h1 := y.next_le hcall (m := m) (show k ≤ m by omega) (show m ≤ ops.size by omega)
      have h2 := y.hs hcall (k := m) (by omega)
      exact ⟨Nat.le_trans h1.1 h2.next, Nat.le_trans h2.low h1.2⟩

/-- Does step j turn row i? -/
def Tch (Hs : Nat → Heap) (j i : Nat) : Prop := (Hs (j + 1)).get i ≠ (Hs j).get i

theorem Way.tch (hcall : CallSound P callf) (y : Way P callf n ops Ts Hs fs) {i j : Nat} (hj : j < ops.size) (ht : Tch Hs j i) : (i < (Hs j).next ∧ (fs j).W i) ∨ ((Hs j).next ≤ i ∧ i < (Hs (j + 1)).next) := by
  have hs := y.hs hcall hj
  by_cases hi : i < (Hs j).next
  · exact .inl ⟨hi, (hs.abs i hi ht).1⟩
  · refine .inr ⟨by omega, Classical.byContradiction fun h2 => ht ?_⟩
    have h1 : (Hs j).get i = none := by
      cases hg : (Hs j).get i with
      | none => rfl
      | some o => exact absurd (y.lives hcall j (by omega) i o hg) hi
    have h3 : (Hs (j + 1)).get i = none := by
      cases hg : (Hs (j + 1)).get i with
      | none => rfl
      | some o => exact absurd (y.lives hcall (j + 1) (by omega) i o hg) h2
    rw [h1, h3]
theorem Way.get_same (y : Way P callf n ops Ts Hs fs) {i k : Nat} : ∀ {m : Nat}, k ≤ m → m ≤ ops.size → (∀ j, k ≤ j → j < m → ¬ Tch Hs j i) → (Hs m).get i = (Hs k).get i
  | 0, h, _, _ => (by have h0 : k = 0 := (by omega); subst h0; rfl)
  | m + 1, h, hm, hn => by
    by_cases e : k = m + 1
    · subst e; rfl
    · rw [← Way.get_same y (m := m) (by omega) (by omega) (fun j h1 h2 => hn j h1 (by omega))]
      exact Classical.byContradiction fun h2 => hn m (by omega) (by omega) h2
theorem Way.tmp_same (y : Way P callf n ops Ts Hs fs) {t k : Nat} : ∀ {m : Nat}, k ≤ m → m ≤ ops.size → (∀ j o, k ≤ j → j < m → ops[j]? = some o → o.dst ≠ some t) → (Ts m).get t = (Ts k).get t
  | 0, h, _, _ => (by have h0 : k = 0 := (by omega); subst h0; rfl)
  | m + 1, h, hm, hn => by
    by_cases e : k = m + 1
    · subst e; rfl
    · rw [← Way.tmp_same y (m := m) (by omega) (by omega) (fun j o h1 h2 => hn j o h1 (by omega))]
      have ho := Array.getElem?_eq_getElem (xs := ops) (i := m) (by omega)
      exact (y.step m _ ho).tmp (hn m _ (by omega) (by omega) ho)

/-- A row, as steps S have left it, is as ahead of step k. -/
structure Cons (ops : Array Oper) (Hs : Nat → Heap) (S : Nat → Prop) (i k : Nat) : Prop where
  lo : ∀ j, j < k → Tch Hs j i → S j
  hi : ∀ j, k ≤ j → j < ops.size → Tch Hs j i → ¬ S j

/-- Steps S are done: how the world stands to what the abstract machine told. -/
structure Inv (n : Nat) (ops : Array Oper) (Ts : Nat → Tr Value) (Hs : Nat → Heap) (fs : Nat → Fp) (μ0 : Mu) (w0 : World) (a0 : Act) (S : Nat → Prop) (μ : Mu) (a : Act) (w : World) : Prop where
  le : μ0.le μ
  dom : ∀ i, μ i ≠ μ0 i → ∃ k, S k ∧ k < ops.size ∧ (Hs k).next ≤ i ∧ i < (Hs (k + 1)).next
  defers : a.defers = a0.defers
  size : n ≤ a.tmps.size
  tmps : ∀ t k v, k ≤ ops.size → (∀ j o, j < k → ops[j]? = some o → o.dst = some t → S j) → (∀ j o, k ≤ j → ops[j]? = some o → o.dst = some t → ¬ S j) → (Ts k).get t = some v → t < a.tmps.size ∧ VRel μ v (a.tmps.getD t undef)
  cells : ∀ i k o p, k ≤ ops.size → Cons ops Hs S i k → (Hs k).get i = some o → μ i = some p → Match μ o p w
  disj : ∀ i j k m o o' p p' off, k ≤ ops.size → m ≤ ops.size → Cons ops Hs S i k → Cons ops Hs S j m → i ≠ j → (Hs k).get i = some o → (Hs m).get j = some o' → o.own = true → μ i = some p → μ j = some p' → p.block = p'.block → InReg o p off → ¬ InReg o' p' off
  keep : Keep (Own (Hs 0) μ0 (fun i => (Hs ops.size).low ≤ i)) w0 w
  regs : ∀ b off, b < w0.heap.size → ∀ i k o p, k ≤ ops.size → ((Hs ops.size).low ≤ i ∨ (Hs 0).next ≤ i) → Cons ops Hs S i k → (Hs k).get i = some o → o.own = true → μ i = some p → p.block = b → InReg o p off → Own (Hs 0) μ0 (fun i => (Hs ops.size).low ≤ i) b off
  mapd : ∀ j, S j → j < ops.size → ∀ x, x < (Hs j).next → Tch Hs j x → μ x ≠ none

theorem Inv.init (hcall : CallSound P callf) (y : Way P callf n ops Ts Hs fs) {μ0 : Mu} {w0 : World} {a0 : Act} (r : Rel (fun _ => True) μ0 (Hs 0) w0) (rt : TRel μ0 n (Ts 0) a0) : Inv n ops Ts Hs fs μ0 w0 a0 (fun _ => False) μ0 a0 w0 where
  le := Mu.le_refl _
  dom := fun i hi => absurd rfl hi
  defers := rfl
  size := rt.size
  tmps := fun t k v hk h1 h2 hv => by
    rw [y.tmp_same (Nat.zero_le k) hk (fun j o _ hj ho hd => h1 j o hj ho hd)] at hv
    exact rt.val t v hv
  cells := fun i k o p hk hc hg hm => by
    rw [y.get_same (Nat.zero_le k) hk (fun j _ hj ht => hc.lo j hj ht)] at hg
    exact r.cells i o p trivial hg hm
  disj := fun i j k m o o' p p' off hk hm hc hc' hij hg hg' ho h1 h2 hb => by
    rw [y.get_same (Nat.zero_le k) hk (fun j _ hj ht => hc.lo j hj ht)] at hg
    rw [y.get_same (Nat.zero_le m) hm (fun j _ hj ht => hc'.lo j hj ht)] at hg'
    exact r.disj i j o o' p p' off trivial trivial hij hg hg' ho h1 h2 hb
  keep := Keep.refl _ _
  regs := fun b off hb i k o p hk hl hc hg ho hm h5 h6 => by
    rw [y.get_same (Nat.zero_le k) hk (fun j _ hj ht => hc.lo j hj ht)] at hg
    have := r.live i o hg
    exact ⟨i, o, p, hl.resolve_right (by omega), hg, ho, hm, h5, h6⟩
  mapd := fun j hj => hj.elim

/-- The new rows of two steps are not the same. -/
theorem Way.new_ne (hcall : CallSound P callf) (y : Way P callf n ops Ts Hs fs) {i j x : Nat} (hi : i < ops.size) (hj : j < ops.size) (h1 : (Hs i).next ≤ x) (h2 : x < (Hs (i + 1)).next) (h3 : (Hs j).next ≤ x) (h4 : x < (Hs (j + 1)).next) : i = j := by
  rcases Nat.lt_trichotomy i j with h | h | h
  · have := (y.next_le hcall (k := i + 1) (m := j) (by omega) (by omega)).1; omega
  · exact h
  · have := (y.next_le hcall (k := j + 1) (m := i) (by omega) (by omega)).1; omega

/-- Two steps that are in no order touch nothing in common. -/
theorem Way.apart (y : Way P callf n ops Ts Hs fs) {S : Nat → Prop} {i j : Nat} {o oj : Oper} (hd : ∀ x z, S z → Bef ops x z → S x) (ho : ops[i]? = some o) (hoj : ops[j]? = some oj) (hi : ¬ S i) (hpre : ∀ x, Bef ops x i → S x) (h : (j < i ∧ ¬ S j) ∨ (i < j ∧ S j)) :
    (∀ d, o.dst = some d → d ∉ oj.looksAt ops) ∧ (∀ d, o.dst = some d → oj.dst ≠ some d) ∧ (∀ d, oj.dst = some d → d ∉ o.looksAt ops) ∧ (∀ x, (fs i).W x → ¬ (fs j).D x) ∧ (∀ x, (fs i).D x → ¬ (fs j).W x) := by
  rcases h with ⟨h1, h2⟩ | ⟨h1, h2⟩
  · rcases y.pairs j i oj o h1 hoj ho with hb | ⟨ha, hf⟩
    · exact absurd (hpre j hb) h2
    · obtain ⟨a1, a2, a3⟩ := Oper.apart_spec ha
      obtain ⟨f1, f2⟩ := fpOk_spec hf
      exact ⟨a3, fun d e1 e2 => a2 d e2 e1, a1, fun x e1 e2 => f2 x e2 e1, fun x e1 e2 => f1 x e2 e1⟩
  · rcases y.pairs i j o oj h1 ho hoj with hb | ⟨ha, hf⟩
    · exact absurd (hd i j h2 hb) hi
    · obtain ⟨a1, a2, a3⟩ := Oper.apart_spec ha
      obtain ⟨f1, f2⟩ := fpOk_spec hf
      exact ⟨a1, a2, a3, f1, f2⟩

theorem Inv.step (hcall : CallSound P callf) (y : Way P callf n ops Ts Hs fs) {μ0 : Mu} {w0 : World} {a0 : Act} {S : Nat → Prop} {μ : Mu} {a : Act} {w : World} (inv : Inv n ops Ts Hs fs μ0 w0 a0 S μ a w)
    (hfresh : ∀ i, (Hs 0).next ≤ i → i < (Hs ops.size).next → μ0 i = none) (hd : ∀ x z, S z → Bef ops x z → S x) {i : Nat} {o : Oper} (ho : ops[i]? = some o) (hi : ¬ S i) (hpre : ∀ x, Bef ops x i → S x)
    {K : Act → World → Prop} {Q : Exit → Act → World → Prop} (hK : ∀ μ' a' w', Inv n ops Ts Hs fs μ0 w0 a0 (fun x => S x ∨ x = i) μ' a' w' → K a' w') : wpOp P ops Q i K a w := by
  have hsz := lt_size ho
  have hs := y.hs hcall hsz
  have hstep := y.step i o ho
  have hap := fun {j : Nat} {oj : Oper} (hoj : ops[j]? = some oj) => y.apart (i := i) (j := j) (o := o) (oj := oj) hd ho hoj hi hpre
  -- temporaries that the step looks at stand as they stood
  have hlook : ∀ t, t ∈ o.looksAt ops → ∀ v, (Ts i).get t = some v → t < a.tmps.size ∧ VRel μ v (a.tmps.getD t undef) := by
    intro t ht v hv
    refine inv.tmps t i v (by omega) (fun j oj hj hoj hdj => ?_) (fun j oj hj hoj hdj hS => ?_) hv
    · exact Classical.byContradiction fun hS => (hap hoj (.inl ⟨hj, hS⟩)).2.2.1 t hdj ht
    · by_cases e : j = i
      · subst e; exact hi hS
      · exact (hap hoj (.inr ⟨by omega, hS⟩)).2.2.1 t hdj ht
  -- what the new state is like, given what became of the world
  have fin : ∀ (v v' : Value) (ν : Mu) (w' : World), aput n (Ts i) o.dst v = some (Ts (i + 1)) → VRel ν v v' → StepR (fs i).D (fun x => (fs i).W x ∧ (Hs (i + 1)).low ≤ x) μ (Hs i) w ν (Hs (i + 1)) w' → K (a.put o.dst v') w' := by
    intro v v' ν w' hput hv st
    have hlow : ∀ x, (fs i).W x ∧ (Hs (i + 1)).low ≤ x → (Hs ops.size).low ≤ x := fun x hx => Nat.le_trans (y.next_le hcall (k := i + 1) (m := ops.size) (by omega) (Nat.le_refl _)).2 hx.2
    have hnu : ∀ x, ¬ ((Hs i).next ≤ x ∧ x < (Hs (i + 1)).next) → ν x = μ x := fun x hx => Classical.byContradiction fun e => hx (st.dom x e)
    have stl := st.lt (y.lives hcall i (by omega))
    -- a mapped row, made by a step, was made by one of S
    have hmade : ∀ x j, j < ops.size → (Hs j).next ≤ x → x < (Hs (j + 1)).next → μ x ≠ none → S j := by
      intro x j hj h1 h2 hm
      have h3 := (y.next_le hcall (k := 0) (m := j) (by omega) (by omega)).1
      have h4 := (y.next_le hcall (k := j + 1) (m := ops.size) (by omega) (by omega)).1
      have h5 := hfresh x (by omega) (by omega)
      obtain ⟨k, hk, hk2, hk3, hk4⟩ := inv.dom x (by rw [h5]; exact hm)
      have := y.new_ne hcall hj hk2 h1 h2 hk3 hk4
      subst this
      exact hk
    have hoj : ∀ {j : Nat}, j < ops.size → ∃ oj, ops[j]? = some oj := fun hj => ⟨_, Array.getElem?_eq_getElem hj⟩
    -- what the step looks at stands as ahead of it
    have hD : ∀ x, (fs i).D x → x < (Hs i).next → μ x ≠ none → Cons ops Hs S x i := by
      intro x hx hlt hm
      refine ⟨fun j hj ht => ?_, fun j hj hj2 ht hS => ?_⟩
      · rcases y.tch hcall (by omega) ht with ⟨h1, h2⟩ | ⟨h1, h2⟩
        · refine Classical.byContradiction fun hS => ?_
          obtain ⟨oj, hj'⟩ := hoj (j := j) (by omega)
          exact (hap hj' (.inl ⟨hj, hS⟩)).2.2.2.2 x hx h2
        · exact hmade x j (by omega) h1 h2 hm
      · by_cases e : j = i
        · subst e; exact hi hS
        · have hn := (y.next_le hcall (k := i) (m := j) (by omega) (by omega)).1
          rcases y.tch hcall hj2 ht with ⟨h1, h2⟩ | ⟨h1, h2⟩
          · obtain ⟨oj, hj'⟩ := hoj hj2
            exact (hap hj' (.inr ⟨by omega, hS⟩)).2.2.2.2 x hx h2
          · omega
    -- and what it looks at or makes stands as behind it
    have hA : ∀ x, (((fs i).D x ∧ x < (Hs i).next ∧ μ x ≠ none) ∨ ((Hs i).next ≤ x ∧ x < (Hs (i + 1)).next)) → Cons ops Hs (fun z => S z ∨ z = i) x (i + 1) := by
      rintro x (⟨hx, hlt, hm⟩ | ⟨h1, h2⟩)
      · have hc := hD x hx hlt hm
        refine ⟨fun j hj ht => ?_, fun j hj hj2 ht hS => ?_⟩
        · by_cases e : j = i
          · exact .inr e
          · exact .inl (hc.lo j (by omega) ht)
        · exact hc.hi j (by omega) hj2 ht (hS.resolve_right (by omega))
      · refine ⟨fun j hj ht => ?_, fun j hj hj2 ht hS => ?_⟩
        · by_cases e : j = i
          · exact .inr e
          · have hn := (y.next_le hcall (k := j + 1) (m := i) (by omega) (by omega)).1
            have hn2 := (y.next_le hcall (k := j) (m := j + 1) (by omega) (by omega)).1
            rcases y.tch hcall (by omega) ht with ⟨h3, _⟩ | ⟨_, h3⟩ <;> omega
        · have hSj := hS.resolve_right (by omega)
          have hn := (y.next_le hcall (k := i + 1) (m := j) (by omega) (by omega)).1
          have hm := inv.mapd j hSj hj2 x (by omega) ht
          exact hi (hmade x i hsz h1 h2 hm)
    have huniq : ∀ {S' : Nat → Prop} {x k m : Nat}, k ≤ ops.size → m ≤ ops.size → Cons ops Hs S' x k → Cons ops Hs S' x m → (Hs k).get x = (Hs m).get x := by
      intro S' x k m hk hm h1 h2
      rcases Nat.le_total k m with h | h
      · exact (y.get_same h hm (fun j h3 h4 ht => h1.hi j h3 (by omega) ht (h2.lo j h4 ht))).symm
      · exact y.get_same h hk (fun j h3 h4 ht => h2.hi j h3 (by omega) ht (h1.lo j h4 ht))
    -- all others: untouched
    have hB : ∀ x k, k ≤ ops.size → ¬ (((fs i).D x ∧ x < (Hs i).next) ∨ ((Hs i).next ≤ x ∧ x < (Hs (i + 1)).next)) → Cons ops Hs (fun z => S z ∨ z = i) x k → Cons ops Hs S x k := by
      intro x k hk hn hc
      have hnt : ¬ Tch Hs i x := fun ht => by
        rcases y.tch hcall hsz ht with ⟨h1, h2⟩ | h1
        · exact hn (.inl ⟨(fs i).W_D x h2, h1⟩)
        · exact hn (.inr h1)
      exact ⟨fun j hj ht => (hc.lo j hj ht).resolve_right (by rintro rfl; exact hnt ht), fun j hj hj2 ht hS => hc.hi j hj hj2 ht (.inl hS)⟩
    have hBnu : ∀ x, ¬ (((fs i).D x ∧ x < (Hs i).next) ∨ ((Hs i).next ≤ x ∧ x < (Hs (i + 1)).next)) → ν x = μ x := fun x hn => hnu x (fun h => hn (.inr h))
    -- a row of A: as the step's own relation tells it
    have hAget : ∀ x k ox px, k ≤ ops.size → (((fs i).D x ∧ x < (Hs i).next) ∨ ((Hs i).next ≤ x ∧ x < (Hs (i + 1)).next)) → Cons ops Hs (fun z => S z ∨ z = i) x k → (Hs k).get x = some ox → ν x = some px →
        (Hs (i + 1)).get x = some ox ∧ ((fs i).D x ∨ (Hs i).next ≤ x) ∧ (x < (Hs i).next → μ x = some px ∧ Cons ops Hs S x i) := by
      intro x k ox px hk hx hc hg hm
      have hmu : x < (Hs i).next → μ x = some px := fun h => by rw [← hnu x (by omega)]; exact hm
      have hx' : (((fs i).D x ∧ x < (Hs i).next ∧ μ x ≠ none) ∨ ((Hs i).next ≤ x ∧ x < (Hs (i + 1)).next)) := by
        rcases hx with ⟨h1, h2⟩ | h1
        · exact .inl ⟨h1, h2, by rw [hmu h2]; simp⟩
        · exact .inr h1
      have hget := huniq hk (by omega) hc (hA x hx')
      rw [hget] at hg
      refine ⟨hg, ?_, fun h => ⟨hmu h, ?_⟩⟩
      · rcases hx with ⟨h1, _⟩ | ⟨h1, _⟩
        · exact .inl h1
        · exact .inr h1
      · rcases hx' with ⟨h1, h2, h3⟩ | ⟨h1, _⟩
        · exact hD x h1 h2 h3
        · omega
    -- the regions that the step writes
    have hOwn : ∀ b off, Own (Hs i) μ (fun x => ((fs i).W x ∧ (Hs (i + 1)).low ≤ x) ∧ x < (Hs i).next) b off → ∃ q oq pq, (fs i).D q ∧ q < (Hs i).next ∧ (Hs ops.size).low ≤ q ∧ Cons ops Hs S q i ∧ (Hs i).get q = some oq ∧ oq.own = true ∧ μ q = some pq ∧ pq.block = b ∧ InReg oq pq off := by
      rintro b off ⟨q, oq, pq, ⟨h1, h2⟩, h3, h4, h5, h6⟩
      have hdq := (fs i).W_D q h1.1
      exact ⟨q, oq, pq, hdq, h2, hlow q h1, hD q hdq h2 (by rw [h5]; simp), h3, h4, h5, h6⟩
    -- a row of B lies outside of what the step writes
    have hout : ∀ x k ox px, k ≤ ops.size → ¬ (((fs i).D x ∧ x < (Hs i).next) ∨ ((Hs i).next ≤ x ∧ x < (Hs (i + 1)).next)) → Cons ops Hs S x k → (Hs k).get x = some ox → μ x = some px → ∀ off, InReg ox px off → ¬ Own (Hs i) μ (fun x => ((fs i).W x ∧ (Hs (i + 1)).low ≤ x) ∧ x < (Hs i).next) px.block off := by
      intro x k ox px hk hn hc hg hm off hr hO
      obtain ⟨q, oq, pq, q1, q2, q3, q4, q5, q6, q7, q8, q9⟩ := hOwn _ _ hO
      exact inv.disj q x i k oq ox pq px off (by omega) hk q4 hc (by rintro rfl; exact hn (.inl ⟨q1, q2⟩)) q5 hg q6 q7 hm q8 q9 hr
    refine hK ν _ w' ⟨Mu.le_trans inv.le st.le, ?_, (defers_put _ _ _).trans inv.defers, by rw [size_put]; exact inv.size, ?_, ?_, ?_, ?_, ?_, ?_⟩
    · -- dom
      intro x hx
      by_cases e : ν x = μ x
      · rw [e] at hx
        obtain ⟨k, h1, h2⟩ := inv.dom x hx
        exact ⟨k, .inl h1, h2⟩
      · exact ⟨i, .inr rfl, hsz, st.dom x e⟩
    · -- tmps
      intro t k u hk hlo hhi hu
      rw [size_put]
      by_cases hd' : o.dst = some t
      · have hik : i < k := by
          rcases Nat.lt_or_ge i k with h | h
          · exact h
          · exact absurd (.inr rfl) (hhi i o h ho hd')
        have hsame := y.tmp_same (t := t) (k := i + 1) (m := k) (by omega) hk (fun j oj h1 h2 hj hdj => by
          have hSj := (hlo j oj h2 hj hdj).resolve_right (by omega)
          exact (hap hj (.inr ⟨by omega, hSj⟩)).2.1 t hd' hdj)
        rw [hsame] at hu
        rw [hd'] at hput ⊢
        have hput : cond (Nat.ble (Nat.succ t) n) (some ((Ts i).set t (some v))) none = some (Ts (i + 1)) := hput
        obtain ⟨h1, h2⟩ := condN hput
        have htn := ble_lt h1
        injection h2 with h2
        rw [← h2, Tr.get_set_eq] at hu
        cases hu
        have hts := Nat.lt_of_lt_of_le htn inv.size
        rw [getD_put _ _ _ _ hts, if_pos rfl]
        exact ⟨hts, hv⟩
      · obtain ⟨h1, h2⟩ := inv.tmps t k u hk (fun j oj hj ho' hdj => (hlo j oj hj ho' hdj).resolve_right (by rintro rfl; rw [ho] at ho'; cases ho'; exact hd' hdj)) (fun j oj hj ho' hdj hS => hhi j oj hj ho' hdj (.inl hS)) hu
        refine ⟨h1, ?_⟩
        have : (a.put o.dst v').tmps.getD t undef = a.tmps.getD t undef := by
          cases hd2 : o.dst with
          | none => rfl
          | some d =>
            simp only [Act.put, Array.getD_eq_getD_getElem?, Array.getElem?_setIfInBounds]
            rw [if_neg (by rintro rfl; exact hd' hd2)]
        rw [this]
        exact h2.mono st.le
    · -- cells
      intro x k ox px hk hc hg hm
      by_cases hx : (((fs i).D x ∧ x < (Hs i).next) ∨ ((Hs i).next ≤ x ∧ x < (Hs (i + 1)).next))
      · obtain ⟨h1, h2, _⟩ := hAget x k ox px hk hx hc hg hm
        exact st.rel.cells x ox px h2 h1 hm
      · have hc' := hB x k hk hx hc
        rw [hBnu x hx] at hm
        exact (inv.cells x k ox px hk hc' hg hm).keep st.le stl.keep (hout x k ox px hk hx hc' hg hm)
    · -- disj
      intro x z k m ox oz px pz off hk hm hcx hcz hxz hgx hgz hox hmx hmz hb hr hr'
      by_cases hx : (((fs i).D x ∧ x < (Hs i).next) ∨ ((Hs i).next ≤ x ∧ x < (Hs (i + 1)).next))
      · obtain ⟨x1, x2, x3⟩ := hAget x k ox px hk hx hcx hgx hmx
        by_cases hz : (((fs i).D z ∧ z < (Hs i).next) ∨ ((Hs i).next ≤ z ∧ z < (Hs (i + 1)).next))
        · obtain ⟨z1, z2, _⟩ := hAget z m oz pz hm hz hcz hgz hmz
          exact st.rel.disj x z ox oz px pz off x2 z2 hxz x1 z1 hox hmx hmz hb hr hr'
        · have hcz' := hB z m hm hz hcz
          rw [hBnu z hz] at hmz
          by_cases hw : (((fs i).W x ∧ (Hs (i + 1)).low ≤ x) ∧ x < (Hs i).next) ∨ (Hs i).next ≤ x
          · have hlt := (inv.cells z m oz pz hm hcz' hgz hmz).inReg_lt hr'
            have hO := stl.regs px.block off (by rw [hb]; exact hlt) ⟨x, ox, px, hw, x1, hox, hmx, rfl, hr⟩
            rw [hb] at hO
            exact hout z m oz pz hm hz hcz' hgz hmz off hr' hO
          · have hlt : x < (Hs i).next := by omega
            obtain ⟨x4, x5⟩ := x3 hlt
            rw [stl.abs x hlt (fun h => hw (.inl h))] at x1
            exact inv.disj x z i m ox oz px pz off (by omega) hm x5 hcz' hxz x1 hgz hox x4 hmz hb hr hr'
      · have hcx' := hB x k hk hx hcx
        rw [hBnu x hx] at hmx
        by_cases hz : (((fs i).D z ∧ z < (Hs i).next) ∨ ((Hs i).next ≤ z ∧ z < (Hs (i + 1)).next))
        · obtain ⟨z1, z2, z3⟩ := hAget z m oz pz hm hz hcz hgz hmz
          by_cases hw : (((fs i).W z ∧ (Hs (i + 1)).low ≤ z) ∧ z < (Hs i).next) ∨ (Hs i).next ≤ z
          · rcases stl.owns z oz hw z1 with hoz | ⟨hlt, heq⟩
            · have hlt := (inv.cells x k ox px hk hcx' hgx hmx).inReg_lt hr
              have hO := stl.regs pz.block off (by rw [← hb]; exact hlt) ⟨z, oz, pz, hw, z1, hoz, hmz, rfl, hr'⟩
              rw [← hb] at hO
              exact hout x k ox px hk hx hcx' hgx hmx off hr hO
            · obtain ⟨z4, z5⟩ := z3 hlt
              rw [heq] at z1
              exact inv.disj x z k i ox oz px pz off hk (by omega) hcx' z5 hxz hgx z1 hox hmx z4 hb hr hr'
          · have hlt : z < (Hs i).next := by omega
            obtain ⟨z4, z5⟩ := z3 hlt
            rw [stl.abs z hlt (fun h => hw (.inl h))] at z1
            exact inv.disj x z k i ox oz px pz off hk (by omega) hcx' z5 hxz hgx z1 hox hmx z4 hb hr hr'
        · have hcz' := hB z m hm hz hcz
          rw [hBnu z hz] at hmz
          exact inv.disj x z k m ox oz px pz off hk hm hcx' hcz' hxz hgx hgz hox hmx hmz hb hr hr'
    · -- keep
      refine inv.keep.trans stl.keep (fun b off hb hO => ?_)
      obtain ⟨q, oq, pq, q1, q2, q3, q4, q5, q6, q7, q8, q9⟩ := hOwn _ _ hO
      exact inv.regs b off hb q i oq pq (by omega) (.inl q3) q4 q5 q6 q7 q8 q9
    · -- regs
      intro b off hb x k ox px hk hl hc hg hox hm h5 h6
      by_cases hx : (((fs i).D x ∧ x < (Hs i).next) ∨ ((Hs i).next ≤ x ∧ x < (Hs (i + 1)).next))
      · obtain ⟨x1, x2, x3⟩ := hAget x k ox px hk hx hc hg hm
        by_cases hw : (((fs i).W x ∧ (Hs (i + 1)).low ≤ x) ∧ x < (Hs i).next) ∨ (Hs i).next ≤ x
        · have hO := stl.regs b off (Nat.lt_of_lt_of_le hb inv.keep.size) ⟨x, ox, px, hw, x1, hox, hm, h5, h6⟩
          obtain ⟨q, oq, pq, q1, q2, q3, q4, q5, q6, q7, q8, q9⟩ := hOwn _ _ hO
          exact inv.regs b off hb q i oq pq (by omega) (.inl q3) q4 q5 q6 q7 q8 q9
        · have hlt : x < (Hs i).next := by omega
          obtain ⟨x4, x5⟩ := x3 hlt
          rw [stl.abs x hlt (fun h => hw (.inl h))] at x1
          exact inv.regs b off hb x i ox px (by omega) hl x5 x1 hox x4 h5 h6
      · have hc' := hB x k hk hx hc
        rw [hBnu x hx] at hm
        exact inv.regs b off hb x k ox px hk hl hc' hg hox hm h5 h6
    · -- mapd
      intro j hj hj2 x hx ht
      have hle : ∀ x, μ x ≠ none → ν x ≠ none := by
        intro x h
        cases hm : μ x with
        | none => exact absurd hm h
        | some p => rw [st.le x p hm]; simp
      rcases hj with hj | rfl
      · exact hle x (inv.mapd j hj hj2 x hx ht)
      · exact hle x (st.mapd x hx ht)
  -- the step itself
  unfold wpOp
  rw [ho]
  simp only
  have hgd : ∀ j want d, o.guard = some (j, want) → (∃ oj, ops[j]? = some oj ∧ oj.dst = some d) → ∀ v, (Ts i).get d = some v → d < a.tmps.size ∧ VRel μ v (a.tmps.getD d undef) := by
    rintro j want d hg ⟨oj, hj, hdj⟩ v hv
    exact hlook d (looks_guard hg hj hdj) v hv
  have hrel : Rel (fs i).D μ (Hs i) w := by
    -- (the same facts as in 'fin', for what the step looks at)
    have hmade : ∀ x j, j < ops.size → (Hs j).next ≤ x → x < (Hs (j + 1)).next → μ x ≠ none → S j := by
      intro x j hj h1 h2 hm
      have h3 := (y.next_le hcall (k := 0) (m := j) (by omega) (by omega)).1
      have h4 := (y.next_le hcall (k := j + 1) (m := ops.size) (by omega) (by omega)).1
      have h5 := hfresh x (by omega) (by omega)
      obtain ⟨k, hk, hk2, hk3, hk4⟩ := inv.dom x (by rw [h5]; exact hm)
      have := y.new_ne hcall hj hk2 h1 h2 hk3 hk4
      subst this
      exact hk
    have hoj : ∀ {j : Nat}, j < ops.size → ∃ oj, ops[j]? = some oj := fun hj => ⟨_, Array.getElem?_eq_getElem hj⟩
    have hD : ∀ x, (fs i).D x → x < (Hs i).next → μ x ≠ none → Cons ops Hs S x i := by
      intro x hx hlt hm
      refine ⟨fun j hj ht => ?_, fun j hj hj2 ht hS => ?_⟩
      · rcases y.tch hcall (by omega) ht with ⟨h1, h2⟩ | ⟨h1, h2⟩
        · refine Classical.byContradiction fun hS => ?_
          obtain ⟨oj, hj'⟩ := hoj (j := j) (by omega)
          exact (hap hj' (.inl ⟨hj, hS⟩)).2.2.2.2 x hx h2
        · exact hmade x j (by omega) h1 h2 hm
      · by_cases e : j = i
        · subst e; exact hi hS
        · have hn := (y.next_le hcall (k := i) (m := j) (by omega) (by omega)).1
          rcases y.tch hcall hj2 ht with ⟨h1, h2⟩ | ⟨h1, h2⟩
          · obtain ⟨oj, hj'⟩ := hoj hj2
            exact (hap hj' (.inr ⟨by omega, hS⟩)).2.2.2.2 x hx h2
          · omega
    have hl := y.lives hcall i (by omega)
    refine ⟨fun x ox px hx hg hm => ?_, fun x z ox oz px pz off hx hz hxz hgx hgz hox hmx hmz hb hr => ?_, hl⟩
    · exact inv.cells x i ox px (by omega) (hD x hx (hl x ox hg) (by rw [hm]; simp)) hg hm
    · exact inv.disj x z i i ox oz px pz off (by omega) (by omega) (hD x hx (hl x ox hgx) (by rw [hmx]; simp)) (hD z hz (hl z oz hgz) (by rw [hmz]; simp)) hxz hgx hgz hox hmx hmz hb hr
  rcases hstep with ⟨hw, hput, h1, h2, h3, hf⟩ | ⟨v, G, G', q, hw, h1, h2, h3, h4, hf, hput, h5, h6, h7, h8⟩
  · rw [wanted_sound hgd hw]
    simp only [Bool.false_eq_true, if_false]
    exact fin undef undef μ w hput (undef_rel μ) ((StepR.refl hrel _).congr (fun _ => rfl) rfl h1 h2)
  · rw [wanted_sound hgd hw]
    simp only [if_true]
    refine .inl ?_
    have hnn : (Hs (i + 1)).next ≤ (Hs ops.size).next := (y.next_le hcall (k := i + 1) (m := ops.size) (by omega) (by omega)).1
    have h0n : (Hs 0).next ≤ (Hs i).next := (y.next_le hcall (k := 0) (m := i) (by omega) (by omega)).1
    rw [hf] at hrel
    refine aop_sound hcall h3 h4 (hrel.congr h1 h2) (fun x hx u hu => ?_) (fun x hx hx2 => ?_) (fun v' ν w' hv st => ?_)
    · cases x with
      | tmp t => exact (hlook t (looks_tmp hx rfl) u hu).2
      | const c =>
        have hu : cond (closedV c) (some c) none = some u := hu
        obtain ⟨g1, g2⟩ := condN hu
        cases g2
        exact closedV_rel μ g1
      | global g => cases hu
      | func f => cases hu; exact .func _ .nil .nil
    · -- what is new is not in the map
      have h9 := hfresh x (by omega) (by omega)
      refine Classical.byContradiction fun hm => ?_
      obtain ⟨k, hk, hk2, hk3, hk4⟩ := inv.dom x (by rw [h9]; exact hm)
      have := y.new_ne hcall hsz hk2 (by omega) (by omega) hk3 hk4
      subst this
      exact hi hk
    · refine fin v v' ν w' hput hv ?_
      rw [hf]
      refine (st.weaken (Wr' := fun x => (fpOf (Ts i) o q).W x ∧ (Hs (i + 1)).low ≤ x) (fun x hx => ⟨hx.1, Nat.le_trans h7 hx.2⟩)).congr (fun x => (h1 x).symm) h2.symm h5 h6
end
end Go.Am
end
section
set_option linter.unusedVariables false
namespace Go.Am
open Go.RowKit

section
variable {P : Program} {callf : CallF} {n : Nat} {ops : Array Oper} {Ts : Nat → Tr Value} {Hs : Nat → Heap} {fs : Nat → Fp}

theorem countP_lt {p q : Nat → Bool} : ∀ {l : List Nat} {i : Nat}, (∀ x, q x = true → p x = true) → i ∈ l → p i = true → q i = false → l.countP q < l.countP p
  | [], i, _, h, _, _ => by simp at h
  | x :: l, i, hs, h, hp, hq => by
    have hle : ∀ l : List Nat, l.countP q ≤ l.countP p := fun l => List.countP_mono_left (fun x _ => hs x)
    rcases List.mem_cons.1 h with rfl | h
    · rw [List.countP_cons_of_pos hp, List.countP_cons_of_neg (by simp [hq])]
      have := hle l; omega
    · have ih := countP_lt hs h hp hq
      rw [List.countP_cons, List.countP_cons]
      by_cases hqx : q x = true
      · rw [if_pos hqx, if_pos (hs x hqx)]; omega
      · rw [if_neg hqx]; omega

theorem Way.any (hcall : CallSound P callf) (y : Way P callf n ops Ts Hs fs) {μ0 : Mu} {w0 : World} {a0 : Act} {Q : Exit → Act → World → Prop} (hfresh : ∀ i, (Hs 0).next ≤ i → i < (Hs ops.size).next → μ0 i = none)
    (hQ : ∀ μ a w S, (∀ j, j < ops.size → S j) → Inv n ops Ts Hs fs μ0 w0 a0 S μ a w → Q .normal a w) : ∀ (fuel : Nat) (listed : Array Bool) (μ : Mu) (a : Act) (w : World), listed.size = ops.size → (List.range ops.size).countP (fun j => !listed.getD j true) ≤ fuel →
    (∀ z oz, listed.getD z false = true → ops[z]? = some oz → ∀ e ∈ oz.after.toList, bindsB e = true → listed.getD e.on false = true) → Inv n ops Ts Hs fs μ0 w0 a0 (fun z => listed.getD z false = true) μ a w → wpAny P .any ops Q fuel listed a w := by
  intro fuel
  -- facts of what is listed
  have closed : ∀ (listed : Array Bool), (∀ z oz, listed.getD z false = true → ops[z]? = some oz → ∀ e ∈ oz.after.toList, bindsB e = true → listed.getD e.on false = true) → ∀ z x, listed.getD z false = true → Bef ops x z → listed.getD x false = true := by
    intro listed hd z
    induction z using Nat.strongRecOn with
    | _ z ih =>
      intro x hz hb
      obtain ⟨o, e, h1, h2, h3, h4, h5⟩ := hb.edge
      have h6 := hd z o hz h1 e h2 h3
      rcases h5 with rfl | h5
      · exact h6
      · exact ih e.on h4 x h6 h5
  have ready : ∀ (listed : Array Bool) (i : Nat), listed.size = ops.size → (i ∈ Region.ready .any ops listed ↔ i < ops.size ∧ listed.getD i true = false ∧ ∀ o, ops[i]? = some o → ∀ e ∈ o.after.toList, bindsB e = true → listed.getD e.on false = true) := by
    intro listed i hs
    unfold Region.ready
    rw [List.mem_filter, List.mem_range]
    constructor
    · rintro ⟨h1, h2⟩
      rw [Bool.and_eq_true, Bool.not_eq_true'] at h2
      refine ⟨h1, h2.1, fun o ho e he hb => ?_⟩
      have h3 := h2.2
      rw [ho] at h3
      simp only [Option.map_some, Option.getD_some] at h3
      have h4 := (Array.all_eq_true_iff_forall_mem.1 h3) e (by simpa using he)
      rw [binds_any, hb] at h4
      simpa using h4
    · rintro ⟨h1, h2, h3⟩
      refine ⟨h1, ?_⟩
      rw [h2]
      have ho := Array.getElem?_eq_getElem (xs := ops) h1
      rw [ho]
      simp only [Option.map_some, Option.getD_some, Bool.not_false, Bool.true_and]
      refine Array.all_eq_true_iff_forall_mem.2 (fun e he => ?_)
      rw [binds_any]
      cases hb : bindsB e with
      | false => rfl
      | true => rw [h3 _ ho e (by simpa using he) hb]; rfl
  have getD_eq : ∀ (listed : Array Bool) (i : Nat), listed.size = ops.size → i < ops.size → listed.getD i true = listed.getD i false := by
    intro listed i hs hi
    simp [Array.getD, hs, hi]
  have done : ∀ (listed : Array Bool), listed.size = ops.size → Region.ready .any ops listed = [] → ∀ j, j < ops.size → listed.getD j false = true := by
    intro listed hs hr j
    induction j using Nat.strongRecOn with
    | _ j ih =>
      intro hj
      refine Classical.byContradiction fun hn => ?_
      have hm : j ∈ Region.ready .any ops listed := (ready listed j hs).2 ⟨hj, by rw [getD_eq listed j hs hj]; simpa using hn, fun o ho e he hb => ih e.on (y.edges j o ho e he hb) (Nat.lt_trans (y.edges j o ho e he hb) hj)⟩
      rw [hr] at hm
      simp at hm
  have one : ∀ (fuel : Nat) (listed : Array Bool) (μ : Mu) (a : Act) (w : World), (∀ (listed : Array Bool) (μ : Mu) (a : Act) (w : World), listed.size = ops.size → (List.range ops.size).countP (fun j => !listed.getD j true) ≤ fuel →
      (∀ z oz, listed.getD z false = true → ops[z]? = some oz → ∀ e ∈ oz.after.toList, bindsB e = true → listed.getD e.on false = true) → Inv n ops Ts Hs fs μ0 w0 a0 (fun z => listed.getD z false = true) μ a w → wpAny P .any ops Q fuel listed a w) →
      listed.size = ops.size → (List.range ops.size).countP (fun j => !listed.getD j true) ≤ fuel + 1 → (∀ z oz, listed.getD z false = true → ops[z]? = some oz → ∀ e ∈ oz.after.toList, bindsB e = true → listed.getD e.on false = true) →
      Inv n ops Ts Hs fs μ0 w0 a0 (fun z => listed.getD z false = true) μ a w → ∀ i ∈ Region.ready .any ops listed, wpOp P ops Q i (wpAny P .any ops Q fuel (listed.setIfInBounds i true)) a w := by
    intro fuel listed μ a w ih hs hc hd inv i hi
    obtain ⟨h1, h2, h3⟩ := (ready listed i hs).1 hi
    have ho := Array.getElem?_eq_getElem (xs := ops) h1
    have hni : ¬ listed.getD i false = true := by rw [← getD_eq listed i hs h1, h2]; simp
    have hset : ∀ z (d : Bool), (listed.setIfInBounds i true).getD z d = if z = i then true else listed.getD z d := by
      intro z d
      simp only [Array.getD_eq_getD_getElem?, Array.getElem?_setIfInBounds]
      by_cases e : i = z
      · subst e; simp [hs, h1]
      · rw [if_neg e, if_neg (fun x => e x.symm)]
    refine Inv.step hcall y inv hfresh (fun x z hz hb => closed listed hd z x hz hb) ho hni (fun x hb => ?_) (fun μ' a' w' inv' => ?_)
    · obtain ⟨o, e, g1, g2, g3, g4, g5⟩ := hb.edge
      have g6 := h3 o g1 e g2 g3
      rcases g5 with rfl | g5
      · exact g6
      · exact closed listed hd e.on x g6 g5
    · refine ih (listed.setIfInBounds i true) μ' a' w' (by simp [hs]) ?_ ?_ ?_
      · have := countP_lt (p := fun j => !listed.getD j true) (q := fun j => !(listed.setIfInBounds i true).getD j true) (l := List.range ops.size) (i := i) (fun x hx => by
          simp only [hset] at hx ⊢
          by_cases e : x = i
          · rw [if_pos e] at hx; simp at hx
          · rw [if_neg e] at hx; exact hx) (List.mem_range.2 h1) (by simp [h2]) (by simp [hset])
        omega
      · intro z oz hz hoz e he hb
        rw [hset] at hz ⊢
        by_cases e2 : e.on = i
        · rw [if_pos e2]
        · rw [if_neg e2]
          by_cases e3 : z = i
          · subst e3; exact h3 oz hoz e he hb
          · rw [if_neg e3] at hz; exact hd z oz hz hoz e he hb
      · have : (fun z => (listed.setIfInBounds i true).getD z false = true) = (fun z => listed.getD z false = true ∨ z = i) := by
          funext z
          rw [hset]
          by_cases e : z = i
          · simp [e]
          · rw [if_neg e]; simp [e]
        rw [this]
        exact inv'
  induction fuel with
  | zero =>
    intro listed μ a w hs hc hd inv
    have hr : Region.ready .any ops listed = [] := by
      rw [List.eq_nil_iff_forall_not_mem]
      intro i hi
      obtain ⟨h1, h2, _⟩ := (ready listed i hs).1 hi
      have := List.countP_eq_zero.1 (Nat.le_zero.1 hc) i (List.mem_range.2 h1)
      simp [h2] at this
    exact ⟨hr, hQ μ a w _ (done listed hs hr) inv⟩
  | succ fuel ih =>
    intro listed μ a w hs hc hd inv
    exact ⟨fun hr => hQ μ a w _ (done listed hs hr) inv, one fuel listed μ a w ih hs hc hd inv⟩

/-- All steps are done: the world stands to the end as the abstract machine tells. -/
theorem Inv.final (hcall : CallSound P callf) (y : Way P callf n ops Ts Hs fs) {μ0 : Mu} {w0 : World} {a0 : Act} {S : Nat → Prop} {μ : Mu} {a : Act} {w : World} (hS : ∀ j, j < ops.size → S j) (inv : Inv n ops Ts Hs fs μ0 w0 a0 S μ a w) :
    a.defers = a0.defers ∧ TRel μ n (Ts ops.size) a ∧ StepR (fun _ => True) (fun i => (Hs ops.size).low ≤ i) μ0 (Hs 0) w0 μ (Hs ops.size) w := by
  have hc : ∀ x, Cons ops Hs S x ops.size := fun x => ⟨fun j hj _ => hS j hj, fun j hj hj2 => absurd hj2 (by omega)⟩
  have hlo : ∀ {j}, j < ops.size → (Hs 0).next ≤ (Hs j).next := fun hj => (y.next_le hcall (k := 0) (by omega) (by omega)).1
  have hhi : ∀ {j}, j < ops.size → (Hs (j + 1)).next ≤ (Hs ops.size).next ∧ (Hs ops.size).low ≤ (Hs (j + 1)).low := fun hj => y.next_le hcall (k := _ + 1) (by omega) (Nat.le_refl _)
  have hex : ∀ x, (Hs ops.size).get x ≠ (Hs 0).get x → ∃ j, j < ops.size ∧ Tch Hs j x := by
    intro x hx
    refine Classical.byContradiction fun hn => hx (y.get_same (Nat.zero_le _) (Nat.le_refl _) (fun j _ hj ht => hn ⟨j, hj, ht⟩))
  have hown : ∀ k, k ≤ ops.size → ∀ x o, (Hs k).get x = some o → o.own = true ∨ (Hs 0).get x = some o := by
    intro k
    induction k with
    | zero => exact fun _ x o h => .inr h
    | succ k ih =>
      intro hk x o h
      rcases (y.hs hcall (k := k) (by omega)).owns x o h with h1 | h1
      · exact .inl h1
      · exact ih (by omega) x o h1
  refine ⟨inv.defers, ⟨inv.size, fun t v hv => inv.tmps t ops.size v (Nat.le_refl _) (fun j o hj _ _ => hS j hj) (fun j o hj ho _ => absurd (lt_size ho) (by omega)) hv⟩, ?_⟩
  refine ⟨inv.le, fun i hi => ?_, (y.next_le hcall (Nat.zero_le _) (Nat.le_refl _)).1, fun i hi hn => ?_, ⟨fun i o p _ hg hm => inv.cells i ops.size o p (Nat.le_refl _) (hc i) hg hm, fun i j o o' p p' off _ _ hij hg hg' ho hm hm' hb => inv.disj i j ops.size ops.size o o' p p' off (Nat.le_refl _) (Nat.le_refl _) (hc i) (hc j) hij hg hg' ho hm hm' hb, y.lives hcall _ (Nat.le_refl _)⟩, inv.keep, ?_, ?_, ?_⟩
  · obtain ⟨k, _, h2, h3, h4⟩ := inv.dom i hi
    have := hlo h2
    have := (hhi h2).1
    omega
  · refine Classical.byContradiction fun hne => ?_
    obtain ⟨j, hj, ht⟩ := hex i hne
    have h5 := hlo hj
    have h6 := ((y.hs hcall hj).abs i (by omega) ht).2
    exact hn (Nat.le_trans (hhi hj).2 h6)
  · rintro b off hb ⟨i, o, p, h1, h2, h3, h4, h5, h6⟩
    exact inv.regs b off hb i ops.size o p (Nat.le_refl _) h1 (hc i) h2 h3 h4 h5 h6
  · intro i o _ hg
    rcases hown _ (Nat.le_refl _) i o hg with h1 | h1
    · exact .inl h1
    · exact .inr ⟨y.live i o h1, by rw [hg, h1]⟩
  · intro i hi hne
    obtain ⟨j, hj, ht⟩ := hex i hne
    have h5 := hlo hj
    have h6 := inv.mapd j (hS j hj) hj i (by omega) ht
    by_cases e : μ i = μ0 i
    · rw [← e]; exact h6
    · obtain ⟨k, _, h2, h3, _⟩ := inv.dom i e
      have := hlo h2
      omega

/- The way, out of the run. -/
theorem way_plain : ∀ (l : List Oper) (T T' : Tr Value) (h h' : Heap) {L : List Oper}, CallSound P callf → aops P callf n L l T h = some (T', h') →
    ∃ (Ts : Nat → Tr Value) (Hs : Nat → Heap) (fs : Nat → Fp), Ts 0 = T ∧ Hs 0 = h ∧ Ts l.length = T' ∧ Hs l.length = h' ∧ ∀ k o, l[k]? = some o → SOK P callf n L o (Ts k) (Hs k) (Ts (k + 1)) (Hs (k + 1)) (fs k) ∧ (fs k = .none ∨ ∃ T q, fs k = fpOf T o q)
  | [], T, T', h, h', L, hcall, e => by
    cases e
    exact ⟨fun _ => T, fun _ => h, fun _ => .none, rfl, rfl, rfl, rfl, fun k o ho => by simp at ho⟩
  | o :: l, T, T', h, h', L, hcall, e => by
    unfold aops at e
    split at e
    · rename_i T1 h1 hst
      obtain ⟨Ts, Hs, fs, a1, a2, a3, a4, a5⟩ := way_plain l T1 T' h1 h' hcall e
      have hs : ∃ f, SOK P callf n L o T h T1 h1 f ∧ (f = .none ∨ ∃ T q, f = fpOf T o q) := by
        unfold astep at hst
        split at hst
        · cases hst
        · rename_i hw
          split at hst
          · rename_i hp
            cases hst
            exact ⟨.none, .inl ⟨hw, hp, fun _ => rfl, rfl, Nat.le_refl _, rfl⟩, .inl rfl⟩
          · cases hst
        · rename_i hw
          split at hst
          · rename_i v h2 hao
            split at hst
            · rename_i hp
              cases hst
              exact ⟨fpOf T o false, .inr ⟨v, h, h1, false, hw, fun _ => rfl, rfl, hao, by simp, rfl, hp, fun _ => rfl, rfl, Nat.le_refl _, (aop_mono hcall hao).2⟩, .inr ⟨T, false, rfl⟩⟩
            · cases hst
          · cases hst
      obtain ⟨f, hf, hf2⟩ := hs
      refine ⟨fun k => match k with | 0 => T | k + 1 => Ts k, fun k => match k with | 0 => h | k + 1 => Hs k, fun k => match k with | 0 => f | k + 1 => fs k, rfl, rfl, a3, a4, fun k o' ho => ?_⟩
      cases k with
      | zero =>
        simp at ho
        subst ho
        show SOK P callf n L o T h (Ts 0) (Hs 0) f ∧ _
        rw [a1, a2]
        exact ⟨hf, hf2⟩
      | succ k => exact a5 k o' (by simpa using ho)
    · cases e

theorem way_checked : ∀ (l : List Oper) (T T' : Tr Value) (h h' : Heap) (gs : List Fp) {L : List Oper}, aopsC P callf n L l T h = some (T', h', gs) →
    ∃ (Ts : Nat → Tr Value) (Hs : Nat → Heap) (fs : Nat → Fp), Ts 0 = T ∧ Hs 0 = h ∧ Ts l.length = T' ∧ Hs l.length = h' ∧ (∀ k o, l[k]? = some o → SOK P callf n L o (Ts k) (Hs k) (Ts (k + 1)) (Hs (k + 1)) (fs k) ∧ (fs k = .none ∨ ∃ T q, fs k = fpOf T o q)) ∧ ∀ k f, gs[k]? = some f → fs k = f
  | [], T, T', h, h', gs, L, e => by
    cases e
    exact ⟨fun _ => T, fun _ => h, fun _ => .none, rfl, rfl, rfl, rfl, fun k o ho => by simp at ho, fun k f hf => by simp at hf⟩
  | o :: l, T, T', h, h', gs, L, e => by
    unfold aopsC at e
    split at e
    · rename_i T1 h1 f hst
      split at e
      · rename_i T2 h2 gs' he
        cases e
        obtain ⟨Ts, Hs, fs, a1, a2, a3, a4, a5, a6⟩ := way_checked l T1 T' h1 h' gs' he
        have hs : SOK P callf n L o T h T1 h1 f ∧ (f = .none ∨ ∃ T q, f = fpOf T o q) := by
          unfold astepC at hst
          split at hst
          · cases hst
          · rename_i hw
            split at hst
            · rename_i hp
              cases hst
              exact ⟨.inl ⟨hw, hp, fun _ => rfl, rfl, Nat.le_refl _, rfl⟩, .inl rfl⟩
            · cases hst
          · rename_i hw
            split at hst
            · rename_i v h2 hao
              split at hst
              · rename_i hp
                cases hst
                refine ⟨.inr ⟨v, ⟨h.objs, h.next, h.next⟩, h2, _, hw, fun _ => rfl, rfl, hao, fun hq => Nat.le_of_ble_eq_true hq, rfl, hp, fun _ => rfl, rfl, ?_, ?_⟩, .inr ⟨T, _, rfl⟩⟩
                · show cond (Nat.ble h.low h2.low) h.low h2.low ≤ h2.low
                  cases e : Nat.ble h.low h2.low with
                  | true => exact Nat.le_of_ble_eq_true e
                  | false => exact Nat.le_refl _
                · show cond (Nat.ble h.low h2.low) h.low h2.low ≤ h.low
                  cases e : Nat.ble h.low h2.low with
                  | true => exact Nat.le_refl _
                  | false =>
                    have : ¬ h.low ≤ h2.low := fun x => by rw [Nat.ble_eq_true_of_le x] at e; cases e
                    simp only [cond_false]; omega
              · cases hst
            · cases hst
        refine ⟨fun k => match k with | 0 => T | k + 1 => Ts k, fun k => match k with | 0 => h | k + 1 => Hs k, fun k => match k with | 0 => f | k + 1 => fs k, rfl, rfl, a3, a4, fun k o' ho => ?_, fun k g hg => ?_⟩
        · cases k with
          | zero =>
            simp at ho
            subst ho
            show SOK P callf n L o T h (Ts 0) (Hs 0) f ∧ _
            rw [a1, a2]
            exact hs
          | succ k => exact a5 k o' (by simpa using ho)
        · cases k with
          | zero => simpa using hg
          | succ k => exact a6 k g (by simpa using hg)
      · cases e
    · cases e

theorem pairsOk_spec {gs : List Fp} : ∀ {l : List (Nat × Nat)}, pairsOk gs l = true → ∀ i j, (i, j) ∈ l → ∃ f g, gs[i]? = some f ∧ gs[j]? = some g ∧ fpOk f g = true
  | [], _, i, j, h => by simp at h
  | (x, z) :: l, h, i, j, hm => by
    unfold pairsOk at h
    split at h
    · rename_i f g hf hg
      rw [nth_eq] at hf hg
      cases hc : fpOk f g with
      | false => rw [hc] at h; cases h
      | true =>
        rw [hc] at h
        rcases List.mem_cons.1 hm with h1 | h1
        · cases h1; exact ⟨f, g, hf, hg, hc⟩
        · exact pairsOk_spec h i j h1
    · cases h

theorem fp_any {f g : Fp} {o p : Oper} (hf : f = .none ∨ ∃ T q, f = fpOf T o q) (hg : g = .none ∨ ∃ T q, g = fpOf T p q) (h : confl (kindOf o) (kindOf p) = false) : fpOk f g = true := by
  rcases hf with rfl | ⟨T, q, rfl⟩
  · rfl
  · rcases hg with rfl | ⟨U, r, rfl⟩
    · exact fpOk_none_right _
    · exact fpOk_kind h

/-- A region, in order or not. -/
theorem aregion_sound (hm : P.follows .mixedOrders = true) (hcall : CallSound P callf) {id : Nat} {draw : Bool} {T T' : Tr Value} {h h' : Heap} {μ : Mu} {w : World} {a : Act} {Q : Exit → Act → World → Prop}
    (hop : aregion P callf n ops draw T h = some (T', h')) (r : Rel (fun _ => True) μ h w) (rt : TRel μ n T a) (hf : ∀ i, h.next ≤ i → i < h'.next → μ i = none)
    (hQ : ∀ a' ν w', a'.defers = a.defers → TRel ν n T' a' → StepR (fun _ => True) (fun i => h'.low ≤ i) μ h w ν h' w' → Q .normal a' w') : (Code.region id ops draw).wp P Q a w := by
  cases draw with
  | false =>
    have := aops_sound hcall (Q := Q) ops.toList 0 (by simp) T T' h h' μ w a hop r rt hf hQ
    refine wp_region ?_
    rwa [Array.length_toList, ← List.range_eq_range'] at this
  | true =>
    have r' : Rel (fun _ => True) μ h { w with drawn := w.drawn + 1 } := r.sameHeap rfl
    have key : ∀ (Ts : Nat → Tr Value) (Hs : Nat → Heap) (fs : Nat → Fp), Ts 0 = T → Hs 0 = h → Ts ops.size = T' → Hs ops.size = h' → Way P callf n ops Ts Hs fs → (Code.region id ops true).wp P Q a w := by
      intro Ts Hs fs e1 e2 e3 e4 y
      refine wp_region_any hm ?_
      refine y.any hcall (μ0 := μ) (w0 := { w with drawn := w.drawn + 1 }) (a0 := a) (by rw [e2, e4]; exact hf) (fun ν a' w' S hS inv => ?_) ops.size _ μ a _ (by simp) ?_ ?_ ?_
      · obtain ⟨h1, h2, h3⟩ := inv.final hcall y hS
        rw [e3] at h2
        rw [e2, e4] at h3
        refine hQ a' ν w' h1 h2 ?_
        have h0 : StepR (fun _ => True) (fun i => h'.low ≤ i) μ h w μ h { w with drawn := w.drawn + 1 } := StepR.same (w' := { w with drawn := w.drawn + 1 }) r rfl rfl rfl rfl _
        exact h0.trans ((h3.weaken (fun i hi => .inl hi)).domain (fun _ _ => .inl trivial))
      · refine Nat.le_trans (List.countP_le_length) ?_
        simp
      · intro z oz hz
        simp [Array.getD] at hz
      · have : (fun z => (Array.replicate ops.size false).getD z false = true) = (fun _ => False) := by
          funext z
          simp [Array.getD]
        rw [this]
        exact Inv.init hcall y (by rw [e2]; exact r') (by rw [e1]; exact rt)
    simp only [aregion] at hop
    split at hop
    · cases hop
    · rename_i hok
      obtain ⟨Ts, Hs, fs, a1, a2, a3, a4, a5⟩ := way_plain ops.toList T T' h h' hcall hop
      obtain ⟨d1, d2⟩ := drawOk_spec hok
      refine key Ts Hs fs a1 a2 (by rw [← Array.length_toList]; exact a3) (by rw [← Array.length_toList]; exact a4) ⟨fun k o ho => (a5 k o (by rw [Array.getElem?_toList]; exact ho)).1, d1, fun i j o oj hij ho hoj => ?_, by rw [a2]; exact r.live⟩
      rcases d2 i j o oj hij ho hoj with h1 | ⟨h1, h2 | h2⟩
      · exact .inl h1
      · exact .inr ⟨h1, fp_any (a5 i o (by rw [Array.getElem?_toList]; exact ho)).2 (a5 j oj (by rw [Array.getElem?_toList]; exact hoj)).2 h2⟩
      · simp at h2
    · rename_i p ps hok
      split at hop
      · rename_i T2 h2 gs hC
        obtain ⟨hpo, hop⟩ := condN hop
        cases hop
        obtain ⟨Ts, Hs, fs, a1, a2, a3, a4, a5, a6⟩ := way_checked ops.toList T T' h h' gs hC
        obtain ⟨d1, d2⟩ := drawOk_spec hok
        refine key Ts Hs fs a1 a2 (by rw [← Array.length_toList]; exact a3) (by rw [← Array.length_toList]; exact a4) ⟨fun k o ho => (a5 k o (by rw [Array.getElem?_toList]; exact ho)).1, d1, fun i j o oj hij ho hoj => ?_, by rw [a2]; exact r.live⟩
        rcases d2 i j o oj hij ho hoj with h1 | ⟨h1, h2 | h2⟩
        · exact .inl h1
        · exact .inr ⟨h1, fp_any (a5 i o (by rw [Array.getElem?_toList]; exact ho)).2 (a5 j oj (by rw [Array.getElem?_toList]; exact hoj)).2 h2⟩
        · obtain ⟨f, g, g1, g2, g3⟩ := pairsOk_spec hpo i j h2
          rw [a6 i f g1, a6 j g g2]
          exact .inr ⟨h1, g3⟩
      · cases hop
end
end Go.Am
end
section
set_option linter.unusedVariables false
namespace Go.Am
open Go.RowKit

def exitOf : AExit → Exit
  | .normal => .normal
  | .exit id => .exit id
  | .ret => .ret

section
variable {P : Program} {callf : CallF} {n K : Nat}

theorem aops_hs (hcall : CallSound P callf) {ops : List Oper} : ∀ (l : List Oper) (T T' : Tr Value) (h h' : Heap), aops P callf n ops l T h = some (T', h') → HS (fun _ => True) h h'
  | [], T, T', h, h', e => by cases e; exact HS.refl _ _
  | o :: l, T, T', h, h', e => by
    unfold aops at e
    split at e
    · rename_i T1 h1 hst
      have h2 := aops_hs hcall l _ _ _ _ e
      unfold astep at hst
      split at hst
      · cases hst
      · split at hst
        · cases hst; exact h2
        · cases hst
      · split at hst
        · rename_i hao
          split at hst
          · cases hst
            exact ((aop_hs hcall (q := false) hao (by simp)).mono (fun _ _ => trivial)).trans h2
          · cases hst
        · cases hst
    · cases e
theorem aopsC_hs (hcall : CallSound P callf) {ops : List Oper} : ∀ (l : List Oper) (T T' : Tr Value) (h h' : Heap) (gs : List Fp), aopsC P callf n ops l T h = some (T', h', gs) → HS (fun _ => True) h h'
  | [], T, T', h, h', gs, e => by cases e; exact HS.refl _ _
  | o :: l, T, T', h, h', gs, e => by
    unfold aopsC at e
    split at e
    · rename_i T1 h1 f hst
      split at e
      · rename_i T2 h2 gs' he
        cases e
        have h2 := aopsC_hs hcall l _ _ _ _ _ he
        unfold astepC at hst
        split at hst
        · cases hst
        · split at hst
          · cases hst; exact h2
          · cases hst
        · split at hst
          · rename_i v h3 hao
            split at hst
            · cases hst
              have h4 := aop_hs hcall (q := false) hao (by simp)
              refine HS.trans (b := ⟨h3.objs, h3.next, cond (Nat.ble h.low h3.low) h.low h3.low⟩) ⟨h4.next, ?_, fun i hi e => ⟨trivial, ?_⟩, fun l => h4.live l, fun i o g => h4.owns i o g⟩ h2
              · show cond (Nat.ble h.low h3.low) h.low h3.low ≤ h.low
                cases e : Nat.ble h.low h3.low with
                | true => exact Nat.le_refl _
                | false =>
                  have : ¬ h.low ≤ h3.low := fun x => by rw [Nat.ble_eq_true_of_le x] at e; cases e
                  simp only [cond_false]; omega
              · have h5 := (h4.abs i hi e).2
                refine Nat.le_trans ?_ h5
                show cond (Nat.ble h.low h3.low) h.low h3.low ≤ h3.low
                cases e : Nat.ble h.low h3.low with
                | true => exact Nat.le_of_ble_eq_true e
                | false => exact Nat.le_refl _
            · cases hst
          · cases hst
      · cases e
    · cases e
theorem aregion_hs (hcall : CallSound P callf) {ops : Array Oper} {draw : Bool} {T T' : Tr Value} {h h' : Heap} (e : aregion P callf n ops draw T h = some (T', h')) : HS (fun _ => True) h h' := by
  cases draw with
  | false => exact aops_hs hcall _ _ _ _ _ e
  | true =>
    simp only [aregion] at e
    split at e
    · cases e
    · exact aops_hs hcall _ _ _ _ _ e
    · split at e
      · rename_i hC
        obtain ⟨_, e⟩ := condN e
        cases e
        exact aopsC_hs hcall _ _ _ _ _ _ hC
      · cases e

theorem iter_hs {f : Tr Value → Heap → Option (AExit × Tr Value × Heap)} (hf : ∀ T h e T' h', f T h = some (e, T', h') → HS (fun _ => True) h h') : ∀ (k : Nat) (T T' : Tr Value) (h h' : Heap) (e : AExit), iter f k T h = some (e, T', h') → HS (fun _ => True) h h'
  | 0, _, _, _, _, _, e => by cases e
  | k + 1, T, T', h, h', e, he => by
    unfold iter at he
    split at he
    · rename_i T1 h1 hr
      exact (hf _ _ _ _ _ hr).trans (iter_hs hf k _ _ _ _ _ he)
    · exact hf _ _ _ _ _ he
theorem acode_hs (hcall : CallSound P callf) : ∀ (c : Code) (T T' : Tr Value) (h h' : Heap) (e : AExit), acode P callf n K c T h = some (e, T', h') → HS (fun _ => True) h h' := by
  intro c
  induction c with
  | skip => intro T T' h h' e he; cases he; exact HS.refl _ _
  | exit id => intro T T' h h' e he; cases he; exact HS.refl _ _
  | ret => intro T T' h h' e he; cases he; exact HS.refl _ _
  | region id ops draw =>
    intro T T' h h' e he
    simp only [acode] at he
    split at he
    · rename_i hr; cases he; exact aregion_hs hcall hr
    · cases he
  | seq a b iha ihb =>
    intro T T' h h' e he
    simp only [acode] at he
    split at he
    · rename_i hr
      exact (iha _ _ _ _ _ hr).trans (ihb _ _ _ _ _ he)
    · exact iha _ _ _ _ _ he
  | cond c a b iha ihb =>
    intro T T' h h' e he
    simp only [acode] at he
    split at he
    · exact iha _ _ _ _ _ he
    · exact ihb _ _ _ _ _ he
    · cases he
  | block id c ih =>
    intro T T' h h' e he
    simp only [acode] at he
    split at he
    · rename_i hr
      rcases cond_or he with he | he <;> cases he <;> exact ih _ _ _ _ _ hr
    · exact ih _ _ _ _ _ he
  | loop c ih =>
    intro T T' h h' e he
    exact iter_hs (fun T h e T' h' => ih T T' h h' e) K _ _ _ _ _ he
  | _ => intro T T' h h' e he; simp [acode] at he

theorem step_trans {μ ν ξ : Mu} {h h1 h2 : Heap} {w w1 w2 : World} (s : StepR (fun _ => True) (fun i => h1.low ≤ i) μ h w ν h1 w1) (t : StepR (fun _ => True) (fun i => h2.low ≤ i) ν h1 w1 ξ h2 w2) (hl : h2.low ≤ h1.low) : StepR (fun _ => True) (fun i => h2.low ≤ i) μ h w ξ h2 w2 :=
  (s.weaken (fun i hi => Nat.le_trans hl hi)).trans ((t.weaken (fun i hi => .inl hi)).domain (fun _ _ => .inl trivial))
theorem fresh_after {μ ν : Mu} {h h1 h2 : Heap} {w w1 : World} {D W : Nat → Prop} (s : StepR D W μ h w ν h1 w1) (hf : ∀ i, h.next ≤ i → i < h2.next → μ i = none) : ∀ i, h1.next ≤ i → i < h2.next → ν i = none := by
  intro i h3 h4
  have h5 := hf i (Nat.le_trans s.next h3) h4
  by_cases e : ν i = μ i
  · rw [e]; exact h5
  · have := s.dom i e; omega

/-- Whatever code does to the abstract machine, it does to the world. -/
theorem acode_sound (hm : P.follows .mixedOrders = true) (hcall : CallSound P callf) : ∀ (c : Code) (T T' : Tr Value) (h h' : Heap) (e : AExit) (μ : Mu) (w : World) (a : Act) (Q : Exit → Act → World → Prop), acode P callf n K c T h = some (e, T', h') →
    Rel (fun _ => True) μ h w → TRel μ n T a → (∀ i, h.next ≤ i → i < h'.next → μ i = none) →
    (∀ a' ν w', a'.defers = a.defers → TRel ν n T' a' → StepR (fun _ => True) (fun i => h'.low ≤ i) μ h w ν h' w' → Q (exitOf e) a' w') → c.wp P Q a w := by
  intro c
  induction c with
  | skip => intro T T' h h' e μ w a Q he r rt hf hQ; cases he; exact wp_skip (hQ a μ w rfl rt (.refl r _))
  | exit id => intro T T' h h' e μ w a Q he r rt hf hQ; cases he; exact wp_exit (hQ a μ w rfl rt (.refl r _))
  | ret => intro T T' h h' e μ w a Q he r rt hf hQ; cases he; exact wp_ret (hQ a μ w rfl rt (.refl r _))
  | region id ops draw =>
    intro T T' h h' e μ w a Q he r rt hf hQ
    simp only [acode] at he
    split at he
    · rename_i hr
      cases he
      exact aregion_sound hm hcall hr r rt hf hQ
    · cases he
  | seq x y ihx ihy =>
    intro T T' h h' e μ w a Q he r rt hf hQ
    simp only [acode] at he
    split at he
    · rename_i T1 h1 hr
      have h2 := acode_hs hcall _ _ _ _ _ _ he
      refine wp_seq (ihx T T1 h h1 .normal μ w a _ hr r rt (fun i hi hi2 => hf i hi (Nat.lt_of_lt_of_le hi2 h2.next)) (fun a' ν w' d1 t1 s1 => ?_))
      exact ihy T1 T' h1 h' e ν w' a' Q he (s1.rel.mono (fun _ _ => .inl trivial)) t1 (fresh_after s1 hf) (fun a'' ξ w'' d2 t2 s2 => hQ a'' ξ w'' (d2.trans d1) t2 (step_trans s1 s2 h2.low))
    · rename_i hne
      have hne' : e ≠ .normal := by rintro rfl; exact hne _ _ he
      refine wp_seq (ihx T T' h h' e μ w a _ he r rt hf (fun a' ν w' d1 t1 s1 => ?_))
      have := hQ a' ν w' d1 t1 s1
      cases e with
      | normal => exact absurd rfl hne'
      | exit id => exact this
      | ret => exact this
  | cond c x y ihx ihy =>
    intro T T' h h' e μ w a Q he r rt hf hQ
    simp only [acode] at he
    split at he
    · rename_i hc
      have h1 := rt.ev c _ hc
      have h2 : a.eval c = .bool true := by generalize a.eval c = v at h1; cases h1; rfl
      exact wp_cond_true h2 (ihx T T' h h' e μ w a Q he r rt hf hQ)
    · rename_i hc
      have h1 := rt.ev c _ hc
      have h2 : a.eval c = .bool false := by generalize a.eval c = v at h1; cases h1; rfl
      exact wp_cond_false h2 (ihy T T' h h' e μ w a Q he r rt hf hQ)
    · cases he
  | block id c ih =>
    intro T T' h h' e μ w a Q he r rt hf hQ
    simp only [acode] at he
    split at he
    · rename_i i T1 h1 hr
      by_cases hi : i = id
      · rw [beqT hi] at he
        cases he
        refine wp_block (ih T T' h h' (.exit i) μ w a _ hr r rt hf (fun a' ν w' d1 t1 s1 => ?_))
        show Exit.inBlock id Q (.exit i) a' w'
        simp only [Exit.inBlock, hi, if_true]
        exact hQ a' ν w' d1 t1 s1
      · rw [beqF hi] at he
        cases he
        refine wp_block (ih T T' h h' (.exit i) μ w a _ hr r rt hf (fun a' ν w' d1 t1 s1 => ?_))
        show Exit.inBlock id Q (.exit i) a' w'
        simp only [Exit.inBlock, hi, if_false]
        exact hQ a' ν w' d1 t1 s1
    · rename_i hne
      refine wp_block (ih T T' h h' e μ w a _ he r rt hf (fun a' ν w' d1 t1 s1 => ?_))
      have := hQ a' ν w' d1 t1 s1
      cases e with
      | normal => exact this
      | exit id' => exact absurd he (hne id' _ _)
      | ret => exact this
  | loop c ih =>
    intro T T' h h' e μ w a Q he r rt hf hQ
    have key : ∀ (k : Nat) (T T' : Tr Value) (h h' : Heap) (e : AExit) (μ : Mu) (w : World) (a : Act), iter (acode P callf n K c) k T h = some (e, T', h') → Rel (fun _ => True) μ h w → TRel μ n T a → (∀ i, h.next ≤ i → i < h'.next → μ i = none) →
        (∀ a' ν w', a'.defers = a.defers → TRel ν n T' a' → StepR (fun _ => True) (fun i => h'.low ≤ i) μ h w ν h' w' → Q (exitOf e) a' w') → Code.rounds P c Q k a w := by
      intro k
      induction k with
      | zero => intro T T' h h' e μ w a he; cases he
      | succ k ihk =>
        intro T T' h h' e μ w a he r rt hf hQ
        unfold iter at he
        unfold Code.rounds
        split at he
        · rename_i T1 h1 hr
          have h2 := iter_hs (fun T h e T' h' => acode_hs hcall c T T' h h' e) k _ _ _ _ _ he
          refine ih T T1 h h1 .normal μ w a _ hr r rt (fun i hi hi2 => hf i hi (Nat.lt_of_lt_of_le hi2 h2.next)) (fun a' ν w' d1 t1 s1 => ?_)
          exact ihk T1 T' h1 h' e ν w' a' he (s1.rel.mono (fun _ _ => .inl trivial)) t1 (fresh_after s1 hf) (fun a'' ξ w'' d2 t2 s2 => hQ a'' ξ w'' (d2.trans d1) t2 (step_trans s1 s2 h2.low))
        · rename_i hne
          have hne' : e ≠ .normal := by rintro rfl; exact hne _ _ he
          refine ih T T' h h' e μ w a _ he r rt hf (fun a' ν w' d1 t1 s1 => ?_)
          have := hQ a' ν w' d1 t1 s1
          cases e with
          | normal => exact absurd rfl hne'
          | exit id => exact this
          | ret => exact this
    exact wp_loop_rounds K (key K T T' h h' e μ w a he r rt hf hQ)
  | _ => intro T T' h h' e μ w a Q he; simp [acode] at he

def getRes (tmps : Array Value) : ResultVar → Sem Value
  | .tmp t => pure (tmps.getD t undef)
  | .cell x t => do loadVar t (← asAddr (tmps.getD x undef))
theorem results_eq (fn : Func) (tmps : Array Value) : results fn tmps = (do let vs ← fn.results.mapM (getRes tmps); pure (if h : vs.size = 1 then vs[0] else .tuple vs)) := by
  unfold results
  have : (fun x : ResultVar => (match x with | .tmp t => pure (tmps.getD t undef) | .cell a t => do loadVar t (← asAddr (tmps.getD a undef)) : Sem Value)) = getRes tmps := by
    funext x
    cases x <;> rfl
  rw [← this]
  rfl

theorem ares_sound {T : Tr Value} {h : Heap} {μ : Mu} {w : World} {a : Act} (r : Rel (fun _ => True) μ h w) (rt : TRel μ n T a) : ∀ {l : List ResultVar} {vs : List Value}, ares P T h l = some vs →
    ∃ vs', (l.mapM (getRes a.tmps)).run P w = .ok vs' w ∧ VRels μ vs vs'
  | [], vs, e => by cases e; exact ⟨[], by simp, .nil⟩
  | .tmp t :: l, vs, e => by
    unfold ares at e
    split at e
    · rename_i v rr hv hr
      cases e
      obtain ⟨vs', h1, h2⟩ := ares_sound r rt hr
      refine ⟨_ :: vs', ?_, .cons (rt.val t v hv).2 h2⟩
      simp only [List.mapM_cons, getRes, Sem.run_bind, Sem.run_pure, Result.andThen_ok, h1]
    · cases e
  | .cell x t :: l, vs, e => by
    unfold ares at e
    split at e
    · rename_i ad hv
      split at e
      · rename_i v rr hl hr
        cases e
        obtain ⟨vs', h1, h2⟩ := ares_sound r rt hr
        have h3 := (rt.val x _ hv).2
        generalize hax : a.tmps.getD x undef = ax at h3
        cases h3 with
        | ptr m =>
          obtain ⟨_, v', h4, h5⟩ := load_sound r trivial m hl
          refine ⟨v' :: vs', ?_, .cons h5 h2⟩
          simp only [List.mapM_cons, getRes, Sem.run_bind, Sem.run_pure, Result.andThen_ok, h1, hax, asAddr, h4]
      · cases e
    · cases e

theorem aresults_sound {fn : Func} {T : Tr Value} {h : Heap} {μ : Mu} {w : World} {a : Act} {v : Value} (r : Rel (fun _ => True) μ h w) (rt : TRel μ n T a) (e : aresults P fn T h = some v) : ∃ v', (results fn a.tmps).run P w = .ok v' w ∧ VRel μ v v' := by
  have key : ∀ {vs : List Value}, ares P T h fn.results.toList = some vs → ∃ vs' : List Value, (results fn a.tmps).run P w = .ok (if h : (vs'.toArray).size = 1 then vs'.toArray[0] else .tuple vs'.toArray) w ∧ VRels μ vs vs' := by
    intro vs hv
    obtain ⟨vs', h1, h2⟩ := ares_sound r rt hv
    refine ⟨vs', ?_, h2⟩
    rw [results_eq, Array.mapM_eq_mapM_toList]
    simp only [Sem.run_bind, Sem.run_map]
    rw [h1]
    simp only [Result.andThen_ok, Sem.run_pure]
  unfold aresults at e
  split at e
  · rename_i u hu
    cases e
    obtain ⟨vs', h1, h2⟩ := key hu
    cases h2 with
    | cons x y =>
      cases y
      exact ⟨_, h1, x⟩
  · rename_i vs hne hu
    cases e
    obtain ⟨vs', h1, h2⟩ := key hu
    refine ⟨.tuple vs'.toArray, ?_, .tuple h2⟩
    rw [h1, dif_neg]
    intro hs
    simp only [List.size_toArray] at hs
    have hl := h2.length
    cases vs with
    | nil => simp only [List.length_nil] at hl; omega
    | cons x l =>
      cases l with
      | nil => exact hne x rfl
      | cons y l => simp only [List.length_cons] at hl; omega
  · cases e

theorem argsT_get : ∀ (l : List Value) (i : Nat) (T : Tr Value) (t : Nat), (argsT l i T).get t = if i ≤ t ∧ t < i + l.length then l[t - i]? else T.get t
  | [], i, T, t => by
    unfold argsT
    rw [if_neg (by rintro ⟨h1, h2⟩; simp only [List.length_nil] at h2; omega)]
  | v :: l, i, T, t => by
    unfold argsT
    rw [argsT_get l (Nat.succ i) (T.set i (some v)) t, Tr.get_set]
    simp only [List.length_cons]
    by_cases h1 : t = i
    · subst h1
      rw [if_neg (by omega), if_pos rfl, if_pos (by omega), Nat.sub_self]
      rfl
    · rw [if_neg h1]
      by_cases h2 : i ≤ t ∧ t < i + (l.length + 1)
      · rw [if_pos h2, if_pos (by omega), show t - i = (t - (i + 1)) + 1 by omega]
        rfl
      · rw [if_neg h2, if_neg (by omega)]

def CallOK (P : Program) (f : FuncId) (args : List Value) (h : Heap) (v : Value) (h' : Heap) : Prop :=
  HS (fun _ => True) h h' ∧ (∀ (cargs : Array Value) (w : World), (callFunc f cargs).run P w = .ok (.enter f cargs) w) ∧
    ∀ (μ : Mu) (w : World) (cargs : Array Value), Rel (fun _ => True) μ h w → (∀ i, h.next ≤ i → i < h'.next → μ i = none) → VRels μ args cargs.toList →
      Calls P f cargs w fun e w' => ∃ v' ν, e = .returned v' ∧ VRel ν v v' ∧ StepR (fun _ => True) (fun i => h'.low ≤ i) μ h w ν h' w'
def SpecSound (P : Program) (sp : FuncId → Option (List Value → Heap → Option (Value × Heap))) : Prop :=
  ∀ f s args h v h', sp f = some s → s args h = some (v, h') → CallOK P f args h v h'

theorem run_enter {f : FuncId} {fn : Func} {c : Code} (hf : P.funcs[f]? = some fn) (hb : fn.body = some c) (hn : (fn.name == "runtime.NumGoroutine") = false) (cargs : Array Value) (w : World) : (callFunc f cargs).run P w = .ok (.enter f cargs) w := by
  have hn' : ¬ fn.name = "runtime.NumGoroutine" := by simpa using hn
  simp [callFunc, hf, hn', hb]

/-- The abstract machine is sound. -/
theorem acall_sound (hm : P.follows .mixedOrders = true) (hn : ∀ (f : FuncId) (fn : Func), P.funcs[f]? = some fn → (fn.name == "runtime.NumGoroutine") = false) {sp : FuncId → Option (List Value → Heap → Option (Value × Heap))} (hs : SpecSound P sp) (K : Nat) :
    ∀ d, CallSound P (acall P sp K d) := by
  intro d
  induction d with
  | zero => intro f args h v h' e; cases e
  | succ d ih =>
    intro f args h v h' e
    unfold acall at e
    split at e
    · rename_i s hsp
      exact hs f s args h v h' hsp e
    · split at e
      · rename_i fn hfn
        split at e
        · rename_i c hb
          obtain ⟨hlen, e⟩ := condN e
          split at e
          · cases e
          · rename_i ex T' h2 hne hc
            split at e
            · rename_i u hu
              cases e
              refine ⟨acode_hs ih _ _ _ _ _ _ hc, run_enter hfn hb (hn f fn hfn), fun μ w cargs r hf hv => ?_⟩
              refine calls_of_wp hfn hb ?_
              have hsz : cargs.size = args.length := by rw [← Array.length_toList]; exact hv.length
              refine acode_sound hm ih c _ T' h h' ex μ w _ _ hc r ⟨?_, fun t v hg => ?_⟩ hf (fun a' ν w' d1 t1 s1 => ?_)
              · simp; omega
              · rw [argsT_get] at hg
                simp only [Nat.zero_le, true_and, Nat.zero_add, Nat.sub_zero] at hg
                by_cases ht : t < args.length
                · rw [if_pos ht] at hg
                  obtain ⟨v', h1, h2⟩ := hv.nth t v hg
                  refine ⟨by simp; omega, ?_⟩
                  have : (cargs ++ Array.replicate (fn.ntmps - cargs.size) undef).getD t undef = v' := by
                    rw [Array.getD_eq_getD_getElem?, Array.getElem?_append_left (by omega), ← Array.getElem?_toList, h1]
                    rfl
                  rw [this]
                  exact h2
                · rw [if_neg ht] at hg
                  cases hg
              · obtain ⟨v', h1, h2⟩ := aresults_sound (s1.rel.mono (fun _ _ => .inl trivial)) t1 hu
                have hfin : a'.defers = [] ∧ ∃ x, (results fn a'.tmps).run P w' = .ok x w' ∧ (∃ v' ν, Ending.returned x = .returned v' ∧ VRel ν v v' ∧ StepR (fun _ => True) (fun i => h'.low ≤ i) μ h w ν h' w') := ⟨d1, v', h1, v', ν, rfl, h2, s1⟩
                cases ex with
                | normal => exact hfin
                | ret => exact hfin
                | exit id => exact absurd rfl (hne id)
            · cases e
          · cases e
        · cases e
      · cases e

theorem closedC_eq {μ : Mu} {v v' : Value} (h : closedC v = true) (r : VRel μ v v') : v' = v := by
  cases r <;> first | rfl | (simp [closedC] at h)
theorem closedL_eq {μ : Mu} : ∀ (l l' : List Value), closedL l = true → VRels μ l l' → l' = l
  | [], l', _, r => by cases r; rfl
  | v :: l, l', h, r => by
    cases r with
    | cons a b =>
      unfold closedL at h
      cases e : closedC v with
      | false => rw [e] at h; cases h
      | true =>
        rw [e] at h
        rw [closedL_eq l _ h b, closedC_eq e a]
theorem closedV_eq {μ : Mu} {v v' : Value} (h : closedV v = true) (r : VRel μ v v') : v' = v := by
  cases r with
  | agg a => rw [closedL_eq _ _ h a]
  | _ => first | rfl | (simp [closedV, closedC] at h)

end
end Go.Am

namespace Go.Am
def toldTrue : Option (Value × Heap) → Bool
  | some (.bool true, _) => true
  | _ => false
end Go.Am
end
section
set_option linter.unusedVariables false
namespace Go.Am
open Go.RowKit

/- What is known of the temporaries. -/
abbrev Env := Nat → Option Value
def E0 : Env := fun _ => none
def upd (E : Env) (k : Nat) (v : Value) : Env := fun j => cond (Nat.beq j k) (some v) (E j)
def Sub (E : Env) (T : Tr Value) : Prop := ∀ j v, E j = some v → T.get j = some v
theorem Sub.set {E : Env} {T : Tr Value} (h : Sub E T) (k : Nat) (v : Value) : Sub (upd E k v) (T.set k (some v)) := by
  intro j u e
  rw [Tr.get_set]
  unfold upd at e
  by_cases hj : j = k
  · rw [if_pos hj]; rw [beqT hj] at e; exact e
  · rw [if_neg hj]; rw [beqF hj] at e; exact h j u e
theorem Sub.none (T : Tr Value) : Sub E0 T := fun j v e => by cases e

def gE (E : Env) : Operand → Option Value
  | .tmp t => E t
  | .const v => cond (closedV v) (some v) none
  | .global _ => none
  | .func f => some (.func (.func f) #[] #[])
def gs (g : Operand → Option Value) : List Operand → Option (List Value)
  | [] => some []
  | x :: l => match g x with
    | some v => (match gs g l with | some r => some (v :: r) | none => none)
    | none => none
def go (g : Operand → Option Value) : Option Operand → Option (Option Value)
  | none => some none
  | some x => match g x with
    | some v => some (some v)
    | none => none
def gps (g : Operand → Option Value) : List (Nat × Operand) → Option (List (Nat × Value))
  | [] => some []
  | (i, x) :: l => match g x with
    | some v => (match gps g l with | some r => some ((i, v) :: r) | none => none)
    | none => none
theorem gE_le {E : Env} {T : Tr Value} (h : Sub E T) {x : Operand} {v : Value} (e : gE E x = some v) : ev T x = some v := by
  cases x with
  | tmp t => exact h _ _ e
  | const c => exact e
  | global i => cases e
  | func f => exact e
theorem gs_le {E : Env} {T : Tr Value} (h : Sub E T) : ∀ {l : List Operand} {r : List Value}, gs (gE E) l = some r → evs T l = some r
  | [], r, e => e
  | x :: l, r, e => by
    unfold gs at e
    split at e
    · rename_i v hv
      split at e
      · rename_i r' hr
        cases e
        simp only [evs, gE_le h hv, gs_le h hr]
      · cases e
    · cases e
theorem go_le {E : Env} {T : Tr Value} (h : Sub E T) {x : Option Operand} {r : Option Value} (e : go (gE E) x = some r) : evo T x = some r := by
  cases x with
  | none => exact e
  | some x =>
    simp only [go] at e
    split at e
    · rename_i v hv
      cases e
      simp only [evo, gE_le h hv]
    · cases e
theorem gps_le {E : Env} {T : Tr Value} (h : Sub E T) : ∀ {l : List (Nat × Operand)} {r : List (Nat × Value)}, gps (gE E) l = some r → evps T l = some r
  | [], r, e => e
  | (i, x) :: l, r, e => by
    unfold gps at e
    split at e
    · rename_i v hv
      split at e
      · rename_i r' hr
        cases e
        simp only [evps, gE_le h hv, gps_le h hr]
      · cases e
    · cases e

/-- An operation, but for calls. -/
def eop (P : Program) (E : Env) (o : Oper) (h : Heap) : Option (Value × Heap) :=
  match o.op with
  | .move x | .assign x => pureR h (gE E x)
  | .pick c a b => (match gE E c with
    | some (.bool t) => pureR h (gE E (cond t a b))
    | _ => none)
  | .alloc e => (match zeroOf P e with
    | some z => some (anew h (cellsOf z))
    | none => none)
  | .box _ x => (match gE E x with
    | some v => some (anew h (cellsOf v))
    | none => none)
  | .build t ps => (match gps (gE E) ps.toList with
    | some l => pureR h (abuild P t l)
    | none => none)
  | .buildSlice t n ps => (match gps (gE E) ps.toList with
    | some l => abuildSlice P h t n l
    | none => none)
  | .load t a => (match gE E a with
    | some (.pointer (some a)) => pureR h (aload P h t a)
    | _ => none)
  | .store t a x => (match gE E a, gE E x with
    | some (.pointer (some a)), some v => (match astore P h t a v with | some h' => some (undef, h') | none => none)
    | _, _ => none)
  | .nilCheck x => (match gE E x with
    | some (.pointer (some a)) => some (.pointer (some a), h)
    | some (.func (.func f) a b) => some (.func (.func f) a b, h)
    | _ => none)
  | .binOp op t x y _ => (match gE E x, gE E y with
    | some a, some b => pureR h (abinop P op t a b)
    | _, _ => none)
  | .unOp op _ x => (match gE E x with
    | some a => pureR h (aunop op a)
    | none => none)
  | .convert s d x => (match gE E x with
    | some a => (match aconvert P s d a with
      | some v => some (v, h)
      | none => (match amark P h s d a with
        | some r => some r
        | none => pureR h (abytes P h s d a)))
    | none => none)
  | .makeFunc (.func f) first captured => (match gs (gE E) first.toList, gs (gE E) captured.toList with
    | some a, some b => some (.func (.func f) ⟨a⟩ ⟨b⟩, h)
    | _, _ => none)
  | .makeSlice t l c => (match gE E l, gE E c with
    | some a, some b => amakeSlice P h t a b
    | _, _ => none)
  | .slice t x lo hi mx => (match gE E x, go (gE E) lo, go (gE E) hi, go (gE E) mx with
    | some v, some a, some b, some c => pureR h (aslice P t v a b c)
    | _, _, _, _ => none)
  | .fieldAddr t x f => (match gE E x with
    | some a => pureR h (afieldAddr P t a f)
    | none => none)
  | .field t x f => (match gE E x with
    | some a => pureR h (afield P t a f)
    | none => none)
  | .indexAddr t x i => (match gE E x, gE E i with
    | some a, some b => pureR h (aindexAddr P t a b)
    | _, _ => none)
  | .index t x i => (match gE E x, gE E i with
    | some a, some b => pureR h (aindex P t a b)
    | _, _ => none)
  | .extract x i => (match gE E x with
    | some (.tuple vs) => pureR h (nth vs.toList i)
    | _ => none)
  | .call c => (match c.callee with
    | .builtin b => (match gs (gE E) c.args.toList with
      | some vs => abuiltin P b c.argTypes.toList vs h
      | none => none)
    | _ => none)
  | _ => none
theorem eop_le {P : Program} {E : Env} {T : Tr Value} (hs : Sub E T) {cf : CallF} {o : Oper} {h h' : Heap} {v : Value} (e : eop P E o h = some (v, h')) : aop P cf T o h = some (v, h') := by
  obtain ⟨dst, op, type, pos, after, guard⟩ := o
  by_cases hmf : ∃ fn a b, op = .makeFunc fn a b
  · obtain ⟨fn, x, y, rfl⟩ := hmf
    cases fn <;> simp only [eop] at e <;> first | (cases e; done) | skip
    simp only [aop]
    split at e
    · rename_i h1 h2
      cases e
      simp only [gs_le hs h1, gs_le hs h2]
    · cases e
  cases op
  case makeFunc fn a b => exact absurd ⟨fn, a, b, rfl⟩ hmf
  all_goals simp only [eop] at e
  all_goals simp only [aop]
  all_goals first | (cases e; done) | skip
  case call c =>
    obtain ⟨callee, args, argTypes⟩ := c
    cases callee <;> simp only at e <;> simp only <;> first | (cases e; done) | skip
    split at e
    · rename_i h1
      simp only [gs_le hs h1]
      exact e
    · cases e
  case pick c a b =>
    split at e
    · rename_i h1
      simp only [gE_le hs h1]
      unfold pureR at e
      split at e
      · rename_i h2
        simp only [gE_le hs h2]; exact e
      · cases e
    · cases e
  case move x =>
    unfold pureR at e
    split at e
    · rename_i h2
      simp only [gE_le hs h2]; exact e
    · cases e
  case assign x =>
    unfold pureR at e
    split at e
    · rename_i h2
      simp only [gE_le hs h2]; exact e
    · cases e
  case alloc t => exact e
  case build t ps =>
    split at e
    · rename_i h1
      simp only [gps_le hs h1]; exact e
    · cases e
  case buildSlice t n ps =>
    split at e
    · rename_i h1
      simp only [gps_le hs h1]; exact e
    · cases e
  case slice t x lo hi mx =>
    split at e
    · rename_i h1 h2 h3 h4
      simp only [gE_le hs h1, go_le hs h2, go_le hs h3, go_le hs h4]; exact e
    · cases e
  case nilCheck x =>
    split at e
    · rename_i h1
      simp only [gE_le hs h1]; exact e
    · rename_i h1
      simp only [gE_le hs h1]; exact e
    · cases e
  all_goals
    split at e
    · first
        | (rename_i h1 h2; simp only [gE_le hs h1, gE_le hs h2]; exact e)
        | (rename_i h1; simp only [gE_le hs h1]; exact e)
    · cases e
/- A region, but for calls. -/
def eput (n : Nat) (E : Env) (dst : Option Tmp) (v : Value) : Option Env :=
  match dst with
  | none => some E
  | some d => cond (Nat.ble (Nat.succ d) n) (some (upd E d v)) none
def ewanted (ops : List Oper) (E : Env) (o : Oper) : Option Bool :=
  match o.guard with
  | none => some true
  | some (j, want) => (match nth ops j with
    | some oj => (match oj.dst with
      | some d => (match E d with
        | some (.bool b) => some (cond want b (!b))
        | some _ => some false
        | none => none)
      | none => some false)
    | none => some false)
def estep (P : Program) (n : Nat) (ops : List Oper) (E : Env) (h : Heap) (o : Oper) : Option (Env × Heap) :=
  match ewanted ops E o with
  | none => none
  | some false => (match eput n E o.dst undef with | some E' => some (E', h) | none => none)
  | some true => (match eop P E o h with
    | some (v, h') => (match eput n E o.dst v with | some E' => some (E', h') | none => none)
    | none => none)
def eops (P : Program) (n : Nat) (ops : List Oper) : List Oper → Env → Heap → Option (Env × Heap)
  | [], E, h => some (E, h)
  | o :: l, E, h => match estep P n ops E h o with
    | some (E', h') => eops P n ops l E' h'
    | none => none
theorem eput_le {n : Nat} {E E' : Env} {T : Tr Value} (hs : Sub E T) {dst : Option Tmp} {v : Value} (e : eput n E dst v = some E') : ∃ T', aput n T dst v = some T' ∧ Sub E' T' := by
  cases dst with
  | none => cases e; exact ⟨T, rfl, hs⟩
  | some d =>
    simp only [eput] at e
    obtain ⟨h1, e⟩ := condN e
    cases e
    exact ⟨_, by simp only [aput, h1, cond_true], hs.set d v⟩
theorem ewanted_le {ops : List Oper} {E : Env} {T : Tr Value} (hs : Sub E T) {o : Oper} {b : Bool} (e : ewanted ops E o = some b) : awanted ops T o = some b := by
  unfold ewanted at e
  unfold awanted
  split at e
  · rename_i hg; simp only [hg]; exact e
  · rename_i j want hg
    simp only [hg]
    split at e
    · rename_i oj hj
      simp only [hj]
      split at e
      · rename_i d hd
        simp only [hd]
        split at e
        · rename_i h1; simp only [hs _ _ h1]; exact e
        · rename_i x hx h1
          simp only [hs _ _ h1]
          exact e
        · cases e
      · rename_i hd; simp only [hd]; exact e
    · rename_i hj; simp only [hj]; exact e
theorem estep_le {P : Program} {n : Nat} {ops : List Oper} {E E' : Env} {T : Tr Value} (hs : Sub E T) {cf : CallF} {o : Oper} {h h' : Heap} (e : estep P n ops E h o = some (E', h')) : ∃ T', astep P cf n ops T h o = some (T', h') ∧ Sub E' T' := by
  unfold estep at e
  unfold astep
  split at e
  · cases e
  · rename_i hw
    simp only [ewanted_le hs hw]
    split at e
    · rename_i E1 hp
      cases e
      obtain ⟨T1, h1, h2⟩ := eput_le hs hp
      exact ⟨T1, by simp only [h1], h2⟩
    · cases e
  · rename_i hw
    simp only [ewanted_le hs hw]
    split at e
    · rename_i v h1 ho
      simp only [eop_le hs ho]
      split at e
      · rename_i E1 hp
        cases e
        obtain ⟨T1, h1, h2⟩ := eput_le hs hp
        exact ⟨T1, by simp only [h1], h2⟩
      · cases e
    · cases e
theorem eops_le {P : Program} {n : Nat} {ops : List Oper} {cf : CallF} : ∀ (l : List Oper) {E E' : Env} {T : Tr Value} (hs : Sub E T) {h h' : Heap} (e : eops P n ops l E h = some (E', h')), ∃ T', aops P cf n ops l T h = some (T', h') ∧ Sub E' T'
  | [], E, E', T, hs, h, h', e => by cases e; exact ⟨T, rfl, hs⟩
  | o :: l, E, E', T, hs, h, h', e => by
    unfold eops at e
    unfold aops
    split at e
    · rename_i E1 h1 ho
      obtain ⟨T1, h2, h3⟩ := estep_le (cf := cf) hs ho
      simp only [h2]
      exact eops_le l h3 e
    · cases e

abbrev cfl (P : Program) (K d : Nat) : CallF := acall P (fun _ => none) K d
/-- A function's call ends so. -/
def RunF (P : Program) (f : FuncId) (args : List Value) (h : Heap) (Q : Value → Heap → Prop) : Prop :=
  ∃ v h', Q v h' ∧ ∃ N, ∀ d, N ≤ d → ∀ K, N ≤ K → cfl P K d f args h = some (v, h')
def RunO (P : Program) (n : Nat) (ops rest : List Oper) (E : Env) (h : Heap) (Q : Env → Heap → Prop) : Prop :=
  ∃ E' h', Q E' h' ∧ ∃ N, ∀ d, N ≤ d → ∀ K, N ≤ K → ∀ T, Sub E T → ∃ T', Sub E' T' ∧ aops P (cfl P K d) n ops rest T h = some (T', h')
def Post (Qn : Env → Heap → Prop) (Qx : Nat → Env → Heap → Prop) (Qr : Env → Heap → Prop) : AExit → Env → Heap → Prop
  | .normal => Qn
  | .exit i => Qx i
  | .ret => Qr
def RunC (P : Program) (n : Nat) (c : Code) (E : Env) (h : Heap) (Qn : Env → Heap → Prop) (Qx : Nat → Env → Heap → Prop) (Qr : Env → Heap → Prop) : Prop :=
  ∃ e E' h', Post Qn Qx Qr e E' h' ∧ ∃ N, ∀ d, N ≤ d → ∀ K, N ≤ K → ∀ T, Sub E T → ∃ T', Sub E' T' ∧ acode P (cfl P K d) n K c T h = some (e, T', h')

theorem RunF.mono {P : Program} {f : FuncId} {args : List Value} {h : Heap} {Q Q' : Value → Heap → Prop} (H : RunF P f args h Q) (w : ∀ v h', Q v h' → Q' v h') : RunF P f args h Q' := by
  obtain ⟨v, h', hq, hN⟩ := H
  exact ⟨v, h', w _ _ hq, hN⟩

section
variable {P : Program} {n : Nat}
theorem RunO.nil {ops : List Oper} {E : Env} {h : Heap} {Q : Env → Heap → Prop} (q : Q E h) : RunO P n ops [] E h Q := ⟨E, h, q, 0, fun d _ K _ T hs => ⟨T, hs, rfl⟩⟩
theorem aops_append {cf : CallF} {ops : List Oper} : ∀ (a b : List Oper) {T T1 : Tr Value} {h h1 : Heap}, aops P cf n ops a T h = some (T1, h1) → aops P cf n ops (a ++ b) T h = aops P cf n ops b T1 h1
  | [], b, T, T1, h, h1, e => by cases e; rfl
  | o :: a, b, T, T1, h, h1, e => by
    simp only [List.cons_append]
    simp only [aops] at e ⊢
    split at e
    · exact aops_append a b e
    · cases e
theorem RunO.part (k : Nat) {ops rest : List Oper} {E E1 : Env} {h h1 : Heap} {Q : Env → Heap → Prop} (e : eops P n ops (rest.take k) E h = some (E1, h1)) (r : RunO P n ops (rest.drop k) E1 h1 Q) : RunO P n ops rest E h Q := by
  obtain ⟨E2, h2, q, N, hN⟩ := r
  refine ⟨E2, h2, q, N, fun d hd K hK T hs => ?_⟩
  obtain ⟨T1, ha, hs1⟩ := eops_le (cf := cfl P K d) _ hs e
  obtain ⟨T2, hs2, hb⟩ := hN d hd K hK T1 hs1
  refine ⟨T2, hs2, ?_⟩
  rw [← List.take_append_drop k rest, aops_append _ _ ha]
  exact hb
theorem RunO.all {ops rest : List Oper} {E E1 : Env} {h h1 : Heap} {Q : Env → Heap → Prop} (e : eops P n ops rest E h = some (E1, h1)) (q : Q E1 h1) : RunO P n ops rest E h Q := by
  refine ⟨E1, h1, q, 0, fun d hd K hK T hs => ?_⟩
  obtain ⟨T1, ha, hs1⟩ := eops_le (cf := cfl P K d) _ hs e
  exact ⟨T1, hs1, ha⟩
theorem RunO.call {ops rest : List Oper} {E : Env} {h : Heap} {Q : Env → Heap → Prop} {dst : Option Tmp} {f : Operand} {args : Array Operand} {ats : Array TypeId} {t : TypeId} {pos : String} {after : Array Edge} {g : FuncId} {first captured : Array Value} {vs : List Value}
    (hf : gE E f = some (.func (.func g) first captured)) (hv : gs (gE E) args.toList = some vs)
    (r : RunF P g (first.toList ++ (vs ++ captured.toList)) h fun v h1 => ∃ E1, eput n E dst v = some E1 ∧ RunO P n ops rest E1 h1 Q) : RunO P n ops (⟨dst, .call ⟨.value f, args, ats⟩, t, pos, after, none⟩ :: rest) E h Q := by
  obtain ⟨v, h1, ⟨E1, hp, E2, h2, q, N2, hN2⟩, N1, hN1⟩ := r
  refine ⟨E2, h2, q, Nat.max N1 N2, fun d hd K hK T hs => ?_⟩
  obtain ⟨T1, ha, hs1⟩ := eput_le hs hp
  obtain ⟨T2, hs2, hb⟩ := hN2 d (Nat.le_trans (Nat.le_max_right _ _) hd) K (Nat.le_trans (Nat.le_max_right _ _) hK) T1 hs1
  refine ⟨T2, hs2, ?_⟩
  unfold aops astep
  simp only [awanted, aop, acallv, gE_le hs hf, gs_le hs hv, hN1 d (Nat.le_trans (Nat.le_max_left _ _) hd) K (Nat.le_trans (Nat.le_max_left _ _) hK), ha]
  exact hb

def Le (E E' : Env) : Prop := ∀ j v, E j = some v → E' j = some v
theorem Le.nil (E : Env) : Le E0 E := fun j v e => by cases e
theorem Le.cons {E E' : Env} {k : Nat} {v : Value} (e : E' k = some v) (h : Le E E') : Le (upd E k v) E' := by
  intro j u g
  unfold upd at g
  by_cases hj : j = k
  · rw [beqT hj] at g; cases g; rw [hj]; exact e
  · rw [beqF hj] at g; exact h j u g
theorem Sub.le {E E' : Env} {T : Tr Value} (h : Sub E' T) (l : Le E E') : Sub E T := fun j v e => h j v (l j v e)
theorem RunC.le {c : Code} {E E1 : Env} {h : Heap} {Qn : Env → Heap → Prop} {Qx : Nat → Env → Heap → Prop} {Qr : Env → Heap → Prop} (l : Le E1 E) (r : RunC P n c E1 h Qn Qx Qr) : RunC P n c E h Qn Qx Qr := by
  obtain ⟨e, E', h', q, N, hN⟩ := r
  exact ⟨e, E', h', q, N, fun d hd K hK T hs => hN d hd K hK T (hs.le l)⟩
theorem RunC.mono {c : Code} {E : Env} {h : Heap} {Qn Qn' : Env → Heap → Prop} {Qx Qx' : Nat → Env → Heap → Prop} {Qr Qr' : Env → Heap → Prop} (r : RunC P n c E h Qn Qx Qr) (a : ∀ E h, Qn E h → Qn' E h) (b : ∀ i E h, Qx i E h → Qx' i E h) (d : ∀ E h, Qr E h → Qr' E h) : RunC P n c E h Qn' Qx' Qr' := by
  obtain ⟨e, E', h', q, N, hN⟩ := r
  refine ⟨e, E', h', ?_, N, hN⟩
  cases e with
  | normal => exact a _ _ q
  | exit i => exact b _ _ _ q
  | ret => exact d _ _ q
theorem RunC.skip {E : Env} {h : Heap} {Qn : Env → Heap → Prop} {Qx : Nat → Env → Heap → Prop} {Qr : Env → Heap → Prop} (q : Qn E h) : RunC P n .skip E h Qn Qx Qr := ⟨.normal, E, h, q, 0, fun d _ K _ T hs => ⟨T, hs, rfl⟩⟩
theorem RunC.exit {i : Nat} {E : Env} {h : Heap} {Qn : Env → Heap → Prop} {Qx : Nat → Env → Heap → Prop} {Qr : Env → Heap → Prop} (q : Qx i E h) : RunC P n (.exit i) E h Qn Qx Qr := ⟨.exit i, E, h, q, 0, fun d _ K _ T hs => ⟨T, hs, rfl⟩⟩
theorem RunC.ret {E : Env} {h : Heap} {Qn : Env → Heap → Prop} {Qx : Nat → Env → Heap → Prop} {Qr : Env → Heap → Prop} (q : Qr E h) : RunC P n .ret E h Qn Qx Qr := ⟨.ret, E, h, q, 0, fun d _ K _ T hs => ⟨T, hs, rfl⟩⟩
theorem RunC.region {i : Nat} {ops : Array Oper} {E : Env} {h : Heap} {Qn : Env → Heap → Prop} {Qx : Nat → Env → Heap → Prop} {Qr : Env → Heap → Prop} (r : RunO P n ops.toList ops.toList E h Qn) : RunC P n (.region i ops false) E h Qn Qx Qr := by
  obtain ⟨E', h', q, N, hN⟩ := r
  refine ⟨.normal, E', h', q, N, fun d hd K hK T hs => ?_⟩
  obtain ⟨T', hs', e⟩ := hN d hd K hK T hs
  exact ⟨T', hs', by simp only [acode, aregion, e]⟩
theorem RunC.draw0 {i : Nat} {ops : Array Oper} {E : Env} {h : Heap} {Qn : Env → Heap → Prop} {Qx : Nat → Env → Heap → Prop} {Qr : Env → Heap → Prop} (hd : drawOk ops = some []) (r : RunO P n ops.toList ops.toList E h Qn) : RunC P n (.region i ops true) E h Qn Qx Qr := by
  obtain ⟨E', h', q, N, hN⟩ := r
  refine ⟨.normal, E', h', q, N, fun d hd' K hK T hs => ?_⟩
  obtain ⟨T', hs', e⟩ := hN d hd' K hK T hs
  exact ⟨T', hs', by simp only [acode, aregion, hd, e]⟩
theorem RunC.seq {a b : Code} {E : Env} {h : Heap} {Qn : Env → Heap → Prop} {Qx : Nat → Env → Heap → Prop} {Qr : Env → Heap → Prop} (r : RunC P n a E h (fun E' h' => RunC P n b E' h' Qn Qx Qr) Qx Qr) : RunC P n (.seq a b) E h Qn Qx Qr := by
  obtain ⟨e, E1, h1, q, N, hN⟩ := r
  cases e with
  | normal =>
    obtain ⟨e2, E2, h2, q2, N2, hN2⟩ := q
    refine ⟨e2, E2, h2, q2, Nat.max N N2, fun d hd K hK T hs => ?_⟩
    obtain ⟨T1, hs1, ea⟩ := hN d (Nat.le_trans (Nat.le_max_left _ _) hd) K (Nat.le_trans (Nat.le_max_left _ _) hK) T hs
    obtain ⟨T2, hs2, eb⟩ := hN2 d (Nat.le_trans (Nat.le_max_right _ _) hd) K (Nat.le_trans (Nat.le_max_right _ _) hK) T1 hs1
    exact ⟨T2, hs2, by simp only [acode, ea, eb]⟩
  | exit i =>
    refine ⟨.exit i, E1, h1, q, N, fun d hd K hK T hs => ?_⟩
    obtain ⟨T1, hs1, ea⟩ := hN d hd K hK T hs
    exact ⟨T1, hs1, by simp only [acode, ea]⟩
  | ret =>
    refine ⟨.ret, E1, h1, q, N, fun d hd K hK T hs => ?_⟩
    obtain ⟨T1, hs1, ea⟩ := hN d hd K hK T hs
    exact ⟨T1, hs1, by simp only [acode, ea]⟩
theorem RunC.cond {x : Operand} {a b : Code} {t : Bool} {E : Env} {h : Heap} {Qn : Env → Heap → Prop} {Qx : Nat → Env → Heap → Prop} {Qr : Env → Heap → Prop} (hx : gE E x = some (.bool t)) (ra : t = true → RunC P n a E h Qn Qx Qr) (rb : t = false → RunC P n b E h Qn Qx Qr) : RunC P n (.cond x a b) E h Qn Qx Qr := by
  cases t with
  | true =>
    obtain ⟨e, E', h', q, N, hN⟩ := ra rfl
    refine ⟨e, E', h', q, N, fun d hd K hK T hs => ?_⟩
    obtain ⟨T', hs', ee⟩ := hN d hd K hK T hs
    exact ⟨T', hs', by simp only [acode, gE_le hs hx, ee]⟩
  | false =>
    obtain ⟨e, E', h', q, N, hN⟩ := rb rfl
    refine ⟨e, E', h', q, N, fun d hd K hK T hs => ?_⟩
    obtain ⟨T', hs', ee⟩ := hN d hd K hK T hs
    exact ⟨T', hs', by simp only [acode, gE_le hs hx, ee]⟩
def Qb (id : Nat) (Qn : Env → Heap → Prop) (Qx : Nat → Env → Heap → Prop) (i : Nat) (E : Env) (h : Heap) : Prop :=
  match Nat.beq i id with
  | true => Qn E h
  | false => Qx i E h
theorem RunC.block {id : Nat} {c : Code} {E : Env} {h : Heap} {Qn : Env → Heap → Prop} {Qx : Nat → Env → Heap → Prop} {Qr : Env → Heap → Prop} (r : RunC P n c E h Qn (Qb id Qn Qx) Qr) : RunC P n (.block id c) E h Qn Qx Qr := by
  obtain ⟨e, E1, h1, q, N, hN⟩ := r
  cases e with
  | normal =>
    refine ⟨.normal, E1, h1, q, N, fun d hd K hK T hs => ?_⟩
    obtain ⟨T1, hs1, ea⟩ := hN d hd K hK T hs
    exact ⟨T1, hs1, by simp only [acode, ea]⟩
  | exit i =>
    have q : Qb id Qn Qx i E1 h1 := q
    unfold Qb at q
    cases hb : Nat.beq i id with
    | true =>
      rw [hb] at q
      refine ⟨.normal, E1, h1, q, N, fun d hd K hK T hs => ?_⟩
      obtain ⟨T1, hs1, ea⟩ := hN d hd K hK T hs
      exact ⟨T1, hs1, by simp only [acode, ea, hb, cond_true]⟩
    | false =>
      rw [hb] at q
      refine ⟨.exit i, E1, h1, q, N, fun d hd K hK T hs => ?_⟩
      obtain ⟨T1, hs1, ea⟩ := hN d hd K hK T hs
      exact ⟨T1, hs1, by simp only [acode, ea, hb, cond_false]⟩
  | ret =>
    refine ⟨.ret, E1, h1, q, N, fun d hd K hK T hs => ?_⟩
    obtain ⟨T1, hs1, ea⟩ := hN d hd K hK T hs
    exact ⟨T1, hs1, by simp only [acode, ea]⟩
theorem RunC.loop {c : Code} {Qn : Env → Heap → Prop} {Qx : Nat → Env → Heap → Prop} {Qr : Env → Heap → Prop} (I : Nat → Env → Heap → Prop)
    (body : ∀ k E h, I k E h → RunC P n c E h (fun E' h' => ∃ k', k' < k ∧ I k' E' h') Qx Qr) {k : Nat} {E : Env} {h : Heap} (hI : I k E h) : RunC P n (.loop c) E h Qn Qx Qr := by
  have key : ∀ k E h, I k E h → ∃ e E' h', Post (fun _ _ => False) Qx Qr e E' h' ∧ ∃ N, ∀ d, N ≤ d → ∀ K, N ≤ K → ∀ k, N ≤ k → ∀ T, Sub E T → ∃ T', Sub E' T' ∧ iter (acode P (cfl P K d) n K c) k T h = some (e, T', h') := by
    intro k
    induction k using Nat.strongRecOn with
    | ind k ih =>
      intro E h hI
      obtain ⟨e, E1, h1, q, N, hN⟩ := body k E h hI
      cases e with
      | normal =>
        obtain ⟨k', hk, hI'⟩ := q
        obtain ⟨e2, E2, h2, q2, N2, hN2⟩ := ih k' hk E1 h1 hI'
        refine ⟨e2, E2, h2, q2, Nat.succ (Nat.max N N2), fun d hd K hK k hk T hs => ?_⟩
        have hl : N ≤ Nat.max N N2 := Nat.le_max_left _ _
        have hr : N2 ≤ Nat.max N N2 := Nat.le_max_right _ _
        generalize Nat.max N N2 = M at *
        obtain ⟨k, rfl⟩ : ∃ j, k = j + 1 := ⟨k - 1, by omega⟩
        obtain ⟨T1, hs1, ea⟩ := hN d (by omega) K (by omega) T hs
        obtain ⟨T2, hs2, eb⟩ := hN2 d (by omega) K (by omega) k (by omega) T1 hs1
        exact ⟨T2, hs2, by simp only [iter, ea, eb]⟩
      | exit i =>
        refine ⟨.exit i, E1, h1, q, Nat.succ N, fun d hd K hK k hk T hs => ?_⟩
        obtain ⟨k, rfl⟩ : ∃ j, k = j + 1 := ⟨k - 1, by omega⟩
        obtain ⟨T1, hs1, ea⟩ := hN d (by omega) K (by omega) T hs
        exact ⟨T1, hs1, by simp only [iter, ea]⟩
      | ret =>
        refine ⟨.ret, E1, h1, q, Nat.succ N, fun d hd K hK k hk T hs => ?_⟩
        obtain ⟨k, rfl⟩ : ∃ j, k = j + 1 := ⟨k - 1, by omega⟩
        obtain ⟨T1, hs1, ea⟩ := hN d (by omega) K (by omega) T hs
        exact ⟨T1, hs1, by simp only [iter, ea]⟩
  obtain ⟨e, E', h', q, N, hN⟩ := key k E h hI
  refine ⟨e, E', h', ?_, N, fun d hd K hK T hs => ?_⟩
  · cases e with
    | normal => exact q.elim
    | exit i => exact q
    | ret => exact q
  · obtain ⟨T', hs', ee⟩ := hN d hd K hK K hK T hs
    exact ⟨T', hs', by simp only [acode, ee]⟩
def eres (P : Program) (E : Env) (h : Heap) : List ResultVar → Option (List Value)
  | [] => some []
  | .tmp t :: l => (match E t, eres P E h l with
    | some v, some r => some (v :: r)
    | _, _ => none)
  | .cell a t :: l => (match E a with
    | some (.pointer (some ad)) => (match aload P h t ad, eres P E h l with
      | some v, some r => some (v :: r)
      | _, _ => none)
    | _ => none)
def eresults (P : Program) (l : List ResultVar) (E : Env) (h : Heap) : Option Value :=
  match eres P E h l with
  | some [v] => some v
  | some vs => some (.tuple ⟨vs⟩)
  | none => none
theorem eres_le {E : Env} {T : Tr Value} (hs : Sub E T) {h : Heap} : ∀ (l : List ResultVar) {r : List Value}, eres P E h l = some r → ares P T h l = some r
  | [], r, e => e
  | .tmp t :: l, r, e => by
    simp only [eres] at e
    split at e
    · rename_i h1 h2
      cases e
      simp only [ares, hs _ _ h1, eres_le hs l h2]
    · cases e
  | .cell a t :: l, r, e => by
    simp only [eres] at e
    split at e
    · rename_i h1
      split at e
      · rename_i h2 h3
        cases e
        simp only [ares, hs _ _ h1, h2, eres_le hs l h3]
      · cases e
    · cases e
theorem eresults_le {fn : Func} {E : Env} {T : Tr Value} (hs : Sub E T) {h : Heap} {v : Value} (e : eresults P fn.results.toList E h = some v) : aresults P fn T h = some v := by
  unfold eresults at e
  unfold aresults
  split at e
  · rename_i h1; simp only [eres_le hs _ h1]; exact e
  · rename_i h1 h2; simp only [eres_le hs _ h2]; exact e
  · cases e
def argsE : List Value → Nat → Env → Env
  | [], _, E => E
  | v :: l, i, E => argsE l (Nat.succ i) (upd E i v)
theorem argsE_sub : ∀ (l : List Value) (i : Nat) {E : Env} {T : Tr Value}, Sub E T → Sub (argsE l i E) (argsT l i T)
  | [], i, E, T, h => h
  | v :: l, i, E, T, h => argsE_sub l (Nat.succ i) (h.set i v)
theorem RunF.walk {f : FuncId} {fn : Func} {c : Code} {args : List Value} {h : Heap} {Q : Value → Heap → Prop} (hf : P.funcs[f]? = some fn) (hb : fn.body = some c) (hl : Nat.ble args.length fn.ntmps = true)
    (r : RunC P fn.ntmps c (argsE args 0 E0) h (fun E' h' => ∃ v, eresults P fn.results.toList E' h' = some v ∧ Q v h') (fun _ _ _ => False) (fun E' h' => ∃ v, eresults P fn.results.toList E' h' = some v ∧ Q v h')) : RunF P f args h Q := by
  obtain ⟨e, E', h', q, N, hN⟩ := r
  have hq : ∃ v, eresults P fn.results.toList E' h' = some v ∧ Q v h' := by
    cases e with
    | normal => exact q
    | exit i => exact q.elim
    | ret => exact q
  obtain ⟨v, hv, hq⟩ := hq
  refine ⟨v, h', hq, Nat.succ N, fun d hd K hK => ?_⟩
  obtain ⟨d, rfl⟩ : ∃ j, d = j + 1 := ⟨d - 1, by omega⟩
  obtain ⟨T', hs', ee⟩ := hN d (by omega) K (by omega) _ (argsE_sub args 0 (Sub.none .leaf))
  have hv' := eresults_le hs' hv
  unfold cfl acall
  simp only [hf, hb, hl, cond_true]
  unfold cfl at ee
  rw [ee]
  cases e with
  | normal => simp only [hv']
  | exit i => exact q.elim
  | ret => simp only [hv']
end
end Go.Am
end
section
set_option linter.unusedVariables false
namespace Go.Am
open Go.RowKit
section
variable {P : Program} {n : Nat} {ops rest : List Oper} {E E1 : Env} {h h1 : Heap} {Q : Env → Heap → Prop}

theorem RunO.one {o : Oper} {v : Value} (g : o.guard = none) (e : eop P E o h = some (v, h1)) (p : eput n E o.dst v = some E1) (r : RunO P n ops rest E1 h1 Q) : RunO P n ops (o :: rest) E h Q := by
  refine RunO.part (E1 := E1) (h1 := h1) 1 ?_ r
  show eops P n ops [o] E h = _
  simp only [eops, estep, ewanted, g, e, p]

/- Memory. -/
theorem get_push (h : Heap) (o : AObj) (i : Nat) : (h.push o).get i = if i = h.next then some o else h.get i := Tr.get_set _ _ _ _
theorem get_put (h : Heap) (b : Nat) (o : Option AObj) (i : Nat) : (h.put b o).get i = if i = b then o else h.get i := Tr.get_set _ _ _ _
theorem next_push (h : Heap) (o : AObj) : (h.push o).next = h.next + 1 := rfl
theorem next_put (h : Heap) (b : Nat) (o : Option AObj) : (h.put b o).next = h.next := rfl
theorem lowput_eq (h : Heap) (b : Nat) (o : Option AObj) : (h.put b o).low = min h.low b := by
  show cond (Nat.ble h.low b) h.low b = _
  cases e : Nat.ble h.low b with
  | true => have := Nat.le_of_ble_eq_true e; simp only [cond_true]; omega
  | false =>
    have : ¬ h.low ≤ b := fun x => by rw [Nat.ble_eq_true_of_le x] at e; cases e
    simp only [cond_false]; omega

/-- All but the blocks of m stay. -/
structure Fr (m : Nat → Prop) (h h' : Heap) : Prop where
  next : h.next ≤ h'.next
  get : ∀ i, i < h.next → ¬ m i → h'.get i = h.get i
  low : ∀ l, l ≤ h.low → l ≤ h.next → (∀ i, m i → l ≤ i) → l ≤ h'.low
abbrev no : Nat → Prop := fun _ => False
theorem Fr.refl (m : Nat → Prop) (h : Heap) : Fr m h h := ⟨Nat.le_refl _, fun _ _ _ => rfl, fun _ a _ _ => a⟩
theorem Fr.trans {m m1 : Nat → Prop} {h h1 h2 : Heap} (a : Fr m h h1) (b : Fr m1 h1 h2) (w : ∀ i, m1 i → m i ∨ h.next ≤ i) : Fr m h h2 := by
  refine ⟨Nat.le_trans a.next b.next, fun i hi hm => ?_, fun l h1 h2 h3 => ?_⟩
  · rw [b.get i (Nat.lt_of_lt_of_le hi a.next) (fun g => (w i g).elim hm (fun x => absurd hi (Nat.not_lt.2 x))), a.get i hi hm]
  · refine b.low l (a.low l h1 h2 h3) (Nat.le_trans h2 a.next) (fun i g => (w i g).elim (h3 i) (fun x => Nat.le_trans h2 x))
theorem Fr.same {m : Nat → Prop} {h h1 h2 : Heap} (a : Fr m h h1) (b : Fr m h1 h2) : Fr m h h2 := a.trans b (fun _ g => .inl g)
theorem Fr.quiet {m : Nat → Prop} {h h1 h2 : Heap} (a : Fr m h h1) (b : Fr no h1 h2) : Fr m h h2 := a.trans b (fun _ g => g.elim)
theorem Fr.push (m : Nat → Prop) (h : Heap) (o : AObj) : Fr m h (h.push o) :=
  ⟨Nat.le_succ _, fun i hi _ => by rw [get_push, if_neg (by omega)], fun l a _ _ => a⟩
theorem Fr.put {m : Nat → Prop} {h : Heap} {b : Nat} (o : Option AObj) (hb : m b ∨ h.next ≤ b) : Fr m h (h.put b o) :=
  ⟨Nat.le_refl _, fun i hi hm => by
    rw [get_put, if_neg]
    intro e; subst e
    exact hb.elim hm (fun x => absurd hi (Nat.not_lt.2 x)), fun l h1 h2 h3 => by
    rw [lowput_eq]
    have : l ≤ b := hb.elim (h3 b) (fun x => Nat.le_trans h2 x)
    omega⟩
theorem Fr.weak {m m1 : Nat → Prop} {h h1 : Heap} (a : Fr m h h1) (w : ∀ i, m i → m1 i ∨ h.next ≤ i) : Fr m1 h h1 := (Fr.refl m1 h).trans a w

/-- At an address stand these cells. -/
def Rd (h : Heap) (a : Addr) (cs : List Value) : Prop := a.spot = none ∧ a.block < h.next ∧ ∃ o, h.get a.block = some o ∧ (o.cells.drop a.off).take cs.length = cs
/-- A block is one's own, and holds just these cells. -/
def Ow (h : Heap) (b : Nat) (cs : List Value) : Prop := b < h.next ∧ h.get b = some ⟨cs, true⟩
theorem Rd.fr {m : Nat → Prop} {h h' : Heap} {a : Addr} {cs : List Value} (r : Rd h a cs) (f : Fr m h h') (hm : ¬ m a.block) : Rd h' a cs :=
  ⟨r.1, Nat.lt_of_lt_of_le r.2.1 f.next, by rw [f.get _ r.2.1 hm]; exact r.2.2⟩
theorem Ow.fr {m : Nat → Prop} {h h' : Heap} {b : Nat} {cs : List Value} (r : Ow h b cs) (f : Fr m h h') (hm : ¬ m b) : Ow h' b cs :=
  ⟨Nat.lt_of_lt_of_le r.1 f.next, by rw [f.get _ r.1 hm]; exact r.2⟩
theorem Ow.push (h : Heap) (cs : List Value) : Ow (h.push ⟨cs, true⟩) h.next cs := ⟨Nat.lt_succ_self _, by rw [get_push, if_pos rfl]⟩
theorem Ow.put {h : Heap} {b : Nat} (cs : List Value) (hb : b < h.next) : Ow (h.put b (some ⟨cs, true⟩)) b cs := ⟨hb, by rw [get_put, if_pos rfl]⟩
theorem Ow.rd {h : Heap} {b off : Nat} {cs ds : List Value} (r : Ow h b cs) (e : (cs.drop off).take ds.length = ds) : Rd h ⟨b, off, none⟩ ds := ⟨rfl, r.1, _, r.2, e⟩
theorem Ow.all {h : Heap} {b : Nat} {cs : List Value} (r : Ow h b cs) : Rd h ⟨b, 0, none⟩ cs := r.rd (by simp)

theorem Rd.cell {h : Heap} {a : Addr} {cs : List Value} (r : Rd h a cs) {k : Nat} {v : Value} (hk : cs[k]? = some v) : ∃ o, h.get a.block = some o ∧ o.cells[a.off + k]? = some v := by
  obtain ⟨_, _, o, ho, he⟩ := r
  refine ⟨o, ho, ?_⟩
  rw [← he, List.getElem?_take, List.getElem?_drop] at hk
  split at hk
  · exact hk
  · cases hk
theorem Rd.part {h : Heap} {a : Addr} {cs : List Value} (r : Rd h a cs) {t : TypeId} {k : Nat} {v : Value} (e : apart P t cs k = some v) : aload P h t ⟨a.block, a.off + k, none⟩ = some v := by
  obtain ⟨_, _, o, ho, he⟩ := r
  simp only [aload, ho]
  unfold apart at e ⊢
  split at e
  · rename_i ha
    try simp only [ha]
    split at e
    · rename_i n hn
      try simp only [hn]
      rw [takeN_eq, dropN_eq] at e ⊢
      have hl := congrArg List.length he
      rw [List.length_take, List.length_drop] at hl
      split at e
      · rename_i l hl2
        split at hl2
        · rename_i hle
          cases hl2
          cases e
          rw [List.length_drop] at hle
          rw [List.length_drop, if_pos (by omega)]
          simp only
          congr 3
          apply List.ext_getElem?
          intro i
          rw [List.getElem?_take, List.getElem?_take]
          split
          · rename_i hi
            rw [List.getElem?_drop, List.getElem?_drop]
            conv => rhs; rw [← he]
            rw [List.getElem?_take, if_pos (by omega), List.getElem?_drop]
            congr 1; omega
          · rfl
        · cases hl2
      · cases e
    · cases e
  · rename_i ha
    try simp only [ha]
    rw [nth_eq] at e ⊢
    obtain ⟨o', ho', hk⟩ := Rd.cell ⟨by assumption, by assumption, o, ho, he⟩ e
    rw [ho] at ho'; cases ho'
    exact hk
  · cases e
theorem Rd.read {h : Heap} {a : Addr} {cs : List Value} (r : Rd h a cs) {k m : Nat} (e : k + m ≤ cs.length) : aread h ⟨a.block, a.off + k, none⟩ m = some ((cs.drop k).take m) := by
  obtain ⟨_, _, o, ho, he⟩ := r
  simp only [aread, ho]
  have hl := congrArg List.length he
  rw [List.length_take, List.length_drop] at hl
  rw [takeN_eq, dropN_eq, List.length_drop, if_pos (by omega)]
  congr 1
  apply List.ext_getElem?
  intro i
  rw [List.getElem?_take, List.getElem?_take]
  split
  · rename_i hi
    rw [List.getElem?_drop, List.getElem?_drop]
    conv => rhs; rw [← he]
    rw [List.getElem?_take, if_pos (by omega), List.getElem?_drop]
    congr 1; omega
  · rfl
theorem Rd.read0 {h : Heap} {a : Addr} {cs : List Value} (r : Rd h a cs) {m : Nat} (e : m ≤ cs.length) : aread h a m = some (cs.take m) := by
  obtain ⟨b, o, s⟩ := a
  have hs : s = none := r.1
  subst hs
  exact r.read (k := 0) (by omega)
theorem storeL_ow {h : Heap} {b off : Nat} {cs vs : List Value} (r : Ow h b cs) (ha : allCells vs = true) (hl : off + vs.length ≤ cs.length) : astoreL h ⟨b, off, none⟩ vs = some (h.put b (some ⟨cs.take off ++ vs ++ cs.drop (off + vs.length), true⟩)) := by
  simp only [astoreL, r.2, cond_true, ha]
  rw [splice_eq, if_pos hl]
theorem store_ow {h : Heap} {b off : Nat} {cs : List Value} {v : Value} {t : TypeId} (r : Ow h b cs) {s : Nat} (hs : sizeOf P t = some s) (hl : (cellsOf v).length = s) (ha : allCells (cellsOf v) = true) (hb : off + s ≤ cs.length) : astore P h t ⟨b, off, none⟩ v = some (h.put b (some ⟨cs.take off ++ cellsOf v ++ cs.drop (off + s), true⟩)) := by
  simp only [astore, hs]
  rw [(lenIs_iff _ _).2 hl, cond_true, storeL_ow r ha (by omega), hl]
theorem store1_ow {h : Heap} {b off : Nat} {cs : List Value} {v : Value} {t : TypeId} (r : Ow h b cs) (hs : sizeOf P t = some 1) (hc : cellsOf v = [v]) (ha : isCell v = true) (hb : off < cs.length) : astore P h t ⟨b, off, none⟩ v = some (h.put b (some ⟨cs.set off v, true⟩)) := by
  rw [store_ow r hs (by rw [hc]; rfl) (by rw [hc]; simp [allCells, ha]) (by omega), hc]
  rw [List.set_eq_take_append_cons_drop, if_pos hb]
  simp

/- Operations. -/
theorem RunO.index {d : Tmp} {t ty : TypeId} {x i : Operand} {pos : String} {after : Array Edge} {b o len c s k : Nat} {ik : IntKind} {e : TypeId}
    (hx : gE E x = some (.slice (some ⟨b, o, none⟩) len c)) (hi : gE E i = some (.int ik (k : Int))) (hu : P.underlying t = some (.slice e)) (hs : sizeOf P e = some s) (hk : k < len) (hd : Nat.ble (Nat.succ d) n = true)
    (r : RunO P n ops rest (upd E d (.pointer (some ⟨b, o + k * s, none⟩))) h Q) : RunO P n ops (⟨some d, .indexAddr t x i, ty, pos, after, none⟩ :: rest) E h Q := by
  refine RunO.one (v := .pointer (some ⟨b, o + k * s, none⟩)) rfl ?_ (by simp only [eput, hd, cond_true]) r
  have hi : gE E i = some (.int ik (.ofNat k)) := hi
  simp only [eop, hx, hi, aindexAddr, hu, hs, Nat.ble_eq_true_of_le (show Nat.succ k ≤ len from hk), cond_true]
  rfl
theorem RunO.load {d : Tmp} {t ty : TypeId} {x : Operand} {pos : String} {after : Array Edge} {a : Addr} {v : Value}
    (hx : gE E x = some (.pointer (some a))) (hl : aload P h t a = some v) (hd : Nat.ble (Nat.succ d) n = true)
    (r : RunO P n ops rest (upd E d v) h Q) : RunO P n ops (⟨some d, .load t x, ty, pos, after, none⟩ :: rest) E h Q := by
  refine RunO.one (v := v) rfl ?_ (by simp only [eput, hd, cond_true]) r
  simp only [eop, hx, hl, pureR]
theorem RunO.store {t ty : TypeId} {x y : Operand} {pos : String} {after : Array Edge} {a : Addr} {v : Value} {h1 : Heap}
    (hx : gE E x = some (.pointer (some a))) (hy : gE E y = some v) (hl : astore P h t a v = some h1)
    (r : RunO P n ops rest E h1 Q) : RunO P n ops (⟨none, .store t x y, ty, pos, after, none⟩ :: rest) E h Q := by
  refine RunO.one (v := undef) (E1 := E) rfl ?_ rfl r
  simp only [eop, hx, hy, hl]
theorem RunO.bin {d : Tmp} {op : BinOp} {t t2 ty : TypeId} {x y : Operand} {pos : String} {after : Array Edge} {a b v : Value}
    (hx : gE E x = some a) (hy : gE E y = some b) (hl : abinop P op t a b = some v) (hd : Nat.ble (Nat.succ d) n = true)
    (r : RunO P n ops rest (upd E d v) h Q) : RunO P n ops (⟨some d, .binOp op t x y t2, ty, pos, after, none⟩ :: rest) E h Q := by
  refine RunO.one (v := v) rfl ?_ (by simp only [eput, hd, cond_true]) r
  simp only [eop, hx, hy, hl, pureR]
theorem RunO.un {d : Tmp} {op : UnOp} {t ty : TypeId} {x : Operand} {pos : String} {after : Array Edge} {a v : Value}
    (hx : gE E x = some a) (hl : aunop op a = some v) (hd : Nat.ble (Nat.succ d) n = true)
    (r : RunO P n ops rest (upd E d v) h Q) : RunO P n ops (⟨some d, .unOp op t x, ty, pos, after, none⟩ :: rest) E h Q := by
  refine RunO.one (v := v) rfl ?_ (by simp only [eput, hd, cond_true]) r
  simp only [eop, hx, hl, pureR]
end

/- Numbers. -/
theorem fw64 {x : Int} (h : -9223372036854775808 ≤ x) (h2 : x ≤ 9223372036854775807) : fwrap .i64 x = x := by
  cases x with
  | ofNat m => show cond (Nat.ble m 9223372036854775807) _ _ = _; rw [Nat.ble_eq_true_of_le (by have : (m : Int) ≤ 9223372036854775807 := h2; omega)]; rfl
  | negSucc m => show cond (Nat.ble m 9223372036854775807) _ _ = _; rw [Nat.ble_eq_true_of_le (by have : -9223372036854775808 ≤ Int.negSucc m := h; omega)]; rfl
theorem shr64 {x : Int} {k : Nat} (hk : k ≤ 64) : abin .shr .i64 x .i64 (k : Int) = some (.int .i64 (x / 2 ^ k)) := by
  show cond (decide ((k : Int) < 0)) none (some (Value.int .i64 (x.fdiv (2 ^ (min (Int.toNat (k : Int)) 64))))) = _
  rw [decide_eq_false (by omega), cond_false, Int.toNat_natCast, Nat.min_eq_left hk, Int.fdiv_eq_ediv_of_nonneg]
  exact Int.le_of_lt (Int.pow_pos (by decide))
theorem fwu8 {x : Int} : fwrap .u8 x = x % 256 := by
  have e : IntKind.u8.wrap x = x % 256 := by unfold IntKind.wrap; simp [IntKind.signed, IntKind.bits]
  cases x with
  | ofNat m =>
    show cond (Nat.ble m 255) _ _ = _
    cases hb : Nat.ble m 255 with
    | true => have := Nat.le_of_ble_eq_true hb; simp only [cond_true]; show (m : Int) = (m : Int) % 256; omega
    | false => exact e
  | negSucc m => exact e
end Go.Am
end
section
set_option linter.unusedVariables false
namespace Go.Am
open Go.RowKit
section
variable {P : Program} {n : Nat} {ops rest : List Oper} {E E1 : Env} {h h1 : Heap} {Q : Env → Heap → Prop}
theorem RunO.le (l : Le E1 E) (r : RunO P n ops rest E1 h Q) : RunO P n ops rest E h Q := by
  obtain ⟨E', h', q, N, hN⟩ := r
  exact ⟨E', h', q, N, fun d hd K hK T hs => hN d hd K hK T (hs.le l)⟩
theorem RunO.oneG {o : Oper} {v : Value} (g : ewanted ops E o = some true) (e : eop P E o h = some (v, h1)) (p : eput n E o.dst v = some E1) (r : RunO P n ops rest E1 h1 Q) : RunO P n ops (o :: rest) E h Q := by
  refine RunO.part (E1 := E1) (h1 := h1) 1 ?_ r
  show eops P n ops [o] E h = _
  simp only [eops, estep, g, e, p]
theorem RunO.callG {dst : Option Tmp} {f : Operand} {args : Array Operand} {ats : Array TypeId} {t : TypeId} {pos : String} {after : Array Edge} {gd : Option (Nat × Bool)} {g : FuncId} {first captured : Array Value} {vs : List Value}
    (hw : ewanted ops E ⟨dst, .call ⟨.value f, args, ats⟩, t, pos, after, gd⟩ = some true) (hf : gE E f = some (.func (.func g) first captured)) (hv : gs (gE E) args.toList = some vs)
    (r : RunF P g (first.toList ++ (vs ++ captured.toList)) h fun v h1 => ∃ E1, eput n E dst v = some E1 ∧ RunO P n ops rest E1 h1 Q) : RunO P n ops (⟨dst, .call ⟨.value f, args, ats⟩, t, pos, after, gd⟩ :: rest) E h Q := by
  obtain ⟨v, h1, ⟨E1, hp, E2, h2, q, N2, hN2⟩, N1, hN1⟩ := r
  refine ⟨E2, h2, q, Nat.max N1 N2, fun d hd K hK T hs => ?_⟩
  obtain ⟨T1, ha, hs1⟩ := eput_le hs hp
  obtain ⟨T2, hs2, hb⟩ := hN2 d (Nat.le_trans (Nat.le_max_right _ _) hd) K (Nat.le_trans (Nat.le_max_right _ _) hK) T1 hs1
  refine ⟨T2, hs2, ?_⟩
  unfold aops astep
  simp only [ewanted_le hs hw, aop, acallv, gE_le hs hf, gs_le hs hv, hN1 d (Nat.le_trans (Nat.le_max_left _ _) hd) K (Nat.le_trans (Nat.le_max_left _ _) hK), ha]
  exact hb
/-- A call with a known end, into a temporary. -/
theorem RunO.callD {d : Tmp} {f : Operand} {args : Array Operand} {ats : Array TypeId} {t : TypeId} {pos : String} {after : Array Edge} {g : FuncId} {vs : List Value} {R : Value → Heap → Prop}
    (r : RunF P g vs h R) (hf : gE E f = some (.func (.func g) #[] #[])) (hv : gs (gE E) args.toList = some vs) (hd : Nat.ble (Nat.succ d) n = true)
    (k : ∀ v h1, R v h1 → RunO P n ops rest (upd E d v) h1 Q) : RunO P n ops (⟨some d, .call ⟨.value f, args, ats⟩, t, pos, after, none⟩ :: rest) E h Q := by
  refine RunO.call hf hv (RunF.mono ?_ (fun v h1 q => ⟨_, by simp only [eput, hd, cond_true], k v h1 q⟩))
  have e : (#[] : Array Value).toList ++ (vs ++ (#[] : Array Value).toList) = vs := by simp
  rw [e]; exact r
theorem RunC.seqc {a b : Code} {Qn : Env → Heap → Prop} {Qx : Nat → Env → Heap → Prop} {Qr : Env → Heap → Prop} (Q1 : Env → Heap → Prop) (ra : RunC P n a E h Q1 Qx Qr) (rb : ∀ E' h', Q1 E' h' → RunC P n b E' h' Qn Qx Qr) : RunC P n (.seq a b) E h Qn Qx Qr :=
  RunC.seq (ra.mono (fun E h q => rb E h q) (fun _ _ _ q => q) (fun _ _ q => q))
/-- Code that leaves memory alone, and leaves so much known. -/
theorem RunC.seqE {a b : Code} {Qn : Env → Heap → Prop} {Qx : Nat → Env → Heap → Prop} {Qr : Env → Heap → Prop} (E1 : Env) (ra : RunC P n a E h (fun E' h' => h' = h ∧ Le E1 E') Qx Qr) (rb : RunC P n b E1 h Qn Qx Qr) : RunC P n (.seq a b) E h Qn Qx Qr :=
  RunC.seqc _ ra (fun E' h' q => by obtain ⟨rfl, l⟩ := q; exact rb.le l)
end

theorem Rd.cell1 {P : Program} {h : Heap} {a : Addr} {cs : List Value} (r : Rd h a cs) {t : TypeId} {k : Nat} {v : Value} (ha : isAgg P t = some false) (hk : nth cs k = some v) : aload P h t ⟨a.block, a.off + k, none⟩ = some v :=
  r.part (by simp only [apart, ha]; exact hk)

/- Numbers. -/
theorem inc64 {j : Nat} (h : j < 4611686018427387904) : some (Value.int .i64 (fwrap .i64 ((j : Int) + 1))) = some (.int .i64 ((j + 1 : Nat) : Int)) := by
  rw [fw64 (by omega) (by omega)]; rfl
theorem wrap_u64 (x : Int) : IntKind.u64.wrap x = x % 18446744073709551616 := by unfold IntKind.wrap; simp [IntKind.signed, IntKind.bits]
theorem fwu64 {x : Int} (h : 0 ≤ x) (h2 : x < 18446744073709551616) : fwrap .u64 x = x := by
  cases x with
  | ofNat m =>
    show cond (Nat.ble m 9223372036854775807) (Int.ofNat m) (IntKind.u64.wrap (Int.ofNat m)) = _
    cases Nat.ble m 9223372036854775807 with
    | true => rfl
    | false => rw [cond_false, wrap_u64]; exact Int.emod_eq_of_lt h h2
  | negSucc m => exact absurd h (by omega)
theorem wrap_u32 (x : Int) : IntKind.u32.wrap x = x % 4294967296 := by unfold IntKind.wrap; simp [IntKind.signed, IntKind.bits]
theorem fwu32 {x : Int} : fwrap .u32 x = x % 4294967296 := by
  cases x with
  | ofNat m =>
    show cond (Nat.ble m 4294967295) (Int.ofNat m) (IntKind.u32.wrap (Int.ofNat m)) = _
    cases hb : Nat.ble m 4294967295 with
    | true => have := Nat.le_of_ble_eq_true hb; rw [cond_true]; show (m : Int) = (m : Int) % 4294967296; omega
    | false => rw [cond_false, wrap_u32]
  | negSucc m => exact wrap_u32 _
theorem fwu64' {x : Int} : fwrap .u64 x = x % 18446744073709551616 := by
  cases x with
  | ofNat m =>
    show cond (Nat.ble m 9223372036854775807) (Int.ofNat m) (IntKind.u64.wrap (Int.ofNat m)) = _
    cases hb : Nat.ble m 9223372036854775807 with
    | true => have := Nat.le_of_ble_eq_true hb; rw [cond_true]; show (m : Int) = (m : Int) % 18446744073709551616; omega
    | false => rw [cond_false, wrap_u64]
  | negSucc m => exact wrap_u64 _
theorem or64 {x y : Nat} (h : x < 18446744073709551616) (h2 : y < 18446744073709551616) : abin .or .u64 (x : Int) .u64 (y : Int) = some (.int .u64 ((x ||| y : Nat) : Int)) := by
  show some (Value.int .u64 (IntKind.u64.wrap (((BitVec.ofInt 64 (x : Int) ||| BitVec.ofInt 64 (y : Int) : BitVec 64).toNat : Nat) : Int))) = _
  have e : ((BitVec.ofInt 64 (x : Int) ||| BitVec.ofInt 64 (y : Int) : BitVec 64).toNat) = x ||| y := by
    rw [BitVec.toNat_or, BitVec.ofInt_natCast, BitVec.ofInt_natCast, BitVec.toNat_ofNat, BitVec.toNat_ofNat]
    rw [Nat.mod_eq_of_lt (show x < 2 ^ 64 from h), Nat.mod_eq_of_lt (show y < 2 ^ 64 from h2)]
  rw [e, wrap_u64]
  have : x ||| y < 2 ^ 64 := Nat.or_lt_two_pow h h2
  congr 2
  exact Int.emod_eq_of_lt (Int.natCast_nonneg _) (by have : ((x ||| y : Nat) : Int) < ((2 ^ 64 : Nat) : Int) := Int.ofNat_lt.2 this; exact this)
theorem shl64 {x k : Nat} (hk : k ≤ 64) (h : x * 2 ^ k < 18446744073709551616) : abin .shl .u64 (x : Int) .i64 (k : Int) = some (.int .u64 ((x * 2 ^ k : Nat) : Int)) := by
  show cond (decide ((k : Int) < 0)) none (some (Value.int .u64 (fwrap .u64 ((x : Int) * 2 ^ (min (Int.toNat (k : Int)) 64))))) = _
  rw [decide_eq_false (by omega), cond_false, Int.toNat_natCast, Nat.min_eq_left hk]
  have e : (x : Int) * 2 ^ k = ((x * 2 ^ k : Nat) : Int) := by rw [Int.natCast_mul, Int.natCast_pow]; rfl
  rw [e, fwu64 (by omega) (by omega)]
theorem or_add {x y k : Nat} (h : x < 2 ^ k) : x ||| y * 2 ^ k = x + y * 2 ^ k := by
  rw [Nat.or_comm, ← Nat.shiftLeft_eq, ← Nat.shiftLeft_add_eq_or_of_lt h, Nat.add_comm]
end Go.Am
end
