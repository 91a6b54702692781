/- Am4: part of a calculus over an abstract machine that stands beside the model, and contracts of functions by it.
Conditions: what each theorem says of its arguments. -/
import Derived.Test.YtaaemamcdhebhaaAm3e
set_option linter.unusedVariables false
namespace Go.Am
open Go.RowKit

def Fp.D : Fp → Nat → Prop
  | .none, _ => False
  | .rd j, i => i = j
  | .wr l, i => i ∈ l
  | .all _, _ => True
def Fp.W : Fp → Nat → Prop
  | .none, _ => False
  | .rd _, _ => False
  | .wr l, i => i ∈ l
  | .all q, _ => q = false
theorem Fp.W_D (f : Fp) (i : Nat) (h : f.W i) : f.D i := by cases f <;> simp_all [Fp.W, Fp.D]

def Live (h : Heap) : Prop := ∀ i o, h.get i = some o → i < h.next
/-- What becomes of the abstract memory: W may be written. -/
structure HS (W : Nat → Prop) (h h' : Heap) : Prop where
  next : h.next ≤ h'.next
  low : h'.low ≤ h.low
  abs : ∀ i, i < h.next → h'.get i ≠ h.get i → W i ∧ h'.low ≤ i
  live : Live h → Live h'
  owns : ∀ i o, h'.get i = some o → o.own = true ∨ h.get i = some o
theorem HS.refl (W : Nat → Prop) (h : Heap) : HS W h h := ⟨Nat.le_refl _, Nat.le_refl _, fun _ _ e => absurd rfl e, id, fun _ _ e => .inr e⟩
theorem HS.push (W : Nat → Prop) (h : Heap) (cs : List Value) : HS W h (h.push ⟨cs, true⟩) := by
  refine ⟨Nat.le_succ _, Nat.le_refl _, fun i hi e => absurd ?_ e, fun l i o' g => ?_, fun i o g => ?_⟩
  · rw [Heap.get_push, if_neg (by omega)]
  · rw [Heap.get_push] at g
    rw [Heap.next_push]
    split at g
    · omega
    · have := l i o' g; omega
  · rw [Heap.get_push] at g
    split at g
    · cases g; exact .inl rfl
    · exact .inr g
theorem HS.put {W : Nat → Prop} (h : Heap) {i : Nat} (o : Option AObj) {o0 : AObj} (hw : W i) (hi : h.get i = some o0) (ho : ∀ x, o = some x → x.own = true) : HS W h (h.put i o) := by
  refine ⟨Nat.le_refl _, (low_put h i o).1, fun j hj e => ?_, fun l j o' g => ?_, fun j o' g => ?_⟩
  · rw [Heap.get_put] at e
    by_cases h2 : j = i
    · subst h2; exact ⟨hw, (low_put h j o).2⟩
    · rw [if_neg h2] at e; exact absurd rfl e
  · rw [Heap.get_put] at g
    rw [Heap.next_put]
    by_cases h2 : j = i
    · subst h2; exact l j o0 hi
    · rw [if_neg h2] at g; exact l j o' g
  · rw [Heap.get_put] at g
    by_cases h2 : j = i
    · rw [if_pos h2] at g; exact .inl (ho o' g)
    · rw [if_neg h2] at g; exact .inr g
theorem HS.trans {W : Nat → Prop} {a b c : Heap} (h : HS W a b) (k : HS W b c) : HS W a c := by
  refine ⟨Nat.le_trans h.next k.next, Nat.le_trans k.low h.low, fun i hi e => ?_, fun l => k.live (h.live l), fun i o g => (k.owns i o g).elim .inl (h.owns i o)⟩
  by_cases e2 : c.get i = b.get i
  · rw [e2] at e
    have := h.abs i hi e
    exact ⟨this.1, Nat.le_trans k.low this.2⟩
  · exact k.abs i (Nat.lt_of_lt_of_le hi h.next) e2
theorem HS.mono {W W' : Nat → Prop} {a b : Heap} (h : HS W a b) (hw : ∀ i, W i → W' i) : HS W' a b := ⟨h.next, h.low, fun i hi e => ⟨hw i (h.abs i hi e).1, (h.abs i hi e).2⟩, h.live, h.owns⟩

def CallSound (P : Program) (callf : CallF) : Prop :=
  ∀ f args h v h', callf f args h = some (v, h') → HS (fun _ => True) h h' ∧ (∀ (cargs : Array Value) (w : World), (callFunc f cargs).run P w = .ok (.enter f cargs) w) ∧
    ∀ (μ : Mu) (w : World) (cargs : Array Value), Rel (fun _ => True) μ h w → (∀ i, h.next ≤ i → i < h'.next → μ i = none) → VRels μ args cargs.toList →
      Calls P f cargs w fun e w' => ∃ v' ν, e = .returned v' ∧ VRel ν v v' ∧ StepR (fun _ => True) (fun i => h'.low ≤ i) μ h w ν h' w'

section
variable {P : Program} {μ : Mu} {w : World} {D Wr : Nat → Prop} {h h' : Heap}

theorem evs_sound {T : Tr Value} {ρ : Operand → Value} : ∀ {xs : List Operand} {vs : List Value}, (∀ x ∈ xs, ∀ v, ev T x = some v → VRel μ v (ρ x)) → evs T xs = some vs → VRels μ vs (xs.map ρ)
  | [], vs, _, h => by cases h; exact .nil
  | x :: xs, vs, hx, h => by
    unfold evs at h
    cases hv : ev T x with
    | none => rw [hv] at h; cases h
    | some v =>
      rw [hv] at h
      simp only at h
      cases hl : evs T xs with
      | none => rw [hl] at h; cases h
      | some l =>
        rw [hl] at h
        cases h
        exact .cons (hx x (List.mem_cons_self ..) v hv) (evs_sound (fun y hy => hx y (List.mem_cons_of_mem _ hy)) hl)
theorem evps_sound {T : Tr Value} {ρ : Operand → Value} : ∀ {xs : List (Nat × Operand)} {vs : List (Nat × Value)}, (∀ x ∈ xs, ∀ v, ev T x.2 = some v → VRel μ v (ρ x.2)) → evps T xs = some vs → PRels μ vs (xs.map fun x => (x.1, ρ x.2))
  | [], vs, _, h => by cases h; exact .nil
  | (i, x) :: xs, vs, hx, h => by
    unfold evps at h
    cases hv : ev T x with
    | none => rw [hv] at h; cases h
    | some v =>
      rw [hv] at h
      simp only at h
      cases hl : evps T xs with
      | none => rw [hl] at h; cases h
      | some l =>
        rw [hl] at h
        cases h
        exact .cons (hx (i, x) (List.mem_cons_self ..) v hv) (evps_sound (fun y hy => hx y (List.mem_cons_of_mem _ hy)) hl)
theorem evo_sound {T : Tr Value} {ρ : Operand → Value} {x : Option Operand} {r : Option Value} (hx : ∀ y, x = some y → ∀ v, ev T y = some v → VRel μ v (ρ y)) (h : evo T x = some r) : ORel μ r (x.map ρ) := by
  cases x with
  | none => cases h; exact .none
  | some y =>
    cases hv : ev T y with
    | none => simp only [evo, hv] at h; cases h
    | some v => simp only [evo, hv] at h; cases h; exact .some (hx y rfl v hv)

theorem wp_value {o : Oper} {a : Act} {K : Act → World → Prop} {Q : Exit → Act → World → Prop} {v' : Value} {w' : World} (h : (execOp a.eval o).run P w = .ok (.value v') w') (k : K (a.put o.dst v') w') : o.wp P a w K Q := by
  unfold Oper.wp
  rw [h]
  exact k
theorem wp_skip' {o : Oper} {a : Act} {K : Act → World → Prop} {Q : Exit → Act → World → Prop} {w' : World} (h : (execOp a.eval o).run P w = .ok .skip w') (k : K (a.put o.dst undef) w') : o.wp P a w K Q := by
  unfold Oper.wp
  rw [h]
  exact k

theorem pureR_some {h h' : Heap} {r : Option Value} {v : Value} (e : pureR h r = some (v, h')) : r = some v ∧ h' = h := by
  cases r with
  | none => cases e
  | some x => cases e; exact ⟨rfl, rfl⟩

theorem undef_rel (μ : Mu) : VRel μ undef undef := .tuple .nil

theorem runV {s : Sem Value} {v' : Value} {w' : World} (h : s.run P w = .ok v' w') : (do pure (.value (← s)) : Sem Next).run P w = .ok (.value v') w' := by
  simp [h]

theorem mem_ids {a : Addr} {n c : Nat} : ∀ {l : List Value}, Value.slice (some a) n c ∈ l → a.block ∈ idsOf l
  | [], h => by simp at h
  | x :: l, h => by
    rcases List.mem_cons.1 h with rfl | h
    · simp [idsOf]
    · have := mem_ids h
      unfold idsOf
      split
      · rename_i heq; cases heq
      · rename_i heq; cases heq; exact List.mem_cons_of_mem _ this
      · rename_i heq; cases heq; exact this

/-- Whatever an operation does to the abstract memory, it does to the world. -/
theorem aop_sound {callf : CallF} (hcall : CallSound P callf) {o : Oper} {T : Tr Value} {a : Act} {v : Value} {q : Bool} {K : Act → World → Prop} {Q : Exit → Act → World → Prop}
    (hop : aop P callf T o h = some (v, h')) (hq : q = true → h.next ≤ h'.low) (r : Rel (fpOf T o q).D μ h w) (hev : ∀ x ∈ o.op.operands.toList, ∀ v, ev T x = some v → VRel μ v (a.eval x))
    (hf : ∀ i, h.next ≤ i → i < h'.next → μ i = none) (hK : ∀ v' ν w', VRel ν v v' → StepR (fpOf T o q).D (fun i => (fpOf T o q).W i ∧ h'.low ≤ i) μ h w ν h' w' → K (a.put o.dst v') w') : o.wp P a w K Q := by
  obtain ⟨dst, op, type, pos, after, guard⟩ := o
  have hpure : ∀ {x : Option Value} {s : Sem Value}, pureR h x = some (v, h') → (∃ v', s.run P w = .ok v' w ∧ ∀ u, x = some u → VRel μ u v') → (execOp a.eval ⟨dst, op, type, pos, after, guard⟩) = (do pure (.value (← s)) : Sem Next) →
      (⟨dst, op, type, pos, after, guard⟩ : Oper).wp P a w K Q := by
    intro x s h1 h2 h3
    obtain ⟨h4, rfl⟩ := pureR_some h1
    obtain ⟨v', h5, h6⟩ := h2
    exact wp_value (by rw [h3]; exact runV h5) (hK v' μ w (h6 v h4) (.refl r _))
  cases op with
  | move x =>
    simp only [aop] at hop
    obtain ⟨h1, rfl⟩ := pureR_some hop
    exact wp_value (v' := a.eval x) (w' := w) rfl (hK _ μ w (hev x (by simp [Op.operands]) v h1) (.refl r _))
  | assign x =>
    simp only [aop] at hop
    obtain ⟨h1, rfl⟩ := pureR_some hop
    exact wp_value (v' := a.eval x) (w' := w) rfl (hK _ μ w (hev x (by simp [Op.operands]) v h1) (.refl r _))
  | pick c x y =>
    simp only [aop] at hop
    cases hc : ev T c with
    | none => rw [hc] at hop; cases hop
    | some cv =>
      rw [hc] at hop
      cases cv with
      | bool t =>
        simp only at hop
        obtain ⟨h1, rfl⟩ := pureR_some hop
        have hcr := hev c (by simp [Op.operands]) _ hc
        have hce : a.eval c = .bool t := by generalize a.eval c = x at hcr; cases hcr; rfl
        refine wp_value (v' := if t then a.eval x else a.eval y) (w' := w) ?_ (hK _ μ w ?_ (.refl r _))
        · simp [execOp, hce, asBool]
        · cases t
          · exact hev y (by simp [Op.operands]) v h1
          · exact hev x (by simp [Op.operands]) v h1
      | _ => simp at hop
  | alloc e =>
    simp only [aop] at hop
    cases hz : zeroOf P e with
    | none => rw [hz] at hop; cases hop
    | some z =>
      rw [hz] at hop
      cases hop
      exact wp_value (by simp [execOp, Instr.alloc, runZ hz, newVar, newRow]) (hK _ _ _ (ptr_new μ _ _ _) (new_exact (E := e) (w' := w.alloc (.cells z.cells e)) r (hf _ (Nat.le_refl _) (Nat.lt_succ_self _)) rfl rfl rfl rfl rfl ((zeroOf_rel μ hz).cells) _))
  | box e x =>
    simp only [aop] at hop
    cases hx : ev T x with
    | none => rw [hx] at hop; cases hop
    | some u =>
      rw [hx] at hop
      cases hop
      have hu := hev x (by simp [Op.operands]) u hx
      exact wp_value (by simp [execOp, Instr.box, newVar, newRow]) (hK _ _ _ (ptr_new μ _ _ _) (new_exact (E := e) (w' := w.alloc (.cells (a.eval x).cells e)) r (hf _ (Nat.le_refl _) (Nat.lt_succ_self _)) rfl rfl rfl rfl rfl hu.cells _))
  | build t ps =>
    simp only [aop] at hop
    cases hp : evps T ps.toList with
    | none => rw [hp] at hop; cases hop
    | some l =>
      rw [hp] at hop
      obtain ⟨h1, rfl⟩ := pureR_some hop
      have hpr := evps_sound (ρ := a.eval) (fun x hx u hu => hev x.2 (by simp only [Op.operands, List.toList_toArray]; exact List.mem_map_of_mem hx) u hu) hp
      obtain ⟨v', h2, h3⟩ := build_sound (w := w) h1 hpr
      refine wp_value (v' := v') (w' := w) ?_ (hK _ μ w h3 (.refl r _))
      have : (⟨ps.toList.map fun x => (x.1, a.eval x.2)⟩ : Array (Nat × Value)) = ps.map fun (i, x) => (i, a.eval x) := by
        apply Array.ext'; simp
      rw [this] at h2
      simp [execOp, h2]
  | buildSlice t n ps =>
    simp only [aop] at hop
    cases hp : evps T ps.toList with
    | none => rw [hp] at hop; cases hop
    | some l =>
      rw [hp] at hop
      have hpr := evps_sound (ρ := a.eval) (fun x hx u hu => hev x.2 (by simp only [Op.operands, List.toList_toArray]; exact List.mem_map_of_mem hx) u hu) hp
      have hnx : h'.next = h.next + 1 := by
        simp only [abuildSlice] at hop
        split at hop
        · split at hop
          · have hcn := condN hop; clear hop; obtain ⟨_, hop⟩ := hcn
            have hcn := condN hop; clear hop; obtain ⟨_, hop⟩ := hcn
            split at hop
            · cases hop; rfl
            · cases hop
          · cases hop
        · cases hop
      obtain ⟨v', ν, w', h2, h3, h4⟩ := buildSlice_sound r (hf _ (Nat.le_refl _) (by omega)) hop hpr (fun i => (fpOf T ⟨dst, .buildSlice t n ps, type, pos, after, guard⟩ q).W i ∧ h'.low ≤ i)
      refine wp_value (v' := v') (w' := w') ?_ (hK _ ν w' h3 h4)
      have : (⟨ps.toList.map fun x => (x.1, a.eval x.2)⟩ : Array (Nat × Value)) = ps.map fun (i, x) => (i, a.eval x) := by
        apply Array.ext'; simp
      rw [this] at h2
      simp [execOp, h2]
  | load t x =>
    simp only [aop] at hop
    cases hx : ev T x with
    | none => rw [hx] at hop; cases hop
    | some u =>
      rw [hx] at hop
      have hu := hev x (by simp [Op.operands]) u hx
      cases u with
      | pointer ad =>
        cases ad with
        | none => cases hop
        | some ad =>
          simp only at hop
          obtain ⟨h1, rfl⟩ := pureR_some hop
          have hfp : (fpOf T ⟨dst, .load t x, type, pos, after, guard⟩ q) = .rd ad.block := by simp [fpOf, hx]
          rw [hfp] at r hK
          generalize hax : a.eval x = ax at hu
          cases hu with
          | ptr m =>
            obtain ⟨_, v', h2, h3⟩ := load_sound r rfl m h1
            refine wp_value (v' := v') (w' := w) ?_ (hK _ μ w h3 (.refl r _))
            simp [execOp, Instr.loadAt, hax, Instr.sureAddr, h2]
      | _ => simp at hop
  | store t x y =>
    simp only [aop] at hop
    cases hx : ev T x with
    | none => rw [hx] at hop; cases hop
    | some u =>
      cases hy : ev T y with
      | none => rw [hx, hy] at hop; cases u <;> simp at hop
      | some z =>
        rw [hx, hy] at hop
        have hu := hev x (by simp [Op.operands]) u hx
        have hz := hev y (by simp [Op.operands]) z hy
        cases u with
        | pointer ad =>
          cases ad with
          | none => simp at hop
          | some ad =>
            simp only at hop
            cases hst : astore P h t ad z with
            | none => rw [hst] at hop; cases hop
            | some h2 =>
              rw [hst] at hop
              cases hop
              have hfp : (fpOf T ⟨dst, .store t x y, type, pos, after, guard⟩ q) = .wr [ad.block] := by simp [fpOf, hx]
              rw [hfp] at r hK
              generalize hax : a.eval x = ax at hu
              cases hu with
              | ptr m =>
                obtain ⟨w', h3, h4⟩ := store_sound (Wr := fun i => (Fp.wr [_]).W i ∧ h'.low ≤ i) r (List.mem_singleton.2 rfl) (fun hl => ⟨List.mem_singleton.2 rfl, hl⟩) m hst hz
                refine wp_skip' (w' := w') ?_ (hK _ μ w' (undef_rel μ) h4)
                simp [execOp, Instr.storeAt, hax, Instr.sureAddr, h3]
        | _ => simp at hop
  | nilCheck x =>
    simp only [aop] at hop
    cases hx : ev T x with
    | none => rw [hx] at hop; cases hop
    | some u =>
      rw [hx] at hop
      have hu := hev x (by simp [Op.operands]) u hx
      split at hop
      · rename_i ad heq
        cases hop
        cases heq
        generalize hax : a.eval x = ax at hu
        refine wp_value (v' := ax) (w' := w) ?_ (hK _ μ w hu (.refl r _))
        cases hu
        simp [execOp, hax]
      · rename_i f aa bb heq
        cases hop
        cases heq
        generalize hax : a.eval x = ax at hu
        refine wp_value (v' := ax) (w' := w) ?_ (hK _ μ w hu (.refl r _))
        cases hu
        simp [execOp, hax]
      · cases hop
  | binOp op t x y t2 =>
    simp only [aop] at hop
    cases hx : ev T x with
    | none => rw [hx] at hop; cases hop
    | some u =>
      cases hy : ev T y with
      | none => rw [hx, hy] at hop; cases hop
      | some z =>
        rw [hx, hy] at hop
        obtain ⟨h1, rfl⟩ := pureR_some hop
        obtain ⟨v', h2, h3⟩ := abinop_sound (w := w) x y h1 (hev x (by simp [Op.operands]) u hx) (hev y (by simp [Op.operands]) z hy)
        exact wp_value (v' := v') (w' := w) (runV h2) (hK _ μ w h3 (.refl r _))
  | unOp op t x =>
    simp only [aop] at hop
    cases hx : ev T x with
    | none => rw [hx] at hop; cases hop
    | some u =>
      rw [hx] at hop
      obtain ⟨h1, rfl⟩ := pureR_some hop
      obtain ⟨h2, h3⟩ := aunop_sound (P := P) (w := w) h1 (hev x (by simp [Op.operands]) u hx)
      exact wp_value (w' := w) (runV h2) (hK _ μ w h3 (.refl r _))
  | convert s d x =>
    simp only [aop] at hop
    cases hx : ev T x with
    | none => rw [hx] at hop; cases hop
    | some u =>
      rw [hx] at hop
      simp only at hop
      have hu := hev x (by simp [Op.operands]) u hx
      split at hop
      · rename_i y hy
        cases hop
        obtain ⟨h2, h3⟩ := aconvert_sound (w := w) hy hu
        exact wp_value (w' := w) (runV h2) (hK _ μ w h3 (.refl r _))
      · obtain ⟨h1, rfl⟩ := pureR_some hop
        have hdd : ∀ a n c, u = .slice (some a) n c → (fpOf T ⟨dst, .convert s d x, type, pos, after, guard⟩ q).D a.block := by
          intro a n c e
          simp only [fpOf, hx, e]
          rfl
        obtain ⟨h2, h3⟩ := bytes_sound r hdd hu h1
        exact wp_value (w' := w) (runV h2) (hK _ μ w h3 (.refl r _))
  | makeFunc fn first captured =>
    cases fn with
    | func f =>
      simp only [aop] at hop
      cases hx : evs T first.toList with
      | none => rw [hx] at hop; cases hop
      | some u =>
        cases hy : evs T captured.toList with
        | none => rw [hx, hy] at hop; cases hop
        | some z =>
          rw [hx, hy] at hop
          cases hop
          have h1 := evs_sound (ρ := a.eval) (fun x hx u hu => hev x (by simp [Op.operands]; exact .inl (by simpa using hx)) u hu) hx
          have h2 := evs_sound (ρ := a.eval) (fun x hx u hu => hev x (by simp [Op.operands]; exact .inr (by simpa using hx)) u hu) hy
          refine wp_value (v' := .func (.func f) ⟨first.toList.map a.eval⟩ ⟨captured.toList.map a.eval⟩) (w' := w) ?_ (hK _ μ w (.func _ h1 h2) (.refl r _))
          have e1 : (⟨first.toList.map a.eval⟩ : Array Value) = first.map a.eval := by apply Array.ext'; simp
          have e2 : (⟨captured.toList.map a.eval⟩ : Array Value) = captured.map a.eval := by apply Array.ext'; simp
          rw [e1, e2]
          rfl
    | _ => simp [aop] at hop
  | makeSlice t x y =>
    simp only [aop] at hop
    cases hx : ev T x with
    | none => rw [hx] at hop; cases hop
    | some u =>
      cases hy : ev T y with
      | none => rw [hx, hy] at hop; cases hop
      | some z =>
        rw [hx, hy] at hop
        simp only at hop
        have hnx : h'.next = h.next + 1 := by
          simp only [amakeSlice] at hop
          split at hop
          · split at hop
            · have hcn := condN hop; clear hop; obtain ⟨_, hop⟩ := hcn
              have hcn := condN hop; clear hop; obtain ⟨_, hop⟩ := hcn
              have hcn := condN hop; clear hop; obtain ⟨_, hop⟩ := hcn
              have hcn := condN hop; clear hop; obtain ⟨_, hop⟩ := hcn
              cases hop; rfl
            · cases hop
          · cases hop
        obtain ⟨v', ν, w', h2, h3, h4⟩ := makeSlice_sound r (hf _ (Nat.le_refl _) (by omega)) (hev x (by simp [Op.operands]) u hx) (hev y (by simp [Op.operands]) z hy) hop (fun i => (fpOf T ⟨dst, .makeSlice t x y, type, pos, after, guard⟩ q).W i ∧ h'.low ≤ i)
        exact wp_value (v' := v') (w' := w') (runV h2) (hK _ ν w' h3 h4)
  | slice t x lo hi mx =>
    simp only [aop] at hop
    cases hx : ev T x with
    | none => rw [hx] at hop; cases hop
    | some u =>
      cases h1 : evo T lo with
      | none => rw [hx, h1] at hop; cases hop
      | some l =>
        cases h2 : evo T hi with
        | none => rw [hx, h1, h2] at hop; cases hop
        | some hh =>
          cases h3 : evo T mx with
          | none => rw [hx, h1, h2, h3] at hop; cases hop
          | some m =>
            rw [hx, h1, h2, h3] at hop
            obtain ⟨h4, rfl⟩ := pureR_some hop
            have g1 := evo_sound (ρ := a.eval) (fun y hy u hu => hev y (by simp [Op.operands, hy]) u hu) h1
            have g2 := evo_sound (ρ := a.eval) (fun y hy u hu => hev y (by simp [Op.operands, hy]) u hu) h2
            have g3 := evo_sound (ρ := a.eval) (fun y hy u hu => hev y (by simp [Op.operands, hy]) u hu) h3
            obtain ⟨v', h5, h6⟩ := slice_sound (w := w) (hev x (by simp [Op.operands]) u hx) g1 g2 g3 h4
            exact wp_value (v' := v') (w' := w) (runV h5) (hK _ μ w h6 (.refl r _))
  | fieldAddr t x f =>
    simp only [aop] at hop
    cases hx : ev T x with
    | none => rw [hx] at hop; cases hop
    | some u =>
      rw [hx] at hop
      obtain ⟨h1, rfl⟩ := pureR_some hop
      obtain ⟨v', h2, h3⟩ := fieldAddr_sound (w := w) (hev x (by simp [Op.operands]) u hx) h1
      exact wp_value (v' := v') (w' := w) (runV h2) (hK _ μ w h3 (.refl r _))
  | field t x f =>
    simp only [aop] at hop
    cases hx : ev T x with
    | none => rw [hx] at hop; cases hop
    | some u =>
      rw [hx] at hop
      obtain ⟨h1, rfl⟩ := pureR_some hop
      obtain ⟨v', h2, h3⟩ := field_sound (w := w) (hev x (by simp [Op.operands]) u hx) h1
      exact wp_value (v' := v') (w' := w) (runV h2) (hK _ μ w h3 (.refl r _))
  | indexAddr t x y =>
    simp only [aop] at hop
    cases hx : ev T x with
    | none => rw [hx] at hop; cases hop
    | some u =>
      cases hy : ev T y with
      | none => rw [hx, hy] at hop; cases hop
      | some z =>
        rw [hx, hy] at hop
        obtain ⟨h1, rfl⟩ := pureR_some hop
        obtain ⟨v', h2, h3⟩ := indexAddr_sound (w := w) (hev x (by simp [Op.operands]) u hx) (hev y (by simp [Op.operands]) z hy) h1
        exact wp_value (v' := v') (w' := w) (runV h2) (hK _ μ w h3 (.refl r _))
  | index t x y =>
    simp only [aop] at hop
    cases hx : ev T x with
    | none => rw [hx] at hop; cases hop
    | some u =>
      cases hy : ev T y with
      | none => rw [hx, hy] at hop; cases hop
      | some z =>
        rw [hx, hy] at hop
        obtain ⟨h1, rfl⟩ := pureR_some hop
        obtain ⟨v', h2, h3⟩ := index_sound (w := w) (hev x (by simp [Op.operands]) u hx) (hev y (by simp [Op.operands]) z hy) h1
        exact wp_value (v' := v') (w' := w) (runV h2) (hK _ μ w h3 (.refl r _))
  | extract x i =>
    simp only [aop] at hop
    cases hx : ev T x with
    | none => rw [hx] at hop; cases hop
    | some u =>
      rw [hx] at hop
      have hu := hev x (by simp [Op.operands]) u hx
      cases u with
      | tuple vs =>
        simp only at hop
        obtain ⟨h1, rfl⟩ := pureR_some hop
        generalize hax : a.eval x = ax at hu
        cases hu with
        | tuple hr =>
          rw [nth_eq] at h1
          obtain ⟨v', h2, h3⟩ := hr.nth _ _ h1
          refine wp_value (v' := v') (w' := w) ?_ (hK _ μ w h3 (.refl r _))
          simp [execOp, hax, Instr.extract, h2]
      | _ => simp at hop
  | call c =>
    obtain ⟨callee, args, argTypes⟩ := c
    have hargs : ∀ x ∈ args.toList, ∀ v, ev T x = some v → VRel μ v (a.eval x) := fun x hx u hu => hev x (by simp [Op.operands, Call.operands]; exact .inr (by simpa using hx)) u hu
    have hmap : (args.map a.eval).toList = args.toList.map a.eval := by simp
    cases callee with
    | value f =>
      simp only [aop, acallv] at hop
      cases hfv : ev T f with
      | none => rw [hfv] at hop; cases hop
      | some fv =>
        cases hvs : evs T args.toList with
        | none => rw [hfv, hvs] at hop; cases fv <;> simp at hop
        | some vs =>
          rw [hfv, hvs] at hop
          have hfr := hev f (by simp [Op.operands, Call.operands]) fv hfv
          have hvr := evs_sound (ρ := a.eval) hargs hvs
          split at hop
          · rename_i g first captured vs' heq1 heq2
            cases heq1
            cases heq2
            have hfp : (fpOf T ⟨dst, .call ⟨.value f, args, argTypes⟩, type, pos, after, guard⟩ q) = .all q := by simp [fpOf]
            rw [hfp] at r hK
            generalize hax : a.eval f = ax at hfr
            cases hfr with
            | func _ ha hb =>
              rename_i fa fa' fb fb'
              obtain ⟨c1, c3, c4⟩ := hcall _ _ _ _ _ hop
              have hex : (execOp a.eval ⟨dst, .call ⟨.value f, args, argTypes⟩, type, pos, after, guard⟩).run P w = .ok (.enter g ((⟨fa'⟩ ++ args.map a.eval) ++ ⟨fb'⟩)) w := by
                simp [execOp, resolve, hax, Deferred.ofValue, invoke, c3]
              unfold Oper.wp
              rw [hex]
              simp only [Oper.upon]
              refine (c4 μ w _ (r.mono (fun _ _ => trivial)) hf ?_).mono ?_
              · have : ((⟨fa'⟩ ++ args.map a.eval) ++ ⟨fb'⟩ : Array Value).toList = fa' ++ (args.toList.map a.eval ++ fb') := by simp
                rw [this]
                exact ha.append (hvr.append hb)
              · rintro e w' ⟨v', ν, rfl, h1, h2⟩
                refine hK v' ν w' h1 ?_
                cases q with
                | false => exact h2.weaken (fun i hi => ⟨rfl, hi⟩)
                | true => exact (h2.quiet r.live (fun i hi => Nat.le_trans (hq rfl) hi)).weaken (fun i hi => hi.elim)
          · cases hop
    | builtin b =>
      simp only [aop] at hop
      cases hvs : evs T args.toList with
      | none => rw [hvs] at hop; cases hop
      | some vs =>
        rw [hvs] at hop
        simp only at hop
        have hvr := evs_sound (ρ := a.eval) hargs hvs
        have hex : (execOp a.eval ⟨dst, .call ⟨.builtin b, args, argTypes⟩, type, pos, after, guard⟩) = builtin b argTypes type (args.map fun | .const _ => true | _ => false) (args.map a.eval) := rfl
        have hmp : args.map a.eval = ⟨args.toList.map a.eval⟩ := by apply Array.ext'; simp
        have hrunV : ∀ {s : Sem Value} {v' : Value} {w' : World}, s.run P w = .ok v' w' → (do pure (.value (← s)) : Sem Next).run P w = .ok (.value v') w' := fun e => runV e
        generalize hL : args.toList.map a.eval = L at hvr hmp
        cases b with
        | append =>
          simp only [abuiltin] at hop
          split at hop
          · rename_i t t2 x y he
            have hfp : fpOf T ⟨dst, .call ⟨.builtin .append, args, argTypes⟩, type, pos, after, guard⟩ q = .wr (idsOf [x, y]) := by simp [fpOf, hvs]
            rw [hfp] at r hK
            cases hvr with
            | cons hx hr =>
              cases hr with
              | cons hy hn =>
                cases hn
                have hargT : argTypes = #[t, t2] := by apply Array.ext'; simpa using he
                subst hargT
                obtain ⟨v', ν, w', h1, h2, h3⟩ := append_sound (ty := type) (Wr := fun i => (Fp.wr (idsOf [x, y])).W i ∧ h'.low ≤ i) r (fun hlt => hf _ (Nat.le_refl _) hlt) hx hy
                  (fun a n c e => ⟨mem_ids (n := n) (c := c) (by rw [e]; simp), fun hl => ⟨mem_ids (n := n) (c := c) (by rw [e]; simp), hl⟩⟩) (fun a n c e => mem_ids (n := n) (c := c) (by rw [e]; simp)) hop
                refine wp_value (v' := v') (w' := w') ?_ (hK _ ν w' h2 h3)
                rw [hex, hmp]
                simp only [builtin]
                exact hrunV h1
          · cases hop
        | copy =>
          simp only [abuiltin] at hop
          split at hop
          · rename_i t t2 rest x y he
            have hfp : fpOf T ⟨dst, .call ⟨.builtin .copy, args, argTypes⟩, type, pos, after, guard⟩ q = .wr (idsOf [x, y]) := by simp [fpOf, hvs]
            rw [hfp] at r hK
            cases hvr with
            | cons hx hr =>
              cases hr with
              | cons hy hn =>
                cases hn
                obtain ⟨v', w', h1, h2, h3⟩ := copy_sound (ty := type) (Wr := fun i => (Fp.wr (idsOf [x, y])).W i ∧ h'.low ≤ i) r hx hy ⟨t2, rest, by apply Array.ext'; simpa using he⟩
                  (fun a n c e => ⟨mem_ids (n := n) (c := c) (by rw [e]; simp), fun hl => ⟨mem_ids (n := n) (c := c) (by rw [e]; simp), hl⟩⟩) (fun a n c e => mem_ids (n := n) (c := c) (by rw [e]; simp)) hop
                refine wp_value (v' := v') (w' := w') ?_ (hK _ μ w' h2 h3)
                rw [hex, hmp]
                simp only [builtin]
                exact hrunV h1
          · cases hop
        | clear =>
          simp only [abuiltin] at hop
          split at hop
          · rename_i t x he
            have hfp : fpOf T ⟨dst, .call ⟨.builtin .clear, args, argTypes⟩, type, pos, after, guard⟩ q = .wr (idsOf [x]) := by simp [fpOf, hvs]
            rw [hfp] at r hK
            cases hvr with
            | cons hx hr =>
              cases hr
              have hargT : argTypes = #[t] := by apply Array.ext'; simpa using he
              subst hargT
              obtain ⟨v', w', h1, h2, h3⟩ := clear_sound (ty := type) (Wr := fun i => (Fp.wr (idsOf [x])).W i ∧ h'.low ≤ i) r hx
                (fun a n c e => ⟨mem_ids (n := n) (c := c) (by rw [e]; simp), fun hl => ⟨mem_ids (n := n) (c := c) (by rw [e]; simp), hl⟩⟩) hop
              refine wp_value (v' := v') (w' := w') ?_ (hK _ μ w' h2 h3)
              rw [hex, hmp]
              simp only [builtin]
              exact hrunV h1
          · cases hop
        | len =>
          simp only [abuiltin] at hop
          split at hop
          · rename_i t rest x he
            split at hop
            · rename_i u hu
              cases hop
              cases hvr with
              | cons hx hr =>
                cases hr
                obtain ⟨h1, h2⟩ := len_sound (w := w) (args := argTypes) (ty := type) hx (by rw [← Array.getElem?_toList, he]; rfl) hu
                refine wp_value (w' := w) ?_ (hK _ μ w h2 (.refl r _))
                rw [hex, hmp]
                simp only [builtin]
                exact hrunV h1
            · cases hop
          · cases hop
        | min =>
          simp only [abuiltin] at hop
          split at hop
          · rename_i k x k' y
            have hcn := condN hop; clear hop; obtain ⟨hk, hop⟩ := hcn
            have hk := of_decide_eq_true hk
            subst hk
            cases hop
            cases hvr with
            | cons hx hr =>
              cases hr with
              | cons hy hn =>
                cases hn
                cases hx
                cases hy
                refine wp_value (v' := .int k (cond (decide (y < x)) y x)) (w' := w) ?_ (hK _ μ w (.int _ _) (.refl r _))
                rw [hex, hmp]
                simp only [builtin]
                exact hrunV (by simp only [Builtin.min_, List.foldlM_cons, List.foldlM_nil, Builtin.min2]; by_cases hc : y < x <;> simp [hc])
          · cases hop
        | max =>
          simp only [abuiltin] at hop
          split at hop
          · rename_i k x k' y
            have hcn := condN hop; clear hop; obtain ⟨hk, hop⟩ := hcn
            have hk := of_decide_eq_true hk
            subst hk
            cases hop
            cases hvr with
            | cons hx hr =>
              cases hr with
              | cons hy hn =>
                cases hn
                cases hx
                cases hy
                refine wp_value (v' := .int k (cond (decide (y > x)) y x)) (w' := w) ?_ (hK _ μ w (.int _ _) (.refl r _))
                rw [hex, hmp]
                simp only [builtin]
                exact hrunV (by simp only [Builtin.max_, List.foldlM_cons, List.foldlM_nil, Builtin.max2]; by_cases hc : y > x <;> simp [hc])
          · cases hop
        | _ => simp [abuiltin] at hop
    | invoke x m => simp [aop] at hop
  | _ => simp [aop] at hop
end
end Go.Am
