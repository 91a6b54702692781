/- Am6b: part of a calculus over an abstract machine that stands beside the model, and contracts of functions by it.
Conditions: what each theorem says of its arguments. -/
import Derived.Test.YtaaemamcdhebhaaAm6a
set_option linter.unusedVariables false
namespace Go.Am
open Go.RowKit

def SOK (P : Program) (callf : CallF) (n : Nat) (L : List Oper) (o : Oper) (T : Tr Value) (H : Heap) (T' : Tr Value) (H' : Heap) (f : Fp) : Prop :=
  (awanted L T o = some false ∧ aput n T o.dst undef = some T' ∧ (∀ i, H'.get i = H.get i) ∧ H'.next = H.next ∧ H'.low ≤ H.low ∧ f = .none) ∨
  ∃ v G G' q, awanted L T o = some true ∧ (∀ i, G.get i = H.get i) ∧ G.next = H.next ∧ aop P callf T o G = some (v, G') ∧ (q = true → G.next ≤ G'.low) ∧ f = fpOf T o q ∧ aput n T o.dst v = some T' ∧
    (∀ i, H'.get i = G'.get i) ∧ H'.next = G'.next ∧ H'.low ≤ G'.low ∧ H'.low ≤ H.low

section
variable {P : Program} {callf : CallF}

theorem SOK.hs (hcall : CallSound P callf) {n : Nat} {L : List Oper} {o : Oper} {T T' : Tr Value} {H H' : Heap} {f : Fp} (s : SOK P callf n L o T H T' H' f) : HS f.W H H' := by
  rcases s with ⟨_, _, h1, h2, h3, _⟩ | ⟨v, G, G', q, _, h1, h2, h3, h4, rfl, _, h5, h6, h7, h8⟩
  · exact ⟨by omega, h3, fun i _ e => absurd (h1 i) e, fun l i o g => (by rw [h2]; rw [h1] at g; exact l i o g), fun i o g => .inr (by rw [← h1]; exact g)⟩
  · have hs := aop_hs hcall h3 h4
    refine ⟨by have := hs.next; omega, h8, fun i hi e => ?_, fun l i o g => ?_, fun i o g => by rw [← h1]; exact hs.owns i o (by rw [← h5]; exact g)⟩
    · have := hs.abs i (by omega) (by rw [← h5, h1]; exact e)
      exact ⟨this.1, by omega⟩
    · rw [h5] at g
      rw [h6]
      exact hs.live (fun i o g => by rw [h2]; rw [h1] at g; exact l i o g) i o g
theorem SOK.tmp {n : Nat} {L : List Oper} {o : Oper} {T T' : Tr Value} {H H' : Heap} {f : Fp} (s : SOK P callf n L o T H T' H' f) {t : Nat} (ht : o.dst ≠ some t) : T'.get t = T.get t := by
  have key : ∀ {v : Value}, aput n T o.dst v = some T' → T'.get t = T.get t := by
    intro v h
    unfold aput at h
    split at h
    · cases h; rfl
    · rename_i d hd
      obtain ⟨_, h⟩ := condN h
      cases h
      exact Tr.get_set_ne _ _ (fun e => ht (by rw [hd, e]))
  rcases s with ⟨_, h, _⟩ | ⟨_, _, _, _, _, _, _, _, _, _, h, _⟩ <;> exact key h

/-- The way the abstract machine went. -/
structure Way (P : Program) (callf : CallF) (n : Nat) (ops : Array Oper) (Ts : Nat → Tr Value) (Hs : Nat → Heap) (fs : Nat → Fp) : Prop where
  step : ∀ k o, ops[k]? = some o → SOK P callf n ops.toList o (Ts k) (Hs k) (Ts (k + 1)) (Hs (k + 1)) (fs k)
  edges : ∀ k o, ops[k]? = some o → ∀ e ∈ o.after.toList, bindsB e = true → e.on < k
  pairs : ∀ i j o oj, i < j → ops[i]? = some o → ops[j]? = some oj → Bef ops i j ∨ (o.apart ops oj = true ∧ fpOk (fs i) (fs j) = true)
  live : Live (Hs 0)

variable {n : Nat} {ops : Array Oper} {Ts : Nat → Tr Value} {Hs : Nat → Heap} {fs : Nat → Fp}

theorem lt_size {k : Nat} {o : Oper} (h : ops[k]? = some o) : k < ops.size := by
  rcases Nat.lt_or_ge k ops.size with hk | hk
  · exact hk
  · rw [Array.getElem?_eq_none hk] at h; cases h

theorem Way.hs (hcall : CallSound P callf) (y : Way P callf n ops Ts Hs fs) {k : Nat} (hk : k < ops.size) : HS (fs k).W (Hs k) (Hs (k + 1)) :=
  (y.step k _ (Array.getElem?_eq_getElem hk)).hs hcall
theorem Way.lives (hcall : CallSound P callf) (y : Way P callf n ops Ts Hs fs) : ∀ k, k ≤ ops.size → Live (Hs k)
  | 0, _ => y.live
  | k + 1, h => (y.hs hcall (by omega)).live (y.lives hcall k (by omega))
theorem Way.next_le (hcall : CallSound P callf) (y : Way P callf n ops Ts Hs fs) {k : Nat} : ∀ {m : Nat}, k ≤ m → m ≤ ops.size → (Hs k).next ≤ (Hs m).next ∧ (Hs m).low ≤ (Hs k).low
  | 0, h, _ => (by have h0 : k = 0 := (by omega); subst h0; exact ⟨Nat.le_refl _, Nat.le_refl _⟩)
  | m + 1, h, hm => by
    by_cases e : k = m + 1
    · subst e; exact ⟨Nat.le_refl _, Nat.le_refl _⟩
    · have h1 := y.next_le hcall (m := m) (show k ≤ m by omega) (show m ≤ ops.size by omega)
      have h2 := y.hs hcall (k := m) (by omega)
      exact ⟨Nat.le_trans h1.1 h2.next, Nat.le_trans h2.low h1.2⟩

/-- Does step j turn row i? -/
def Tch (Hs : Nat → Heap) (j i : Nat) : Prop := (Hs (j + 1)).get i ≠ (Hs j).get i

theorem Way.tch (hcall : CallSound P callf) (y : Way P callf n ops Ts Hs fs) {i j : Nat} (hj : j < ops.size) (ht : Tch Hs j i) : (i < (Hs j).next ∧ (fs j).W i) ∨ ((Hs j).next ≤ i ∧ i < (Hs (j + 1)).next) := by
  have hs := y.hs hcall hj
  by_cases hi : i < (Hs j).next
  · exact .inl ⟨hi, (hs.abs i hi ht).1⟩
  · refine .inr ⟨by omega, Classical.byContradiction fun h2 => ht ?_⟩
    have h1 : (Hs j).get i = none := by
      cases hg : (Hs j).get i with
      | none => rfl
      | some o => exact absurd (y.lives hcall j (by omega) i o hg) hi
    have h3 : (Hs (j + 1)).get i = none := by
      cases hg : (Hs (j + 1)).get i with
      | none => rfl
      | some o => exact absurd (y.lives hcall (j + 1) (by omega) i o hg) h2
    rw [h1, h3]
theorem Way.get_same (y : Way P callf n ops Ts Hs fs) {i k : Nat} : ∀ {m : Nat}, k ≤ m → m ≤ ops.size → (∀ j, k ≤ j → j < m → ¬ Tch Hs j i) → (Hs m).get i = (Hs k).get i
  | 0, h, _, _ => (by have h0 : k = 0 := (by omega); subst h0; rfl)
  | m + 1, h, hm, hn => by
    by_cases e : k = m + 1
    · subst e; rfl
    · rw [← Way.get_same y (m := m) (by omega) (by omega) (fun j h1 h2 => hn j h1 (by omega))]
      exact Classical.byContradiction fun h2 => hn m (by omega) (by omega) h2
theorem Way.tmp_same (y : Way P callf n ops Ts Hs fs) {t k : Nat} : ∀ {m : Nat}, k ≤ m → m ≤ ops.size → (∀ j o, k ≤ j → j < m → ops[j]? = some o → o.dst ≠ some t) → (Ts m).get t = (Ts k).get t
  | 0, h, _, _ => (by have h0 : k = 0 := (by omega); subst h0; rfl)
  | m + 1, h, hm, hn => by
    by_cases e : k = m + 1
    · subst e; rfl
    · rw [← Way.tmp_same y (m := m) (by omega) (by omega) (fun j o h1 h2 => hn j o h1 (by omega))]
      have ho := Array.getElem?_eq_getElem (xs := ops) (i := m) (by omega)
      exact (y.step m _ ho).tmp (hn m _ (by omega) (by omega) ho)

/-- A row, as steps S have left it, is as ahead of step k. -/
structure Cons (ops : Array Oper) (Hs : Nat → Heap) (S : Nat → Prop) (i k : Nat) : Prop where
  lo : ∀ j, j < k → Tch Hs j i → S j
  hi : ∀ j, k ≤ j → j < ops.size → Tch Hs j i → ¬ S j

/-- Steps S are done: how the world stands to what the abstract machine told. -/
structure Inv (n : Nat) (ops : Array Oper) (Ts : Nat → Tr Value) (Hs : Nat → Heap) (fs : Nat → Fp) (μ0 : Mu) (w0 : World) (a0 : Act) (S : Nat → Prop) (μ : Mu) (a : Act) (w : World) : Prop where
  le : μ0.le μ
  dom : ∀ i, μ i ≠ μ0 i → ∃ k, S k ∧ k < ops.size ∧ (Hs k).next ≤ i ∧ i < (Hs (k + 1)).next
  defers : a.defers = a0.defers
  size : n ≤ a.tmps.size
  tmps : ∀ t k v, k ≤ ops.size → (∀ j o, j < k → ops[j]? = some o → o.dst = some t → S j) → (∀ j o, k ≤ j → ops[j]? = some o → o.dst = some t → ¬ S j) → (Ts k).get t = some v → t < a.tmps.size ∧ VRel μ v (a.tmps.getD t undef)
  cells : ∀ i k o p, k ≤ ops.size → Cons ops Hs S i k → (Hs k).get i = some o → μ i = some p → Match μ o p w
  disj : ∀ i j k m o o' p p' off, k ≤ ops.size → m ≤ ops.size → Cons ops Hs S i k → Cons ops Hs S j m → i ≠ j → (Hs k).get i = some o → (Hs m).get j = some o' → o.own = true → μ i = some p → μ j = some p' → p.block = p'.block → InReg o p off → ¬ InReg o' p' off
  keep : Keep (Own (Hs 0) μ0 (fun i => (Hs ops.size).low ≤ i)) w0 w
  regs : ∀ b off, b < w0.heap.size → ∀ i k o p, k ≤ ops.size → ((Hs ops.size).low ≤ i ∨ (Hs 0).next ≤ i) → Cons ops Hs S i k → (Hs k).get i = some o → o.own = true → μ i = some p → p.block = b → InReg o p off → Own (Hs 0) μ0 (fun i => (Hs ops.size).low ≤ i) b off
  mapd : ∀ j, S j → j < ops.size → ∀ x, x < (Hs j).next → Tch Hs j x → μ x ≠ none

theorem Inv.init (hcall : CallSound P callf) (y : Way P callf n ops Ts Hs fs) {μ0 : Mu} {w0 : World} {a0 : Act} (r : Rel (fun _ => True) μ0 (Hs 0) w0) (rt : TRel μ0 n (Ts 0) a0) : Inv n ops Ts Hs fs μ0 w0 a0 (fun _ => False) μ0 a0 w0 where
  le := Mu.le_refl _
  dom := fun i hi => absurd rfl hi
  defers := rfl
  size := rt.size
  tmps := fun t k v hk h1 h2 hv => by
    rw [y.tmp_same (Nat.zero_le k) hk (fun j o _ hj ho hd => h1 j o hj ho hd)] at hv
    exact rt.val t v hv
  cells := fun i k o p hk hc hg hm => by
    rw [y.get_same (Nat.zero_le k) hk (fun j _ hj ht => hc.lo j hj ht)] at hg
    exact r.cells i o p trivial hg hm
  disj := fun i j k m o o' p p' off hk hm hc hc' hij hg hg' ho h1 h2 hb => by
    rw [y.get_same (Nat.zero_le k) hk (fun j _ hj ht => hc.lo j hj ht)] at hg
    rw [y.get_same (Nat.zero_le m) hm (fun j _ hj ht => hc'.lo j hj ht)] at hg'
    exact r.disj i j o o' p p' off trivial trivial hij hg hg' ho h1 h2 hb
  keep := Keep.refl _ _
  regs := fun b off hb i k o p hk hl hc hg ho hm h5 h6 => by
    rw [y.get_same (Nat.zero_le k) hk (fun j _ hj ht => hc.lo j hj ht)] at hg
    have := r.live i o hg
    exact ⟨i, o, p, hl.resolve_right (by omega), hg, ho, hm, h5, h6⟩
  mapd := fun j hj => hj.elim

/-- The new rows of two steps are not the same. -/
theorem Way.new_ne (hcall : CallSound P callf) (y : Way P callf n ops Ts Hs fs) {i j x : Nat} (hi : i < ops.size) (hj : j < ops.size) (h1 : (Hs i).next ≤ x) (h2 : x < (Hs (i + 1)).next) (h3 : (Hs j).next ≤ x) (h4 : x < (Hs (j + 1)).next) : i = j := by
  rcases Nat.lt_trichotomy i j with h | h | h
  · have := (y.next_le hcall (k := i + 1) (m := j) (by omega) (by omega)).1; omega
  · exact h
  · have := (y.next_le hcall (k := j + 1) (m := i) (by omega) (by omega)).1; omega

/-- Two steps that are in no order touch nothing in common. -/
theorem Way.apart (y : Way P callf n ops Ts Hs fs) {S : Nat → Prop} {i j : Nat} {o oj : Oper} (hd : ∀ x z, S z → Bef ops x z → S x) (ho : ops[i]? = some o) (hoj : ops[j]? = some oj) (hi : ¬ S i) (hpre : ∀ x, Bef ops x i → S x) (h : (j < i ∧ ¬ S j) ∨ (i < j ∧ S j)) :
    (∀ d, o.dst = some d → d ∉ oj.looksAt ops) ∧ (∀ d, o.dst = some d → oj.dst ≠ some d) ∧ (∀ d, oj.dst = some d → d ∉ o.looksAt ops) ∧ (∀ x, (fs i).W x → ¬ (fs j).D x) ∧ (∀ x, (fs i).D x → ¬ (fs j).W x) := by
  rcases h with ⟨h1, h2⟩ | ⟨h1, h2⟩
  · rcases y.pairs j i oj o h1 hoj ho with hb | ⟨ha, hf⟩
    · exact absurd (hpre j hb) h2
    · obtain ⟨a1, a2, a3⟩ := Oper.apart_spec ha
      obtain ⟨f1, f2⟩ := fpOk_spec hf
      exact ⟨a3, fun d e1 e2 => a2 d e2 e1, a1, fun x e1 e2 => f2 x e2 e1, fun x e1 e2 => f1 x e2 e1⟩
  · rcases y.pairs i j o oj h1 ho hoj with hb | ⟨ha, hf⟩
    · exact absurd (hd i j h2 hb) hi
    · obtain ⟨a1, a2, a3⟩ := Oper.apart_spec ha
      obtain ⟨f1, f2⟩ := fpOk_spec hf
      exact ⟨a1, a2, a3, f1, f2⟩

theorem Inv.step (hcall : CallSound P callf) (y : Way P callf n ops Ts Hs fs) {μ0 : Mu} {w0 : World} {a0 : Act} {S : Nat → Prop} {μ : Mu} {a : Act} {w : World} (inv : Inv n ops Ts Hs fs μ0 w0 a0 S μ a w)
    (hfresh : ∀ i, (Hs 0).next ≤ i → i < (Hs ops.size).next → μ0 i = none) (hd : ∀ x z, S z → Bef ops x z → S x) {i : Nat} {o : Oper} (ho : ops[i]? = some o) (hi : ¬ S i) (hpre : ∀ x, Bef ops x i → S x)
    {K : Act → World → Prop} {Q : Exit → Act → World → Prop} (hK : ∀ μ' a' w', Inv n ops Ts Hs fs μ0 w0 a0 (fun x => S x ∨ x = i) μ' a' w' → K a' w') : wpOp P ops Q i K a w := by
  have hsz := lt_size ho
  have hs := y.hs hcall hsz
  have hstep := y.step i o ho
  have hap := fun {j : Nat} {oj : Oper} (hoj : ops[j]? = some oj) => y.apart (i := i) (j := j) (o := o) (oj := oj) hd ho hoj hi hpre
  -- temporaries that the step looks at stand as they stood
  have hlook : ∀ t, t ∈ o.looksAt ops → ∀ v, (Ts i).get t = some v → t < a.tmps.size ∧ VRel μ v (a.tmps.getD t undef) := by
    intro t ht v hv
    refine inv.tmps t i v (by omega) (fun j oj hj hoj hdj => ?_) (fun j oj hj hoj hdj hS => ?_) hv
    · exact Classical.byContradiction fun hS => (hap hoj (.inl ⟨hj, hS⟩)).2.2.1 t hdj ht
    · by_cases e : j = i
      · subst e; exact hi hS
      · exact (hap hoj (.inr ⟨by omega, hS⟩)).2.2.1 t hdj ht
  -- what the new state is like, given what became of the world
  have fin : ∀ (v v' : Value) (ν : Mu) (w' : World), aput n (Ts i) o.dst v = some (Ts (i + 1)) → VRel ν v v' → StepR (fs i).D (fun x => (fs i).W x ∧ (Hs (i + 1)).low ≤ x) μ (Hs i) w ν (Hs (i + 1)) w' → K (a.put o.dst v') w' := by
    intro v v' ν w' hput hv st
    have hlow : ∀ x, (fs i).W x ∧ (Hs (i + 1)).low ≤ x → (Hs ops.size).low ≤ x := fun x hx => Nat.le_trans (y.next_le hcall (k := i + 1) (m := ops.size) (by omega) (Nat.le_refl _)).2 hx.2
    have hnu : ∀ x, ¬ ((Hs i).next ≤ x ∧ x < (Hs (i + 1)).next) → ν x = μ x := fun x hx => Classical.byContradiction fun e => hx (st.dom x e)
    have stl := st.lt (y.lives hcall i (by omega))
    -- a mapped row, made by a step, was made by one of S
    have hmade : ∀ x j, j < ops.size → (Hs j).next ≤ x → x < (Hs (j + 1)).next → μ x ≠ none → S j := by
      intro x j hj h1 h2 hm
      have h3 := (y.next_le hcall (k := 0) (m := j) (by omega) (by omega)).1
      have h4 := (y.next_le hcall (k := j + 1) (m := ops.size) (by omega) (by omega)).1
      have h5 := hfresh x (by omega) (by omega)
      obtain ⟨k, hk, hk2, hk3, hk4⟩ := inv.dom x (by rw [h5]; exact hm)
      have := y.new_ne hcall hj hk2 h1 h2 hk3 hk4
      subst this
      exact hk
    have hoj : ∀ {j : Nat}, j < ops.size → ∃ oj, ops[j]? = some oj := fun hj => ⟨_, Array.getElem?_eq_getElem hj⟩
    -- what the step looks at stands as ahead of it
    have hD : ∀ x, (fs i).D x → x < (Hs i).next → μ x ≠ none → Cons ops Hs S x i := by
      intro x hx hlt hm
      refine ⟨fun j hj ht => ?_, fun j hj hj2 ht hS => ?_⟩
      · rcases y.tch hcall (by omega) ht with ⟨h1, h2⟩ | ⟨h1, h2⟩
        · refine Classical.byContradiction fun hS => ?_
          obtain ⟨oj, hj'⟩ := hoj (j := j) (by omega)
          exact (hap hj' (.inl ⟨hj, hS⟩)).2.2.2.2 x hx h2
        · exact hmade x j (by omega) h1 h2 hm
      · by_cases e : j = i
        · subst e; exact hi hS
        · have hn := (y.next_le hcall (k := i) (m := j) (by omega) (by omega)).1
          rcases y.tch hcall hj2 ht with ⟨h1, h2⟩ | ⟨h1, h2⟩
          · obtain ⟨oj, hj'⟩ := hoj hj2
            exact (hap hj' (.inr ⟨by omega, hS⟩)).2.2.2.2 x hx h2
          · omega
    -- and what it looks at or makes stands as behind it
    have hA : ∀ x, (((fs i).D x ∧ x < (Hs i).next ∧ μ x ≠ none) ∨ ((Hs i).next ≤ x ∧ x < (Hs (i + 1)).next)) → Cons ops Hs (fun z => S z ∨ z = i) x (i + 1) := by
      rintro x (⟨hx, hlt, hm⟩ | ⟨h1, h2⟩)
      · have hc := hD x hx hlt hm
        refine ⟨fun j hj ht => ?_, fun j hj hj2 ht hS => ?_⟩
        · by_cases e : j = i
          · exact .inr e
          · exact .inl (hc.lo j (by omega) ht)
        · exact hc.hi j (by omega) hj2 ht (hS.resolve_right (by omega))
      · refine ⟨fun j hj ht => ?_, fun j hj hj2 ht hS => ?_⟩
        · by_cases e : j = i
          · exact .inr e
          · have hn := (y.next_le hcall (k := j + 1) (m := i) (by omega) (by omega)).1
            have hn2 := (y.next_le hcall (k := j) (m := j + 1) (by omega) (by omega)).1
            rcases y.tch hcall (by omega) ht with ⟨h3, _⟩ | ⟨_, h3⟩ <;> omega
        · have hSj := hS.resolve_right (by omega)
          have hn := (y.next_le hcall (k := i + 1) (m := j) (by omega) (by omega)).1
          have hm := inv.mapd j hSj hj2 x (by omega) ht
          exact hi (hmade x i hsz h1 h2 hm)
    have huniq : ∀ {S' : Nat → Prop} {x k m : Nat}, k ≤ ops.size → m ≤ ops.size → Cons ops Hs S' x k → Cons ops Hs S' x m → (Hs k).get x = (Hs m).get x := by
      intro S' x k m hk hm h1 h2
      rcases Nat.le_total k m with h | h
      · exact (y.get_same h hm (fun j h3 h4 ht => h1.hi j h3 (by omega) ht (h2.lo j h4 ht))).symm
      · exact y.get_same h hk (fun j h3 h4 ht => h2.hi j h3 (by omega) ht (h1.lo j h4 ht))
    -- all others: untouched
    have hB : ∀ x k, k ≤ ops.size → ¬ (((fs i).D x ∧ x < (Hs i).next) ∨ ((Hs i).next ≤ x ∧ x < (Hs (i + 1)).next)) → Cons ops Hs (fun z => S z ∨ z = i) x k → Cons ops Hs S x k := by
      intro x k hk hn hc
      have hnt : ¬ Tch Hs i x := fun ht => by
        rcases y.tch hcall hsz ht with ⟨h1, h2⟩ | h1
        · exact hn (.inl ⟨(fs i).W_D x h2, h1⟩)
        · exact hn (.inr h1)
      exact ⟨fun j hj ht => (hc.lo j hj ht).resolve_right (by rintro rfl; exact hnt ht), fun j hj hj2 ht hS => hc.hi j hj hj2 ht (.inl hS)⟩
    have hBnu : ∀ x, ¬ (((fs i).D x ∧ x < (Hs i).next) ∨ ((Hs i).next ≤ x ∧ x < (Hs (i + 1)).next)) → ν x = μ x := fun x hn => hnu x (fun h => hn (.inr h))
    -- a row of A: as the step's own relation tells it
    have hAget : ∀ x k ox px, k ≤ ops.size → (((fs i).D x ∧ x < (Hs i).next) ∨ ((Hs i).next ≤ x ∧ x < (Hs (i + 1)).next)) → Cons ops Hs (fun z => S z ∨ z = i) x k → (Hs k).get x = some ox → ν x = some px →
        (Hs (i + 1)).get x = some ox ∧ ((fs i).D x ∨ (Hs i).next ≤ x) ∧ (x < (Hs i).next → μ x = some px ∧ Cons ops Hs S x i) := by
      intro x k ox px hk hx hc hg hm
      have hmu : x < (Hs i).next → μ x = some px := fun h => by rw [← hnu x (by omega)]; exact hm
      have hx' : (((fs i).D x ∧ x < (Hs i).next ∧ μ x ≠ none) ∨ ((Hs i).next ≤ x ∧ x < (Hs (i + 1)).next)) := by
        rcases hx with ⟨h1, h2⟩ | h1
        · exact .inl ⟨h1, h2, by rw [hmu h2]; simp⟩
        · exact .inr h1
      have hget := huniq hk (by omega) hc (hA x hx')
      rw [hget] at hg
      refine ⟨hg, ?_, fun h => ⟨hmu h, ?_⟩⟩
      · rcases hx with ⟨h1, _⟩ | ⟨h1, _⟩
        · exact .inl h1
        · exact .inr h1
      · rcases hx' with ⟨h1, h2, h3⟩ | ⟨h1, _⟩
        · exact hD x h1 h2 h3
        · omega
    -- the regions that the step writes
    have hOwn : ∀ b off, Own (Hs i) μ (fun x => ((fs i).W x ∧ (Hs (i + 1)).low ≤ x) ∧ x < (Hs i).next) b off → ∃ q oq pq, (fs i).D q ∧ q < (Hs i).next ∧ (Hs ops.size).low ≤ q ∧ Cons ops Hs S q i ∧ (Hs i).get q = some oq ∧ oq.own = true ∧ μ q = some pq ∧ pq.block = b ∧ InReg oq pq off := by
      rintro b off ⟨q, oq, pq, ⟨h1, h2⟩, h3, h4, h5, h6⟩
      have hdq := (fs i).W_D q h1.1
      exact ⟨q, oq, pq, hdq, h2, hlow q h1, hD q hdq h2 (by rw [h5]; simp), h3, h4, h5, h6⟩
    -- a row of B lies outside of what the step writes
    have hout : ∀ x k ox px, k ≤ ops.size → ¬ (((fs i).D x ∧ x < (Hs i).next) ∨ ((Hs i).next ≤ x ∧ x < (Hs (i + 1)).next)) → Cons ops Hs S x k → (Hs k).get x = some ox → μ x = some px → ∀ off, InReg ox px off → ¬ Own (Hs i) μ (fun x => ((fs i).W x ∧ (Hs (i + 1)).low ≤ x) ∧ x < (Hs i).next) px.block off := by
      intro x k ox px hk hn hc hg hm off hr hO
      obtain ⟨q, oq, pq, q1, q2, q3, q4, q5, q6, q7, q8, q9⟩ := hOwn _ _ hO
      exact inv.disj q x i k oq ox pq px off (by omega) hk q4 hc (by rintro rfl; exact hn (.inl ⟨q1, q2⟩)) q5 hg q6 q7 hm q8 q9 hr
    refine hK ν _ w' ⟨Mu.le_trans inv.le st.le, ?_, (defers_put _ _ _).trans inv.defers, by rw [size_put]; exact inv.size, ?_, ?_, ?_, ?_, ?_, ?_⟩
    · -- dom
      intro x hx
      by_cases e : ν x = μ x
      · rw [e] at hx
        obtain ⟨k, h1, h2⟩ := inv.dom x hx
        exact ⟨k, .inl h1, h2⟩
      · exact ⟨i, .inr rfl, hsz, st.dom x e⟩
    · -- tmps
      intro t k u hk hlo hhi hu
      rw [size_put]
      by_cases hd' : o.dst = some t
      · have hik : i < k := by
          rcases Nat.lt_or_ge i k with h | h
          · exact h
          · exact absurd (.inr rfl) (hhi i o h ho hd')
        have hsame := y.tmp_same (t := t) (k := i + 1) (m := k) (by omega) hk (fun j oj h1 h2 hj hdj => by
          have hSj := (hlo j oj h2 hj hdj).resolve_right (by omega)
          exact (hap hj (.inr ⟨by omega, hSj⟩)).2.1 t hd' hdj)
        rw [hsame] at hu
        rw [hd'] at hput ⊢
        have hput : cond (Nat.ble (Nat.succ t) n) (some ((Ts i).set t (some v))) none = some (Ts (i + 1)) := hput
        obtain ⟨h1, h2⟩ := condN hput
        have htn := ble_lt h1
        injection h2 with h2
        rw [← h2, Tr.get_set_eq] at hu
        cases hu
        have hts := Nat.lt_of_lt_of_le htn inv.size
        rw [getD_put _ _ _ _ hts, if_pos rfl]
        exact ⟨hts, hv⟩
      · obtain ⟨h1, h2⟩ := inv.tmps t k u hk (fun j oj hj ho' hdj => (hlo j oj hj ho' hdj).resolve_right (by rintro rfl; rw [ho] at ho'; cases ho'; exact hd' hdj)) (fun j oj hj ho' hdj hS => hhi j oj hj ho' hdj (.inl hS)) hu
        refine ⟨h1, ?_⟩
        have : (a.put o.dst v').tmps.getD t undef = a.tmps.getD t undef := by
          cases hd2 : o.dst with
          | none => rfl
          | some d =>
            simp only [Act.put, Array.getD_eq_getD_getElem?, Array.getElem?_setIfInBounds]
            rw [if_neg (by rintro rfl; exact hd' hd2)]
        rw [this]
        exact h2.mono st.le
    · -- cells
      intro x k ox px hk hc hg hm
      by_cases hx : (((fs i).D x ∧ x < (Hs i).next) ∨ ((Hs i).next ≤ x ∧ x < (Hs (i + 1)).next))
      · obtain ⟨h1, h2, _⟩ := hAget x k ox px hk hx hc hg hm
        exact st.rel.cells x ox px h2 h1 hm
      · have hc' := hB x k hk hx hc
        rw [hBnu x hx] at hm
        exact (inv.cells x k ox px hk hc' hg hm).keep st.le stl.keep (hout x k ox px hk hx hc' hg hm)
    · -- disj
      intro x z k m ox oz px pz off hk hm hcx hcz hxz hgx hgz hox hmx hmz hb hr hr'
      by_cases hx : (((fs i).D x ∧ x < (Hs i).next) ∨ ((Hs i).next ≤ x ∧ x < (Hs (i + 1)).next))
      · obtain ⟨x1, x2, x3⟩ := hAget x k ox px hk hx hcx hgx hmx
        by_cases hz : (((fs i).D z ∧ z < (Hs i).next) ∨ ((Hs i).next ≤ z ∧ z < (Hs (i + 1)).next))
        · obtain ⟨z1, z2, _⟩ := hAget z m oz pz hm hz hcz hgz hmz
          exact st.rel.disj x z ox oz px pz off x2 z2 hxz x1 z1 hox hmx hmz hb hr hr'
        · have hcz' := hB z m hm hz hcz
          rw [hBnu z hz] at hmz
          by_cases hw : (((fs i).W x ∧ (Hs (i + 1)).low ≤ x) ∧ x < (Hs i).next) ∨ (Hs i).next ≤ x
          · have hlt := (inv.cells z m oz pz hm hcz' hgz hmz).inReg_lt hr'
            have hO := stl.regs px.block off (by rw [hb]; exact hlt) ⟨x, ox, px, hw, x1, hox, hmx, rfl, hr⟩
            rw [hb] at hO
            exact hout z m oz pz hm hz hcz' hgz hmz off hr' hO
          · have hlt : x < (Hs i).next := by omega
            obtain ⟨x4, x5⟩ := x3 hlt
            rw [stl.abs x hlt (fun h => hw (.inl h))] at x1
            exact inv.disj x z i m ox oz px pz off (by omega) hm x5 hcz' hxz x1 hgz hox x4 hmz hb hr hr'
      · have hcx' := hB x k hk hx hcx
        rw [hBnu x hx] at hmx
        by_cases hz : (((fs i).D z ∧ z < (Hs i).next) ∨ ((Hs i).next ≤ z ∧ z < (Hs (i + 1)).next))
        · obtain ⟨z1, z2, z3⟩ := hAget z m oz pz hm hz hcz hgz hmz
          by_cases hw : (((fs i).W z ∧ (Hs (i + 1)).low ≤ z) ∧ z < (Hs i).next) ∨ (Hs i).next ≤ z
          · rcases stl.owns z oz hw z1 with hoz | ⟨hlt, heq⟩
            · have hlt := (inv.cells x k ox px hk hcx' hgx hmx).inReg_lt hr
              have hO := stl.regs pz.block off (by rw [← hb]; exact hlt) ⟨z, oz, pz, hw, z1, hoz, hmz, rfl, hr'⟩
              rw [← hb] at hO
              exact hout x k ox px hk hx hcx' hgx hmx off hr hO
            · obtain ⟨z4, z5⟩ := z3 hlt
              rw [heq] at z1
              exact inv.disj x z k i ox oz px pz off hk (by omega) hcx' z5 hxz hgx z1 hox hmx z4 hb hr hr'
          · have hlt : z < (Hs i).next := by omega
            obtain ⟨z4, z5⟩ := z3 hlt
            rw [stl.abs z hlt (fun h => hw (.inl h))] at z1
            exact inv.disj x z k i ox oz px pz off hk (by omega) hcx' z5 hxz hgx z1 hox hmx z4 hb hr hr'
        · have hcz' := hB z m hm hz hcz
          rw [hBnu z hz] at hmz
          exact inv.disj x z k m ox oz px pz off hk hm hcx' hcz' hxz hgx hgz hox hmx hmz hb hr hr'
    · -- keep
      refine inv.keep.trans stl.keep (fun b off hb hO => ?_)
      obtain ⟨q, oq, pq, q1, q2, q3, q4, q5, q6, q7, q8, q9⟩ := hOwn _ _ hO
      exact inv.regs b off hb q i oq pq (by omega) (.inl q3) q4 q5 q6 q7 q8 q9
    · -- regs
      intro b off hb x k ox px hk hl hc hg hox hm h5 h6
      by_cases hx : (((fs i).D x ∧ x < (Hs i).next) ∨ ((Hs i).next ≤ x ∧ x < (Hs (i + 1)).next))
      · obtain ⟨x1, x2, x3⟩ := hAget x k ox px hk hx hc hg hm
        by_cases hw : (((fs i).W x ∧ (Hs (i + 1)).low ≤ x) ∧ x < (Hs i).next) ∨ (Hs i).next ≤ x
        · have hO := stl.regs b off (Nat.lt_of_lt_of_le hb inv.keep.size) ⟨x, ox, px, hw, x1, hox, hm, h5, h6⟩
          obtain ⟨q, oq, pq, q1, q2, q3, q4, q5, q6, q7, q8, q9⟩ := hOwn _ _ hO
          exact inv.regs b off hb q i oq pq (by omega) (.inl q3) q4 q5 q6 q7 q8 q9
        · have hlt : x < (Hs i).next := by omega
          obtain ⟨x4, x5⟩ := x3 hlt
          rw [stl.abs x hlt (fun h => hw (.inl h))] at x1
          exact inv.regs b off hb x i ox px (by omega) hl x5 x1 hox x4 h5 h6
      · have hc' := hB x k hk hx hc
        rw [hBnu x hx] at hm
        exact inv.regs b off hb x k ox px hk hl hc' hg hox hm h5 h6
    · -- mapd
      intro j hj hj2 x hx ht
      have hle : ∀ x, μ x ≠ none → ν x ≠ none := by
        intro x h
        cases hm : μ x with
        | none => exact absurd hm h
        | some p => rw [st.le x p hm]; simp
      rcases hj with hj | rfl
      · exact hle x (inv.mapd j hj hj2 x hx ht)
      · exact hle x (st.mapd x hx ht)
  -- the step itself
  unfold wpOp
  rw [ho]
  simp only
  have hgd : ∀ j want d, o.guard = some (j, want) → (∃ oj, ops[j]? = some oj ∧ oj.dst = some d) → ∀ v, (Ts i).get d = some v → d < a.tmps.size ∧ VRel μ v (a.tmps.getD d undef) := by
    rintro j want d hg ⟨oj, hj, hdj⟩ v hv
    exact hlook d (looks_guard hg hj hdj) v hv
  have hrel : Rel (fs i).D μ (Hs i) w := by
    -- (the same facts as in 'fin', for what the step looks at)
    have hmade : ∀ x j, j < ops.size → (Hs j).next ≤ x → x < (Hs (j + 1)).next → μ x ≠ none → S j := by
      intro x j hj h1 h2 hm
      have h3 := (y.next_le hcall (k := 0) (m := j) (by omega) (by omega)).1
      have h4 := (y.next_le hcall (k := j + 1) (m := ops.size) (by omega) (by omega)).1
      have h5 := hfresh x (by omega) (by omega)
      obtain ⟨k, hk, hk2, hk3, hk4⟩ := inv.dom x (by rw [h5]; exact hm)
      have := y.new_ne hcall hj hk2 h1 h2 hk3 hk4
      subst this
      exact hk
    have hoj : ∀ {j : Nat}, j < ops.size → ∃ oj, ops[j]? = some oj := fun hj => ⟨_, Array.getElem?_eq_getElem hj⟩
    have hD : ∀ x, (fs i).D x → x < (Hs i).next → μ x ≠ none → Cons ops Hs S x i := by
      intro x hx hlt hm
      refine ⟨fun j hj ht => ?_, fun j hj hj2 ht hS => ?_⟩
      · rcases y.tch hcall (by omega) ht with ⟨h1, h2⟩ | ⟨h1, h2⟩
        · refine Classical.byContradiction fun hS => ?_
          obtain ⟨oj, hj'⟩ := hoj (j := j) (by omega)
          exact (hap hj' (.inl ⟨hj, hS⟩)).2.2.2.2 x hx h2
        · exact hmade x j (by omega) h1 h2 hm
      · by_cases e : j = i
        · subst e; exact hi hS
        · have hn := (y.next_le hcall (k := i) (m := j) (by omega) (by omega)).1
          rcases y.tch hcall hj2 ht with ⟨h1, h2⟩ | ⟨h1, h2⟩
          · obtain ⟨oj, hj'⟩ := hoj hj2
            exact (hap hj' (.inr ⟨by omega, hS⟩)).2.2.2.2 x hx h2
          · omega
    have hl := y.lives hcall i (by omega)
    refine ⟨fun x ox px hx hg hm => ?_, fun x z ox oz px pz off hx hz hxz hgx hgz hox hmx hmz hb hr => ?_, hl⟩
    · exact inv.cells x i ox px (by omega) (hD x hx (hl x ox hg) (by rw [hm]; simp)) hg hm
    · exact inv.disj x z i i ox oz px pz off (by omega) (by omega) (hD x hx (hl x ox hgx) (by rw [hmx]; simp)) (hD z hz (hl z oz hgz) (by rw [hmz]; simp)) hxz hgx hgz hox hmx hmz hb hr
  rcases hstep with ⟨hw, hput, h1, h2, h3, hf⟩ | ⟨v, G, G', q, hw, h1, h2, h3, h4, hf, hput, h5, h6, h7, h8⟩
  · rw [wanted_sound hgd hw]
    simp only [Bool.false_eq_true, if_false]
    exact fin undef undef μ w hput (undef_rel μ) ((StepR.refl hrel _).congr (fun _ => rfl) rfl h1 h2)
  · rw [wanted_sound hgd hw]
    simp only [if_true]
    refine .inl ?_
    have hnn : (Hs (i + 1)).next ≤ (Hs ops.size).next := (y.next_le hcall (k := i + 1) (m := ops.size) (by omega) (by omega)).1
    have h0n : (Hs 0).next ≤ (Hs i).next := (y.next_le hcall (k := 0) (m := i) (by omega) (by omega)).1
    rw [hf] at hrel
    refine aop_sound hcall h3 h4 (hrel.congr h1 h2) (fun x hx u hu => ?_) (fun x hx hx2 => ?_) (fun v' ν w' hv st => ?_)
    · cases x with
      | tmp t => exact (hlook t (looks_tmp hx rfl) u hu).2
      | const c =>
        have hu : cond (closedV c) (some c) none = some u := hu
        obtain ⟨g1, g2⟩ := condN hu
        cases g2
        exact closedV_rel μ g1
      | global g => cases hu
      | func f => cases hu; exact .func _ .nil .nil
    · -- what is new is not in the map
      have h9 := hfresh x (by omega) (by omega)
      refine Classical.byContradiction fun hm => ?_
      obtain ⟨k, hk, hk2, hk3, hk4⟩ := inv.dom x (by rw [h9]; exact hm)
      have := y.new_ne hcall hsz hk2 (by omega) (by omega) hk3 hk4
      subst this
      exact hi hk
    · refine fin v v' ν w' hput hv ?_
      rw [hf]
      refine (st.weaken (Wr' := fun x => (fpOf (Ts i) o q).W x ∧ (Hs (i + 1)).low ≤ x) (fun x hx => ⟨hx.1, Nat.le_trans h7 hx.2⟩)).congr (fun x => (h1 x).symm) h2.symm h5 h6
end
end Go.Am
