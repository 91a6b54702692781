/- Am7: part of a calculus over an abstract machine that stands beside the model, and contracts of functions by it.
Conditions: what each theorem says of its arguments. -/
import Derived.Test.YtaaemamcdhebhaaAm6b
set_option linter.unusedVariables false
namespace Go.Am
open Go.RowKit

section
variable {P : Program} {callf : CallF} {n : Nat} {ops : Array Oper} {Ts : Nat → Tr Value} {Hs : Nat → Heap} {fs : Nat → Fp}

theorem countP_lt {p q : Nat → Bool} : ∀ {l : List Nat} {i : Nat}, (∀ x, q x = true → p x = true) → i ∈ l → p i = true → q i = false → l.countP q < l.countP p
  | [], i, _, h, _, _ => by simp at h
  | x :: l, i, hs, h, hp, hq => by
    have hle : ∀ l : List Nat, l.countP q ≤ l.countP p := fun l => List.countP_mono_left (fun x _ => hs x)
    rcases List.mem_cons.1 h with rfl | h
    · rw [List.countP_cons_of_pos hp, List.countP_cons_of_neg (by simp [hq])]
      have := hle l; omega
    · have ih := countP_lt hs h hp hq
      rw [List.countP_cons, List.countP_cons]
      by_cases hqx : q x = true
      · rw [if_pos hqx, if_pos (hs x hqx)]; omega
      · rw [if_neg hqx]; omega

theorem Way.any (hcall : CallSound P callf) (y : Way P callf n ops Ts Hs fs) {μ0 : Mu} {w0 : World} {a0 : Act} {Q : Exit → Act → World → Prop} (hfresh : ∀ i, (Hs 0).next ≤ i → i < (Hs ops.size).next → μ0 i = none)
    (hQ : ∀ μ a w S, (∀ j, j < ops.size → S j) → Inv n ops Ts Hs fs μ0 w0 a0 S μ a w → Q .normal a w) : ∀ (fuel : Nat) (listed : Array Bool) (μ : Mu) (a : Act) (w : World), listed.size = ops.size → (List.range ops.size).countP (fun j => !listed.getD j true) ≤ fuel →
    (∀ z oz, listed.getD z false = true → ops[z]? = some oz → ∀ e ∈ oz.after.toList, bindsB e = true → listed.getD e.on false = true) → Inv n ops Ts Hs fs μ0 w0 a0 (fun z => listed.getD z false = true) μ a w → wpAny P .any ops Q fuel listed a w := by
  intro fuel
  -- facts of what is listed
  have closed : ∀ (listed : Array Bool), (∀ z oz, listed.getD z false = true → ops[z]? = some oz → ∀ e ∈ oz.after.toList, bindsB e = true → listed.getD e.on false = true) → ∀ z x, listed.getD z false = true → Bef ops x z → listed.getD x false = true := by
    intro listed hd z
    induction z using Nat.strongRecOn with
    | _ z ih =>
      intro x hz hb
      obtain ⟨o, e, h1, h2, h3, h4, h5⟩ := hb.edge
      have h6 := hd z o hz h1 e h2 h3
      rcases h5 with rfl | h5
      · exact h6
      · exact ih e.on h4 x h6 h5
  have ready : ∀ (listed : Array Bool) (i : Nat), listed.size = ops.size → (i ∈ Region.ready .any ops listed ↔ i < ops.size ∧ listed.getD i true = false ∧ ∀ o, ops[i]? = some o → ∀ e ∈ o.after.toList, bindsB e = true → listed.getD e.on false = true) := by
    intro listed i hs
    unfold Region.ready
    rw [List.mem_filter, List.mem_range]
    constructor
    · rintro ⟨h1, h2⟩
      rw [Bool.and_eq_true, Bool.not_eq_true'] at h2
      refine ⟨h1, h2.1, fun o ho e he hb => ?_⟩
      have h3 := h2.2
      rw [ho] at h3
      simp only [Option.map_some, Option.getD_some] at h3
      have h4 := (Array.all_eq_true_iff_forall_mem.1 h3) e (by simpa using he)
      rw [binds_any, hb] at h4
      simpa using h4
    · rintro ⟨h1, h2, h3⟩
      refine ⟨h1, ?_⟩
      rw [h2]
      have ho := Array.getElem?_eq_getElem (xs := ops) h1
      rw [ho]
      simp only [Option.map_some, Option.getD_some, Bool.not_false, Bool.true_and]
      refine Array.all_eq_true_iff_forall_mem.2 (fun e he => ?_)
      rw [binds_any]
      cases hb : bindsB e with
      | false => rfl
      | true => rw [h3 _ ho e (by simpa using he) hb]; rfl
  have getD_eq : ∀ (listed : Array Bool) (i : Nat), listed.size = ops.size → i < ops.size → listed.getD i true = listed.getD i false := by
    intro listed i hs hi
    simp [Array.getD, hs, hi]
  have done : ∀ (listed : Array Bool), listed.size = ops.size → Region.ready .any ops listed = [] → ∀ j, j < ops.size → listed.getD j false = true := by
    intro listed hs hr j
    induction j using Nat.strongRecOn with
    | _ j ih =>
      intro hj
      refine Classical.byContradiction fun hn => ?_
      have hm : j ∈ Region.ready .any ops listed := (ready listed j hs).2 ⟨hj, by rw [getD_eq listed j hs hj]; simpa using hn, fun o ho e he hb => ih e.on (y.edges j o ho e he hb) (Nat.lt_trans (y.edges j o ho e he hb) hj)⟩
      rw [hr] at hm
      simp at hm
  have one : ∀ (fuel : Nat) (listed : Array Bool) (μ : Mu) (a : Act) (w : World), (∀ (listed : Array Bool) (μ : Mu) (a : Act) (w : World), listed.size = ops.size → (List.range ops.size).countP (fun j => !listed.getD j true) ≤ fuel →
      (∀ z oz, listed.getD z false = true → ops[z]? = some oz → ∀ e ∈ oz.after.toList, bindsB e = true → listed.getD e.on false = true) → Inv n ops Ts Hs fs μ0 w0 a0 (fun z => listed.getD z false = true) μ a w → wpAny P .any ops Q fuel listed a w) →
      listed.size = ops.size → (List.range ops.size).countP (fun j => !listed.getD j true) ≤ fuel + 1 → (∀ z oz, listed.getD z false = true → ops[z]? = some oz → ∀ e ∈ oz.after.toList, bindsB e = true → listed.getD e.on false = true) →
      Inv n ops Ts Hs fs μ0 w0 a0 (fun z => listed.getD z false = true) μ a w → ∀ i ∈ Region.ready .any ops listed, wpOp P ops Q i (wpAny P .any ops Q fuel (listed.setIfInBounds i true)) a w := by
    intro fuel listed μ a w ih hs hc hd inv i hi
    obtain ⟨h1, h2, h3⟩ := (ready listed i hs).1 hi
    have ho := Array.getElem?_eq_getElem (xs := ops) h1
    have hni : ¬ listed.getD i false = true := by rw [← getD_eq listed i hs h1, h2]; simp
    have hset : ∀ z (d : Bool), (listed.setIfInBounds i true).getD z d = if z = i then true else listed.getD z d := by
      intro z d
      simp only [Array.getD_eq_getD_getElem?, Array.getElem?_setIfInBounds]
      by_cases e : i = z
      · subst e; simp [hs, h1]
      · rw [if_neg e, if_neg (fun x => e x.symm)]
    refine Inv.step hcall y inv hfresh (fun x z hz hb => closed listed hd z x hz hb) ho hni (fun x hb => ?_) (fun μ' a' w' inv' => ?_)
    · obtain ⟨o, e, g1, g2, g3, g4, g5⟩ := hb.edge
      have g6 := h3 o g1 e g2 g3
      rcases g5 with rfl | g5
      · exact g6
      · exact closed listed hd e.on x g6 g5
    · refine ih (listed.setIfInBounds i true) μ' a' w' (by simp [hs]) ?_ ?_ ?_
      · have := countP_lt (p := fun j => !listed.getD j true) (q := fun j => !(listed.setIfInBounds i true).getD j true) (l := List.range ops.size) (i := i) (fun x hx => by
          simp only [hset] at hx ⊢
          by_cases e : x = i
          · rw [if_pos e] at hx; simp at hx
          · rw [if_neg e] at hx; exact hx) (List.mem_range.2 h1) (by simp [h2]) (by simp [hset])
        omega
      · intro z oz hz hoz e he hb
        rw [hset] at hz ⊢
        by_cases e2 : e.on = i
        · rw [if_pos e2]
        · rw [if_neg e2]
          by_cases e3 : z = i
          · subst e3; exact h3 oz hoz e he hb
          · rw [if_neg e3] at hz; exact hd z oz hz hoz e he hb
      · have : (fun z => (listed.setIfInBounds i true).getD z false = true) = (fun z => listed.getD z false = true ∨ z = i) := by
          funext z
          rw [hset]
          by_cases e : z = i
          · simp [e]
          · rw [if_neg e]; simp [e]
        rw [this]
        exact inv'
  induction fuel with
  | zero =>
    intro listed μ a w hs hc hd inv
    have hr : Region.ready .any ops listed = [] := by
      rw [List.eq_nil_iff_forall_not_mem]
      intro i hi
      obtain ⟨h1, h2, _⟩ := (ready listed i hs).1 hi
      have := List.countP_eq_zero.1 (Nat.le_zero.1 hc) i (List.mem_range.2 h1)
      simp [h2] at this
    exact ⟨hr, hQ μ a w _ (done listed hs hr) inv⟩
  | succ fuel ih =>
    intro listed μ a w hs hc hd inv
    exact ⟨fun hr => hQ μ a w _ (done listed hs hr) inv, one fuel listed μ a w ih hs hc hd inv⟩

/-- All steps are done: the world stands to the end as the abstract machine tells. -/
theorem Inv.final (hcall : CallSound P callf) (y : Way P callf n ops Ts Hs fs) {μ0 : Mu} {w0 : World} {a0 : Act} {S : Nat → Prop} {μ : Mu} {a : Act} {w : World} (hS : ∀ j, j < ops.size → S j) (inv : Inv n ops Ts Hs fs μ0 w0 a0 S μ a w) :
    a.defers = a0.defers ∧ TRel μ n (Ts ops.size) a ∧ StepR (fun _ => True) (fun i => (Hs ops.size).low ≤ i) μ0 (Hs 0) w0 μ (Hs ops.size) w := by
  have hc : ∀ x, Cons ops Hs S x ops.size := fun x => ⟨fun j hj _ => hS j hj, fun j hj hj2 => absurd hj2 (by omega)⟩
  have hlo : ∀ {j}, j < ops.size → (Hs 0).next ≤ (Hs j).next := fun hj => (y.next_le hcall (k := 0) (by omega) (by omega)).1
  have hhi : ∀ {j}, j < ops.size → (Hs (j + 1)).next ≤ (Hs ops.size).next ∧ (Hs ops.size).low ≤ (Hs (j + 1)).low := fun hj => y.next_le hcall (k := _ + 1) (by omega) (Nat.le_refl _)
  have hex : ∀ x, (Hs ops.size).get x ≠ (Hs 0).get x → ∃ j, j < ops.size ∧ Tch Hs j x := by
    intro x hx
    refine Classical.byContradiction fun hn => hx (y.get_same (Nat.zero_le _) (Nat.le_refl _) (fun j _ hj ht => hn ⟨j, hj, ht⟩))
  have hown : ∀ k, k ≤ ops.size → ∀ x o, (Hs k).get x = some o → o.own = true ∨ (Hs 0).get x = some o := by
    intro k
    induction k with
    | zero => exact fun _ x o h => .inr h
    | succ k ih =>
      intro hk x o h
      rcases (y.hs hcall (k := k) (by omega)).owns x o h with h1 | h1
      · exact .inl h1
      · exact ih (by omega) x o h1
  refine ⟨inv.defers, ⟨inv.size, fun t v hv => inv.tmps t ops.size v (Nat.le_refl _) (fun j o hj _ _ => hS j hj) (fun j o hj ho _ => absurd (lt_size ho) (by omega)) hv⟩, ?_⟩
  refine ⟨inv.le, fun i hi => ?_, (y.next_le hcall (Nat.zero_le _) (Nat.le_refl _)).1, fun i hi hn => ?_, ⟨fun i o p _ hg hm => inv.cells i ops.size o p (Nat.le_refl _) (hc i) hg hm, fun i j o o' p p' off _ _ hij hg hg' ho hm hm' hb => inv.disj i j ops.size ops.size o o' p p' off (Nat.le_refl _) (Nat.le_refl _) (hc i) (hc j) hij hg hg' ho hm hm' hb, y.lives hcall _ (Nat.le_refl _)⟩, inv.keep, ?_, ?_, ?_⟩
  · obtain ⟨k, _, h2, h3, h4⟩ := inv.dom i hi
    have := hlo h2
    have := (hhi h2).1
    omega
  · refine Classical.byContradiction fun hne => ?_
    obtain ⟨j, hj, ht⟩ := hex i hne
    have h5 := hlo hj
    have h6 := ((y.hs hcall hj).abs i (by omega) ht).2
    exact hn (Nat.le_trans (hhi hj).2 h6)
  · rintro b off hb ⟨i, o, p, h1, h2, h3, h4, h5, h6⟩
    exact inv.regs b off hb i ops.size o p (Nat.le_refl _) h1 (hc i) h2 h3 h4 h5 h6
  · intro i o _ hg
    rcases hown _ (Nat.le_refl _) i o hg with h1 | h1
    · exact .inl h1
    · exact .inr ⟨y.live i o h1, by rw [hg, h1]⟩
  · intro i hi hne
    obtain ⟨j, hj, ht⟩ := hex i hne
    have h5 := hlo hj
    have h6 := inv.mapd j (hS j hj) hj i (by omega) ht
    by_cases e : μ i = μ0 i
    · rw [← e]; exact h6
    · obtain ⟨k, _, h2, h3, _⟩ := inv.dom i e
      have := hlo h2
      omega

/- The way, out of the run. -/
theorem way_plain : ∀ (l : List Oper) (T T' : Tr Value) (h h' : Heap) {L : List Oper}, CallSound P callf → aops P callf n L l T h = some (T', h') →
    ∃ (Ts : Nat → Tr Value) (Hs : Nat → Heap) (fs : Nat → Fp), Ts 0 = T ∧ Hs 0 = h ∧ Ts l.length = T' ∧ Hs l.length = h' ∧ ∀ k o, l[k]? = some o → SOK P callf n L o (Ts k) (Hs k) (Ts (k + 1)) (Hs (k + 1)) (fs k) ∧ (fs k = .none ∨ ∃ T q, fs k = fpOf T o q)
  | [], T, T', h, h', L, hcall, e => by
    cases e
    exact ⟨fun _ => T, fun _ => h, fun _ => .none, rfl, rfl, rfl, rfl, fun k o ho => by simp at ho⟩
  | o :: l, T, T', h, h', L, hcall, e => by
    unfold aops at e
    split at e
    · rename_i T1 h1 hst
      obtain ⟨Ts, Hs, fs, a1, a2, a3, a4, a5⟩ := way_plain l T1 T' h1 h' hcall e
      have hs : ∃ f, SOK P callf n L o T h T1 h1 f ∧ (f = .none ∨ ∃ T q, f = fpOf T o q) := by
        unfold astep at hst
        split at hst
        · cases hst
        · rename_i hw
          split at hst
          · rename_i hp
            cases hst
            exact ⟨.none, .inl ⟨hw, hp, fun _ => rfl, rfl, Nat.le_refl _, rfl⟩, .inl rfl⟩
          · cases hst
        · rename_i hw
          split at hst
          · rename_i v h2 hao
            split at hst
            · rename_i hp
              cases hst
              exact ⟨fpOf T o false, .inr ⟨v, h, h1, false, hw, fun _ => rfl, rfl, hao, by simp, rfl, hp, fun _ => rfl, rfl, Nat.le_refl _, (aop_mono hcall hao).2⟩, .inr ⟨T, false, rfl⟩⟩
            · cases hst
          · cases hst
      obtain ⟨f, hf, hf2⟩ := hs
      refine ⟨fun k => match k with | 0 => T | k + 1 => Ts k, fun k => match k with | 0 => h | k + 1 => Hs k, fun k => match k with | 0 => f | k + 1 => fs k, rfl, rfl, a3, a4, fun k o' ho => ?_⟩
      cases k with
      | zero =>
        simp at ho
        subst ho
        show SOK P callf n L o T h (Ts 0) (Hs 0) f ∧ _
        rw [a1, a2]
        exact ⟨hf, hf2⟩
      | succ k => exact a5 k o' (by simpa using ho)
    · cases e

theorem way_checked : ∀ (l : List Oper) (T T' : Tr Value) (h h' : Heap) (gs : List Fp) {L : List Oper}, aopsC P callf n L l T h = some (T', h', gs) →
    ∃ (Ts : Nat → Tr Value) (Hs : Nat → Heap) (fs : Nat → Fp), Ts 0 = T ∧ Hs 0 = h ∧ Ts l.length = T' ∧ Hs l.length = h' ∧ (∀ k o, l[k]? = some o → SOK P callf n L o (Ts k) (Hs k) (Ts (k + 1)) (Hs (k + 1)) (fs k) ∧ (fs k = .none ∨ ∃ T q, fs k = fpOf T o q)) ∧ ∀ k f, gs[k]? = some f → fs k = f
  | [], T, T', h, h', gs, L, e => by
    cases e
    exact ⟨fun _ => T, fun _ => h, fun _ => .none, rfl, rfl, rfl, rfl, fun k o ho => by simp at ho, fun k f hf => by simp at hf⟩
  | o :: l, T, T', h, h', gs, L, e => by
    unfold aopsC at e
    split at e
    · rename_i T1 h1 f hst
      split at e
      · rename_i T2 h2 gs' he
        cases e
        obtain ⟨Ts, Hs, fs, a1, a2, a3, a4, a5, a6⟩ := way_checked l T1 T' h1 h' gs' he
        have hs : SOK P callf n L o T h T1 h1 f ∧ (f = .none ∨ ∃ T q, f = fpOf T o q) := by
          unfold astepC at hst
          split at hst
          · cases hst
          · rename_i hw
            split at hst
            · rename_i hp
              cases hst
              exact ⟨.inl ⟨hw, hp, fun _ => rfl, rfl, Nat.le_refl _, rfl⟩, .inl rfl⟩
            · cases hst
          · rename_i hw
            split at hst
            · rename_i v h2 hao
              split at hst
              · rename_i hp
                cases hst
                refine ⟨.inr ⟨v, ⟨h.objs, h.next, h.next⟩, h2, _, hw, fun _ => rfl, rfl, hao, fun hq => Nat.le_of_ble_eq_true hq, rfl, hp, fun _ => rfl, rfl, ?_, ?_⟩, .inr ⟨T, _, rfl⟩⟩
                · show cond (Nat.ble h.low h2.low) h.low h2.low ≤ h2.low
                  cases e : Nat.ble h.low h2.low with
                  | true => exact Nat.le_of_ble_eq_true e
                  | false => exact Nat.le_refl _
                · show cond (Nat.ble h.low h2.low) h.low h2.low ≤ h.low
                  cases e : Nat.ble h.low h2.low with
                  | true => exact Nat.le_refl _
                  | false =>
                    have : ¬ h.low ≤ h2.low := fun x => by rw [Nat.ble_eq_true_of_le x] at e; cases e
                    simp only [cond_false]; omega
              · cases hst
            · cases hst
        refine ⟨fun k => match k with | 0 => T | k + 1 => Ts k, fun k => match k with | 0 => h | k + 1 => Hs k, fun k => match k with | 0 => f | k + 1 => fs k, rfl, rfl, a3, a4, fun k o' ho => ?_, fun k g hg => ?_⟩
        · cases k with
          | zero =>
            simp at ho
            subst ho
            show SOK P callf n L o T h (Ts 0) (Hs 0) f ∧ _
            rw [a1, a2]
            exact hs
          | succ k => exact a5 k o' (by simpa using ho)
        · cases k with
          | zero => simpa using hg
          | succ k => exact a6 k g (by simpa using hg)
      · cases e
    · cases e

theorem pairsOk_spec {gs : List Fp} : ∀ {l : List (Nat × Nat)}, pairsOk gs l = true → ∀ i j, (i, j) ∈ l → ∃ f g, gs[i]? = some f ∧ gs[j]? = some g ∧ fpOk f g = true
  | [], _, i, j, h => by simp at h
  | (x, z) :: l, h, i, j, hm => by
    unfold pairsOk at h
    split at h
    · rename_i f g hf hg
      rw [nth_eq] at hf hg
      cases hc : fpOk f g with
      | false => rw [hc] at h; cases h
      | true =>
        rw [hc] at h
        rcases List.mem_cons.1 hm with h1 | h1
        · cases h1; exact ⟨f, g, hf, hg, hc⟩
        · exact pairsOk_spec h i j h1
    · cases h

theorem fp_any {f g : Fp} {o p : Oper} (hf : f = .none ∨ ∃ T q, f = fpOf T o q) (hg : g = .none ∨ ∃ T q, g = fpOf T p q) (h : confl (kindOf o) (kindOf p) = false) : fpOk f g = true := by
  rcases hf with rfl | ⟨T, q, rfl⟩
  · rfl
  · rcases hg with rfl | ⟨U, r, rfl⟩
    · exact fpOk_none_right _
    · exact fpOk_kind h

/-- A region, in order or not. -/
theorem aregion_sound (hm : P.follows .mixedOrders = true) (hcall : CallSound P callf) {id : Nat} {draw : Bool} {T T' : Tr Value} {h h' : Heap} {μ : Mu} {w : World} {a : Act} {Q : Exit → Act → World → Prop}
    (hop : aregion P callf n ops draw T h = some (T', h')) (r : Rel (fun _ => True) μ h w) (rt : TRel μ n T a) (hf : ∀ i, h.next ≤ i → i < h'.next → μ i = none)
    (hQ : ∀ a' ν w', a'.defers = a.defers → TRel ν n T' a' → StepR (fun _ => True) (fun i => h'.low ≤ i) μ h w ν h' w' → Q .normal a' w') : (Code.region id ops draw).wp P Q a w := by
  cases draw with
  | false =>
    have := aops_sound hcall (Q := Q) ops.toList 0 (by simp) T T' h h' μ w a hop r rt hf hQ
    refine wp_region ?_
    rwa [Array.length_toList, ← List.range_eq_range'] at this
  | true =>
    have r' : Rel (fun _ => True) μ h { w with drawn := w.drawn + 1 } := r.sameHeap rfl
    have key : ∀ (Ts : Nat → Tr Value) (Hs : Nat → Heap) (fs : Nat → Fp), Ts 0 = T → Hs 0 = h → Ts ops.size = T' → Hs ops.size = h' → Way P callf n ops Ts Hs fs → (Code.region id ops true).wp P Q a w := by
      intro Ts Hs fs e1 e2 e3 e4 y
      refine wp_region_any hm ?_
      refine y.any hcall (μ0 := μ) (w0 := { w with drawn := w.drawn + 1 }) (a0 := a) (by rw [e2, e4]; exact hf) (fun ν a' w' S hS inv => ?_) ops.size _ μ a _ (by simp) ?_ ?_ ?_
      · obtain ⟨h1, h2, h3⟩ := inv.final hcall y hS
        rw [e3] at h2
        rw [e2, e4] at h3
        refine hQ a' ν w' h1 h2 ?_
        have h0 : StepR (fun _ => True) (fun i => h'.low ≤ i) μ h w μ h { w with drawn := w.drawn + 1 } := StepR.same (w' := { w with drawn := w.drawn + 1 }) r rfl rfl rfl rfl _
        exact h0.trans ((h3.weaken (fun i hi => .inl hi)).domain (fun _ _ => .inl trivial))
      · refine Nat.le_trans (List.countP_le_length) ?_
        simp
      · intro z oz hz
        simp [Array.getD] at hz
      · have : (fun z => (Array.replicate ops.size false).getD z false = true) = (fun _ => False) := by
          funext z
          simp [Array.getD]
        rw [this]
        exact Inv.init hcall y (by rw [e2]; exact r') (by rw [e1]; exact rt)
    simp only [aregion] at hop
    split at hop
    · cases hop
    · rename_i hok
      obtain ⟨Ts, Hs, fs, a1, a2, a3, a4, a5⟩ := way_plain ops.toList T T' h h' hcall hop
      obtain ⟨d1, d2⟩ := drawOk_spec hok
      refine key Ts Hs fs a1 a2 (by rw [← Array.length_toList]; exact a3) (by rw [← Array.length_toList]; exact a4) ⟨fun k o ho => (a5 k o (by rw [Array.getElem?_toList]; exact ho)).1, d1, fun i j o oj hij ho hoj => ?_, by rw [a2]; exact r.live⟩
      rcases d2 i j o oj hij ho hoj with h1 | ⟨h1, h2 | h2⟩
      · exact .inl h1
      · exact .inr ⟨h1, fp_any (a5 i o (by rw [Array.getElem?_toList]; exact ho)).2 (a5 j oj (by rw [Array.getElem?_toList]; exact hoj)).2 h2⟩
      · simp at h2
    · rename_i p ps hok
      split at hop
      · rename_i T2 h2 gs hC
        obtain ⟨hpo, hop⟩ := condN hop
        cases hop
        obtain ⟨Ts, Hs, fs, a1, a2, a3, a4, a5, a6⟩ := way_checked ops.toList T T' h h' gs hC
        obtain ⟨d1, d2⟩ := drawOk_spec hok
        refine key Ts Hs fs a1 a2 (by rw [← Array.length_toList]; exact a3) (by rw [← Array.length_toList]; exact a4) ⟨fun k o ho => (a5 k o (by rw [Array.getElem?_toList]; exact ho)).1, d1, fun i j o oj hij ho hoj => ?_, by rw [a2]; exact r.live⟩
        rcases d2 i j o oj hij ho hoj with h1 | ⟨h1, h2 | h2⟩
        · exact .inl h1
        · exact .inr ⟨h1, fp_any (a5 i o (by rw [Array.getElem?_toList]; exact ho)).2 (a5 j oj (by rw [Array.getElem?_toList]; exact hoj)).2 h2⟩
        · obtain ⟨f, g, g1, g2, g3⟩ := pairsOk_spec hpo i j h2
          rw [a6 i f g1, a6 j g g2]
          exact .inr ⟨h1, g3⟩
      · cases hop
end
end Go.Am
