/- Am8: part of a calculus over an abstract machine that stands beside the model, and contracts of functions by it.
Conditions: what each theorem says of its arguments. -/
import Derived.Test.YtaaemamcdhebhaaAm7
set_option linter.unusedVariables false
namespace Go.Am
open Go.RowKit

def exitOf : AExit → Exit
  | .normal => .normal
  | .exit id => .exit id
  | .ret => .ret

section
variable {P : Program} {callf : CallF} {n K : Nat}

theorem aops_hs (hcall : CallSound P callf) {ops : List Oper} : ∀ (l : List Oper) (T T' : Tr Value) (h h' : Heap), aops P callf n ops l T h = some (T', h') → HS (fun _ => True) h h'
  | [], T, T', h, h', e => by cases e; exact HS.refl _ _
  | o :: l, T, T', h, h', e => by
    unfold aops at e
    split at e
    · rename_i T1 h1 hst
      have h2 := aops_hs hcall l _ _ _ _ e
      unfold astep at hst
      split at hst
      · cases hst
      · split at hst
        · cases hst; exact h2
        · cases hst
      · split at hst
        · rename_i hao
          split at hst
          · cases hst
            exact ((aop_hs hcall (q := false) hao (by simp)).mono (fun _ _ => trivial)).trans h2
          · cases hst
        · cases hst
    · cases e
theorem aopsC_hs (hcall : CallSound P callf) {ops : List Oper} : ∀ (l : List Oper) (T T' : Tr Value) (h h' : Heap) (gs : List Fp), aopsC P callf n ops l T h = some (T', h', gs) → HS (fun _ => True) h h'
  | [], T, T', h, h', gs, e => by cases e; exact HS.refl _ _
  | o :: l, T, T', h, h', gs, e => by
    unfold aopsC at e
    split at e
    · rename_i T1 h1 f hst
      split at e
      · rename_i T2 h2 gs' he
        cases e
        have h2 := aopsC_hs hcall l _ _ _ _ _ he
        unfold astepC at hst
        split at hst
        · cases hst
        · split at hst
          · cases hst; exact h2
          · cases hst
        · split at hst
          · rename_i v h3 hao
            split at hst
            · cases hst
              have h4 := aop_hs hcall (q := false) hao (by simp)
              refine HS.trans (b := ⟨h3.objs, h3.next, cond (Nat.ble h.low h3.low) h.low h3.low⟩) ⟨h4.next, ?_, fun i hi e => ⟨trivial, ?_⟩, fun l => h4.live l, fun i o g => h4.owns i o g⟩ h2
              · show cond (Nat.ble h.low h3.low) h.low h3.low ≤ h.low
                cases e : Nat.ble h.low h3.low with
                | true => exact Nat.le_refl _
                | false =>
                  have : ¬ h.low ≤ h3.low := fun x => by rw [Nat.ble_eq_true_of_le x] at e; cases e
                  simp only [cond_false]; omega
              · have h5 := (h4.abs i hi e).2
                refine Nat.le_trans ?_ h5
                show cond (Nat.ble h.low h3.low) h.low h3.low ≤ h3.low
                cases e : Nat.ble h.low h3.low with
                | true => exact Nat.le_of_ble_eq_true e
                | false => exact Nat.le_refl _
            · cases hst
          · cases hst
      · cases e
    · cases e
theorem aregion_hs (hcall : CallSound P callf) {ops : Array Oper} {draw : Bool} {T T' : Tr Value} {h h' : Heap} (e : aregion P callf n ops draw T h = some (T', h')) : HS (fun _ => True) h h' := by
  cases draw with
  | false => exact aops_hs hcall _ _ _ _ _ e
  | true =>
    simp only [aregion] at e
    split at e
    · cases e
    · exact aops_hs hcall _ _ _ _ _ e
    · split at e
      · rename_i hC
        obtain ⟨_, e⟩ := condN e
        cases e
        exact aopsC_hs hcall _ _ _ _ _ _ hC
      · cases e

theorem iter_hs {f : Tr Value → Heap → Option (AExit × Tr Value × Heap)} (hf : ∀ T h e T' h', f T h = some (e, T', h') → HS (fun _ => True) h h') : ∀ (k : Nat) (T T' : Tr Value) (h h' : Heap) (e : AExit), iter f k T h = some (e, T', h') → HS (fun _ => True) h h'
  | 0, _, _, _, _, _, e => by cases e
  | k + 1, T, T', h, h', e, he => by
    unfold iter at he
    split at he
    · rename_i T1 h1 hr
      exact (hf _ _ _ _ _ hr).trans (iter_hs hf k _ _ _ _ _ he)
    · exact hf _ _ _ _ _ he
theorem acode_hs (hcall : CallSound P callf) : ∀ (c : Code) (T T' : Tr Value) (h h' : Heap) (e : AExit), acode P callf n K c T h = some (e, T', h') → HS (fun _ => True) h h' := by
  intro c
  induction c with
  | skip => intro T T' h h' e he; cases he; exact HS.refl _ _
  | exit id => intro T T' h h' e he; cases he; exact HS.refl _ _
  | ret => intro T T' h h' e he; cases he; exact HS.refl _ _
  | region id ops draw =>
    intro T T' h h' e he
    simp only [acode] at he
    split at he
    · rename_i hr; cases he; exact aregion_hs hcall hr
    · cases he
  | seq a b iha ihb =>
    intro T T' h h' e he
    simp only [acode] at he
    split at he
    · rename_i hr
      exact (iha _ _ _ _ _ hr).trans (ihb _ _ _ _ _ he)
    · exact iha _ _ _ _ _ he
  | cond c a b iha ihb =>
    intro T T' h h' e he
    simp only [acode] at he
    split at he
    · exact iha _ _ _ _ _ he
    · exact ihb _ _ _ _ _ he
    · cases he
  | block id c ih =>
    intro T T' h h' e he
    simp only [acode] at he
    split at he
    · rename_i hr
      rcases cond_or he with he | he <;> cases he <;> exact ih _ _ _ _ _ hr
    · exact ih _ _ _ _ _ he
  | loop c ih =>
    intro T T' h h' e he
    exact iter_hs (fun T h e T' h' => ih T T' h h' e) K _ _ _ _ _ he
  | _ => intro T T' h h' e he; simp [acode] at he

theorem step_trans {μ ν ξ : Mu} {h h1 h2 : Heap} {w w1 w2 : World} (s : StepR (fun _ => True) (fun i => h1.low ≤ i) μ h w ν h1 w1) (t : StepR (fun _ => True) (fun i => h2.low ≤ i) ν h1 w1 ξ h2 w2) (hl : h2.low ≤ h1.low) : StepR (fun _ => True) (fun i => h2.low ≤ i) μ h w ξ h2 w2 :=
  (s.weaken (fun i hi => Nat.le_trans hl hi)).trans ((t.weaken (fun i hi => .inl hi)).domain (fun _ _ => .inl trivial))
theorem fresh_after {μ ν : Mu} {h h1 h2 : Heap} {w w1 : World} {D W : Nat → Prop} (s : StepR D W μ h w ν h1 w1) (hf : ∀ i, h.next ≤ i → i < h2.next → μ i = none) : ∀ i, h1.next ≤ i → i < h2.next → ν i = none := by
  intro i h3 h4
  have h5 := hf i (Nat.le_trans s.next h3) h4
  by_cases e : ν i = μ i
  · rw [e]; exact h5
  · have := s.dom i e; omega

/-- Whatever code does to the abstract machine, it does to the world. -/
theorem acode_sound (hm : P.follows .mixedOrders = true) (hcall : CallSound P callf) : ∀ (c : Code) (T T' : Tr Value) (h h' : Heap) (e : AExit) (μ : Mu) (w : World) (a : Act) (Q : Exit → Act → World → Prop), acode P callf n K c T h = some (e, T', h') →
    Rel (fun _ => True) μ h w → TRel μ n T a → (∀ i, h.next ≤ i → i < h'.next → μ i = none) →
    (∀ a' ν w', a'.defers = a.defers → TRel ν n T' a' → StepR (fun _ => True) (fun i => h'.low ≤ i) μ h w ν h' w' → Q (exitOf e) a' w') → c.wp P Q a w := by
  intro c
  induction c with
  | skip => intro T T' h h' e μ w a Q he r rt hf hQ; cases he; exact wp_skip (hQ a μ w rfl rt (.refl r _))
  | exit id => intro T T' h h' e μ w a Q he r rt hf hQ; cases he; exact wp_exit (hQ a μ w rfl rt (.refl r _))
  | ret => intro T T' h h' e μ w a Q he r rt hf hQ; cases he; exact wp_ret (hQ a μ w rfl rt (.refl r _))
  | region id ops draw =>
    intro T T' h h' e μ w a Q he r rt hf hQ
    simp only [acode] at he
    split at he
    · rename_i hr
      cases he
      exact aregion_sound hm hcall hr r rt hf hQ
    · cases he
  | seq x y ihx ihy =>
    intro T T' h h' e μ w a Q he r rt hf hQ
    simp only [acode] at he
    split at he
    · rename_i T1 h1 hr
      have h2 := acode_hs hcall _ _ _ _ _ _ he
      refine wp_seq (ihx T T1 h h1 .normal μ w a _ hr r rt (fun i hi hi2 => hf i hi (Nat.lt_of_lt_of_le hi2 h2.next)) (fun a' ν w' d1 t1 s1 => ?_))
      exact ihy T1 T' h1 h' e ν w' a' Q he (s1.rel.mono (fun _ _ => .inl trivial)) t1 (fresh_after s1 hf) (fun a'' ξ w'' d2 t2 s2 => hQ a'' ξ w'' (d2.trans d1) t2 (step_trans s1 s2 h2.low))
    · rename_i hne
      have hne' : e ≠ .normal := by rintro rfl; exact hne _ _ he
      refine wp_seq (ihx T T' h h' e μ w a _ he r rt hf (fun a' ν w' d1 t1 s1 => ?_))
      have := hQ a' ν w' d1 t1 s1
      cases e with
      | normal => exact absurd rfl hne'
      | exit id => exact this
      | ret => exact this
  | cond c x y ihx ihy =>
    intro T T' h h' e μ w a Q he r rt hf hQ
    simp only [acode] at he
    split at he
    · rename_i hc
      have h1 := rt.ev c _ hc
      have h2 : a.eval c = .bool true := by generalize a.eval c = v at h1; cases h1; rfl
      exact wp_cond_true h2 (ihx T T' h h' e μ w a Q he r rt hf hQ)
    · rename_i hc
      have h1 := rt.ev c _ hc
      have h2 : a.eval c = .bool false := by generalize a.eval c = v at h1; cases h1; rfl
      exact wp_cond_false h2 (ihy T T' h h' e μ w a Q he r rt hf hQ)
    · cases he
  | block id c ih =>
    intro T T' h h' e μ w a Q he r rt hf hQ
    simp only [acode] at he
    split at he
    · rename_i i T1 h1 hr
      by_cases hi : i = id
      · rw [beqT hi] at he
        cases he
        refine wp_block (ih T T' h h' (.exit i) μ w a _ hr r rt hf (fun a' ν w' d1 t1 s1 => ?_))
        show Exit.inBlock id Q (.exit i) a' w'
        simp only [Exit.inBlock, hi, if_true]
        exact hQ a' ν w' d1 t1 s1
      · rw [beqF hi] at he
        cases he
        refine wp_block (ih T T' h h' (.exit i) μ w a _ hr r rt hf (fun a' ν w' d1 t1 s1 => ?_))
        show Exit.inBlock id Q (.exit i) a' w'
        simp only [Exit.inBlock, hi, if_false]
        exact hQ a' ν w' d1 t1 s1
    · rename_i hne
      refine wp_block (ih T T' h h' e μ w a _ he r rt hf (fun a' ν w' d1 t1 s1 => ?_))
      have := hQ a' ν w' d1 t1 s1
      cases e with
      | normal => exact this
      | exit id' => exact absurd he (hne id' _ _)
      | ret => exact this
  | loop c ih =>
    intro T T' h h' e μ w a Q he r rt hf hQ
    have key : ∀ (k : Nat) (T T' : Tr Value) (h h' : Heap) (e : AExit) (μ : Mu) (w : World) (a : Act), iter (acode P callf n K c) k T h = some (e, T', h') → Rel (fun _ => True) μ h w → TRel μ n T a → (∀ i, h.next ≤ i → i < h'.next → μ i = none) →
        (∀ a' ν w', a'.defers = a.defers → TRel ν n T' a' → StepR (fun _ => True) (fun i => h'.low ≤ i) μ h w ν h' w' → Q (exitOf e) a' w') → Code.rounds P c Q k a w := by
      intro k
      induction k with
      | zero => intro T T' h h' e μ w a he; cases he
      | succ k ihk =>
        intro T T' h h' e μ w a he r rt hf hQ
        unfold iter at he
        unfold Code.rounds
        split at he
        · rename_i T1 h1 hr
          have h2 := iter_hs (fun T h e T' h' => acode_hs hcall c T T' h h' e) k _ _ _ _ _ he
          refine ih T T1 h h1 .normal μ w a _ hr r rt (fun i hi hi2 => hf i hi (Nat.lt_of_lt_of_le hi2 h2.next)) (fun a' ν w' d1 t1 s1 => ?_)
          exact ihk T1 T' h1 h' e ν w' a' he (s1.rel.mono (fun _ _ => .inl trivial)) t1 (fresh_after s1 hf) (fun a'' ξ w'' d2 t2 s2 => hQ a'' ξ w'' (d2.trans d1) t2 (step_trans s1 s2 h2.low))
        · rename_i hne
          have hne' : e ≠ .normal := by rintro rfl; exact hne _ _ he
          refine ih T T' h h' e μ w a _ he r rt hf (fun a' ν w' d1 t1 s1 => ?_)
          have := hQ a' ν w' d1 t1 s1
          cases e with
          | normal => exact absurd rfl hne'
          | exit id => exact this
          | ret => exact this
    exact wp_loop_rounds K (key K T T' h h' e μ w a he r rt hf hQ)
  | _ => intro T T' h h' e μ w a Q he; simp [acode] at he

def getRes (tmps : Array Value) : ResultVar → Sem Value
  | .tmp t => pure (tmps.getD t undef)
  | .cell x t => do loadVar t (← asAddr (tmps.getD x undef))
theorem results_eq (fn : Func) (tmps : Array Value) : results fn tmps = (do let vs ← fn.results.mapM (getRes tmps); pure (if h : vs.size = 1 then vs[0] else .tuple vs)) := by
  unfold results
  have : (fun x : ResultVar => (match x with | .tmp t => pure (tmps.getD t undef) | .cell a t => do loadVar t (← asAddr (tmps.getD a undef)) : Sem Value)) = getRes tmps := by
    funext x
    cases x <;> rfl
  rw [← this]
  rfl

theorem ares_sound {T : Tr Value} {h : Heap} {μ : Mu} {w : World} {a : Act} (r : Rel (fun _ => True) μ h w) (rt : TRel μ n T a) : ∀ {l : List ResultVar} {vs : List Value}, ares P T h l = some vs →
    ∃ vs', (l.mapM (getRes a.tmps)).run P w = .ok vs' w ∧ VRels μ vs vs'
  | [], vs, e => by cases e; exact ⟨[], by simp, .nil⟩
  | .tmp t :: l, vs, e => by
    unfold ares at e
    split at e
    · rename_i v rr hv hr
      cases e
      obtain ⟨vs', h1, h2⟩ := ares_sound r rt hr
      refine ⟨_ :: vs', ?_, .cons (rt.val t v hv).2 h2⟩
      simp only [List.mapM_cons, getRes, Sem.run_bind, Sem.run_pure, Result.andThen_ok, h1]
    · cases e
  | .cell x t :: l, vs, e => by
    unfold ares at e
    split at e
    · rename_i ad hv
      split at e
      · rename_i v rr hl hr
        cases e
        obtain ⟨vs', h1, h2⟩ := ares_sound r rt hr
        have h3 := (rt.val x _ hv).2
        generalize hax : a.tmps.getD x undef = ax at h3
        cases h3 with
        | ptr m =>
          obtain ⟨_, v', h4, h5⟩ := load_sound r trivial m hl
          refine ⟨v' :: vs', ?_, .cons h5 h2⟩
          simp only [List.mapM_cons, getRes, Sem.run_bind, Sem.run_pure, Result.andThen_ok, h1, hax, asAddr, h4]
      · cases e
    · cases e

theorem aresults_sound {fn : Func} {T : Tr Value} {h : Heap} {μ : Mu} {w : World} {a : Act} {v : Value} (r : Rel (fun _ => True) μ h w) (rt : TRel μ n T a) (e : aresults P fn T h = some v) : ∃ v', (results fn a.tmps).run P w = .ok v' w ∧ VRel μ v v' := by
  have key : ∀ {vs : List Value}, ares P T h fn.results.toList = some vs → ∃ vs' : List Value, (results fn a.tmps).run P w = .ok (if h : (vs'.toArray).size = 1 then vs'.toArray[0] else .tuple vs'.toArray) w ∧ VRels μ vs vs' := by
    intro vs hv
    obtain ⟨vs', h1, h2⟩ := ares_sound r rt hv
    refine ⟨vs', ?_, h2⟩
    rw [results_eq, Array.mapM_eq_mapM_toList]
    simp only [Sem.run_bind, Sem.run_map]
    rw [h1]
    simp only [Result.andThen_ok, Sem.run_pure]
  unfold aresults at e
  split at e
  · rename_i u hu
    cases e
    obtain ⟨vs', h1, h2⟩ := key hu
    cases h2 with
    | cons x y =>
      cases y
      exact ⟨_, h1, x⟩
  · rename_i vs hne hu
    cases e
    obtain ⟨vs', h1, h2⟩ := key hu
    refine ⟨.tuple vs'.toArray, ?_, .tuple h2⟩
    rw [h1, dif_neg]
    intro hs
    simp only [List.size_toArray] at hs
    have hl := h2.length
    cases vs with
    | nil => simp only [List.length_nil] at hl; omega
    | cons x l =>
      cases l with
      | nil => exact hne x rfl
      | cons y l => simp only [List.length_cons] at hl; omega
  · cases e

theorem argsT_get : ∀ (l : List Value) (i : Nat) (T : Tr Value) (t : Nat), (argsT l i T).get t = if i ≤ t ∧ t < i + l.length then l[t - i]? else T.get t
  | [], i, T, t => by
    unfold argsT
    rw [if_neg (by rintro ⟨h1, h2⟩; simp only [List.length_nil] at h2; omega)]
  | v :: l, i, T, t => by
    unfold argsT
    rw [argsT_get l (Nat.succ i) (T.set i (some v)) t, Tr.get_set]
    simp only [List.length_cons]
    by_cases h1 : t = i
    · subst h1
      rw [if_neg (by omega), if_pos rfl, if_pos (by omega), Nat.sub_self]
      rfl
    · rw [if_neg h1]
      by_cases h2 : i ≤ t ∧ t < i + (l.length + 1)
      · rw [if_pos h2, if_pos (by omega), show t - i = (t - (i + 1)) + 1 by omega]
        rfl
      · rw [if_neg h2, if_neg (by omega)]

def CallOK (P : Program) (f : FuncId) (args : List Value) (h : Heap) (v : Value) (h' : Heap) : Prop :=
  HS (fun _ => True) h h' ∧ (∀ (cargs : Array Value) (w : World), (callFunc f cargs).run P w = .ok (.enter f cargs) w) ∧
    ∀ (μ : Mu) (w : World) (cargs : Array Value), Rel (fun _ => True) μ h w → (∀ i, h.next ≤ i → i < h'.next → μ i = none) → VRels μ args cargs.toList →
      Calls P f cargs w fun e w' => ∃ v' ν, e = .returned v' ∧ VRel ν v v' ∧ StepR (fun _ => True) (fun i => h'.low ≤ i) μ h w ν h' w'
def SpecSound (P : Program) (sp : FuncId → Option (List Value → Heap → Option (Value × Heap))) : Prop :=
  ∀ f s args h v h', sp f = some s → s args h = some (v, h') → CallOK P f args h v h'

theorem run_enter {f : FuncId} {fn : Func} {c : Code} (hf : P.funcs[f]? = some fn) (hb : fn.body = some c) (hn : (fn.name == "runtime.NumGoroutine") = false) (cargs : Array Value) (w : World) : (callFunc f cargs).run P w = .ok (.enter f cargs) w := by
  have hn' : ¬ fn.name = "runtime.NumGoroutine" := by simpa using hn
  simp [callFunc, hf, hn', hb]

/-- The abstract machine is sound. -/
theorem acall_sound (hm : P.follows .mixedOrders = true) (hn : ∀ (f : FuncId) (fn : Func), P.funcs[f]? = some fn → (fn.name == "runtime.NumGoroutine") = false) {sp : FuncId → Option (List Value → Heap → Option (Value × Heap))} (hs : SpecSound P sp) (K : Nat) :
    ∀ d, CallSound P (acall P sp K d) := by
  intro d
  induction d with
  | zero => intro f args h v h' e; cases e
  | succ d ih =>
    intro f args h v h' e
    unfold acall at e
    split at e
    · rename_i s hsp
      exact hs f s args h v h' hsp e
    · split at e
      · rename_i fn hfn
        split at e
        · rename_i c hb
          obtain ⟨hlen, e⟩ := condN e
          split at e
          · cases e
          · rename_i ex T' h2 hne hc
            split at e
            · rename_i u hu
              cases e
              refine ⟨acode_hs ih _ _ _ _ _ _ hc, run_enter hfn hb (hn f fn hfn), fun μ w cargs r hf hv => ?_⟩
              refine calls_of_wp hfn hb ?_
              have hsz : cargs.size = args.length := by rw [← Array.length_toList]; exact hv.length
              refine acode_sound hm ih c _ T' h h' ex μ w _ _ hc r ⟨?_, fun t v hg => ?_⟩ hf (fun a' ν w' d1 t1 s1 => ?_)
              · simp; omega
              · rw [argsT_get] at hg
                simp only [Nat.zero_le, true_and, Nat.zero_add, Nat.sub_zero] at hg
                by_cases ht : t < args.length
                · rw [if_pos ht] at hg
                  obtain ⟨v', h1, h2⟩ := hv.nth t v hg
                  refine ⟨by simp; omega, ?_⟩
                  have : (cargs ++ Array.replicate (fn.ntmps - cargs.size) undef).getD t undef = v' := by
                    rw [Array.getD_eq_getD_getElem?, Array.getElem?_append_left (by omega), ← Array.getElem?_toList, h1]
                    rfl
                  rw [this]
                  exact h2
                · rw [if_neg ht] at hg
                  cases hg
              · obtain ⟨v', h1, h2⟩ := aresults_sound (s1.rel.mono (fun _ _ => .inl trivial)) t1 hu
                have hfin : a'.defers = [] ∧ ∃ x, (results fn a'.tmps).run P w' = .ok x w' ∧ (∃ v' ν, Ending.returned x = .returned v' ∧ VRel ν v v' ∧ StepR (fun _ => True) (fun i => h'.low ≤ i) μ h w ν h' w') := ⟨d1, v', h1, v', ν, rfl, h2, s1⟩
                cases ex with
                | normal => exact hfin
                | ret => exact hfin
                | exit id => exact absurd rfl (hne id)
            · cases e
          · cases e
        · cases e
      · cases e

theorem closedC_eq {μ : Mu} {v v' : Value} (h : closedC v = true) (r : VRel μ v v') : v' = v := by
  cases r <;> first | rfl | (simp [closedC] at h)
theorem closedL_eq {μ : Mu} : ∀ (l l' : List Value), closedL l = true → VRels μ l l' → l' = l
  | [], l', _, r => by cases r; rfl
  | v :: l, l', h, r => by
    cases r with
    | cons a b =>
      unfold closedL at h
      cases e : closedC v with
      | false => rw [e] at h; cases h
      | true =>
        rw [e] at h
        rw [closedL_eq l _ h b, closedC_eq e a]
theorem closedV_eq {μ : Mu} {v v' : Value} (h : closedV v = true) (r : VRel μ v v') : v' = v := by
  cases r with
  | agg a => rw [closedL_eq _ _ h a]
  | _ => first | rfl | (simp [closedV, closedC] at h)

/-- A call without arguments from the empty memory: nothing that was there turns. -/
theorem run_closed (hm : P.follows .mixedOrders = true) (hn : ∀ (f : FuncId) (fn : Func), P.funcs[f]? = some fn → (fn.name == "runtime.NumGoroutine") = false) {sp : FuncId → Option (List Value → Heap → Option (Value × Heap))} (hs : SpecSound P sp) {K d : Nat} {f : FuncId} {h' : Heap} {v : Value} (hv : closedV v = true)
    (e : acall P sp K d f [] ⟨.leaf, 0, 0⟩ = some (v, h')) (w : World) : Calls P f #[] w fun e w' => e = .returned v ∧ Below w.heap.size w w' := by
  obtain ⟨_, _, h3⟩ := acall_sound hm hn hs K d f [] _ v h' e
  refine (h3 (fun _ => none) w #[] ⟨fun i o p _ g => (by cases g), fun i j o o' p p' off _ _ _ g => (by cases g), fun i o g => (by cases g)⟩ (fun _ _ _ => rfl) .nil).mono ?_
  rintro e w' ⟨v', ν, rfl, h1, h2⟩
  have hvv := closedV_eq hv h1
  have hown : ∀ b off, ¬ Own ⟨.leaf, 0, 0⟩ (fun _ => none) (fun i => h'.low ≤ i) b off := by
    rintro b off ⟨i, o, p, _, g, _⟩
    cases g
  refine ⟨by rw [hvv], h2.keep.os, h2.keep.tape, h2.keep.output, h2.keep.size, fun k hk => h2.keep.block k hk (fun off => hown k off)⟩
end
end Go.Am

namespace Go.Am
def toldTrue : Option (Value × Heap) → Bool
  | some (.bool true, _) => true
  | _ => false
theorem toldTrue_iff {x : Option (Value × Heap)} (h : toldTrue x = true) : ∃ h', x = some (.bool true, h') := by
  unfold toldTrue at h
  split at h
  · exact ⟨_, rfl⟩
  · cases h
end Go.Am
