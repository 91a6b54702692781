/- Am5: part of a calculus over an abstract machine that stands beside the model, and contracts of functions by it.
Conditions: what each theorem says of its arguments. -/
import Derived.Test.YtaaemamcdhebhaaAm4
set_option linter.unusedVariables false
namespace Go.Am
open Go.RowKit

section
variable {P : Program} {callf : CallF}

theorem cond_or {α : Type} {c : Bool} {x y : Option α} {v : α} (h : cond c x y = some v) : x = some v ∨ y = some v := by cases c; exact .inr h; exact .inl h
theorem storeL_hs {h h' : Heap} {a : Addr} {vs : List Value} (hs : astoreL h a vs = some h') : HS (fun i => i = a.block) h h' := by
  unfold astoreL at hs
  split at hs
  · cases hs
  · split at hs
    · rename_i hg
      obtain ⟨_, h1⟩ := condN hs
      obtain ⟨_, h2⟩ := condN h1
      split at h2
      · cases h2; exact HS.put _ _ rfl hg (fun x e => by cases e; rfl)
      · cases h2
    · cases hs

theorem aappend_hs {h h' : Heap} {t t2 : TypeId} {x y v : Value} (hop : aappend P h t t2 x y = some (v, h')) : HS (fun i => ∃ a n c, x = .slice (some a) n c ∧ i = a.block) h h' := by
  unfold aappend at hop
  split at hop
  · split at hop
    · obtain ⟨_, h1⟩ := condN hop
      obtain ⟨_, h2⟩ := condN h1
      split at h2
      · split at h2
        · cases h2; exact HS.refl _ _
        · split at h2
          · cases h2; exact HS.refl _ _
          · cases h2
        · cases h2
      · split at h2
        · obtain ⟨_, h3⟩ := condN h2
          obtain ⟨_, h4⟩ := condN h3
          cases h4; exact HS.push _ _ _
        · split at h2
          · obtain ⟨_, h3⟩ := condN h2
            obtain ⟨_, h4⟩ := condN h3
            rcases cond_or h4 with h4 | h4
            · obtain ⟨_, h5⟩ := condN h4
              split at h5
              · rename_i hg
                obtain ⟨_, h6⟩ := condN h5
                obtain ⟨_, h7⟩ := condN h6
                obtain ⟨_, h8⟩ := condN h7
                cases h8
                exact (HS.put h none ⟨_, _, _, rfl, rfl⟩ hg (by simp)).trans (HS.push _ _ _)
              · cases h5
            · rcases cond_or h4 with h4 | h4
              · split at h4
                · rename_i hst
                  cases h4
                  exact (storeL_hs hst).mono (fun i hi => ⟨_, _, _, rfl, hi⟩)
                · cases h4
              · cases h4
                exact HS.push _ _ _
          · cases h2
        · cases h2
      · cases h2
    · cases hop
  · cases hop

theorem acopy_hs {h h' : Heap} {t : TypeId} {x y v : Value} (hop : acopy P h t x y = some (v, h')) : HS (fun i => ∃ a n c, x = .slice (some a) n c ∧ i = a.block) h h' := by
  unfold acopy at hop
  split at hop
  · split at hop
    · split at hop
      · split at hop
        · cases hop; exact HS.refl _ _
        · split at hop
          · split at hop
            · split at hop
              · rename_i hst
                cases hop
                exact (storeL_hs hst).mono (fun i hi => ⟨_, _, _, rfl, hi⟩)
              · cases hop
            · cases hop
          · cases hop
      · split at hop
        · cases hop; exact HS.refl _ _
        · split at hop
          · split at hop
            · split at hop
              · rename_i hst
                cases hop
                exact (storeL_hs hst).mono (fun i hi => ⟨_, _, _, rfl, hi⟩)
              · cases hop
            · cases hop
          · cases hop
      · cases hop
    · cases hop
  · cases hop

theorem aclear_hs {h h' : Heap} {t : TypeId} {x v : Value} (hop : aclear P h t x = some (v, h')) : HS (fun i => ∃ a n c, x = .slice (some a) n c ∧ i = a.block) h h' := by
  unfold aclear at hop
  split at hop
  · cases hop; exact HS.refl _ _
  · split at hop
    · cases hop; exact HS.refl _ _
    · split at hop
      · split at hop
        · rename_i hst
          cases hop
          exact (storeL_hs hst).mono (fun i hi => ⟨_, _, _, rfl, hi⟩)
        · cases hop
      · cases hop
  · cases hop

theorem aop_hs (hcall : CallSound P callf) {T : Tr Value} {o : Oper} {h h' : Heap} {v : Value} {q : Bool} (hop : aop P callf T o h = some (v, h')) (hq : q = true → h.next ≤ h'.low) : HS (fpOf T o q).W h h' := by
  have hp : ∀ {r : Option Value}, pureR h r = some (v, h') → HS (fpOf T o q).W h h' := fun e => by rw [(pureR_some e).2]; exact HS.refl _ _
  obtain ⟨dst, op, type, pos, after, guard⟩ := o
  by_cases hmf : ∃ fn a b, op = .makeFunc fn a b
  · obtain ⟨fn, x, y, rfl⟩ := hmf
    cases fn <;> simp only [aop] at hop
    · split at hop
      · cases hop; exact HS.refl _ _
      · cases hop
    all_goals cases hop
  cases op
  case makeFunc fn a b => exact absurd ⟨fn, a, b, rfl⟩ hmf
  all_goals simp only [aop] at hop
  all_goals first
    | exact hp hop
    | (cases hop; done)
    | (split at hop <;> first | exact hp hop | (cases hop; done) | (cases hop; exact HS.push _ _ _) | (cases hop; exact HS.refl _ _))
    | skip
  case buildSlice t n ps =>
    split at hop
    · unfold abuildSlice at hop
      split at hop
      · split at hop
        · obtain ⟨_, h1⟩ := condN hop
          obtain ⟨_, h2⟩ := condN h1
          split at h2
          · cases h2; exact HS.push _ _ _
          · cases h2
        · cases hop
      · cases hop
    · cases hop
  case store t x y =>
    split at hop
    · rename_i ad u hx hy
      split at hop
      · rename_i hst
        cases hop
        have hfp : fpOf T ⟨dst, .store t x y, type, pos, after, guard⟩ q = .wr [ad.block] := by simp [fpOf, hx]
        rw [hfp]
        unfold astore at hst
        split at hst
        · obtain ⟨_, h1⟩ := condN hst
          exact (storeL_hs h1).mono (fun i hi => List.mem_singleton.2 hi)
        · cases hst
      · cases hop
    · cases hop
  case convert s d x =>
    split at hop
    · split at hop
      · cases hop; exact HS.refl _ _
      · exact hp hop
    · cases hop
  case makeSlice t x y =>
    split at hop
    · unfold amakeSlice at hop
      split at hop
      · split at hop
        · obtain ⟨_, h1⟩ := condN hop
          obtain ⟨_, h2⟩ := condN h1
          obtain ⟨_, h3⟩ := condN h2
          obtain ⟨_, h4⟩ := condN h3
          cases h4; exact HS.push _ _ _
        · cases hop
      · cases hop
    · cases hop
  case call c =>
    obtain ⟨callee, args, argTypes⟩ := c
    split at hop
    · rename_i f heq
      simp only at heq
      subst heq
      unfold acallv at hop
      split at hop
      · have := (hcall _ _ _ _ _ hop).1
        have hfp : fpOf T ⟨dst, .call ⟨.value f, args, argTypes⟩, type, pos, after, guard⟩ q = .all q := by simp [fpOf]
        rw [hfp]
        refine ⟨this.next, this.low, fun i hi e => ?_, this.live, this.owns⟩
        have h2 := this.abs i hi e
        refine ⟨?_, h2.2⟩
        cases q with
        | false => rfl
        | true => have := hq rfl; omega
      · cases hop
    · rename_i b heq
      simp only at heq
      subst heq
      split at hop
      · rename_i vs hvs
        simp only at hvs
        cases b
        case append =>
          simp only [abuiltin] at hop
          split at hop
          · rename_i t t2 x y he
            have hfp : fpOf T ⟨dst, .call ⟨.builtin .append, args, argTypes⟩, type, pos, after, guard⟩ q = .wr (idsOf [x, y]) := by simp only [fpOf, hvs]
            rw [hfp]
            refine (aappend_hs hop).mono ?_
            rintro i ⟨a, n, c, rfl, rfl⟩
            exact mem_ids (n := n) (c := c) (by simp)
          · cases hop
        case copy =>
          simp only [abuiltin] at hop
          split at hop
          · rename_i t t2 rest x y he
            have hfp : fpOf T ⟨dst, .call ⟨.builtin .copy, args, argTypes⟩, type, pos, after, guard⟩ q = .wr (idsOf [x, y]) := by simp only [fpOf, hvs]
            rw [hfp]
            refine (acopy_hs hop).mono ?_
            rintro i ⟨a, n, c, rfl, rfl⟩
            exact mem_ids (n := n) (c := c) (by simp)
          · cases hop
        case clear =>
          simp only [abuiltin] at hop
          split at hop
          · rename_i t x he
            have hfp : fpOf T ⟨dst, .call ⟨.builtin .clear, args, argTypes⟩, type, pos, after, guard⟩ q = .wr (idsOf [x]) := by simp only [fpOf, hvs]
            rw [hfp]
            refine (aclear_hs hop).mono ?_
            rintro i ⟨a, n, c, rfl, rfl⟩
            exact mem_ids (n := n) (c := c) (by simp)
          · cases hop
        case len =>
          simp only [abuiltin] at hop
          split at hop
          · split at hop
            · cases hop; exact HS.refl _ _
            · cases hop
          · cases hop
        case min =>
          simp only [abuiltin] at hop
          split at hop
          · obtain ⟨_, h1⟩ := condN hop
            cases h1; exact HS.refl _ _
          · cases hop
        case max =>
          simp only [abuiltin] at hop
          split at hop
          · obtain ⟨_, h1⟩ := condN hop
            cases h1; exact HS.refl _ _
          · cases hop
        all_goals (simp [abuiltin] at hop)
      · cases hop
    · cases hop

theorem aop_mono (hcall : CallSound P callf) {T : Tr Value} {o : Oper} {h h' : Heap} {v : Value} (hop : aop P callf T o h = some (v, h')) : h.next ≤ h'.next ∧ h'.low ≤ h.low :=
  have := aop_hs hcall (q := false) hop (by simp)
  ⟨this.next, this.low⟩

/- Temporaries. -/
structure TRel (μ : Mu) (n : Nat) (T : Tr Value) (a : Act) : Prop where
  size : n ≤ a.tmps.size
  val : ∀ t v, T.get t = some v → t < a.tmps.size ∧ VRel μ v (a.tmps.getD t undef)

theorem TRel.ev {μ : Mu} {n : Nat} {T : Tr Value} {a : Act} (r : TRel μ n T a) (x : Operand) (v : Value) (h : Am.ev T x = some v) : VRel μ v (a.eval x) := by
  cases x with
  | tmp t => exact (r.val t v h).2
  | const c =>
    have h : cond (closedV c) (some c) none = some v := h
    obtain ⟨h1, h2⟩ := condN h
    cases h2
    exact closedV_rel μ h1
  | global g => cases h
  | func f => cases h; exact .func _ .nil .nil
theorem TRel.mono {μ ν : Mu} {n : Nat} {T : Tr Value} {a : Act} (r : TRel μ n T a) (h : μ.le ν) : TRel ν n T a := ⟨r.size, fun t v e => ⟨(r.val t v e).1, (r.val t v e).2.mono h⟩⟩

theorem size_put (a : Act) (d : Option Tmp) (v : Value) : (a.put d v).tmps.size = a.tmps.size := by cases d <;> simp [Act.put]
theorem defers_put (a : Act) (d : Option Tmp) (v : Value) : (a.put d v).defers = a.defers := by cases d <;> rfl
theorem getD_put (a : Act) (d t : Nat) (v : Value) (h : d < a.tmps.size) : (a.put (some d) v).tmps.getD t undef = if t = d then v else a.tmps.getD t undef := by
  simp only [Act.put, Array.getD_eq_getD_getElem?, Array.getElem?_setIfInBounds]
  by_cases e : d = t
  · subst e; simp [h]
  · rw [if_neg e, if_neg (fun x => e x.symm)]

theorem TRel.put {μ : Mu} {n : Nat} {T T' : Tr Value} {a : Act} (r : TRel μ n T a) {d : Option Tmp} {v v' : Value} (hv : VRel μ v v') (h : aput n T d v = some T') : TRel μ n T' (a.put d v') := by
  cases d with
  | none => cases h; exact r
  | some d =>
    have h : cond (Nat.ble (Nat.succ d) n) (some (T.set d (some v))) none = some T' := h
    obtain ⟨h1, h2⟩ := condN h
    cases h2
    have hd := ble_lt h1
    have hds : d < a.tmps.size := Nat.lt_of_lt_of_le hd r.size
    refine ⟨by rw [size_put]; exact r.size, fun t u e => ?_⟩
    rw [Tr.get_set] at e
    rw [size_put, getD_put a d t v' hds]
    by_cases ht : t = d
    · rw [if_pos ht] at e; cases e
      rw [if_pos ht, ht]
      exact ⟨hds, hv⟩
    · rw [if_neg ht] at e
      rw [if_neg ht]
      exact r.val t u e

theorem wanted_sound {μ : Mu} {ops : Array Oper} {T : Tr Value} {a : Act} {o : Oper} {b : Bool} (hval : ∀ j want d, o.guard = some (j, want) → (∃ oj, ops[j]? = some oj ∧ oj.dst = some d) → ∀ v, T.get d = some v → d < a.tmps.size ∧ VRel μ v (a.tmps.getD d undef)) (h : awanted ops.toList T o = some b) : Region.wanted o (yielded ops a.tmps) = b := by
  unfold awanted at h
  unfold Region.wanted
  split at h
  · rename_i hg
    cases h
    rw [hg]
  · rename_i j want hg
    rw [hg]
    simp only
    rw [nth_eq, Array.getElem?_toList] at h
    unfold yielded
    split at h
    · rename_i oj hj
      rw [hj]
      simp only [Option.bind_some]
      split at h
      · rename_i d hd
        rw [hd]
        simp only [Option.bind_some]
        split at h
        · rename_i bb hb
          cases h
          obtain ⟨h1, h2⟩ := hval j want d hg ⟨oj, hj, hd⟩ _ hb
          have : a.tmps[d]? = some (.bool bb) := by
            rw [Array.getElem?_eq_getElem h1]
            have : a.tmps.getD d undef = a.tmps[d] := by simp [Array.getD, h1]
            rw [this] at h2
            generalize a.tmps[d] = x at h2
            cases h2
            rfl
          rw [this]
          cases bb <;> cases want <;> rfl
        · rename_i v hnb hv
          cases h
          obtain ⟨h1, h2⟩ := hval j want d hg ⟨oj, hj, hd⟩ _ hv
          have : a.tmps[d]? = some (a.tmps.getD d undef) := by
            rw [Array.getElem?_eq_getElem h1]; simp [Array.getD, h1]
          rw [this]
          generalize a.tmps.getD d undef = x at h2
          cases h2 <;> first | rfl | (exact absurd rfl (hnb _))
        · cases h
      · rename_i hd
        cases h
        rw [hd]
        rfl
    · rename_i hj
      cases h
      rw [hj]
      rfl

/-- The temporaries an operation looks at. -/
theorem looks_tmp {ops : Array Oper} {o : Oper} {x : Operand} {t : Tmp} (hx : x ∈ o.op.operands.toList) (e : x = .tmp t) : t ∈ o.looksAt ops := by
  unfold Oper.looksAt
  refine List.mem_append_left _ (List.mem_filterMap.2 ⟨x, hx, ?_⟩)
  rw [e]
theorem looks_guard {ops : Array Oper} {o oj : Oper} {j d : Nat} {want : Bool} (hg : o.guard = some (j, want)) (hj : ops[j]? = some oj) (hd : oj.dst = some d) : d ∈ o.looksAt ops := by
  unfold Oper.looksAt
  refine List.mem_append_right _ ?_
  rw [hg]
  simp [hj, hd]

theorem aops_mono (hcall : CallSound P callf) {ops : List Oper} {n : Nat} : ∀ (l : List Oper) (T T' : Tr Value) (h h' : Heap), aops P callf n ops l T h = some (T', h') → h.next ≤ h'.next ∧ h'.low ≤ h.low
  | [], T, T', h, h', e => by cases e; exact ⟨Nat.le_refl _, Nat.le_refl _⟩
  | o :: l, T, T', h, h', e => by
    unfold aops at e
    split at e
    · rename_i T1 h1 hst
      have h2 := aops_mono hcall l _ _ _ _ e
      unfold astep at hst
      split at hst
      · cases hst
      · split at hst
        · cases hst; exact h2
        · cases hst
      · split at hst
        · rename_i hao
          split at hst
          · cases hst
            have h3 := aop_mono hcall hao
            exact ⟨Nat.le_trans h3.1 h2.1, Nat.le_trans h2.2 h3.2⟩
          · cases hst
        · cases hst
    · cases e

theorem StepR.domain {D D' Wr : Nat → Prop} {μ ν : Mu} {h h' : Heap} {w w' : World} (s : StepR D Wr μ h w ν h' w') (hd : ∀ i, D' i ∨ h.next ≤ i → D i ∨ h.next ≤ i) : StepR D' Wr μ h w ν h' w' :=
  ⟨s.le, s.dom, s.next, s.abs, s.rel.mono hd, s.keep, s.regs, s.owns, s.mapd⟩

/-- In order. -/
theorem aops_sound (hcall : CallSound P callf) {ops : Array Oper} {n : Nat} {Q : Exit → Act → World → Prop} : ∀ (l : List Oper) (k : Nat), ops.toList.drop k = l → ∀ (T T' : Tr Value) (h h' : Heap) (μ : Mu) (w : World) (a : Act),
    aops P callf n ops.toList l T h = some (T', h') → Rel (fun _ => True) μ h w → TRel μ n T a → (∀ i, h.next ≤ i → i < h'.next → μ i = none) →
    (∀ a' ν w', a'.defers = a.defers → TRel ν n T' a' → StepR (fun _ => True) (fun i => h'.low ≤ i) μ h w ν h' w' → Q .normal a' w') → wpOps P ops Q (List.range' k l.length) a w
  | [], k, hd, T, T', h, h', μ, w, a, hop, r, rt, hf, hQ => by
    cases hop
    simp only [List.length_nil, List.range'_zero, wpOps]
    exact hQ a μ w rfl rt (.refl r _)
  | o :: l, k, hd, T, T', h, h', μ, w, a, hop, r, rt, hf, hQ => by
    unfold aops at hop
    have ho : ops[k]? = some o := by
      rw [← Array.getElem?_toList]
      have := congrArg (fun l => l[0]?) hd
      simpa [List.getElem?_drop] using this
    have hd' : ops.toList.drop (k + 1) = l := by
      have := congrArg (List.drop 1) hd
      simpa [List.drop_drop, Nat.add_comm] using this
    simp only [List.length_cons, List.range'_succ, wpOps, ho]
    split at hop
    · rename_i T1 h1 hst
      unfold astep at hst
      split at hst
      · cases hst
      · -- left out
        rename_i hw
        split at hst
        · rename_i T2 hp
          cases hst
          have hwn := wanted_sound (fun j want d _ _ v hv => rt.val d v hv) hw
          rw [hwn]
          simp only [Bool.false_eq_true, if_false]
          refine aops_sound hcall l (k + 1) hd' _ T' _ h' μ w _ hop r (rt.put (undef_rel μ) hp) hf (fun a' ν w' h3 h4 h5 => hQ a' ν w' (h3.trans (defers_put _ _ _)) h4 h5)
        · cases hst
      · rename_i hw
        split at hst
        · rename_i v h2 hao
          split at hst
          · rename_i T2 hp
            cases hst
            have hwn := wanted_sound (fun j want d _ _ v hv => rt.val d v hv) hw
            rw [hwn]
            simp only [if_true]
            obtain ⟨hm1, hm2⟩ := aop_mono hcall hao
            have hmono := aops_mono hcall l T1 T' h1 h' hop
            refine .inl ?_
            refine aop_sound hcall (q := false) hao (by simp) (r.mono (fun _ _ => trivial)) (fun x _ v hv => rt.ev x v hv) (fun i hi hi2 => hf i hi (Nat.lt_of_lt_of_le hi2 hmono.1)) ?_
            intro v' ν w' hv hst
            have hfr := hst.frame (D' := fun _ => True) (Wr' := fun i => h1.low ≤ i) r (fun _ _ => trivial) (fun i hi => (fpOf T o false).W_D i hi.1) (fun i hi => hi.2)
            refine aops_sound hcall l (k + 1) hd' T1 T' h1 h' ν w' (a.put o.dst v') hop (hfr.rel.mono (fun _ _ => .inl trivial)) ((rt.mono hfr.le).put hv hp) ?_ ?_
            · intro i hi hi2
              have h0 := hf i (by omega) hi2
              by_cases e : ν i = μ i
              · rw [e]; exact h0
              · have := hfr.dom i e; omega
            · intro a'' ν' w'' hd2 ht hs2
              refine hQ a'' ν' w'' (hd2.trans (defers_put _ _ _)) ht ?_
              refine (hfr.weaken (Wr' := fun i => h'.low ≤ i) (fun i hi => Nat.le_trans hmono.2 hi)).trans ?_
              refine (hs2.weaken (fun i hi => .inl hi)).domain (fun _ _ => .inl trivial)
          · cases hst
        · cases hst
    · cases hop
end
end Go.Am
