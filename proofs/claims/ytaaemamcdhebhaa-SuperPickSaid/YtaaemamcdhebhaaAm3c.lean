/- Am3c: part of a calculus over an abstract machine that stands beside the model, and contracts of functions by it.
Conditions: what each theorem says of its arguments. -/
import Derived.Test.YtaaemamcdhebhaaAm3b
set_option linter.unusedVariables false
namespace Go.Am
open Go.RowKit

section
variable {P : Program} {μ : Mu} {w : World} {D Wr : Nat → Prop} {h : Heap}

theorem add_rel {μ : Mu} {i off n : Nat} {p : Place} (m : μ i = some p) : VRel μ (.pointer (some (addrAdd ⟨i, off, none⟩ n))) (.pointer (some ((⟨p.block, p.base + off, none⟩ : Addr).add n))) := by
  rw [Addr.add_lit, Nat.add_assoc]
  exact .ptr m

theorem isInt {k : IntKind} {n : Nat} {v' : Value} (h : VRel μ (.int k (.ofNat n)) v') : v' = .int k (n : Int) := by cases h; rfl

theorem ble_lt {a b : Nat} (h : Nat.ble (Nat.succ a) b = true) : a < b := Nat.le_of_ble_eq_true h

theorem index_sound {t : TypeId} {x i x' i' v : Value} (hx : VRel μ x x') (hi : VRel μ i i') (h : aindex P t x i = some v) : ∃ v', (Instr.index t x' i').run P w = .ok v' w ∧ VRel μ v v' := by
  unfold aindex at h
  split at h
  · rename_i k n
    rw [isInt hi]
    split at h
    · rename_i len e cs hu
      cases hx
      rename_i l l' hr
      obtain ⟨hn, h⟩ := condN h
      have hn := ble_lt hn
      split at h
      · rename_i s hs
        obtain ⟨v', h1, h2⟩ := part_sound (w := w) h hr
        refine ⟨v', ?_, h2⟩
        have h1' : (part e ⟨l'⟩ (n * s)).run P w = .ok v' w := h1
        simp only [Instr.index, asIntOf, Sem.run_bind, Sem.run_pure, Result.andThen_ok, runU hu]
        rw [if_pos (by omega)]
        simp only [Sem.run_bind, runS hs, Result.andThen_ok, Int.toNat_natCast, h1']
      · cases h
    · rename_i s hu
      cases hx
      split at h
      · rename_i b hb
        cases h
        refine ⟨_, ?_, .int _ _⟩
        simp only [Instr.index, asIntOf, Sem.run_bind, Sem.run_pure, Result.andThen_ok, runU hu]
        rw [if_pos (by omega), Int.toNat_natCast]
        have : s[n]? = some b := by
          rw [← hb]
          have hlt : n < s.data.toList.length := by
            rcases Nat.lt_or_ge n s.data.toList.length with h | h
            · exact h
            · rw [List.getElem?_eq_none h] at hb; cases hb
          have hlt' : n < s.size := by
            show n < s.data.size
            rw [← Array.length_toList]
            exact hlt
          rw [getElem?_pos s n hlt', List.getElem?_eq_getElem hlt]
          rfl
        rw [this]
        simp
      · cases h
    · cases h
  · cases h

theorem field_sound {t : TypeId} {x x' v : Value} {f : Nat} (hx : VRel μ x x') (h : afield P t x f = some v) : ∃ v', (Instr.field t x' f).run P w = .ok v' w ∧ VRel μ v v' := by
  unfold afield at h
  split at h
  · rename_i fs cs hu
    cases hx
    rename_i l l' hr
    split at h
    · rename_i fd hf
      obtain ⟨v', h1, h2⟩ := part_sound (w := w) h hr
      refine ⟨v', ?_, h2⟩
      rw [Array.getElem?_toList] at hf
      simp only [Instr.field, Sem.run_bind, runU hu, Result.andThen_ok, hf, asAgg, Sem.run_pure, h1]
    · cases h
  · cases h

theorem fieldAddr_sound {t : TypeId} {x x' v : Value} {f : Nat} (hx : VRel μ x x') (h : afieldAddr P t x f = some v) : ∃ v', (Instr.fieldAt t x' f).run P w = .ok v' w ∧ VRel μ v v' := by
  unfold afieldAddr at h
  split at h
  · rename_i fs a hu
    split at h
    · rename_i fd hf hsp
      split at h
      · rename_i s hs
        cases h
        cases hx
        rename_i i off p m
        rw [Array.getElem?_toList] at hf
        refine ⟨_, ?_, add_rel m (n := fd.offset)⟩
        simp only [Instr.fieldAt, Instr.sureAddr, Sem.run_bind, runU hu, Result.andThen_ok, hf, Sem.run_pure, fieldPlace, runS hs]
        rw [if_neg (by omega)]
        simp
      · cases h
    · cases h
  · cases h

theorem indexAddr_sound {t : TypeId} {x i x' i' v : Value} (hx : VRel μ x x') (hi : VRel μ i i') (h : aindexAddr P t x i = some v) : ∃ v', (Instr.indexAt t x' i').run P w = .ok v' w ∧ VRel μ v v' := by
  unfold aindexAddr at h
  split at h
  · rename_i k n
    rw [isInt hi]
    split at h
    · rename_i len e a hu
      obtain ⟨hn, h⟩ := condN h
      have hn := ble_lt hn
      split at h
      · rename_i s hsp hs
        cases h
        cases hx
        rename_i i off p m
        refine ⟨_, ?_, add_rel m (n := n * s)⟩
        simp only [Instr.indexAt, asIntOf, Instr.sureAddr, Sem.run_bind, Sem.run_pure, Result.andThen_ok, runU hu]
        rw [if_pos (by omega)]
        simp [runS hs]
      · cases h
    · rename_i e a len cp hu
      obtain ⟨hn, h⟩ := condN h
      have hn := ble_lt hn
      split at h
      · rename_i s hsp hs
        cases h
        cases hx with
        | @sliceEx i off _ _ p m h1 =>
          refine ⟨_, ?_, add_rel m (n := n * s)⟩
          simp only [Instr.indexAt, asIntOf, Sem.run_bind, Sem.run_pure, Result.andThen_ok, runU hu]
          rw [if_pos (by omega)]
          simp [runS hs]
        | @sliceUn i off _ e' c p ca m h1 h3 =>
          rcases h3 with ⟨rfl, _⟩ | ⟨h4, _⟩
          · refine ⟨_, ?_, add_rel m (n := n * s)⟩
            simp only [Instr.indexAt, asIntOf, Sem.run_bind, Sem.run_pure, Result.andThen_ok, runU hu]
            rw [if_pos (by omega)]
            simp [runS hs]
          · omega
      · cases h
    · cases h
  · cases h

theorem bound_sound {x x' : Value} {y n : Nat} (hx : VRel μ x x') (h : abound x y = some n) (code : BoundsCode) : n ≤ y ∧ ∀ z, n ≤ z → (Instr.sliceBound x' z code).run P w = .ok n w := by
  unfold abound at h
  split at h
  · rename_i k m
    obtain ⟨hn, h⟩ := condN h
    cases h
    rw [isInt hx]
    refine ⟨Nat.le_of_ble_eq_true hn, fun z hz => ?_⟩
    simp only [Instr.sliceBound, asIntOf, Sem.run_bind, Sem.run_pure, Result.andThen_ok]
    rw [if_pos (by omega)]
    simp
  · cases h

inductive ORel (μ : Mu) : Option Value → Option Value → Prop where
  | none : ORel μ none none
  | some {v v' : Value} : VRel μ v v' → ORel μ (some v) (some v')

/-- The bounds of a slice expression: cap for what is told, cap' for what there is. -/
theorem bounds_sound {len cap cap' : Nat} {lo hi mx lo' hi' mx' : Option Value} {l h m : Nat} (isS : Bool) (hlc : cap ≤ cap') (hl : ORel μ lo lo') (hh : ORel μ hi hi') (hm : ORel μ mx mx') (hb : abounds len cap lo hi mx = some (l, h, m))
    (hlen : len ≤ cap) :
    ∃ m', (Instr.sliceBounds isS len cap' lo' hi' mx').run P w = .ok (l, h, m') w ∧ l ≤ h ∧ h ≤ m ∧ m ≤ cap ∧ (m' = if mx.isSome = true then m else cap') ∧ (mx = none → m = cap) := by
  unfold abounds at hb
  cases hm with
  | none =>
    simp only at hb
    cases hh with
    | none =>
      simp only at hb
      cases hl with
      | none =>
        simp only at hb
        cases hb
        exact ⟨cap', by simp [Instr.sliceBounds], Nat.zero_le _, hlen, Nat.le_refl _, by simp, fun _ => rfl⟩
      | some hl =>
        rename_i vl vl'
        simp only at hb
        split at hb
        · cases hb
        · rename_i n hn
          cases hb
          obtain ⟨h1, h2⟩ := bound_sound (P := P) (w := w) hl hn .sliceB
          exact ⟨cap', by simp [Instr.sliceBounds, h2 _ h1], h1, hlen, Nat.le_refl _, by simp, fun _ => rfl⟩
    | some hh =>
      rename_i vh vh'
      simp only at hb
      split at hb
      · cases hb
      · rename_i n hn
        obtain ⟨h1, h2⟩ := bound_sound (P := P) (w := w) hh hn (if isS then .sliceAcap else .sliceAlen)
        cases hl with
        | none =>
          simp only at hb
          cases hb
          exact ⟨cap', by simp [Instr.sliceBounds, h2 cap' (by omega)], Nat.zero_le _, h1, Nat.le_refl _, by simp, fun _ => rfl⟩
        | some hl =>
          rename_i vl vl'
          simp only at hb
          split at hb
          · cases hb
          · rename_i n' hn'
            cases hb
            obtain ⟨h3, h4⟩ := bound_sound (P := P) (w := w) hl hn' .sliceB
            exact ⟨cap', by simp [Instr.sliceBounds, h2 cap' (by omega), h4 _ h3], h3, h1, Nat.le_refl _, by simp, fun _ => rfl⟩
  | some hm =>
    rename_i vm vm'
    simp only at hb
    cases hbm : abound vm cap with
    | none => rw [hbm] at hb; cases hb
    | some n =>
      rw [hbm] at hb
      simp only at hb
      obtain ⟨h1, h2⟩ := bound_sound (P := P) (w := w) hm hbm (if isS then .slice3Acap else .slice3Alen)
      cases hh with
      | none => cases hb
      | some hh =>
        rename_i vh vh'
        simp only at hb
        split at hb
        · cases hb
        · rename_i n2 hn2
          obtain ⟨h3, h4⟩ := bound_sound (P := P) (w := w) hh hn2 .slice3B
          cases hl with
          | none =>
            simp only at hb
            cases hb
            exact ⟨m, by simp [Instr.sliceBounds, h2 cap' (by omega), h4 _ h3], Nat.zero_le _, h3, h1, by simp, by simp⟩
          | some hl =>
            rename_i vl vl'
            simp only at hb
            split at hb
            · cases hb
            · rename_i n3 hn3
              cases hb
              obtain ⟨h5, h6⟩ := bound_sound (P := P) (w := w) hl hn3 .slice3C
              exact ⟨m, by simp [Instr.sliceBounds, h2 cap' (by omega), h4 _ h3, h6 _ h5], h5, h3, h1, by simp, by simp⟩

theorem isUnk_unkc (e : Nat) : isUnk (unkc e) = true := by
  show Nat.beq ((2 * e + 1) % 2) 1 = true
  exact beqT (by omega)
theorem half_unkc (e : Nat) : half (unkc e) = e := by show (2 * e + 1) / 2 = e; omega
theorem isUnk_exc (c : Nat) : isUnk (exc c) = false := by
  show Nat.beq ((2 * c) % 2) 1 = false
  exact beqF (by omega)
theorem half_exc (c : Nat) : half (exc c) = c := by show (2 * c) / 2 = c; omega

/-- The slice of an address, m elements of room, l of them left out. -/
theorem exact_rel {i off l s m hh : Nat} {p : Place} (hm : μ i = some p) (hl : l ≤ hh) (hh' : hh ≤ m) :
    VRel μ (.slice (some (cond (Nat.beq m l) ⟨i, off, none⟩ (addrAdd ⟨i, off, none⟩ (Nat.mul l s)))) (hh - l) (exc (m - l))) (.slice (some (if m = l then (⟨p.block, p.base + off, none⟩ : Addr) else (⟨p.block, p.base + off, none⟩ : Addr).add (l * s))) (hh - l) (m - l)) := by
  by_cases e : m = l
  · rw [beqT e, if_pos e]
    exact .sliceEx hm (by omega)
  · rw [beqF e, if_neg e, Addr.add_lit, Nat.add_assoc]
    exact .sliceEx hm (by omega)

theorem slice_sound {t : TypeId} {x x' v : Value} {lo hi mx lo' hi' mx' : Option Value} (hx : VRel μ x x') (hl : ORel μ lo lo') (hh : ORel μ hi hi') (hm : ORel μ mx mx') (h : aslice P t x lo hi mx = some v) :
    ∃ v', (Instr.sliceAt t x' lo' hi' mx').run P w = .ok v' w ∧ VRel μ v v' := by
  unfold aslice at h
  split at h
  · -- an array's
    rename_i n e a hu
    split at h
    · rename_i l hh' m s hsp hb hs
      cases h
      cases hx
      rename_i i off p mp
      obtain ⟨m', h1, h2, h3, h4, h5, h6⟩ := bounds_sound (P := P) (w := w) false (Nat.le_refl n) hl hh hm hb (Nat.le_refl n)
      have hmm : m' = m := by
        rw [h5]
        cases hm with
        | none => simp [h6 rfl]
        | some _ => simp
      subst hmm
      refine ⟨.slice (some (if m' = l then (⟨p.block, p.base + off, none⟩ : Addr) else (⟨p.block, p.base + off, none⟩ : Addr).add (l * s))) (hh' - l) (m' - l), ?_, ?_⟩
      · simp only [Instr.sliceAt, Sem.run_bind, runU hu, Result.andThen_ok, Instr.sureAddr, Sem.run_pure, h1, runS hs]
      · exact exact_rel mp h2 h3
    · cases h
  · -- a string's
    rename_i s hu
    split at h
    · rename_i l hh' m hmx hb
      cases h
      cases hx
      cases hm
      obtain ⟨m', h1, h2, h3, h4, h5, h6⟩ := bounds_sound (P := P) (w := w) false (Nat.le_refl s.size) hl hh .none hb (Nat.le_refl _)
      refine ⟨_, ?_, .string _⟩
      simp [Instr.sliceAt, runU hu, Instr.slice, h1]
    · cases h
  · -- nil
    rename_i e hu
    split at h
    · rename_i l hh' m s hb hs
      cases h
      cases hx
      obtain ⟨m', h1, h2, h3, h4, h5, h6⟩ := bounds_sound (P := P) (w := w) true (Nat.le_refl 0) hl hh hm hb (Nat.le_refl _)
      have h3' : m = 0 := by omega
      have h2' : hh' = 0 := by omega
      have h1' : l = 0 := by omega
      subst h3' h2' h1'
      have hm0 : m' = 0 := by rw [h5]; split <;> rfl
      subst hm0
      refine ⟨.slice none 0 0, ?_, .sliceNil 0 0⟩
      simp only [Instr.sliceAt, Sem.run_bind, runU hu, Result.andThen_ok, Instr.slice, h1, runS hs, Sem.run_pure]
      simp
    · cases h
  · -- a slice's
    rename_i e a len cap hu
    split at h
    · rename_i s hsp hs
      by_cases hun : isUnk cap = true
      · rw [hun] at h
        simp only [cond_true] at h
        obtain ⟨he, h⟩ := condN h
        have he := Nat.eq_of_beq_eq_true he
        cases hx with
        | sliceEx m h1 => rw [isUnk_exc] at hun; cases hun
        | @sliceUn i off _ e' c p ca mp h1 h3 =>
          rw [half_unkc] at he
          subst he
          cases hm with
          | none =>
            simp only at h
            split at h
            · rename_i l hh' m hb
              cases h
              obtain ⟨m', b1, b2, b3, b4, b5, b6⟩ := bounds_sound (P := P) (w := w) true h1 hl hh .none hb (Nat.le_refl _)
              simp at b5
              subst b5
              have hml := b6 rfl
              subst hml
              refine ⟨.slice (some (if m' = l then ca else ca.add (l * e'))) (hh' - l) (m' - l), ?_, ?_⟩
              · simp only [Instr.sliceAt, Sem.run_bind, runU hu, Result.andThen_ok, Instr.slice, b1, runS hs, Sem.run_pure]
                by_cases e3 : m' = l
                · rw [if_pos e3, if_pos e3]
                · rw [if_neg e3, if_neg e3]; rfl
              · show VRel μ (.slice (some (addrAdd ⟨i, off, none⟩ (l * e'))) (hh' - l) (unkc e')) _
                by_cases e2 : m' = l
                · rw [if_pos e2]
                  exact .sliceUn mp (by omega) (.inr ⟨by omega, by omega⟩)
                · rw [if_neg e2]
                  rcases h3 with ⟨rfl, h4⟩ | ⟨h4, h5⟩
                  · rw [Addr.add_lit, Nat.add_assoc]
                    refine .sliceUn mp (by omega) (.inl ⟨rfl, ?_⟩)
                    have : (m' - l) * e' = m' * e' - l * e' := Nat.sub_mul _ _ _
                    have hle : l * e' ≤ m' * e' := Nat.mul_le_mul_right _ (by omega)
                    show off + l * e' + (m' - l) * e' ≤ p.ext
                    omega
                  · omega
            · cases h
          | some hm =>
            rename_i vm vm'
            simp only at h
            obtain ⟨hlen, h⟩ := condN h
            have hlen := Nat.le_of_ble_eq_true hlen
            split at h
            · rename_i l hh' m hb
              cases h
              obtain ⟨m', b1, b2, b3, b4, b5, b6⟩ := bounds_sound (P := P) (w := w) true h1 hl hh (.some hm) hb (Nat.le_refl _)
              simp at b5
              subst b5
              rcases h3 with ⟨rfl, h4⟩ | ⟨h4, h5⟩
              · refine ⟨.slice (some (if m' = l then (⟨p.block, p.base + off, none⟩ : Addr) else (⟨p.block, p.base + off, none⟩ : Addr).add (l * e'))) (hh' - l) (m' - l), ?_, exact_rel mp b2 b3⟩
                simp only [Instr.sliceAt, Sem.run_bind, runU hu, Result.andThen_ok, Instr.slice, b1, runS hs, Sem.run_pure]
                by_cases e3 : m' = l
                · rw [if_pos e3, if_pos e3]
                · rw [if_neg e3, if_neg e3]; rfl
              · omega
            · cases h
      · have hun : isUnk cap = false := by simpa using hun
        rw [hun] at h
        simp only [cond_false] at h
        cases hx with
        | sliceUn mp h1 h3 => rw [isUnk_unkc] at hun; cases hun
        | @sliceEx i off _ _ p mp h1 =>
          rw [half_exc] at h
          split at h
          · rename_i l hh' m hb
            cases h
            obtain ⟨m', b1, b2, b3, b4, b5, b6⟩ := bounds_sound (P := P) (w := w) true (Nat.le_refl _) hl hh hm hb h1
            have hmm : m' = m := by
              rw [b5]
              cases hm with
              | none => simp [b6 rfl]
              | some _ => simp
            subst hmm
            refine ⟨.slice (some (if m' = l then (⟨p.block, p.base + off, none⟩ : Addr) else (⟨p.block, p.base + off, none⟩ : Addr).add (l * s))) (hh' - l) (m' - l), ?_, exact_rel mp b2 b3⟩
            simp only [Instr.sliceAt, Sem.run_bind, runU hu, Result.andThen_ok, Instr.slice, b1, runS hs, Sem.run_pure]
            by_cases e3 : m' = l
            · rw [if_pos e3, if_pos e3]
            · rw [if_neg e3, if_neg e3]; rfl
          · cases h
    · cases h
  · cases h

theorem len_sound {t : TypeId} {args : Array TypeId} {ty : TypeId} {x x' v : Value} (hx : VRel μ x x') (ha : args[0]? = some t) (h : alen P t x = some v) : (Builtin.len_ args ty #[x']).run P w = .ok v w ∧ VRel μ v v := by
  unfold alen at h
  split at h
  · rename_i s hu
    cases hx; cases h
    refine ⟨?_, .int _ _⟩
    unfold Builtin.len_
    rw [ha]
    simp only [Sem.run_bind, runU hu, Result.andThen_ok, List.getElem?_toArray, List.getElem?_cons_zero, Sem.run_pure]
  · rename_i n e hu
    cases h
    refine ⟨?_, .int _ _⟩
    unfold Builtin.len_
    rw [ha]
    simp only [Sem.run_bind, runU hu, Result.andThen_ok, List.getElem?_toArray, List.getElem?_cons_zero, Sem.run_pure]
  · rename_i e a n c hu
    cases h
    cases hx <;> refine ⟨?_, .int _ _⟩ <;> (unfold Builtin.len_; rw [ha]; simp only [Sem.run_bind, runU hu, Result.andThen_ok, List.getElem?_toArray, List.getElem?_cons_zero, Sem.run_pure])
  · cases h
end
end Go.Am
