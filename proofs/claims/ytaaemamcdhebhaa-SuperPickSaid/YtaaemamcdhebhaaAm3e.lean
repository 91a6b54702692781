/- Am3e: part of a calculus over an abstract machine that stands beside the model, and contracts of functions by it.
Conditions: what each theorem says of its arguments. -/
import Derived.Test.YtaaemamcdhebhaaAm3d
import Derived.Laws.BytesString
set_option linter.unusedVariables false
namespace Go.Am
open Go.RowKit

section
variable {P : Program} {μ : Mu} {w : World} {D Wr : Nat → Prop} {h h' : Heap}

theorem eqFields_sound {d m : Nat} (ih : ∀ t x y x' y' b, aeqv P d t x y = some b → VRel μ x x' → VRel μ y y' → (Op.equalIn (d + m) t x' y').run P w = .ok b w) {xs ys xs' ys' : List Value} (hx : VRels μ xs xs') (hy : VRels μ ys ys') :
    ∀ (fs : List Field) (b : Bool), aeqFields P (aeqv P d) xs ys fs = some b → (Op.eqFields (d + m) ⟨xs'⟩ ⟨ys'⟩ fs).run P w = .ok b w
  | [], b, h => by cases h; simp [Op.eqFields]
  | f :: fs, b, h => by
    unfold aeqFields at h
    obtain ⟨hn, h⟩ := condN h
    split at h
    · rename_i u v hu hv
      obtain ⟨u', h1, h2⟩ := part_sound (w := w) hu hx
      obtain ⟨v', h3, h4⟩ := part_sound (w := w) hv hy
      unfold Op.eqFields
      rw [if_pos (by simpa using hn)]
      simp only [Sem.run_bind, h1, h3, Result.andThen_ok]
      split at h
      · rename_i he
        rw [ih _ _ _ _ _ _ he h2 h4]
        simp only [Result.andThen_ok, Bool.not_true, Bool.false_eq_true, if_false]
        exact eqFields_sound ih hx hy fs b h
      · rename_i he
        cases h
        rw [ih _ _ _ _ _ _ he h2 h4]
        simp
      · cases h
    · cases h
theorem eqItems_sound {d m : Nat} (ih : ∀ t x y x' y' b, aeqv P d t x y = some b → VRel μ x x' → VRel μ y y' → (Op.equalIn (d + m) t x' y').run P w = .ok b w) {xs ys xs' ys' : List Value} (hx : VRels μ xs xs') (hy : VRels μ ys ys') {e : TypeId} {s : Nat} :
    ∀ (is : List Nat) (b : Bool), aeqItems P (aeqv P d) e s xs ys is = some b → (Op.eqItems (d + m) e s ⟨xs'⟩ ⟨ys'⟩ is).run P w = .ok b w
  | [], b, h => by cases h; simp [Op.eqItems]
  | i :: is, b, h => by
    unfold aeqItems at h
    split at h
    · rename_i u v hu hv
      obtain ⟨u', h1, h2⟩ := part_sound (w := w) hu hx
      obtain ⟨v', h3, h4⟩ := part_sound (w := w) hv hy
      have h1 : (part e ⟨xs'⟩ (i * s)).run P w = .ok u' w := h1
      have h3 : (part e ⟨ys'⟩ (i * s)).run P w = .ok v' w := h3
      unfold Op.eqItems
      simp only [Sem.run_bind, h1, h3, Result.andThen_ok]
      split at h
      · rename_i he
        rw [ih _ _ _ _ _ _ he h2 h4]
        simp only [Result.andThen_ok, Bool.not_true, Bool.false_eq_true, if_false]
        exact eqItems_sound ih hx hy is b h
      · rename_i he
        cases h
        rw [ih _ _ _ _ _ _ he h2 h4]
        simp
      · cases h
    · cases h

theorem aeqv_sound : ∀ (d m : Nat) (t : TypeId) (x y x' y' : Value) (b : Bool), aeqv P d t x y = some b → VRel μ x x' → VRel μ y y' → (Op.equalIn (d + m) t x' y').run P w = .ok b w
  | 0, m, t, x, y, x', y', b, h, _, _ => by cases h
  | d + 1, m, t, x, y, x', y', b, h, hx, hy => by
    rw [show d + 1 + m = (d + m) + 1 by omega]
    unfold aeqv at h
    split at h
    · rename_i hu
      cases hx; cases hy; cases h
      simp [Op.equalIn, runU hu]
    · rename_i hu
      cases hx; cases hy
      obtain ⟨hk, h⟩ := condN h
      have hk := of_decide_eq_true hk
      cases h
      simp [Op.equalIn, runU hu, hk]
    · rename_i hu
      cases hx; cases hy; cases h
      rw [run_equalIn_string w _ _ _ _ hu, ByteArray.toList_eq, ByteArray.toList_eq]
    · rename_i fs xs ys hu
      obtain ⟨hp, h⟩ := condN' h
      cases hx with
      | agg hx =>
        cases hy with
        | agg hy =>
          have hfs : P.fieldsOf t = fs := by unfold Program.fieldsOf; rw [hu]
          rw [run_equalIn_struct w _ t _ _ (by rw [hfs]; exact hu) hp, hfs]
          exact eqFields_sound (aeqv_sound d m) hx hy _ b h
    · rename_i n e xs ys hu
      split at h
      · rename_i i hi
        cases hx with
        | agg hx =>
          cases hy with
          | agg hy =>
            rw [run_equalIn_array w _ _ _ hu hi]
            exact eqItems_sound (aeqv_sound d m) hx hy _ b h
      · cases h
    · cases h

theorem eqOp_some {op : BinOp} {r : Option Bool} {v : Value} (h : eqOp op r = some v) : ∃ b, r = some b ∧ ((op = .eql ∧ v = .bool b) ∨ (op = .neq ∧ v = .bool (!b))) := by
  cases r with
  | none => cases op <;> cases h
  | some b => cases op <;> first | (cases h; done) | (cases h; exact ⟨b, rfl, by simp⟩)

theorem eq_run {op : BinOp} {t : TypeId} {x' y' v : Value} {r : Bool} (ox oy : Operand) (h3 : (Op.equal t x' y').run P w = .ok r w) (h4 : (op = .eql ∧ v = .bool r) ∨ (op = .neq ∧ v = .bool (!r)))
    (hg : (eqGuard op t ox oy x' y').run P w = .ok () w) (hk : (∃ b, x' = .bool b) ∨ (∃ a n c, x' = .slice a n c) ∨ (∃ cs, x' = .agg cs)) : ∃ v', (do eqGuard op t ox oy x' y'; binOp op t x' y' : Sem Value).run P w = .ok v' w ∧ VRel μ v v' := by
  refine ⟨v, ?_, ?_⟩
  · rw [Sem.run_bind, hg]
    rcases hk with ⟨_, rfl⟩ | ⟨_, _, _, rfl⟩ | ⟨_, rfl⟩ <;> rcases h4 with ⟨rfl, rfl⟩ | ⟨rfl, rfl⟩ <;> simp [binOp, h3]
  · rcases h4 with ⟨_, rfl⟩ | ⟨_, rfl⟩ <;> exact .bool _

theorem equal_eq (t : TypeId) (x y : Value) : Op.equal t x y = Op.equalIn (9999 + 1) t x y := rfl
theorem isSlice_iff {t : TypeId} (h : isSlice P t = true) : ∃ e, P.underlying t = some (.slice e) := by
  unfold isSlice at h
  split at h
  · exact ⟨_, by assumption⟩
  · cases h
theorem isBool_iff {t : TypeId} (h : isBool P t = true) : P.underlying t = some .bool := by
  unfold isBool at h
  split at h
  · assumption
  · cases h

theorem abinop_sound {op : BinOp} {t : TypeId} {x y x' y' v : Value} (ox oy : Operand) (h : abinop P op t x y = some v) (hx : VRel μ x x') (hy : VRel μ y y') :
    ∃ v', (do eqGuard op t ox oy x' y'; binOp op t x' y' : Sem Value).run P w = .ok v' w ∧ VRel μ v v' := by
  unfold abinop at h
  split at h
  · rename_i k a k' b
    cases hx; cases hy
    obtain ⟨h1, h2⟩ := abin_sound (P := P) (μ := μ) (w := w) t h
    exact ⟨v, by rw [Sem.run_bind, eqGuard_int _ _ _ _ _ _ (by simp) (by simp)]; exact h1, h2⟩
  · rename_i a b
    cases hx; cases hy
    refine ⟨v, ?_, ?_⟩
    · rw [Sem.run_bind, eqGuard_int _ _ _ _ _ _ (by simp) (by simp)]
      cases op <;> simp at h <;> subst h <;> simp [binOp, Op.stringOp, ByteArray.toList_eq]
    · cases op <;> simp at h <;> subst h <;> exact .bool _
  · obtain ⟨b, hb, hv⟩ := eqOp_some h
    unfold aequal at hb
    split at hb
    · rename_i a b'
      cases hx; cases hy
      obtain ⟨h1, h2⟩ := condN hb
      cases h2
      exact eq_run ox oy (by rw [equal_eq, Op.equalIn]; simp [runU (isBool_iff h1)]) hv (eqGuard_int _ _ _ _ _ _ (by simp) (by simp)) (.inl ⟨_, rfl⟩)
    · cases hx
      obtain ⟨h1, h2⟩ := condN hb
      obtain ⟨e, hu⟩ := isSlice_iff h1
      cases hy <;> cases h2 <;> exact eq_run ox oy (by rw [equal_eq, Op.equalIn]; simp [runU hu]) hv (eqGuard_int _ _ _ _ _ _ (by simp) (by simp)) (.inr (.inl ⟨_, _, _, rfl⟩))
    · obtain ⟨h1, h2⟩ := condN hb
      obtain ⟨e, hu⟩ := isSlice_iff h1
      cases hy
      cases h2
      cases hx <;> exact eq_run ox oy (by rw [equal_eq, Op.equalIn]; simp [runU hu]) hv (eqGuard_int _ _ _ _ _ _ (by simp) (by simp)) (.inr (.inl ⟨_, _, _, rfl⟩))
    · rename_i xs ys
      obtain ⟨hg, h2⟩ := condN' hb
      obtain ⟨xs', rfl⟩ : ∃ xs', x' = .agg xs' := by cases hx; exact ⟨_, rfl⟩
      obtain ⟨ys', rfl⟩ : ∃ ys', y' = .agg ys' := by cases hy; exact ⟨_, rfl⟩
      refine eq_run ox oy ?_ hv (run_eqGuard_agg w op t ox oy xs' ys' hg) (.inr (.inr ⟨_, rfl⟩))
      exact aeqv_sound 8 9992 t _ _ _ _ b h2 hx hy
    · cases hb


theorem bytesOf_rel : ∀ {l l' : List Value} {ns : List Int}, bytesOf l = some ns → VRels μ l l' → l' = ns.map (Value.int .u8)
  | [], _, _, h, r => by cases h; cases r; rfl
  | x :: l, l', ns, h, r => by
    cases r with
    | cons a b =>
      unfold bytesOf at h
      split at h
      · rename_i heq; cases heq
      · rename_i n l2 heq
        cases heq
        split at h
        · rename_i r hr
          cases h
          cases a
          rw [bytesOf_rel hr b]
          rfl
        · cases h
      · cases h

theorem bytes_sound {s d : TypeId} {x x' v : Value} (r : Rel D μ h w) (hd : ∀ a n c, x = .slice (some a) n c → D a.block) (hx : VRel μ x x') (e : abytes P h s d x = some v) : (convert s d x').run P w = .ok v w ∧ VRel μ v v := by
  unfold abytes at e
  split at e
  · rename_i el a n c hs hdst
    split at e
    · rename_i hel
      split at e
      · cases e
        cases hx
        exact ⟨by rw [run_convert_bytes_string w s d el _ _ _ hs hel hdst]; rfl, .string _⟩
      · rename_i ad
        split at e
        · rename_i l hl
          split at e
          · rename_i ns hns
            cases e
            refine ⟨?_, .string _⟩
            have hsrc : ∃ sa sc l', x' = .slice (some sa) n sc ∧ VRels μ l l' ∧ l'.length = n ∧ (n ≠ 0 → ∀ (j : Nat) v, l'[j]? = some v → w.cell? (sa.add j) = some v) := by
              cases hx with
              | sliceEx m h1 =>
                obtain ⟨_, l', h2, h3, h4, h5⟩ := read_sound r (hd _ _ _ rfl) m hl
                exact ⟨_, _, l', rfl, h2, h3, fun _ => h5⟩
              | sliceUn m h1 h3 =>
                obtain ⟨_, l', h2, h3', h4, h5⟩ := read_sound r (hd _ _ _ rfl) m hl
                rcases h3 with ⟨rfl, _⟩ | ⟨h6, _⟩
                · exact ⟨_, _, l', rfl, h2, h3', fun _ => h5⟩
                · exact ⟨_, _, l', rfl, h2, h3', fun h => absurd h6 h⟩
            obtain ⟨sa, sc, l', rfl, h2, h3, h4⟩ := hsrc
            have hl' := bytesOf_rel hns h2
            rw [run_convert_bytes_string w s d el _ _ _ hs hel hdst]
            refine run_bytesToString w sa n sc ns ?_
            have h5 : ∀ (j : Nat) v, l'[j]? = some v → w.cell? (sa.add j) = some v := by
              by_cases hn : n = 0
              · intro j v hj
                have : l' = [] := List.length_eq_zero_iff.1 (h3.trans hn)
                rw [this] at hj; simp at hj
              · exact h4 hn
            have := run_loadCells_list (P := P) (w := w) sa l' h5
            rw [h3] at this
            rw [this, hl']
          · cases e
        · cases e
    · cases e
  · cases e

theorem clear_sound {t ty : TypeId} {x x' v : Value} (r : Rel D μ h w) (hx : VRel μ x x') (hdx : ∀ a n c, x = .slice (some a) n c → D a.block ∧ (h'.low ≤ a.block → Wr a.block)) (hb : aclear P h t x = some (v, h')) :
    ∃ v' w', (Builtin.clear_ #[t] ty #[x']).run P w = .ok v' w' ∧ VRel μ v v' ∧ StepR D Wr μ h w μ h' w' := by
  unfold aclear at hb
  split at hb
  · rename_i e n c hu
    cases hb
    cases hx
    exact ⟨_, w, by simp [Builtin.clear_, runU hu], .tuple .nil, .refl r _⟩
  · rename_i e a n c hu
    split at hb
    · cases hb
      cases hx <;> exact ⟨_, w, by simp [Builtin.clear_, runU hu], .tuple .nil, .refl r _⟩
    · rename_i n
      split at hb
      · rename_i z hz
        split at hb
        · rename_i h2 hst
          cases hb
          obtain ⟨hd, hw⟩ := hdx _ _ _ rfl
          have hdst : ∃ p dc', μ a.block = some p ∧ x' = .slice (some ⟨p.block, p.base + a.off, none⟩) (n + 1) dc' := by
            cases hx with
            | sliceEx m h1 => exact ⟨_, _, m, rfl⟩
            | sliceUn m h1 h3 =>
              rcases h3 with ⟨rfl, _⟩ | ⟨h6, _⟩
              · exact ⟨_, _, m, rfl⟩
              · cases h6
          obtain ⟨p, dc', m, rfl⟩ := hdst
          have hzr := (zeroOf_rel μ hz).cells
          have hreps : ∀ n, VRels μ (reps (cellsOf z) n) (reps (cellsOf z) n) := by
            intro n
            induction n with
            | zero => exact .nil
            | succ n ih => unfold reps; exact VRels.append (by have := hzr; rw [← cellsOf_eq] at this; exact this) ih
          obtain ⟨_, b1, b2, b3, b4⟩ := storeL_sound (Wr := Wr) r hd hw m hst (hreps (n + 1))
          have hrun := run_storeCells_cells (P := P) p.block (p.base + a.off) (reps (cellsOf z) (n + 1)) 0 w (by simpa using b1) (by simpa using b2) b3
          simp only [Nat.add_zero] at hrun
          have hmade : (Builtin.zeroCells z.cells (n + 1)).toList = reps (cellsOf z) (n + 1) := by
            rw [← reps_madeCells, cellsOf_eq]
            simp [Builtin.zeroCells, madeCells]
          refine ⟨_, _, ?_, .tuple .nil, b4⟩
          simp only [Builtin.clear_, List.getElem?_toArray, List.getElem?_cons_zero, Sem.run_bind, runU hu, Result.andThen_ok, runZ hz, hmade, hrun, Sem.run_pure]
        · cases hb
      · cases hb
  · cases hb
end
end Go.Am
