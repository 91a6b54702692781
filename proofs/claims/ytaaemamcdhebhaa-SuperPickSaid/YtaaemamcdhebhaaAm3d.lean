/- Am3d: part of a calculus over an abstract machine that stands beside the model, and contracts of functions by it.
Conditions: what each theorem says of its arguments. -/
import Derived.Test.YtaaemamcdhebhaaAm3c
set_option linter.unusedVariables false
namespace Go.Am
open Go.RowKit

section
variable {P : Program} {μ : Mu} {w : World} {D Wr : Nat → Prop} {h h' : Heap}

theorem reps_nil {α : Type} : ∀ (n : Nat), reps ([] : List α) n = []
  | 0 => rfl
  | n + 1 => by unfold reps; rw [reps_nil n]; rfl
theorem ptr_new (μ : Mu) (i b e : Nat) : VRel (μ.set i ⟨b, 0, e⟩) (.pointer (some ⟨i, 0, none⟩)) (.pointer (some ⟨b, 0, none⟩)) :=
  VRel.ptr (p := ⟨b, 0, e⟩) (Mu.set_eq μ i _)

theorem buildSlice_sound {t : TypeId} {n : Nat} {parts parts' : List (Nat × Value)} {v : Value} (r : Rel D μ h w) (hf : μ h.next = none) (hb : abuildSlice P h t n parts = some (v, h')) (hp : PRels μ parts parts') (Wr : Nat → Prop) :
    ∃ v' ν w', (Instr.buildSlice t n ⟨parts'⟩).run P w = .ok v' w' ∧ VRel ν v v' ∧ StepR D Wr μ h w ν h' w' := by
  unfold abuildSlice at hb
  split at hb
  · rename_i e hu
    split at hb
    · rename_i s z hs hz
      have hcn := condN hb; clear hb; obtain ⟨h1, hb⟩ := hcn
      have hcn := condN hb; clear hb; obtain ⟨h2, hb⟩ := hcn
      rw [lenIs_iff] at h2
      split at hb
      · rename_i cs hfl
        cases hb
        have hzr := (zeroOf_rel μ hz).cells
        have hzl := hzr.length
        have hreps : ∀ n, VRels μ (reps (cellsOf z) n) (reps (cellsOf z) n) := by
          have hz2 := zeroOf_some hz
          obtain ⟨_, _, _, hc⟩ := hz2
          have hcl : closedL (cellsOf z) = true ∨ True := .inr trivial
          intro n
          induction n with
          | zero => exact .nil
          | succ n ih => unfold reps; exact VRels.append (by have := hzr; rw [← cellsOf_eq] at this; exact this) ih
        have hmade : ((Array.range (n * s)).map ((if n * s = 0 then (#[] : Array Value) else z.cells)[· % (if n * s = 0 then (#[] : Array Value) else z.cells).size]!)).toList = reps (cellsOf z) n := by
          by_cases h0 : n * s = 0
          · rw [h0]
            have : reps (cellsOf z) n = [] := by
              rcases Nat.mul_eq_zero.1 h0 with rfl | h0
              · rfl
              · rw [h0] at h2
                have hnil := List.length_eq_zero_iff.1 h2
                rw [hnil]
                exact reps_nil n
            rw [this]
            simp
          · simp only [if_neg h0]
            have := reps_madeCells (cellsOf z) n
            rw [← this, h2]
            unfold madeCells
            rw [cellsOf_eq]
        obtain ⟨r', h3, h4⟩ := fill_sound (place := fun i => some (i * s, s)) parts parts' _ cs ((Array.range (n * s)).map ((if n * s = 0 then (#[] : Array Value) else z.cells)[· % (if n * s = 0 then (#[] : Array Value) else z.cells).size]!)) (by rw [hmade]; exact hreps n) hp hfl
        have hst := new_exact (E := e) (w' := w.alloc (.cells r' e)) r hf rfl rfl rfl rfl rfl h4 Wr
        refine ⟨.slice (some ⟨w.heap.size, 0, none⟩) n n, _, _, ?_, VRel.sliceEx (p := ⟨w.heap.size, 0, r'.size⟩) (Mu.set_eq μ h.next _) (Nat.le_refl _), hst⟩
        have hble := Nat.le_of_ble_eq_true h1
        simp only [Instr.buildSlice, Sem.run_bind, runU hu, Result.andThen_ok, runS hs]
        rw [if_neg (by show ¬ (n * s > 16777216); exact Nat.not_lt.2 hble)]
        by_cases h0 : n * s = 0
        · rw [if_pos h0]
          simp only [if_pos h0] at h3
          simp only [Sem.run_bind, Sem.run_pure, Result.andThen_ok]
          rw [h3]
          simp [newRow, h0]
        · rw [if_neg h0]
          simp only [if_neg h0] at h3
          simp only [Sem.run_bind, Sem.run_pure, Result.andThen_ok, runZ hz]
          rw [h3]
          simp [newRow, h0]
      · cases hb
    · cases hb
  · cases hb

theorem makeSlice_sound {t : TypeId} {l c l' c' v : Value} (r : Rel D μ h w) (hf : μ h.next = none) (hl : VRel μ l l') (hc : VRel μ c c') (hb : amakeSlice P h t l c = some (v, h')) (Wr : Nat → Prop) :
    ∃ v' ν w', (Instr.makeSlice t l' c').run P w = .ok v' w' ∧ VRel ν v v' ∧ StepR D Wr μ h w ν h' w' := by
  unfold amakeSlice at hb
  split at hb
  · rename_i e k1 n k2 m hu
    rw [isInt hl, isInt hc]
    split at hb
    · rename_i i z hi hz
      have hcn := condN hb; clear hb; obtain ⟨h1, hb⟩ := hcn
      have hcn := condN hb; clear hb; obtain ⟨h2, hb⟩ := hcn
      have hcn := condN hb; clear hb; obtain ⟨h3, hb⟩ := hcn
      have hcn := condN hb; clear hb; obtain ⟨h4, hb⟩ := hcn
      cases hb
      rw [lenIs_iff] at h1
      have h2 := Nat.le_of_ble_eq_true h2
      have h3 := Nat.le_of_ble_eq_true h3
      have h4 := Nat.le_of_ble_eq_true h4
      obtain ⟨i', hi', hz', hcz⟩ := zeroOf_some hz
      rw [hi] at hi'
      cases hi'
      have hrun := run_make (P := P) w t e i z hu hi hz' k1 k2 (n : Int) (m : Int) (by omega) (by omega) (by
        have h3' : i.bytes * m ≤ 281474976710656 := h3
        rw [← Int.natCast_mul]
        omega) (by omega)
      simp only [Int.toNat_natCast] at hrun
      have hzr := (zeroOf_rel μ hz).cells
      have hreps : ∀ n, VRels μ (reps (cellsOf z) n) (reps (cellsOf z) n) := by
        intro n
        induction n with
        | zero => exact .nil
        | succ n ih => unfold reps; exact VRels.append (by have := hzr; rw [← cellsOf_eq] at this; exact this) ih
      have hmade : (madeCells z.cells (m * i.size)).toList = reps (cellsOf z) m := by
        rw [← h1, ← reps_madeCells (cellsOf z) m, cellsOf_eq]
      have hst := new_exact (E := e) (w' := w.alloc (.cells (madeCells z.cells (m * i.size)) e)) r hf rfl rfl rfl rfl hmade (hreps m) Wr
      exact ⟨_, _, _, hrun, VRel.sliceEx (p := ⟨w.heap.size, 0, _⟩) (Mu.set_eq μ h.next _) h2, hst⟩
    · cases hb
  · cases hb

theorem read_sound {a : Addr} {n : Nat} {l : List Value} {p : Place} (r : Rel D μ h w) (d : D a.block) (m : μ a.block = some p) (hr : aread h a n = some l) :
    a.spot = none ∧ ∃ l', VRels μ l l' ∧ l'.length = n ∧ l.length = n ∧ ∀ (j : Nat) v, l'[j]? = some v → w.cell? ((⟨p.block, p.base + a.off, none⟩ : Addr).add j) = some v := by
  unfold aread at hr
  split at hr
  · cases hr
  · rename_i hs
    refine ⟨hs, ?_⟩
    split at hr
    · rename_i o hg
      obtain ⟨l', h1, h2, h3⟩ := (r.cells _ o p d hg m).slab hr
      exact ⟨l', h1, h2, by rw [← h1.length, h2], h3⟩
    · cases hr

theorem nextslicecap_le (need old : Nat) (h : old < need) : Builtin.nextslicecap need old ≤ 2 * need := by
  have hg : ∀ (k c : Nat), c ≤ 2 * need → 256 ≤ need → Builtin.growBy need k c ≤ 2 * need := by
    intro k
    induction k with
    | zero => intro c hc _; exact hc
    | succ k ih =>
      intro c hc hn
      unfold Builtin.growBy
      split
      · exact hc
      · rename_i hlt
        exact ih _ (by omega) hn
  unfold Builtin.nextslicecap
  split
  · omega
  · split
    · omega
    · exact hg 4 old (by omega) (by omega)

/-- What a slice (to be read) stands for. -/
theorem src_sound {s n : Nat} {y y' : Value} {l : List Value} (r : Rel D μ h w) (hy : VRel μ y y') (hd : ∀ a n c, y = .slice (some a) n c → D a.block) (hs : asrc h s y = some (n, l)) :
    (n = 0 ∧ l = [] ∧ y' = .slice none 0 0) ∨ (∃ ca c l', y' = .slice (some ca) n c ∧ VRels μ l l' ∧ l'.length = n * s ∧ l.length = n * s ∧ (n * s ≠ 0 → ∀ (j : Nat) v, l'[j]? = some v → w.cell? (ca.add j) = some v)) := by
  unfold asrc at hs
  split at hs
  · cases hs; cases hy; exact .inl ⟨rfl, rfl, rfl⟩
  · rename_i a n' c
    split at hs
    · rename_i l2 hl2
      cases hs
      right
      cases hy with
      | sliceEx m h1 =>
        obtain ⟨_, l', h2, h3, h4, h5⟩ := read_sound r (hd _ _ _ rfl) m hl2
        exact ⟨_, _, l', rfl, h2, h3, h4, fun _ => h5⟩
      | sliceUn m h1 h3 =>
        obtain ⟨_, l', h2, h3', h4, h5⟩ := read_sound r (hd _ _ _ rfl) m hl2
        refine ⟨_, _, l', rfl, h2, h3', h4, fun hne => ?_⟩
        rcases h3 with ⟨rfl, _⟩ | ⟨h6, _⟩
        · exact h5
        · exact absurd (by rw [h6, Nat.zero_mul]) hne
    · cases hs
  · cases hs

theorem run_append_zero (t ty e : TypeId) (hu : P.underlying t = some (.slice e)) {s : Nat} (hs : Am.sizeOf P e = some s) (base : Option Addr) (n c : Nat) (hc : n ≤ c) (y : Value) (hy : y = .slice none 0 0 ∨ ∃ ca c', y = .slice (some ca) 0 c') (hb : base = none → n = 0) :
    (Builtin.append_ #[t, t] ty #[.slice base n c, y]).run P w = .ok (.slice base n c) w := by
  rcases hy with rfl | ⟨ca, c', rfl⟩ <;> cases base <;> simp [Builtin.append_, runU hu, runS hs, Builtin.lenOf, hc, Builtin.firstCells, storeCells, loadCells, loadCellsFrom]

theorem grown_new {D : Nat → Prop} {e : TypeId} {z : Value} {cs cs' : List Value} {k : Nat} (r : Rel D μ h w) (hf : μ h.next = none) (hr : VRels μ cs cs') (Wr : Nat → Prop) :
    StepR D Wr μ h w (μ.set h.next ⟨w.heap.size, 0, (cs'.toArray ++ Builtin.zeroCells z.cells k).size⟩) (h.push ⟨cs, true⟩) (w.drew.alloc (.cells (cs'.toArray ++ Builtin.zeroCells z.cells k) e)) := by
  refine new_sound (E := e) (C := cs'.toArray ++ Builtin.zeroCells z.cells k) (w' := w.drew.alloc (.cells (cs'.toArray ++ Builtin.zeroCells z.cells k) e)) r hf rfl rfl rfl rfl ⟨cs' ++ (Builtin.zeroCells z.cells k).toList, by simp, ?_⟩ Wr
  rw [← hr.length, List.take_left']
  · exact hr
  · rfl

theorem zeroCells_size (z : Array Value) (k : Nat) : (Builtin.zeroCells z k).size = k * z.size := by simp [Builtin.zeroCells]

theorem append_sound {t t2 ty : TypeId} {x y x' y' v : Value} (r : Rel D μ h w) (hf : h.next < h'.next → μ h.next = none) (hx : VRel μ x x') (hy : VRel μ y y')
    (hdx : ∀ a n c, x = .slice (some a) n c → D a.block ∧ (h'.low ≤ a.block → Wr a.block)) (hdy : ∀ a n c, y = .slice (some a) n c → D a.block) (hb : aappend P h t t2 x y = some (v, h')) :
    ∃ v' ν w', (Builtin.append_ #[t, t2] ty #[x', y']).run P w = .ok v' w' ∧ VRel ν v v' ∧ StepR D Wr μ h w ν h' w' := by
  unfold aappend at hb
  split at hb
  · rename_i e hu htt
    obtain ⟨htt, _⟩ := condN htt
    have htt := Nat.eq_of_beq_eq_true htt
    subst htt
    split at hb
    · rename_i i z hi hz
      have hcn := condN hb; clear hb; obtain ⟨h1, hb⟩ := hcn
      have hcn := condN hb; clear hb; obtain ⟨h2, hb⟩ := hcn
      rw [lenIs_iff] at h1
      have h2 := Nat.le_of_ble_eq_true h2
      obtain ⟨i', hi', hz', hcz⟩ := zeroOf_some hz
      rw [hi] at hi'
      cases hi'
      have hs : Am.sizeOf P e = some i.size := by unfold Am.sizeOf; rw [hi]
      have hzs : z.cells.size = i.size := by rw [← Array.length_toList, ← cellsOf_eq, h1]
      split at hb
      · -- nothing is appended
        rename_i l hsrc
        have hy0 : y' = .slice none 0 0 ∨ ∃ ca c', y' = .slice (some ca) 0 c' := by
          rcases src_sound r hy hdy hsrc with ⟨_, _, rfl⟩ | ⟨ca, c, _, rfl, _⟩
          · exact .inl rfl
          · exact .inr ⟨_, _, rfl⟩
        split at hb
        · cases hb
          cases hx
          exact ⟨_, μ, w, run_append_zero t ty e hu hs none 0 0 (Nat.le_refl _) y' hy0 (fun _ => rfl), .sliceNil 0 0, .refl r Wr⟩
        · rename_i a n c
          split at hb
          · cases hb
            cases hx with
            | sliceEx m h3 => exact ⟨_, μ, w, run_append_zero t ty e hu hs _ _ _ h3 y' hy0 (by simp), .sliceEx m h3, .refl r Wr⟩
            | sliceUn m h3 h4 => exact ⟨_, μ, w, run_append_zero t ty e hu hs _ _ _ h3 y' hy0 (by simp), .sliceUn m h3 h4, .refl r Wr⟩
          · cases hb
        · cases hb
      · rename_i m news hsrc
        rcases src_sound r hy hdy hsrc with ⟨h3, _, _⟩ | ⟨ca, cc, news', rfl, hn1, hn2, hn3, hn4⟩
        · cases h3
        have hn2 : news'.length = (m + 1) * i.size := hn2
        have hn3 : news.length = (m + 1) * i.size := hn3
        have hne : (m + 1) * i.size ≠ 0 := Nat.mul_ne_zero (by omega) (by omega)
        have hnews := hn4 hne
        split at hb
        · -- to nothing
          have hcn := condN hb; clear hb; obtain ⟨h5, hb⟩ := hcn
          have hcn := condN hb; clear hb; obtain ⟨h6, hb⟩ := hcn
          cases hb
          cases hx
          have h5 := Nat.le_of_ble_eq_true h5
          have h6 := Nat.le_of_ble_eq_true h6
          have h5' : 2 * (m + 1) * i.bytes ≤ 281474976710656 := h5
          have hrun := run_append_nil (P := P) (w := w) t ty e i z hu hi hz' ca (m + 1) cc news' hn2 hnews (by omega) (by have h6' : m + 1 ≤ 9223372036854775807 := h6; omega) (Nat.le_trans (Nat.mul_le_mul_right _ (by omega)) h5')
          refine ⟨_, _, _, hrun, ?_, grown_new r (hf (Nat.lt_succ_self _)) hn1 Wr⟩
          refine VRel.sliceUn (p := ⟨w.heap.size, 0, _⟩) (Mu.set_eq μ h.next _) (grownCap_ge w _ _ _) (.inl ⟨rfl, ?_⟩)
          have := grownCap_ge w (m + 1) 0 e
          simp only [Array.size_append, List.size_toArray, zeroCells_size, hn2, hzs]
          rw [← Nat.add_mul]
          show 0 + grownCap w (m + 1) 0 e * i.size ≤ _
          rw [show m + 1 + (grownCap w (m + 1) 0 e - (m + 1)) = grownCap w (m + 1) 0 e by omega]
          omega
        · rename_i a n c
          split at hb
          · rename_i olds hold
            have hcn := condN hb; clear hb; obtain ⟨h5, hb⟩ := hcn
            have hcn := condN hb; clear hb; obtain ⟨h6, hb⟩ := hcn
            have h5 := Nat.le_of_ble_eq_true h5
            have h6 := Nat.le_of_ble_eq_true h6
            have h5' : 2 * (n + (m + 1)) * i.bytes ≤ 281474976710656 := h5
            have h6' : n + (m + 1) ≤ 9223372036854775807 := h6
            obtain ⟨hda, hwa⟩ := hdx _ _ _ rfl
            -- grown elsewhere
            have helse : ∀ (p : Place) (cx : Addr) (cap : Nat) (olds' : List Value), VRels μ olds olds' → olds'.length = n * i.size → (∀ (j : Nat) v, olds'[j]? = some v → w.cell? (cx.add j) = some v) → cap < n + (m + 1) →
                ∀ (h0 : Heap), μ h.next = none → h0.next = h.next → Rel (fun i => D i ∨ h.next ≤ i) μ h0 w →
                ∃ v' ν w', (Builtin.append_ #[t, t] ty #[.slice (some cx) n cap, .slice (some ca) (m + 1) cc]).run P w = .ok v' w' ∧ VRel ν (.slice (some ⟨h.next, 0, none⟩) (n + (m + 1)) (unkc i.size)) v' ∧ StepR (fun i => D i ∨ h.next ≤ i) (fun i => Wr i ∨ h.next ≤ i) μ h0 w ν (h0.push ⟨olds ++ news, true⟩) w' := by
              intro p cx cap olds' ho1 ho2 ho3 hlt h0 hf0 hn0 r0
              have hrun := run_append_grow (P := P) (w := w) t ty e i z hu hi hz' cx n cap olds' ho2 ho3 ca (m + 1) cc news' hn2 hnews hlt (by omega)
                (Nat.le_trans (Nat.mul_le_mul_right _ (nextslicecap_le _ _ hlt)) h5')
              have hst := grown_new (e := e) (z := z) (k := grownCap w (n + (m + 1)) cap e - (n + (m + 1))) r0 (by rw [hn0]; exact hf0) (ho1.append hn1) (fun i => Wr i ∨ h.next ≤ i)
              rw [hn0] at hst
              refine ⟨_, _, _, hrun, ?_, by rw [show olds'.toArray ++ news'.toArray = (olds' ++ news').toArray by simp]; exact hst⟩
              refine VRel.sliceUn (p := ⟨w.heap.size, 0, _⟩) (Mu.set_eq μ h.next _) (grownCap_ge w _ _ _) (.inl ⟨rfl, ?_⟩)
              have := grownCap_ge w (n + (m + 1)) cap e
              simp only [Array.size_append, List.size_toArray, zeroCells_size, List.length_append, hn2, ho2, hzs]
              rw [← Nat.add_mul, ← Nat.add_mul, show n + (m + 1) + (grownCap w (n + (m + 1)) cap e - (n + (m + 1))) = grownCap w (n + (m + 1)) cap e by omega]
              omega
            by_cases hun : isUnk c = true
            · rw [hun] at hb
              simp only [cond_true] at hb
              have hcn := condN hb; clear hb; obtain ⟨h7, hb⟩ := hcn
              have h7 := Nat.eq_of_beq_eq_true h7
              split at hb
              · rename_i o hg
                have hcn := condN hb; clear hb; obtain ⟨ho, hb⟩ := hcn
                have hcn := condN hb; clear hb; obtain ⟨hlen, hb⟩ := hcn
                have hcn := condN hb; clear hb; obtain ⟨hall, hb⟩ := hcn
                cases hb
                rw [lenIs_iff] at hlen
                cases hx with
                | sliceEx m h3 => rw [isUnk_exc] at hun; cases hun
                | @sliceUn i0 off _ e' c' p cx mp h3 h4 =>
                  rw [half_unkc] at h7
                  subst h7
                  obtain ⟨_, olds', ho1, ho2, ho3, ho4⟩ := read_sound r hda mp hold
                  simp only at hg hlen ho4 hda hwa
                  have ho2 : olds'.length = n * i.size := ho2
                  have ho3 : olds.length = n * i.size := ho3
                  have hlen' : o.cells.length = off + n * i.size := hlen
                  have ho4' : n * i.size ≠ 0 → ∀ (j : Nat) v, olds'[j]? = some v → w.cell? (cx.add j) = some v := by
                    intro hnz
                    rcases h4 with ⟨rfl, _⟩ | ⟨h8, _⟩
                    · exact ho4
                    · exact absurd (by rw [h8, Nat.zero_mul]) hnz
                  have ho4'' : ∀ (j : Nat) v, olds'[j]? = some v → w.cell? (cx.add j) = some v := by
                    by_cases hnz : n * i.size = 0
                    · have : olds' = [] := List.length_eq_zero_iff.1 (ho2.trans hnz)
                      intro j v hj; rw [this] at hj; simp at hj
                    · exact ho4' hnz
                  by_cases hroom : n + (m + 1) ≤ c'
                  · -- in place
                    rcases h4 with ⟨rfl, hext⟩ | ⟨_, h8⟩
                    case inr => omega
                    have hm := r.cells _ o p hda hg mp
                    have hmul : (n + (m + 1)) * i.size ≤ c' * i.size := Nat.mul_le_mul_right _ hroom
                    have hmul2 : (n + (m + 1)) * i.size = n * i.size + (m + 1) * i.size := Nat.add_mul _ _ _
                    have hcell : ∀ j, j < news'.length → (w.cell? ⟨p.block, p.base + off + n * i.size + j, none⟩).isSome = true ∧ w.frozen? ⟨p.block, p.base + off + n * i.size + j, none⟩ = false := fun j hj => by
                      have := hm.own ho (off + n * i.size + j) (by omega)
                      rwa [show p.base + (off + n * i.size + j) = p.base + off + n * i.size + j by omega] at this
                    have hrun := run_append_room_cells (P := P) (w := w) t ty e i hu hi p.block (p.base + off) n c' ca (m + 1) cc news' hn2 hnews (hn1.allCells hall) hroom (fun j hj => (hcell j hj).1) (fun j hj => (hcell j hj).2)
                    refine ⟨_, _, _, hrun, ?_, StepR.grow (o := o) (off0 := off) r hda (hwa (low_put h i0 none).2) hg ho mp (hf (Nat.lt_succ_self _)) (by omega) ((keep_setCells p.block news' (p.base + off + n * i.size) w).mono (fun x q _ hx => ⟨hx.1, by omega, by rw [if_pos ho]; omega⟩)) ?_ ?_⟩
                    · refine VRel.sliceUn (p := ⟨p.block, p.base + off, p.ext - off⟩) (Mu.set_eq μ h.next _) hroom (.inl ⟨rfl, ?_⟩)
                      simp only; omega
                    · intro j v hj
                      rw [List.getElem?_append] at hj
                      have hol : olds.length = n * i.size := ho3
                      by_cases h9 : j < olds.length
                      · rw [if_pos h9] at hj
                        obtain ⟨v', h10, h11⟩ := ho1.nth j v hj
                        refine ⟨v', ?_, h11⟩
                        rw [World.cell?_setCells_out _ _ _ _ _ (fun _ _ => .inl (by simp only; omega))]
                        have := ho4 j v' h10
                        rwa [Addr.add_lit] at this
                      · rw [if_neg h9] at hj
                        obtain ⟨v', h10, h11⟩ := hn1.nth _ v hj
                        refine ⟨v', ?_, h11⟩
                        have := cells_setCells w p.block (p.base + off + n * i.size) news' (fun j hj => (hcell j hj).1) _ v' h10
                        rwa [show p.base + off + n * i.size + (j - olds.length) = p.base + off + j by omega] at this
                    · have h12 := hn1.length
                      rw [List.length_append]
                      omega
                  · obtain ⟨v', ν, w', h8, h9, h10⟩ := helse p cx c' olds' ho1 ho2 ho4'' (by omega) (h.put i0 none) (hf (Nat.lt_succ_self _)) rfl ((StepR.kill (D := D) r (hwa (low_put h i0 none).2) (by rw [mp]; simp)).rel)
                    exact ⟨v', ν, w', h8, h9, (StepR.kill r (hwa (low_put h i0 none).2) (by rw [mp]; simp)).trans h10⟩
              · cases hb
            · have hun : isUnk c = false := by simpa using hun
              rw [hun] at hb
              simp only [cond_false] at hb
              cases hx with
              | sliceUn mp h3 h4 => rw [isUnk_unkc] at hun; cases hun
              | @sliceEx i0 off _ c' p mp h3 =>
                rw [half_exc] at hb
                obtain ⟨_, olds', ho1, ho2, ho3, ho4⟩ := read_sound r hda mp hold
                simp only at ho4 hda hwa
                by_cases hroom : n + (m + 1) ≤ c'
                · rw [Nat.ble_eq_true_of_le (show Nat.add n (Nat.succ m) ≤ c' from hroom)] at hb
                  simp only [cond_true] at hb
                  split at hb
                  · rename_i h2' hst
                    cases hb
                    obtain ⟨_, b1, b2, b3, b4⟩ := storeL_sound (Wr := Wr) r (by exact hda) (by exact hwa) (by exact mp) hst hn1
                    have hoff : p.base + (addrAdd ⟨i0, off, none⟩ (Nat.mul n i.size)).off = p.base + off + n * i.size := by show p.base + (off + n * i.size) = _; omega
                    rw [hoff] at b1 b2 b4
                    have hrun := run_append_room_cells (P := P) (w := w) t ty e i hu hi p.block (p.base + off) n c' ca (m + 1) cc news' hn2 hnews b3 hroom b1 b2
                    exact ⟨_, _, _, hrun, .sliceEx mp hroom, b4⟩
                  · cases hb
                · have hbl : Nat.ble (Nat.add n (Nat.succ m)) c' = false := by
                    cases hq : Nat.ble (Nat.add n (Nat.succ m)) c' with
                    | false => rfl
                    | true => exact absurd (Nat.le_of_ble_eq_true hq) hroom
                  rw [hbl] at hb
                  simp only [cond_false] at hb
                  cases hb
                  obtain ⟨v', ν, w', h8, h9, h10⟩ := helse p _ c' olds' ho1 ho2 ho4 (by omega) h (hf (Nat.lt_succ_self _)) rfl ((StepR.refl r Wr).rel)
                  exact ⟨v', ν, w', h8, h9, (StepR.refl r Wr).trans h10⟩
          · cases hb
        · cases hb
      · cases hb
    · cases hb
  · cases hb

theorem copy_sound {t ty : TypeId} {args : Array TypeId} {x y x' y' v : Value} (r : Rel D μ h w) (hx : VRel μ x x') (hy : VRel μ y y') (ha : ∃ t2 rest, args = ⟨t :: t2 :: rest⟩)
    (hdx : ∀ a n c, x = .slice (some a) n c → D a.block ∧ (h'.low ≤ a.block → Wr a.block)) (hdy : ∀ a n c, y = .slice (some a) n c → D a.block) (hb : acopy P h t x y = some (v, h')) :
    ∃ v' w', (Builtin.copy_ args ty #[x', y']).run P w = .ok v' w' ∧ VRel μ v v' ∧ StepR D Wr μ h w μ h' w' := by
  obtain ⟨t2, rest, rfl⟩ := ha
  have hargs : ∀ (u v : Value), Builtin.copy_ ⟨t :: t2 :: rest⟩ ty #[u, v] = Builtin.copy_ #[t, t2] ty #[u, v] := by
    intro u v; unfold Builtin.copy_; simp
  rw [hargs]
  unfold acopy at hb
  split at hb
  · rename_i e hu
    split at hb
    · rename_i hs
      have hs1 : (P.info? e).map (·.size) = some 1 := by
        unfold Am.sizeOf at hs
        cases hi : P.info? e with
        | none => rw [hi] at hs; cases hs
        | some i => rw [hi] at hs; simpa using hs
      split at hb
      · rename_i da dn dc s
        cases hy
        have hX : ∃ dc', x' = .slice (match x' with | .slice a _ _ => a | _ => none) dn dc' := by cases hx <;> exact ⟨_, rfl⟩
        have hss : s.data.toList.length = s.size := by rw [Array.length_toList]; rfl
        split at hb
        · rename_i h0
          cases hb
          obtain ⟨dc', hX⟩ := hX
          rw [hX]
          have h0' : Nat.min s.size dn = 0 := by rw [← hss]; exact h0
          refine ⟨_, w, ?_, .int _ _, .refl r _⟩
          generalize (match x' with | .slice a _ _ => a | _ => none) = bb
          have hsz := runS (P := P) hs w
          have hext : (s.extract 0 0).data.map (fun b => Value.int .u8 (b.toNat : Int)) = #[] := by simp
          cases bb <;> simp only [Builtin.copy_, List.getElem?_toArray, List.getElem?_cons_zero, List.getElem?_cons_succ, Sem.run_bind, runU hu, Result.andThen_ok, Builtin.lenOf, Sem.run_pure, h0', hsz, Builtin.firstCells, hext, storeCells] <;> rfl
        · rename_i n hn
          split at hb
          · rename_i d
            split at hb
            · rename_i cs hcs
              split at hb
              · rename_i h2 hst
                cases hb
                obtain ⟨hdd, hwd⟩ := hdx _ _ _ rfl
                have hn' : Nat.min s.size dn = n + 1 := by rw [← hss]; exact hn
                have hmin : n + 1 ≤ s.size ∧ n + 1 ≤ dn := by
                  have h3 := Nat.min_le_left s.size dn
                  have h4 := Nat.min_le_right s.size dn
                  have h5 : min s.size dn = n + 1 := hn'
                  omega
                rw [takeN_eq] at hcs
                split at hcs
                · rename_i hle
                  cases hcs
                  have hdst : ∃ p dc', μ d.block = some p ∧ x' = .slice (some ⟨p.block, p.base + d.off, none⟩) dn dc' := by
                    cases hx with
                    | sliceEx m h1 => exact ⟨_, _, m, rfl⟩
                    | sliceUn m h1 h3 =>
                      rcases h3 with ⟨rfl, _⟩ | ⟨h6, _⟩
                      · exact ⟨_, _, m, rfl⟩
                      · omega
                  obtain ⟨p, dc', mp, rfl⟩ := hdst
                  have hself : ∀ l : List UInt8, VRels μ (l.map fun b => Value.int .u8 (b.toNat : Int)) (l.map fun b => Value.int .u8 (b.toNat : Int)) := by
                    intro l
                    induction l with
                    | nil => exact .nil
                    | cons x l ih => exact .cons (.int _ _) ih
                  have hstr : (strCells s).take (n + 1) = (s.data.toList.take (n + 1)).map fun b => Value.int .u8 (b.toNat : Int) := by unfold strCells; rw [List.map_take]
                  have hself' : VRels μ ((strCells s).take (Nat.succ n)) ((strCells s).take (n + 1)) := by rw [show Nat.succ n = n + 1 from rfl, hstr]; exact hself _
                  obtain ⟨_, b1, b2, b3, b4⟩ := storeL_sound (Wr := Wr) r hdd hwd mp hst hself'
                  refine ⟨_, _, ?_, .int _ (n + 1 : Nat), b4⟩
                  have hrun := run_storeCells_cells (P := P) p.block (p.base + d.off) ((strCells s).take (n + 1)) 0 w (by simpa using b1) (by simpa using b2) b3
                  simp only [Nat.add_zero] at hrun
                  have hcells : ((s.extract 0 (n + 1)).data.map fun b => Value.int .u8 (b.toNat : Int)).toList = (strCells s).take (n + 1) := by
                    rw [hstr]
                    simp [List.extract_eq_take_drop]
                  simp only [Builtin.copy_, List.getElem?_toArray, List.getElem?_cons_zero, List.getElem?_cons_succ, Sem.run_bind, runU hu, Result.andThen_ok, Builtin.lenOf, Sem.run_pure, hn', runS hs, Builtin.firstCells, hcells, hrun]
                  rfl
                · cases hcs
              · cases hb
            · cases hb
          · cases hb
      · rename_i da dn dc sa sn sc
        have hX : ∃ dc', x' = .slice (match x' with | .slice a _ _ => a | _ => none) dn dc' := by cases hx <;> exact ⟨_, rfl⟩
        have hY : ∃ sc', y' = .slice (match y' with | .slice a _ _ => a | _ => none) sn sc' := by cases hy <;> exact ⟨_, rfl⟩
        split at hb
        · rename_i h0
          cases hb
          obtain ⟨dc', hX⟩ := hX
          obtain ⟨sc', hY⟩ := hY
          rw [hX, hY]
          exact ⟨_, w, run_copy_none w t t2 ty e _ _ _ _ _ _ hu hs1 h0, .int _ _, .refl r Wr⟩
        · rename_i n hn
          split at hb
          · rename_i d s
            split at hb
            · rename_i cs hcs
              split at hb
              · rename_i h2 hst
                cases hb
                obtain ⟨hdd, hwd⟩ := hdx _ _ _ rfl
                have hds := hdy _ _ _ rfl
                have hn' : Nat.min sn dn = n + 1 := hn
                have hmin : n + 1 ≤ sn ∧ n + 1 ≤ dn := by
                  have h3 := Nat.min_le_left sn dn
                  have h4 := Nat.min_le_right sn dn
                  have h5 : min sn dn = n + 1 := hn'
                  omega
                -- the source
                have hsrc : ∃ sa' sc' cs', y' = .slice (some sa') sn sc' ∧ VRels μ cs cs' ∧ cs'.length = n + 1 ∧ ∀ (j : Nat) v, cs'[j]? = some v → w.cell? (sa'.add j) = some v := by
                  cases hy with
                  | sliceEx m h1 =>
                    obtain ⟨_, l', h2, h3, h4, h5⟩ := read_sound r hds m hcs
                    exact ⟨_, _, l', rfl, h2, h3, h5⟩
                  | sliceUn m h1 h3 =>
                    obtain ⟨_, l', h2, h3', h4, h5⟩ := read_sound r hds m hcs
                    rcases h3 with ⟨rfl, _⟩ | ⟨h6, _⟩
                    · exact ⟨_, _, l', rfl, h2, h3', h5⟩
                    · omega
                obtain ⟨sa', sc', cs', rfl, hc1, hc2, hc3⟩ := hsrc
                have hdst : ∃ p dc', μ d.block = some p ∧ x' = .slice (some ⟨p.block, p.base + d.off, none⟩) dn dc' := by
                  cases hx with
                  | sliceEx m h1 => exact ⟨_, _, m, rfl⟩
                  | sliceUn m h1 h3 =>
                    rcases h3 with ⟨rfl, _⟩ | ⟨h6, _⟩
                    · exact ⟨_, _, m, rfl⟩
                    · omega
                obtain ⟨p, dc', mp, rfl⟩ := hdst
                obtain ⟨_, b1, b2, b3, b4⟩ := storeL_sound (Wr := Wr) r hdd hwd mp hst hc1
                have hrun := run_copy_cells (P := P) w t t2 ty e p.block (p.base + d.off) dn dc' sa' sn sc' cs' hu hs1 (hc2.trans hn'.symm) hc3 b1 b2 b3
                refine ⟨_, _, hrun, ?_, b4⟩
                rw [hc2]
                exact .int _ _
              · cases hb
            · cases hb
          · cases hb
      · cases hb
    · cases hb
  · cases hb
end
end Go.Am
