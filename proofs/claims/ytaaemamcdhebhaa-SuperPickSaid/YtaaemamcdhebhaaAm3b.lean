/- Am3b: part of a calculus over an abstract machine that stands beside the model, and contracts of functions by it.
Conditions: what each theorem says of its arguments. -/
import Derived.Test.YtaaemamcdhebhaaAm3a
import Derived.ArgAppend
import Derived.Laws.MakeOwn
import Derived.Laws.AppendOwn
import Derived.Laws.StructEq
import Derived.ChangeKeysEq
set_option linter.unusedVariables false
namespace Go.Am
open Go.RowKit

section
variable {P : Program} {μ : Mu} {w : World} {D Wr : Nat → Prop} {h : Heap}

theorem slab_some {α : Type} {n off : Nat} {cs l : List α} (h : takeN n (dropN off cs) = some l) : l = (cs.drop off).take n ∧ l.length = n ∧ off + n ≤ max cs.length off := by
  rw [takeN_eq, dropN_eq] at h
  split at h
  · rename_i hn
    cases h
    rw [List.length_drop] at hn
    refine ⟨rfl, by rw [List.length_take, List.length_drop]; omega, by omega⟩
  · cases h

theorem part_sound {t : TypeId} {cs cs' : List Value} {off : Nat} {v : Value} (h : apart P t cs off = some v) (hr : VRels μ cs cs') : ∃ v', (part t ⟨cs'⟩ off).run P w = .ok v' w ∧ VRel μ v v' := by
  unfold apart at h
  cases ha : Am.isAgg P t with
  | none => rw [ha] at h; cases h
  | some b =>
    rw [ha] at h
    cases b with
    | true =>
      simp only at h
      cases hs : Am.sizeOf P t with
      | none => rw [hs] at h; cases h
      | some n =>
        rw [hs] at h
        simp only at h
        cases hl : takeN n (dropN off cs) with
        | none => rw [hl] at h; cases h
        | some l =>
          rw [hl] at h
          cases h
          obtain ⟨h1, h2, h3⟩ := slab_some hl
          refine ⟨.agg ⟨(cs'.drop off).take n⟩, ?_, .agg (by rw [h1]; exact (hr.drop off).take n)⟩
          simp only [part, Sem.run_bind, runA ha, Result.andThen_ok, if_true, runS hs, Sem.run_pure]
          congr 2
          apply Array.ext'
          simp [List.extract_eq_take_drop]
    | false =>
      simp only at h
      rw [nth_eq] at h
      obtain ⟨v', h1, h2⟩ := hr.nth off v h
      refine ⟨v', ?_, h2⟩
      simp only [part, Sem.run_bind, runA ha, Result.andThen_ok, Bool.false_eq_true, if_false]
      simp [h1]

/-- The cells that stand behind a slab of a row. -/
theorem Match.slab {o : AObj} {p : Place} (m : Match μ o p w) {off n : Nat} {l : List Value} (hl : takeN n (dropN off o.cells) = some l) :
    ∃ l', VRels μ l l' ∧ l'.length = n ∧ ∀ (j : Nat) v, l'[j]? = some v → w.cell? ((⟨p.block, p.base + off, none⟩ : Addr).add j) = some v := by
  obtain ⟨h1, h2, _⟩ := slab_some hl
  have key : ∀ (l : List Value) (off : Nat), (∀ j v, l[j]? = some v → o.cells[off + j]? = some v) → ∃ l', VRels μ l l' ∧ ∀ (j : Nat) v, l'[j]? = some v → w.cell? ⟨p.block, p.base + (off + j), none⟩ = some v := by
    intro l
    induction l with
    | nil => exact fun off _ => ⟨[], .nil, by simp⟩
    | cons x l ih =>
      intro off hx
      obtain ⟨x', hx1, hx2⟩ := m.cells off x (by simpa using hx 0 x rfl)
      obtain ⟨l', h1, h2⟩ := ih (off + 1) (fun j v hj => by have := hx (j + 1) v (by simpa using hj); rwa [show off + (j + 1) = off + 1 + j by omega] at this)
      refine ⟨x' :: l', .cons hx2 h1, fun j v hj => ?_⟩
      cases j with
      | zero => simp at hj; subst hj; exact hx1
      | succ j => rw [show off + (j + 1) = off + 1 + j by omega]; exact h2 j v (by simpa using hj)
  obtain ⟨l', h3, h4⟩ := key l off (fun j v hj => by
    rw [h1, List.getElem?_take] at hj
    split at hj
    · rwa [List.getElem?_drop] at hj
    · cases hj)
  refine ⟨l', h3, by rw [h3.length, h2], fun j v hj => ?_⟩
  rw [Addr.add_lit, Nat.add_assoc]
  exact h4 j v hj

theorem load_sound {t : TypeId} {a : Addr} {p : Place} {v : Value} (r : Rel D μ h w) (d : D a.block) (m : μ a.block = some p) (hl : aload P h t a = some v) :
    a.spot = none ∧ ∃ v', (loadVar t ⟨p.block, p.base + a.off, none⟩).run P w = .ok v' w ∧ VRel μ v v' := by
  unfold aload at hl
  cases hs : a.spot with
  | some _ => rw [hs] at hl; cases hl
  | none =>
    refine ⟨rfl, ?_⟩
    rw [hs] at hl
    simp only at hl
    cases hg : h.get a.block with
    | none => rw [hg] at hl; cases hl
    | some o =>
      rw [hg] at hl
      simp only at hl
      have hm := r.cells _ o p d hg m
      unfold apart at hl
      cases ha : Am.isAgg P t with
      | none => rw [ha] at hl; cases hl
      | some b =>
        rw [ha] at hl
        cases b with
        | true =>
          simp only at hl
          cases hsz : Am.sizeOf P t with
          | none => rw [hsz] at hl; cases hl
          | some n =>
            rw [hsz] at hl
            simp only at hl
            cases hk : takeN n (dropN a.off o.cells) with
            | none => rw [hk] at hl; cases hl
            | some l =>
              rw [hk] at hl
              cases hl
              obtain ⟨l', h1, h2, h3⟩ := hm.slab hk
              refine ⟨.agg ⟨l'⟩, ?_, .agg h1⟩
              have := run_loadCells_list (P := P) (w := w) ⟨p.block, p.base + a.off, none⟩ l' h3
              rw [h2] at this
              simp [loadVar, runA ha, runS hsz, this]
        | false =>
          simp only at hl
          rw [nth_eq] at hl
          obtain ⟨v', h1, h2⟩ := hm.cells a.off v hl
          exact ⟨v', by simp [loadVar, runA ha, h1], h2⟩

theorem keep_setCell (w : World) (b o : Nat) (v : Value) : Keep (fun x off => x = b ∧ off = o) w (w.setCell ⟨b, o, none⟩ v) where
  os := rfl
  tape := rfl
  output := rfl
  size := by simp
  block := fun x hx hn => by
    by_cases e : x = b
    · exact absurd ⟨e, rfl⟩ (hn o)
    · exact Below.heap_setCell _ _ _ _ e
  cell := fun x off hx hn => World.cell?_setCell_other _ _ _ _ (by intro e; injection e with e1 e2; exact hn ⟨e1.symm, e2.symm⟩)
  frozen := fun x off hx => by simp
  some := fun x off hx hs => by
    by_cases e : (⟨b, o, none⟩ : Addr) = ⟨x, off, none⟩
    · obtain ⟨u, hu⟩ := Option.isSome_iff_exists.1 hs
      rw [← e] at hu ⊢
      rw [World.cell?_setCell_same _ _ _ hu]; rfl
    · rw [World.cell?_setCell_other _ _ _ _ e]; exact hs
theorem keep_setCells (b : Nat) : ∀ (vs : List Value) (o : Nat) (w : World), Keep (fun x off => x = b ∧ o ≤ off ∧ off < o + vs.length) w (w.setCells b o vs)
  | [], o, w => Keep.refl _ w
  | v :: r, o, w => by
    unfold World.setCells
    exact ((keep_setCell w b o v).mono (W' := fun x off => x = b ∧ o ≤ off ∧ off < o + (v :: r).length) (fun x off _ h => ⟨h.1, by omega, by simp; omega⟩)).trans (keep_setCells b r (o + 1) _) (fun x off _ h => ⟨h.1, by omega, by simp; omega⟩)

theorem cells_setCells (w : World) (b o : Nat) (vs : List Value) (hc : ∀ j, j < vs.length → (w.cell? ⟨b, o + j, none⟩).isSome = true) (j : Nat) (v : Value) (hj : vs[j]? = some v) : (w.setCells b o vs).cell? ⟨b, o + j, none⟩ = some v := by
  have hlt : j < vs.length := by
    rcases Nat.lt_or_ge j vs.length with h | h
    · exact h
    · rw [List.getElem?_eq_none h] at hj; cases hj
  rw [World.cell?_setCells_in b vs o w hc j hlt]
  rw [List.getElem?_eq_getElem hlt] at hj
  exact hj

/-- A row of one's own, written from a place on. -/
theorem storeL_sound {a : Addr} {p : Place} {vs vs' : List Value} {h' : Heap} (r : Rel D μ h w) (d : D a.block) (hWr : h'.low ≤ a.block → Wr a.block) (m : μ a.block = some p) (hs : astoreL h a vs = some h') (hv : VRels μ vs vs') :
    a.spot = none ∧ (∀ j, j < vs'.length → (w.cell? ⟨p.block, p.base + a.off + j, none⟩).isSome = true) ∧ (∀ j, j < vs'.length → w.frozen? ⟨p.block, p.base + a.off + j, none⟩ = false) ∧ (∀ v ∈ vs', v.oneCell' = true) ∧
    StepR D Wr μ h w μ h' (w.setCells p.block (p.base + a.off) vs') := by
  unfold astoreL at hs
  cases hsp : a.spot with
  | some _ => rw [hsp] at hs; cases hs
  | none =>
    rw [hsp] at hs
    simp only at hs
    cases hg : h.get a.block with
    | none => rw [hg] at hs; cases hs
    | some o =>
      rw [hg] at hs
      simp only at hs
      obtain ⟨ho, hs⟩ := condN hs
      obtain ⟨hall, hs⟩ := condN hs
      rw [splice_eq] at hs
      by_cases hb : a.off + vs.length ≤ o.cells.length
      · rw [if_pos hb] at hs
        simp only at hs
        cases hs
        have hm := r.cells _ o p d hg m
        have hlen := hv.length
        have hext := hm.ext ho
        have hc : ∀ j, j < vs'.length → (w.cell? ⟨p.block, p.base + a.off + j, none⟩).isSome = true ∧ w.frozen? ⟨p.block, p.base + a.off + j, none⟩ = false := fun j hj => by
          have := hm.own ho (a.off + j) (by omega)
          rwa [← Nat.add_assoc] at this
        refine ⟨rfl, fun j hj => (hc j hj).1, fun j hj => (hc j hj).2, hv.allCells hall, ?_⟩
        refine StepR.write r d (hWr (low_put _ _ _).2) hg ho m ((keep_setCells p.block vs' (p.base + a.off) w).mono (fun x off _ hx => ⟨hx.1, by omega, by rw [if_pos ho]; omega⟩)) ?_ ?_
        · intro j v hj
          rw [List.append_assoc, List.getElem?_append] at hj
          have htl : (o.cells.take a.off).length = a.off := by rw [List.length_take]; omega
          rw [htl] at hj
          by_cases h1 : j < a.off
          · rw [if_pos h1, List.getElem?_take, if_pos h1] at hj
            obtain ⟨v', h4, h5⟩ := hm.cells j v hj
            refine ⟨v', ?_, h5⟩
            rw [World.cell?_setCells_out _ _ _ _ _ (fun _ _ => .inl (by simp only; omega)), h4]
          · rw [if_neg h1, List.getElem?_append] at hj
            by_cases h2 : j - a.off < vs.length
            · rw [if_pos h2] at hj
              obtain ⟨v', h4, h5⟩ := hv.nth _ _ hj
              refine ⟨v', ?_, h5⟩
              have := cells_setCells w p.block (p.base + a.off) vs' (fun j hj => (hc j hj).1) (j - a.off) v' h4
              rwa [show p.base + a.off + (j - a.off) = p.base + j by omega] at this
            · rw [if_neg h2, List.getElem?_drop] at hj
              obtain ⟨v', h4, h5⟩ := hm.cells j v (by rwa [show a.off + vs.length + (j - a.off - vs.length) = j by omega] at hj)
              refine ⟨v', ?_, h5⟩
              rw [World.cell?_setCells_out _ _ _ _ _ (fun _ _ => .inr (by simp only; omega)), h4]
        · simp only [List.length_append, List.length_take, List.length_drop]; omega
      · rw [if_neg hb] at hs
        cases hs

theorem store_sound {t : TypeId} {a : Addr} {p : Place} {v v' : Value} {h' : Heap} (r : Rel D μ h w) (d : D a.block) (hWr : h'.low ≤ a.block → Wr a.block) (m : μ a.block = some p) (hs : astore P h t a v = some h') (hv : VRel μ v v') :
    ∃ w', (storeVar t ⟨p.block, p.base + a.off, none⟩ v').run P w = .ok () w' ∧ StepR D Wr μ h w μ h' w' := by
  unfold astore at hs
  cases hsz : Am.sizeOf P t with
  | none => rw [hsz] at hs; cases hs
  | some n =>
    rw [hsz] at hs
    simp only at hs
    obtain ⟨hn, hs⟩ := condN hs
    rw [lenIs_iff] at hn
    obtain ⟨h1, h2, h3, h4, h5⟩ := storeL_sound r d hWr m hs hv.cells
    refine ⟨_, ?_, h5⟩
    have hsize : v'.cells.size = n := by rw [← Array.length_toList, hv.cells.length, hn]
    have := run_storeCells_cells (P := P) p.block (p.base + a.off) v'.cells.toList 0 w (by simpa using h2) (by simpa using h3) h4
    simp only [Nat.add_zero] at this
    simp [storeVar, runS hsz, hsize, this]

/-- A new row. -/
theorem new_sound {cs : List Value} {C : Array Value} {E : TypeId} {w' : World} (r : Rel D μ h w) (hf : μ h.next = none) (hw : w'.heap = w.heap.push (.cells C E)) (h1 : w'.os = w.os) (h2 : w'.tape = w.tape) (h3 : w'.output = w.output)
    (hc : ∃ rest, C.toList = rest ++ [] ∧ VRels μ cs (rest.take cs.length) ) (Wr : Nat → Prop) :
    StepR D Wr μ h w (μ.set h.next ⟨w.heap.size, 0, C.size⟩) (h.push ⟨cs, true⟩) w' := by
  obtain ⟨rest, e, hr⟩ := hc
  have hl := hr.length
  rw [List.append_nil] at e
  rw [List.length_take] at hl
  have hsz : C.size = rest.length := by rw [← Array.length_toList, e]
  refine StepR.alloc r hf hw h1 h2 h3 (fun j v hj => ?_) (by omega) Wr
  obtain ⟨v', h4, h5⟩ := hr.nth j v hj
  rw [List.getElem?_take] at h4
  split at h4
  · exact ⟨v', by rw [← Array.getElem?_toList, e, h4], h5⟩
  · cases h4

theorem new_exact {cs cs' : List Value} {C : Array Value} {E : TypeId} {w' : World} (r : Rel D μ h w) (hf : μ h.next = none) (hw : w'.heap = w.heap.push (.cells C E)) (h1 : w'.os = w.os) (h2 : w'.tape = w.tape) (h3 : w'.output = w.output)
    (hc : C.toList = cs') (hr : VRels μ cs cs') (Wr : Nat → Prop) : StepR D Wr μ h w (μ.set h.next ⟨w.heap.size, 0, C.size⟩) (h.push ⟨cs, true⟩) w' :=
  new_sound r hf hw h1 h2 h3 ⟨cs', by simpa using hc, by rw [List.take_of_length_le (by rw [hr.length]; exact Nat.le_refl _)]; exact hr⟩ Wr

inductive PRels (μ : Mu) : List (Nat × Value) → List (Nat × Value) → Prop where
  | nil : PRels μ [] []
  | cons {i : Nat} {v v' : Value} {l l' : List (Nat × Value)} : VRel μ v v' → PRels μ l l' → PRels μ ((i, v) :: l) ((i, v') :: l')

theorem fill_sound {place : Nat → Option (Nat × Nat)} : ∀ (parts parts' : List (Nat × Value)) (cs r : List Value) (cs' : Array Value), VRels μ cs cs'.toList → PRels μ parts parts' → afill place cs parts = some r →
    ∃ r' : Array Value, Instr.fill place cs' parts' = some r' ∧ VRels μ r r'.toList := by
  have hfold : ∀ (vs : List Value) (cs : Array Value) (off k : Nat), off + k + vs.length ≤ cs.size → ((vs.zipIdx k).foldl (fun cs (c, j) => cs.setIfInBounds (off + j) c) cs).toList = cs.toList.take (off + k) ++ vs ++ cs.toList.drop (off + k + vs.length) := by
    intro vs
    induction vs with
    | nil => intro cs off k _; simp
    | cons v vs ih =>
      intro cs off k hk
      simp only [List.length_cons] at hk
      simp only [List.zipIdx_cons, List.foldl_cons]
      rw [ih _ _ _ (by simp; omega)]
      have hset : (cs.setIfInBounds (off + k) v).toList = cs.toList.take (off + k) ++ v :: cs.toList.drop (off + k + 1) := by
        rw [Array.toList_setIfInBounds, List.set_eq_take_append_cons_drop, if_pos (by simp; omega)]
      rw [hset]
      have htl : (cs.toList.take (off + k)).length = off + k := by simp; omega
      have hdl : List.drop (off + (k + 1) + vs.length) (List.take (off + k) cs.toList) = [] := List.drop_of_length_le (by omega)
      rw [List.take_append, List.drop_append, htl, hdl, List.take_of_length_le (l := List.take (off + k) cs.toList) (by omega)]
      rw [show off + (k + 1) - (off + k) = 1 by omega, show off + (k + 1) + vs.length - (off + k) = vs.length + 1 by omega]
      simp only [List.take_succ_cons, List.take_zero, List.drop_succ_cons, List.nil_append, List.drop_drop, List.length_cons, List.append_assoc, List.cons_append]
      rw [show off + k + 1 + vs.length = off + k + (vs.length + 1) by omega]
  intro parts
  induction parts with
  | nil =>
    intro parts' cs r cs' hc hp hr
    cases hp
    cases hr
    exact ⟨cs', rfl, hc⟩
  | cons x parts ih =>
    intro parts' cs r cs' hc hp hr
    cases hp with
    | cons hv hrest =>
      rename_i i v v' ps
      unfold afill at hr
      cases hpl : place i with
      | none => rw [hpl] at hr; cases hr
      | some q =>
        obtain ⟨off, size⟩ := q
        rw [hpl] at hr
        simp only at hr
        obtain ⟨h1, hr⟩ := condN hr
        rw [lenIs_iff] at h1
        rw [splice_eq] at hr
        have hlen := hv.cells.length
        have hcl := hc.length
        rw [Array.length_toList] at hlen hcl
        by_cases hb : off + (cellsOf v).length ≤ cs.length
        · rw [if_pos hb] at hr
          simp only at hr
          unfold Instr.fill
          rw [hpl]
          simp only
          rw [if_neg (by simp; omega)]
          refine ih _ _ _ _ ?_ hrest hr
          have := hfold v'.cells.toList cs' off 0 (by simp; omega)
          simp only [Nat.add_zero] at this
          rw [← Array.toList_zipIdx] at this
          rw [← Array.foldl_toList, this, hv.cells.length]
          exact ((hc.take off).append hv.cells).append (hc.drop _)
        · rw [if_neg hb] at hr
          cases hr

theorem infosOk_spec : ∀ (fs : List Field), infosOk P fs = true → ∀ f ∈ fs, ∃ i, P.info? f.type = some i
  | [], _, f, hf => by simp at hf
  | g :: fs, h, f, hf => by
    unfold infosOk at h
    cases hi : P.info? g.type with
    | none => rw [hi] at h; cases h
    | some i =>
      rw [hi] at h
      rcases List.mem_cons.1 hf with rfl | hf
      · exact ⟨i, hi⟩
      · exact infosOk_spec fs h f hf
theorem run_places : ∀ (fs : List Field), infosOk P fs = true → (fs.mapM (fun (f : Field) => do pure (f.offset, ← Go.sizeOf f.type) : Field → Sem (Nat × Nat))).run P w = .ok (fs.map fun f => (f.offset, P.cellsOf f.type)) w
  | [], _ => by simp
  | g :: fs, h => by
    unfold infosOk at h
    cases hi : P.info? g.type with
    | none => rw [hi] at h; cases h
    | some i =>
      rw [hi] at h
      have hg : (Go.sizeOf g.type).run P w = .ok (P.cellsOf g.type) w := by simp [Go.sizeOf, runI hi, Program.cellsOf, hi]
      have ih := run_places fs h
      simp only [List.mapM_cons, Sem.run_bind, hg, Result.andThen_ok, Sem.run_pure, ih, List.map_cons]

theorem build_sound {t : TypeId} {parts parts' : List (Nat × Value)} {v : Value} (hb : abuild P t parts = some v) (hp : PRels μ parts parts') :
    ∃ v', (Instr.build t ⟨parts'⟩).run P w = .ok v' w ∧ VRel μ v v' := by
  unfold abuild at hb
  cases hz : zeroOf P t with
  | none => rw [hz] at hb; cases hb
  | some z =>
    rw [hz] at hb
    simp only at hb
    have hzr := (zeroOf_rel μ hz).cells
    split at hb
    · rename_i fs hu
      obtain ⟨hi, hb⟩ := condN hb
      split at hb
      · rename_i cs hf
        cases hb
        have hpl : placeOf P fs.toList = (fun (i : Nat) => ((fs.toList.map fun f => (f.offset, P.cellsOf f.type)).toArray)[i]?) := by
          funext i
          unfold placeOf
          simp only [List.getElem?_toArray, List.getElem?_map]
          cases fs.toList[i]? <;> rfl
        rw [hpl] at hf
        obtain ⟨r', h1, h2⟩ := fill_sound _ _ _ _ z.cells hzr hp hf
        refine ⟨.agg r', ?_, .agg h2⟩
        have hm := run_places (w := w) fs.toList hi
        have hm' : (fs.mapM (fun (f : Field) => do pure (f.offset, ← Go.sizeOf f.type) : Field → Sem (Nat × Nat))).run P w = .ok (fs.toList.map fun f => (f.offset, P.cellsOf f.type)).toArray w := by
          rw [Array.mapM_eq_mapM_toList, Sem.run_map, hm]; rfl
        simp only [Instr.build, Sem.run_bind, runZ hz, runU hu, Result.andThen_ok, hm']
        rw [h1]
        rfl
      · cases hb
    · rename_i n e hu
      split at hb
      · rename_i s hs
        split at hb
        · rename_i cs hf
          cases hb
          obtain ⟨r', h1, h2⟩ := fill_sound _ _ _ _ z.cells hzr hp hf
          refine ⟨.agg r', ?_, .agg h2⟩
          simp only [Instr.build, Sem.run_bind, runZ hz, runU hu, Result.andThen_ok, runS hs]
          have h1' : Instr.fill (fun i => some (i * s, s)) z.cells parts' = some r' := h1
          rw [h1']
          rfl
        · cases hb
      · cases hb
    · cases hb

theorem reps_madeCells (z : List Value) : ∀ (n : Nat), (madeCells ⟨z⟩ (n * z.length)).toList = reps z n
  | 0 => by simp [madeCells, reps]
  | n + 1 => by
    have ih := reps_madeCells z n
    have hlen : (reps z n).length = n * z.length := by rw [← ih]; simp [madeCells]
    apply List.ext_getElem?
    intro i
    have hL : ((madeCells ⟨z⟩ ((n + 1) * z.length)).toList)[i]? = if i < (n + 1) * z.length then some ((⟨z⟩ : Array Value)[i % z.length]!) else none := by
      simp only [madeCells, Array.toList_map, Array.toList_range, List.getElem?_map, List.size_toArray]
      by_cases h : i < (n + 1) * z.length
      · rw [if_pos h, List.getElem?_range h]; rfl
      · rw [if_neg h, List.getElem?_eq_none (by simp; omega)]; rfl
    have hR : ∀ i, (reps z n)[i]? = if i < n * z.length then some ((⟨z⟩ : Array Value)[i % z.length]!) else none := by
      intro i
      rw [← ih]
      simp only [madeCells, Array.toList_map, Array.toList_range, List.getElem?_map, List.size_toArray]
      by_cases h : i < n * z.length
      · rw [if_pos h, List.getElem?_range h]; rfl
      · rw [if_neg h, List.getElem?_eq_none (by simp; omega)]; rfl
    rw [hL]
    unfold reps
    rw [List.getElem?_append]
    have hmul : (n + 1) * z.length = n * z.length + z.length := by rw [Nat.add_mul, Nat.one_mul]
    by_cases h1 : i < z.length
    · rw [if_pos h1, if_pos (by omega), List.getElem?_eq_getElem h1, Nat.mod_eq_of_lt h1]
      simp [h1]
    · rw [if_neg h1, hR]
      by_cases h2 : i < (n + 1) * z.length
      · rw [if_pos h2, if_pos (by omega)]
        rw [show i % z.length = (i - z.length) % z.length from by
          rw [Nat.mod_eq_sub_mod (by omega)]]
      · rw [if_neg h2, if_neg (by omega)]

end
end Go.Am
