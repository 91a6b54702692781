/- What a block may be after a crash: plain laws; rows of slices that others own. -/
import Derived.Test.YtijfghknjkegpaaDevP
namespace Go.Proofs.Ytijfghknjkegpaa.PDevExact
open Go.RowKit Go.Proofs.YtijfghknjkegpaaW.PrintWords Go.Proofs.YtijfghknjkegpaaW.PrintLast Go.Proofs.YtijfghknjkegpaaW.PrintMore
set_option linter.unusedVariables false
set_option linter.unusedSimpArgs false
theorem crashOf_ok {img : List Int} {l : List S58} {keep : List Bool} {t : Nat} (h : stepsOf img l = 0) (ht : t ≤ l.length) : crashOf img l keep (t : Int) = ((crashTo img l keep (lastTo l t) t).1, 0) := by
  unfold crashOf; rw [if_neg (fun g => g h), if_neg (by omega), Int.toNat_natCast]
theorem kind_of {img : List Int} {l : List S58} (h : stepsOf img l = 0) : ∀ x ∈ l, x.f0 = 1 ∨ x.f0 = 2 := by
  intro x hx
  have := (steps_iff.1 h).2.2 x hx
  unfold rightIo at this
  by_cases c : x.f0 = 1
  · exact .inl c
  · rw [if_neg c] at this
    by_cases c2 : x.f0 = 2
    · exact .inr c2
    · rw [if_neg c2] at this; cases this
theorem flush_le (l : List S58) (k : Nat) (h2 : (rd_T58 l (k : Int)).f0 = 2) : ∀ cut, k < cut → (k : Int) ≤ lastTo l cut := by
  intro cut; induction cut with
  | zero => intro h; omega
  | succ n ih =>
    intro h
    unfold lastTo
    by_cases c : (rd_T58 l (n : Int)).f0 = 2
    · rw [if_pos c]; omega
    · rw [if_neg c]
      have : k ≠ n := by rintro rfl; exact c h2
      exact ih (by omega)
def blkStep (q : Nat) (st : List Int × List (List Int)) (x : S58) : List Int × List (List Int) :=
  if x.f0 = 2 then (if 0 < st.2.length then (st.2.getD (st.2.length - 1) [], []) else st) else if x.f1 = q then (st.1, st.2 ++ [x.f2]) else st
def blkTo (img : List Int) (l : List S58) (q : Nat) : Nat → List Int × List (List Int)
  | 0 => (blockAt img q, [])
  | k + 1 => blkStep q (blkTo img l q k) (rd_T58 l (k : Int))
def lastD (st : List Int × List (List Int)) : List Int := if 0 < st.2.length then st.2.getD (st.2.length - 1) [] else st.1
theorem blk_law {img : List Int} {l : List S58} (hs : stepsOf img l = 0) (keep : List Bool) (q cut : Nat) (hcut : cut ≤ l.length) : ∀ k, k ≤ cut →
    (crashTo img l keep (lastTo l cut) k).1.length = img.length ∧ ((k : Int) ≤ lastTo l cut → blockAt (crashTo img l keep (lastTo l cut) k).1 q = lastD (blkTo img l q k)) ∧
    (lastTo l cut < k → blockAt (crashTo img l keep (lastTo l cut) k).1 q = (blkTo img l q k).1 ∨ blockAt (crashTo img l keep (lastTo l cut) k).1 q ∈ (blkTo img l q k).2) := by
  obtain ⟨_, _, hfit⟩ := fits_of hs
  intro k; induction k with
  | zero =>
    intro _
    refine ⟨rfl, fun _ => ?_, fun _ => .inl rfl⟩
    simp [crashTo, blkTo, lastD]
  | succ k ih =>
    intro hk
    obtain ⟨i0, i1, i2⟩ := ih (by omega)
    have hkl : k < l.length := by omega
    have hf : Fits img.length (rd_T58 l (k : Int)) := by rw [rdT_eq hkl]; exact hfit l[k] (List.getElem_mem hkl)
    have hkind : (rd_T58 l (k : Int)).f0 = 1 ∨ (rd_T58 l (k : Int)).f0 = 2 := by rw [rdT_eq hkl]; exact kind_of hs l[k] (List.getElem_mem hkl)
    have hfl := fun h => flush_le l k h cut (by omega)
    have hne := last_ne l cut k
    rw [crashTo, blkTo]
    generalize crashTo img l keep (lastTo l cut) k = ct at *
    generalize blkTo img l q k = st at *
    generalize rd_T58 l (k : Int) = x at *
    obtain ⟨out, n⟩ := ct
    obtain ⟨s, m⟩ := st
    generalize lastTo l cut = safe at *
    simp only [] at i0 i1 i2
    refine ⟨by rw [crashStep_len (by rw [show (out, n).1 = out from rfl, i0]; exact hf)]; exact i0, ?_⟩
    by_cases c : x.f0 = 2
    · have hle : (k : Int) ≤ safe := by
        have : k < cut := by omega
        rcases hkind with h | h
        · omega
        · exact hfl c
      have e1 : crashStep keep safe k (out, n) x = (out, n) := by unfold crashStep; rw [if_neg (by omega)]
      rw [e1]
      have hb := i1 hle
      have e2 : (blkStep q (s, m) x).1 = lastD (s, m) ∧ (blkStep q (s, m) x).2 = [] := by
        unfold blkStep lastD; rw [if_pos c]
        by_cases cm : 0 < m.length
        · rw [if_pos cm, if_pos cm]; exact ⟨rfl, rfl⟩
        · rw [if_neg cm, if_neg cm]; exact ⟨rfl, List.eq_nil_of_length_eq_zero (by simp only at cm ⊢; omega)⟩
      refine ⟨fun _ => ?_, fun _ => .inl ?_⟩
      · rw [hb, show lastD (blkStep q (s, m) x) = (blkStep q (s, m) x).1 by unfold lastD; rw [e2.2]; rfl, e2.1]
      · rw [e2.1]; exact hb
    · have c1 : x.f0 = 1 := by omega
      have hnek := hne c1
      have h0 := hf.at0 c1
      have hap : blockAt (applyIo out x) q = if x.f1 = q then x.f2 else blockAt out q := by
        unfold applyIo
        rw [if_pos c1, blockAt_put (hf.len c1) (by rw [i0]; exact hf.at1 c1)]
        by_cases cq : x.f1 = q
        · rw [if_pos cq, if_pos (by omega)]
        · rw [if_neg cq, if_neg (by omega)]
      have e2 : blkStep q (s, m) x = if x.f1 = q then (s, m ++ [x.f2]) else (s, m) := by unfold blkStep; rw [if_neg c]
      rw [e2]
      refine ⟨fun hle => ?_, fun hlt => ?_⟩
      · have hb := i1 (by omega)
        unfold crashStep
        rw [if_pos c1, if_pos (by omega)]
        simp only []
        rw [hap]
        by_cases cq : x.f1 = q
        · rw [if_pos cq, if_pos cq]; unfold lastD; simp
        · rw [if_neg cq, if_neg cq]; exact hb
      · have hb := i2 (by omega)
        unfold crashStep
        rw [if_pos c1, if_neg (by omega)]
        simp only []
        by_cases ck : rdOf false keep (n : Int) = true
        · rw [if_pos ck, hap]
          by_cases cq : x.f1 = q
          · rw [if_pos cq, if_pos cq]; exact .inr (by simp)
          · rw [if_neg cq, if_neg cq]; exact hb
        · rw [if_neg ck]
          by_cases cq : x.f1 = q
          · rw [if_pos cq]
            rcases hb with h | h
            · exact .inl h
            · exact .inr (List.mem_append_left _ h)
          · rw [if_neg cq]; exact hb
theorem blk_end {img : List Int} {l : List S58} (hs : stepsOf img l = 0) (keep : List Bool) (q cut : Nat) (hcut : cut ≤ l.length) :
    blockAt (crashTo img l keep (lastTo l cut) cut).1 q = (blkTo img l q cut).1 ∨ blockAt (crashTo img l keep (lastTo l cut) cut).1 q ∈ (blkTo img l q cut).2 := by
  obtain ⟨_, h1, h2⟩ := blk_law hs keep q cut hcut cut (Nat.le_refl _)
  by_cases c : lastTo l cut < cut
  · exact h2 c
  · rcases flTo_last l cut with ⟨_, h⟩ | ⟨_, _, _, h, _⟩
    · omega
    · omega
/-- Every block there is one: 64 bytes. -/
theorem blk_len {img : List Int} {l : List S58} (hs : stepsOf img l = 0) (q : Nat) (hq : q * 64 + 64 ≤ img.length) : ∀ k, k ≤ l.length → (blkTo img l q k).1.length = 64 ∧ (∀ j (h : j < (blkTo img l q k).2.length), ((blkTo img l q k).2[j]).length = 64) ∧ (blkTo img l q k).2.length ≤ k := by
  obtain ⟨_, _, hfit⟩ := fits_of hs
  intro k; induction k with
  | zero => intro _; refine ⟨by show (blockAt img q).length = 64; unfold blockAt; rw [List.length_take, List.length_drop]; omega, fun j h => absurd h (Nat.not_lt_zero _), Nat.le_refl _⟩
  | succ k ih =>
    intro hk
    obtain ⟨h1, h2, h3⟩ := ih (by omega)
    have hkl : k < l.length := by omega
    have hf : Fits img.length (rd_T58 l (k : Int)) := by rw [rdT_eq hkl]; exact hfit l[k] (List.getElem_mem hkl)
    have hkind : (rd_T58 l (k : Int)).f0 = 1 ∨ (rd_T58 l (k : Int)).f0 = 2 := by rw [rdT_eq hkl]; exact kind_of hs l[k] (List.getElem_mem hkl)
    rw [blkTo]
    generalize blkTo img l q k = st at *
    generalize rd_T58 l (k : Int) = x at *
    obtain ⟨s, m⟩ := st
    simp only [] at h1 h2 h3
    by_cases c : x.f0 = 2
    · by_cases cm : 0 < m.length
      · rw [show blkStep q (s, m) x = (m.getD (m.length - 1) [], []) by unfold blkStep; rw [if_pos c, if_pos cm]]
        refine ⟨?_, fun j h => absurd h (Nat.not_lt_zero _), by simp⟩
        rw [show (m.getD (m.length - 1) [], ([] : List (List Int))).1 = m.getD (m.length - 1) [] from rfl, List.getD_eq_getElem?_getD, List.getElem?_eq_getElem (by omega)]
        exact h2 _ (by omega)
      · rw [show blkStep q (s, m) x = (s, m) by unfold blkStep; rw [if_pos c, if_neg cm]]
        exact ⟨h1, h2, by simp only; omega⟩
    · by_cases cq : x.f1 = q
      · rw [show blkStep q (s, m) x = (s, m ++ [x.f2]) by unfold blkStep; rw [if_neg c, if_pos cq]]
        refine ⟨h1, fun j h => ?_, by simp; omega⟩
        simp only [List.length_append, List.length_singleton] at h
        by_cases cj : j < m.length
        · simp only [List.getElem_append_left cj]; exact h2 j cj
        · obtain rfl : j = m.length := by omega
          simp only [List.getElem_append_right (Nat.le_refl _), Nat.sub_self, List.getElem_singleton]
          exact hf.len (by omega)
      · rw [show blkStep q (s, m) x = (s, m) by unfold blkStep; rw [if_neg c, if_neg cq]]
        exact ⟨h1, h2, by simp only; omega⟩
/-- A row of slices of 64 bytes that others own: the elements are told by where they lie. -/
def sl (x : Option Addr × Nat) : Value := .slice x.1 64 x.2
def SL : Kd (Option Addr × Nat) := Kd.scalar sl (fun _ => rfl)
/-- What such a row's slices read as. -/
def SlOk (w : World) (ms : List (Option Addr × Nat)) (m : List (List Int)) : Prop := ms.length = m.length ∧ ∀ j (h : j < ms.length) (h2 : j < m.length), Kd.C (Kd.int .u8) w ms[j].1 64 m[j] ∧ 64 ≤ ms[j].2
theorem SlOk.below {w w' : World} {ms : List (Option Addr × Nat)} {m : List (List Int)} (h : SlOk w ms m) (hb : Below w.heap.size w w') : SlOk w' ms m := ⟨h.1, fun j h1 h2 => ⟨Kd.C_below (h.2 j h1 h2).1 hb, (h.2 j h1 h2).2⟩⟩
theorem SlOk.nil (w : World) : SlOk w [] [] := ⟨rfl, fun j h => absurd h (Nat.not_lt_zero _)⟩
theorem SlOk.snoc {w : World} {ms : List (Option Addr × Nat)} {m : List (List Int)} (h : SlOk w ms m) {A : Option Addr} {c : Nat} {x : List Int} (hC : Kd.C (Kd.int .u8) w A 64 x) (hc : 64 ≤ c) : SlOk w (ms ++ [(A, c)]) (m ++ [x]) := by
  refine ⟨by simp [h.1], fun j h1 h2 => ?_⟩
  simp only [List.length_append, List.length_singleton] at h1 h2
  by_cases cj : j < m.length
  · simp only [List.getElem_append_left cj, List.getElem_append_left (show j < ms.length by rw [h.1]; exact cj)]
    exact h.2 j (by rw [h.1]; exact cj) cj
  · obtain rfl : j = m.length := by omega
    have e : ms.length = m.length := h.1
    simp only [List.getElem_append_right (Nat.le_refl m.length), Nat.sub_self, List.getElem_singleton, List.getElem_append_right (show ms.length ≤ m.length by omega), e]
    exact ⟨hC, hc⟩
theorem infoSL : (Try.prog.info? 44).map (fun i => (i.zero, i.size, i.bytes)) = some (some (.slice none 0 0), 1, 24) := by kernel_rfl
end Go.Proofs.Ytijfghknjkegpaa.PDevExact
