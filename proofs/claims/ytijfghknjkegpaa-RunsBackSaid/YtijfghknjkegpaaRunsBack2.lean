/- Runs' sectors are those that they were made of; each run is of most sectors at most; two side by side are so only where the first one is full (the plain law). -/
import Derived.Test.YtijfghknjkegpaaRunsBack1
namespace Go.Proofs.Ytijfghknjkegpaa.PRunsBack
open Go.RowKit Go.Proofs.YtijfghknjkegpaaW.PrintWords Go.Proofs.YtijfghknjkegpaaW.PrintLast
theorem urem (a : Int) (m : Int) (hm : 0 < m) (h2 : m ≤ 1000) : 0 ≤ wrap64 (Int.tmod (IntKind.u64.wrap a) m) ∧ wrap64 (Int.tmod (IntKind.u64.wrap a) m) < m := by
  have h0 : 0 ≤ IntKind.u64.wrap a := by
    have e : IntKind.u64.wrap a = a % 18446744073709551616 := by unfold IntKind.wrap; simp [IntKind.signed, IntKind.bits]
    omega
  rw [Int.tmod_eq_emod_of_nonneg h0]
  have h1 := Int.emod_nonneg (IntKind.u64.wrap a) (show m ≠ 0 by omega)
  have h3 := Int.emod_lt_of_pos (IntKind.u64.wrap a) hm
  rw [w64 (by omega) (by omega)]
  exact ⟨h1, h3⟩
def Adj (most : Int) (out : List S40) : Prop := ∀ (i : Nat) r q, out[i]? = some r → out[i + 1]? = some q → r.f0 + r.f1 ≤ q.f0 ∧ (q.f0 = r.f0 + r.f1 → most ≤ r.f1)
def Cnt (most : Int) (out : List S40) : Prop := ∀ r ∈ out, 1 ≤ r.f1 ∧ r.f1 ≤ most
theorem adj_snoc {most : Int} {o : List S40} {x : S40} (h : Adj most o) (hx : ∀ r, o.getLast? = some r → r.f0 + r.f1 ≤ x.f0 ∧ (x.f0 = r.f0 + r.f1 → most ≤ r.f1)) : Adj most (o ++ [x]) := by
  intro i r q hr hq
  by_cases c : i + 1 < o.length
  · rw [List.getElem?_append_left (by omega)] at hr hq
    exact h i r q hr hq
  · have hi : i + 1 = o.length := by
      have := (List.getElem?_eq_some_iff.1 hq).1
      simp at this; omega
    rw [List.getElem?_append_left (by omega)] at hr
    rw [List.getElem?_append_right (by omega), hi] at hq
    simp at hq
    subst hq
    refine hx r ?_
    rw [List.getLast?_eq_getElem?, ← hi]
    simpa using hr
theorem adj_left {most : Int} {o : List S40} {x : S40} (h : Adj most (o ++ [x])) : Adj most o ∧ ∀ r, o.getLast? = some r → r.f0 + r.f1 ≤ x.f0 ∧ (x.f0 = r.f0 + r.f1 → most ≤ r.f1) := by
  constructor
  · intro i r q hr hq
    have h1 := (List.getElem?_eq_some_iff.1 hr).1
    have h2 := (List.getElem?_eq_some_iff.1 hq).1
    exact h i r q (by rw [List.getElem?_append_left h1]; exact hr) (by rw [List.getElem?_append_left h2]; exact hq)
  · intro r hr
    have hne : 0 < o.length := by
      cases o with
      | nil => simp at hr
      | cons a t => simp
    refine h (o.length - 1) r x ?_ ?_
    · rw [List.getElem?_append_left (by omega), ← List.getLast?_eq_getElem?]; exact hr
    · rw [List.getElem?_append_right (by omega)]
      rw [show o.length - 1 + 1 - o.length = 0 by omega]; rfl
def endOf (en : Int) (a : List S40) : Int := match a.getLast? with | some r => r.f0 + r.f1 | none => en
theorem endOf_cons (en : Int) (r : S40) (t : List S40) : endOf en (r :: t) = endOf (r.f0 + r.f1) t := by
  unfold endOf
  cases t with
  | nil => rfl
  | cons b t => rw [List.getLast?_cons_cons]; cases h : (b :: t).getLast? with | none => simp at h | some z => rfl
theorem listGo_snoc (x : S40) : ∀ (a : List S40) (en : Int), listGo en (a ++ [x]) = (listGo en a).bind fun la => if x.f1 < 1 ∨ x.f0 < endOf en a ∨ 512 < x.f0 + x.f1 then none else some (la ++ span x.f0 x.f1.toNat) := by
  intro a
  induction a with
  | nil =>
    intro en
    rw [List.nil_append, show endOf en [] = en from rfl]
    simp only [listGo, Option.bind_some]
    split <;> simp
  | cons r t ih =>
    intro en
    rw [List.cons_append, listGo, listGo]
    by_cases c : r.f1 < 1 ∨ r.f0 < en ∨ 512 < r.f0 + r.f1
    · rw [if_pos c, if_pos c]; rfl
    · rw [if_neg c, if_neg c, ih, endOf_cons]
      cases h : listGo (r.f0 + r.f1) t with
      | none => rfl
      | some l =>
        simp only [Option.bind_some, Option.map_some]
        split <;> simp
theorem span_last (a : Int) (n : Nat) : span a (n + 1) = span a n ++ [a + n] := by
  induction n generalizing a with
  | zero => simp [span]
  | succ n ih => rw [span, ih]; simp [span]; omega
def Rise : Option Int → List Int → Prop
  | _, [] => True
  | p, s :: t => ¬ badS p s ∧ Rise (some s) t
structure St (most : Int) (prev : Option Int) (out : List S40) (dn : List Int) : Prop where
  lst : listGo 0 out = some dn
  adj : Adj most out
  cnt : Cnt most out
  inv : InvR out
  lastp : ∀ r, out.getLast? = some r → prev = some (r.f0 + r.f1 - 1)
theorem st_step {most : Int} {prev : Option Int} {out : List S40} {dn : List Int} {s : Int} (hm : 1 ≤ most) (h : St most prev out dn) (hb : ¬ badS prev s) : St most (some s) (stepR most out s) (dn ++ [s]) := by
  have h0 : 0 ≤ s := by unfold badS at hb; omega
  have h1 : s < 512 := by unfold badS at hb; omega
  have snoc : (∀ r, out.getLast? = some r → r.f0 + r.f1 = s → most ≤ r.f1) → St most (some s) (out ++ [⟨s, 1⟩]) (dn ++ [s]) := by
    intro hfull
    have hend : endOf 0 out ≤ s ∧ ∀ r, out.getLast? = some r → r.f0 + r.f1 ≤ s := by
      unfold endOf
      cases hg : out.getLast? with
      | none => exact ⟨h0, fun r hr => by cases hr⟩
      | some r =>
        have hp := h.lastp r hg
        have : r.f0 + r.f1 ≤ s := by
          have hb2 : ¬ s ≤ r.f0 + r.f1 - 1 := fun hle => hb (.inr (.inr ⟨_, hp, hle⟩))
          omega
        exact ⟨this, fun r' hr' => by injection hr' with e; subst e; exact this⟩
    refine ⟨?_, adj_snoc h.adj (fun r hr => ⟨hend.2 r hr, fun e => hfull r hr e.symm⟩), ?_, ?_, ?_⟩
    · rw [listGo_snoc, h.lst]
      simp only [Option.bind_some]
      rw [if_neg (by have := hend.1; omega)]
      rfl
    · intro r hr; simp only [List.mem_append, List.mem_singleton] at hr; rcases hr with hr | rfl; exact h.cnt r hr; exact ⟨Int.le_refl 1, hm⟩
    · intro r hr; simp only [List.mem_append, List.mem_singleton] at hr; rcases hr with hr | rfl; exact h.inv r hr; exact ⟨h0, Int.le_refl 1, by show s + 1 ≤ 512; omega⟩
    · intro r hr; simp at hr; subst hr; congr 1; show s = s + 1 - 1; omega
  unfold stepR
  cases hg : out.getLast? with
  | none => exact snoc (fun r hr => by rw [hg] at hr; cases hr)
  | some r =>
    simp only
    by_cases c : r.f0 + r.f1 = s ∧ r.f1 < most
    · rw [if_pos c]
      obtain ⟨o, ho⟩ : ∃ o, out = o ++ [r] := ⟨out.dropLast, by
        have hne : out ≠ [] := by rintro rfl; simp at hg
        rw [List.getLast?_eq_some_getLast hne] at hg
        injection hg with hg
        rw [← hg, List.dropLast_concat_getLast]⟩
      subst ho
      rw [List.dropLast_concat]
      have hl := h.lst
      rw [listGo_snoc] at hl
      cases hl0 : listGo 0 o with
      | none => rw [hl0] at hl; cases hl
      | some d0 =>
        rw [hl0] at hl
        simp only [Option.bind_some] at hl
        have hr := h.inv r (by simp)
        have hcr := h.cnt r (by simp)
        by_cases cc : r.f1 < 1 ∨ r.f0 < endOf 0 o ∨ 512 < r.f0 + r.f1
        · rw [if_pos cc] at hl; cases hl
        · rw [if_neg cc] at hl
          injection hl with hl
          obtain ⟨ha, hx⟩ := adj_left h.adj
          refine ⟨?_, adj_snoc ha (fun q hq => hx q hq), ?_, ?_, ?_⟩
          · rw [listGo_snoc, hl0]
            simp only [Option.bind_some]
            rw [if_neg (by omega), ← hl, show (r.f1 + 1).toNat = r.f1.toNat + 1 by omega, span_last, show r.f0 + (r.f1.toNat : Int) = s by omega, List.append_assoc]
          · intro q hq; simp only [List.mem_append, List.mem_singleton] at hq; rcases hq with hq | rfl
            · exact h.cnt q (by simp [hq])
            · exact ⟨by show 1 ≤ r.f1 + 1; omega, by show r.f1 + 1 ≤ most; omega⟩
          · intro q hq; simp only [List.mem_append, List.mem_singleton] at hq; rcases hq with hq | rfl
            · exact h.inv q (by simp [hq])
            · exact ⟨hr.1, by show 1 ≤ r.f1 + 1; omega, by show r.f0 + (r.f1 + 1) ≤ 512; omega⟩
          · intro q hq; simp at hq; subst hq; congr 1; show s = r.f0 + (r.f1 + 1) - 1; omega
    · rw [if_neg c]
      exact snoc (fun r' hr' e => by rw [hg] at hr'; injection hr' with e2; subst e2; omega)
theorem go_back (most : Int) (hm : 1 ≤ most) : ∀ (s : List Int) (prev : Option Int) (out : List S40) (dn : List Int), Rise prev s → St most prev out dn → ∃ o p, ofGo most prev out s = some o ∧ St most p o (dn ++ s) ∧ o.length ≤ out.length + s.length := by
  intro s
  induction s with
  | nil => intro prev out dn _ h; exact ⟨out, prev, rfl, by simpa using h, by simp⟩
  | cons x t ih =>
    intro prev out dn hr h
    obtain ⟨o, p, h1, h2, h3⟩ := ih (some x) (stepR most out x) (dn ++ [x]) hr.2 (st_step hm h hr.1)
    refine ⟨o, p, by rw [ofGo, if_neg hr.1]; exact h1, by simpa using h2, ?_⟩
    have := stepR_len most out x
    simp only [List.length_cons]; omega
theorem rise_snoc : ∀ (l : List Int) (p : Option Int) (x : Int), Rise p l → (0 ≤ x ∧ x < 512) → (∀ y, p = some y → y < x) → (∀ y ∈ l, y < x) → Rise p (l ++ [x]) := by
  intro l
  induction l with
  | nil =>
    intro p x _ hx hp _
    refine ⟨?_, trivial⟩
    rintro (h | h | ⟨y, hy, h⟩)
    · omega
    · omega
    · have := hp y hy; omega
  | cons a t ih =>
    intro p x hr hx _ hl
    exact ⟨hr.1, ih (some a) x hr.2 hx (fun y hy => by injection hy with hy; subst hy; exact hl a (by simp)) (fun y hy => hl y (by simp [hy]))⟩
theorem back_l1 (l : List Int) (x1 x6 : Int) (hl : l.length ≤ 600) (x5 : List Int) (h5 : x5.length ≤ 512) (h6 : 0 ≤ x6 ∧ x6 < 512) : ∀ (d i k : Nat), l.length - i = d → i ≤ l.length → 
    ∃ x5' k', (x5' = x5 ∨ x5' = x5 ++ [x6]) ∧ k ≤ k' ∧ woodcutlaw21_RunsBack.l1 (k + d + 1) l x1 x5 x6 (i : Int) = woodcutlaw21_RunsBack.l0 k' l x1 x5' (x6 + 1) := by
  intro d
  induction d with
  | zero =>
    intro i k hd hi
    refine ⟨x5, k, .inl rfl, Nat.le_refl _, ?_⟩
    rw [woodcutlaw21_RunsBack.l1, if_neg (by omega), w64 (by omega) (by omega)]
  | succ d ih =>
    intro i k hd hi
    rw [show k + (d + 1) + 1 = (k + d + 1) + 1 by omega, woodcutlaw21_RunsBack.l1, if_pos (by omega), if_pos (by omega)]
    by_cases c : wrap64 (Int.tmod (IntKind.u64.wrap (rd l i)) 512) = x6
    · rw [if_pos c, if_pos (by omega), w64 (x := x6 + 1) (by omega) (by omega)]
      exact ⟨x5 ++ [x6], k + d + 1, .inr rfl, by omega, rfl⟩
    · rw [if_neg c, w64 (x := (i : Int) + 1) (by omega) (by omega)]
      exact ih (i + 1) k (by omega) (by omega)
theorem back_l0 (l : List Int) (x1 : Int) (hl : l.length ≤ 600) (K : Nat) : ∀ (d : Nat) (x5 : List Int) (x6 : Int) (k : Nat), x6 + d = 512 → 0 ≤ x6 → Rise none x5 → (∀ y ∈ x5, y < x6) → (x5.length : Int) ≤ x6 → K + 700 * d ≤ k →
    ∃ s k', Rise none s ∧ s.length ≤ 512 ∧ K ≤ k' ∧ woodcutlaw21_RunsBack.l0 k l x1 x5 x6 = woodcutlaw21_RunsBack.l0 k' l x1 s 512 := by
  intro d
  induction d with
  | zero => intro x5 x6 k hd h0 hr hy hx hk; exact ⟨x5, k, hr, by omega, by omega, by rw [show x6 = 512 by omega]⟩
  | succ d ih =>
    intro x5 x6 k hd h0 hr hy hx hk
    obtain ⟨k, rfl⟩ : ∃ m, k = (m + l.length + 1) + 1 := ⟨k - l.length - 2, by omega⟩
    rw [woodcutlaw21_RunsBack.l0, if_pos (by omega)]
    obtain ⟨x5', k', h5', hk', e⟩ := back_l1 l x1 x6 hl x5 (by omega) (by omega) l.length 0 k (by omega) (by omega)
    have e' : woodcutlaw21_RunsBack.l1 (k + l.length + 1) l x1 x5 x6 0 = woodcutlaw21_RunsBack.l0 k' l x1 x5' (x6 + 1) := e
    rw [e']
    refine ih x5' (x6 + 1) k' (by omega) (by omega) ?_ ?_ ?_ (by omega)
    · rcases h5' with rfl | rfl
      · exact hr
      · exact rise_snoc x5 none x6 hr (by omega) (fun y hy => by cases hy) hy
    · intro y hy'
      rcases h5' with rfl | rfl
      · have := hy y hy'; omega
      · simp only [List.mem_append, List.mem_singleton] at hy'
        rcases hy' with hy' | rfl
        · have := hy y hy'; omega
        · omega
    · rcases h5' with rfl | rfl
      · omega
      · simp; omega
theorem back_l2 (most : Int) (o : List S40) (hl : o.length ≤ 512) (hadj : Adj most o) (hcnt : Cnt most o) (hinv : InvR o) : ∀ (d i k : Nat), o.length - i = d → i ≤ o.length → d + 1001 ≤ k → woodcutlaw21_RunsBack.l2 k most o (i : Int) = some true := by
  intro d
  induction d with
  | zero =>
    intro i k hd hi hk
    obtain ⟨k, rfl⟩ : ∃ m, k = m + 1 := ⟨k - 1, by omega⟩
    rw [woodcutlaw21_RunsBack.l2, if_neg (by omega), wakes_all k (by omega)]; rfl
  | succ d ih =>
    intro i k hd hi hk
    obtain ⟨k, rfl⟩ : ∃ m, k = m + 1 := ⟨k - 1, by omega⟩
    have hi' : i < o.length := by omega
    have hc := hcnt o[i] (List.getElem_mem hi')
    have hv := hinv o[i] (List.getElem_mem hi')
    have go : woodcutlaw21_RunsBack.l2 k most o ((i : Int) + 1) = some true := ih (i + 1) k (by omega) (by omega) (by omega)
    rw [woodcutlaw21_RunsBack.l2, if_pos (by omega), if_pos (by omega), rdT_eq hi', if_neg (by omega), if_neg (by omega), w64 (x := (i : Int) + 1) (by omega) (by omega)]
    by_cases c : (i : Int) > 0
    · obtain ⟨j, rfl⟩ : ∃ j, i = j + 1 := ⟨i - 1, by omega⟩
      have hj : j < o.length := by omega
      have hv' := hinv o[j] (List.getElem_mem hj)
      have ha := hadj j o[j] o[j + 1] (List.getElem?_eq_getElem hj) (List.getElem?_eq_getElem hi')
      have ej : (((j + 1 : Nat) : Int) - 1) = (j : Int) := by omega
      rw [if_pos c, w64 (x := ((j + 1 : Nat) : Int) - 1) (by omega) (by omega), ej, if_pos (by omega), if_pos (by omega), rdT_eq hj, w64 (x := o[j].f0 + o[j].f1) (by omega) (by omega), if_neg (by omega)]
      by_cases c2 : o[j + 1].f0 = o[j].f0 + o[j].f1
      · rw [if_pos c2, if_neg (by have := ha.2 c2; omega)]; exact go
      · rw [if_neg c2]; exact go
    · rw [if_neg c]; exact go
theorem RunsBack : woodcutlaw21_RunsBack.Pure := by
  intro l a1 _ _ _ _
  by_cases hl : (l.length : Int) > 600
  · exact ⟨0, by unfold woodcutlaw21_RunsBack.f; rw [if_pos hl]⟩
  have h1 := urem a1 20 (by omega) (by omega)
  refine ⟨4000 + 700 * 512, ?_⟩
  unfold woodcutlaw21_RunsBack.f
  rw [if_neg hl]
  obtain ⟨s, k', hr, hs, hk, e⟩ := back_l0 l a1 (by omega) 4000 512 [] 0 (4000 + 700 * 512) (by omega) (by omega) trivial (fun y hy => by cases hy) (by simp) (by omega)
  rw [e]
  obtain ⟨k, rfl⟩ : ∃ m, k' = m + 2 := ⟨k' - 2, by omega⟩
  rw [woodcutlaw21_RunsBack.l0, if_neg (by omega)]
  generalize wrap64 (Int.tmod (IntKind.u64.wrap a1) 20) = y at *
  rw [w64 (x := 1 + y) (by omega) (by omega), of_all s (1 + y) (by omega) _ (by omega), if_neg (by omega)]
  obtain ⟨o, p, e1, st, hlen⟩ := go_back (1 + y) (by omega) s none [] [] hr ⟨rfl, (fun i r q hr => by simp at hr), (fun r hr => by cases hr), (fun r hr => by cases hr), (fun r hr => by cases hr)⟩
  rw [e1]
  simp only [Option.bind_some, resR]
  have hw : WfR o := fun r hr => by have := st.inv r hr; exact ⟨WalkArith.wf_i64 (by omega), WalkArith.wf_i64 (by omega)⟩
  simp only [List.length_nil, Nat.zero_add] at hlen
  rw [list_all o hw (by omega) _ (by omega), st.lst]
  simp only [Option.bind_some, resL, List.nil_append]
  rw [if_pos trivial, if_pos trivial, ints_all s s (by omega) _ (by omega)]
  simp only [Option.bind_some, decide_true, Bool.not_true]
  rw [woodcutlaw21_RunsBack.j2, if_neg (by decide)]
  exact back_l2 (1 + y) o (by omega) st.adj st.cnt st.inv o.length 0 k (by omega) (by omega) (by omega)
end Go.Proofs.Ytijfghknjkegpaa.PRunsBack
