/- The runs of any sectors, the sectors of any runs, or why not, are the page's (the plain law). -/
import Derived.Test.YtijfghknjkegpaaRunsExact1
namespace Go.Proofs.Ytijfghknjkegpaa.PRunsExact
open Go.RowKit Go.Proofs.YtijfghknjkegpaaW.PrintWords Go.Proofs.YtijfghknjkegpaaW.PrintLast
def riseB : Option Int → List Int → Bool
  | _, [] => true
  | p, s :: t => !decide (badS p s) && riseB (some s) t
theorem ofGo_eq (most : Int) : ∀ (l : List Int) (p : Option Int) (out : List S40), ofGo most p out l = if riseB p l = true then some (l.foldl (stepR most) out) else none := by
  intro l
  induction l with
  | nil => intro p out; rfl
  | cons s t ih =>
    intro p out
    rw [ofGo, riseB]
    by_cases c : badS p s
    · rw [if_pos c, if_neg (by simp [c])]
    · rw [if_neg c, ih]; simp [c]
theorem in_eq (a b c : Int) : woodcutref18_in.f a b c = some (decide (b ≤ a ∧ a ≤ c)) := by
  unfold woodcutref18_in.f
  by_cases h : a ≥ b
  · rw [if_pos h]; congr 1; rw [decide_eq_decide]; omega
  · rw [if_neg h]; congr 1; symm; exact decide_eq_false (by omega)
theorem rising_l0 (l : List Int) (hl : l.length < 8796093022208) : ∀ (d i k : Nat), l.length - i = d → i ≤ l.length → d < k → woodcutref18_Rising.l0 k l (i : Int) = some (riseB (prevOf l i) (l.drop i)) := by
  intro d
  induction d with
  | zero =>
    intro i k hd hi hk
    obtain ⟨k, rfl⟩ : ∃ m, k = m + 1 := ⟨k - 1, by omega⟩
    rw [woodcutref18_Rising.l0, if_neg (by omega), List.drop_eq_nil_of_le (by omega)]; rfl
  | succ d ih =>
    intro i k hd hi hk
    obtain ⟨k, rfl⟩ : ∃ m, k = m + 1 := ⟨k - 1, by omega⟩
    have hi' : i < l.length := by omega
    have ih' := ih (i + 1) k (by omega) (by omega) (by omega)
    have hp : prevOf l (i + 1) = some (rd l i) := by unfold prevOf; rw [if_neg (by omega)]; congr 2; omega
    rw [hp] at ih'
    rw [woodcutref18_Rising.l0, if_pos (by omega), if_pos (by omega), in_eq, List.drop_eq_getElem_cons hi', ← rd_eq hi', riseB]
    simp only [Option.bind_some]
    rw [w64 (x := (i : Int) + 1) (by omega) (by omega), w64 (x := (i : Int) - 1) (by omega) (by omega)]
    by_cases c : 0 ≤ rd l i ∧ rd l i ≤ 511
    · rw [if_pos (decide_eq_true c)]
      by_cases c2 : (i : Int) > 0
      · rw [if_pos c2, if_pos (by omega), if_pos (by omega)]
        have hq : prevOf l i = some (rd l ((i : Int) - 1)) := by unfold prevOf; rw [if_neg (by omega)]
        by_cases c3 : rd l i ≤ rd l ((i : Int) - 1)
        · rw [if_pos c3, show decide (badS (prevOf l i) (rd l i)) = true from decide_eq_true (.inr (.inr ⟨_, hq, c3⟩))]; rfl
        · rw [if_neg c3, show decide (badS (prevOf l i) (rd l i)) = false from decide_eq_false (by rintro (h | h | ⟨p, h, h'⟩); omega; omega; rw [hq] at h; injection h with h; omega)]
          simpa using ih'
      · have hq : prevOf l i = none := by unfold prevOf; rw [if_pos (by omega)]
        rw [if_neg c2, show decide (badS (prevOf l i) (rd l i)) = false from decide_eq_false (by rintro (h | h | ⟨p, h, h'⟩); omega; omega; rw [hq] at h; cases h)]
        simpa using ih'
    · rw [if_neg (by simpa using c), show decide (badS (prevOf l i) (rd l i)) = true from decide_eq_true (by unfold badS; omega)]; rfl
theorem refRuns_l0 (l : List Int) (most : Int) (hl : l.length < 8796093022208) : ∀ (d i : Nat) (out : List S40) (k : Nat), l.length - i = d → i ≤ l.length → out.length ≤ i → InvR out → riseB (prevOf l i) (l.drop i) = true → d < k →
    woodcutref18_Runs.l0 k l most out (i : Int) = some ((l.drop i).foldl (stepR most) out) := by
  intro d
  induction d with
  | zero =>
    intro i out k hd hi ho hI hr hk
    obtain ⟨k, rfl⟩ : ∃ m, k = m + 1 := ⟨k - 1, by omega⟩
    rw [woodcutref18_Runs.l0, if_neg (by omega), List.drop_eq_nil_of_le (by omega)]; rfl
  | succ d ih =>
    intro i out k hd hi ho hI hr hk
    obtain ⟨k, rfl⟩ : ∃ m, k = m + 1 := ⟨k - 1, by omega⟩
    have hi' : i < l.length := by omega
    have hp : prevOf l (i + 1) = some (rd l i) := by unfold prevOf; rw [if_neg (by omega)]; congr 2; omega
    rw [List.drop_eq_getElem_cons hi', ← rd_eq hi'] at hr ⊢
    rw [riseB, Bool.and_eq_true] at hr
    obtain ⟨hb, hr⟩ := hr
    rw [← hp] at hr
    have hb : ¬ badS (prevOf l i) (rd l i) := by simpa using hb
    have h0 : 0 ≤ rd l i := by unfold badS at hb; omega
    have h1 : rd l i < 512 := by unfold badS at hb; omega
    have fin : woodcutref18_Runs.l0 k l most (stepR most out (rd l i)) ((i : Int) + 1) = some ((l.drop (i + 1)).foldl (stepR most) (stepR most out (rd l i))) :=
      ih (i + 1) (stepR most out (rd l i)) k (by omega) (by omega) (by have := stepR_len most out (rd l i); omega) (invR_step hI h0 h1) hr (by omega)
    rw [List.foldl_cons, ← fin]
    rw [woodcutref18_Runs.l0, if_pos (by omega), w64 (x := (i : Int) + 1) (by omega) (by omega), w64 (x := (out.length : Int) - 1) (by omega) (by omega)]
    generalize rd l i = s at *
    by_cases g0 : 0 < out.length
    · obtain ⟨r, hg, hr, hm⟩ := rdT_last g0
      have hv := hI r hm
      rw [if_pos (by omega), if_pos (by omega), if_pos (by omega), if_pos (by omega), hr, w64 (x := r.f0 + r.f1) (by omega) (by omega), w64 (x := r.f1 + 1) (by omega) (by omega)]
      by_cases g1 : r.f0 + r.f1 = s
      · rw [if_pos g1]
        by_cases g2 : r.f1 < most
        · rw [if_pos g2, set_last g0]
          simp only [stepR, hg]
          rw [if_pos ⟨g1, g2⟩]
        · rw [if_neg g2, if_pos (by omega)]
          simp only [stepR, hg]
          rw [if_neg (by omega)]
      · rw [if_neg g1, if_pos (by omega)]
        simp only [stepR, hg]
        rw [if_neg (by omega)]
    · have : out = [] := List.eq_nil_of_length_eq_zero (by omega)
      subst this
      rw [if_neg (by simp), if_pos (by omega), if_pos (by simp)]; rfl
theorem listed_l1 (x0 : List S40) (x5 x6 : Int) (h5 : x5 ≤ 512) : ∀ (d : Nat) (x4 : List Int) (s : Int) (k : Nat), s + d = x5 → 0 ≤ s → x4.length + d < 17592186044416 →
    woodcutref18_Listed.l1 (k + d + 1) x0 x4 x5 x6 s = woodcutref18_Listed.l0 k x0 (x4 ++ span s d) x5 (wrap64 (x6 + 1)) := by
  intro d
  induction d with
  | zero =>
    intro x4 s k hd h0 hl
    rw [woodcutref18_Listed.l1, if_neg (by omega)]
    simp [span]
  | succ d ih =>
    intro x4 s k hd h0 hl
    rw [show k + (d + 1) + 1 = (k + d + 1) + 1 by omega, woodcutref18_Listed.l1, if_pos (by omega), if_pos (by omega), w64 (x := s + 1) (by omega) (by omega), ih (x4 ++ [s]) (s + 1) k (by omega) (by omega) (by simp; omega)]
    simp [span]
def resB (o : Option (List Int)) : List Int × Bool := match o with | some l => (l, true) | none => ([], false)
theorem listed_l0 (l : List S40) (hw : WfR l) (hl : l.length < 8796093022208) : ∀ (d i : Nat) (x4 : List Int) (en : Nat) (k : Nat), l.length - i = d → i ≤ l.length → en ≤ 512 → x4.length ≤ en → 3 * d + (512 - en) < k →
    woodcutref18_Listed.l0 k l x4 (en : Int) (i : Int) = some (resB ((listGo en (l.drop i)).map (x4 ++ ·))) := by
  intro d
  induction d with
  | zero =>
    intro i x4 en k hd hi he hx hk
    obtain ⟨k, rfl⟩ : ∃ m, k = m + 1 := ⟨k - 1, by omega⟩
    rw [woodcutref18_Listed.l0, if_neg (by omega), List.drop_eq_nil_of_le (by omega)]
    simp [listGo, resB]
  | succ d ih =>
    intro i x4 en k hd hi he hx hk
    obtain ⟨k, rfl⟩ : ∃ m, k = m + 2 := ⟨k - 2, by omega⟩
    have h : i < l.length := by omega
    have hwi := hw (l[i]) (List.getElem_mem h)
    have w0 := wf64 hwi.1
    have w1 := wf64 hwi.2
    rw [woodcutref18_Listed.l0, if_pos (by omega), if_pos (by omega), List.drop_eq_getElem_cons h, rdT_eq h, in_eq, in_eq, listGo]
    simp only [Option.bind_some]
    generalize hr : l[i] = r at *
    have stop : ∀ a b : Int, woodcutref18_Listed.j1 (k + 1) l x4 (i : Int) true a b = some ([], false) := by intro a b; rw [woodcutref18_Listed.j1]; rfl
    by_cases c1 : (en : Int) ≤ r.f0 ∧ r.f0 ≤ 512
    · rw [if_pos (decide_eq_true c1)]
      by_cases c2 : 1 ≤ r.f1 ∧ r.f1 ≤ 512
      · rw [if_pos (decide_eq_true c2), w64 (x := r.f0 + r.f1) (by omega) (by omega)]
        by_cases c3 : r.f0 + r.f1 > 512
        · rw [decide_eq_true c3, stop, if_pos (.inr (.inr (by omega)))]; rfl
        · rw [decide_eq_false c3, if_neg (by omega), woodcutref18_Listed.j1, if_neg (by decide), w64 (x := r.f0 + r.f1) (by omega) (by omega)]
          obtain ⟨k', rfl⟩ : ∃ m, k = m + r.f1.toNat + 1 := ⟨k - r.f1.toNat - 1, by omega⟩
          have e1 : r.f0 + r.f1 = ((r.f0 + r.f1).toNat : Int) := by omega
          rw [listed_l1 l _ _ (by omega) r.f1.toNat x4 r.f0 k' (by omega) (by omega) (by omega), w64 (x := (i : Int) + 1) (by omega) (by omega), e1]
          have := ih (i + 1) (x4 ++ span r.f0 r.f1.toNat) (r.f0 + r.f1).toNat k' (by omega) (by omega) (by omega) (by rw [List.length_append, span_len]; omega) (by omega)
          rw [show ((i : Int) + 1) = ((i + 1 : Nat) : Int) by omega, this]
          congr 2
          cases listGo (((r.f0 + r.f1).toNat : Nat) : Int) (List.drop (i + 1) l) <;> simp
      · rw [if_neg (by simpa using c2), stop, if_pos (by omega)]; rfl
    · rw [if_neg (by simpa using c1), stop, if_pos (by omega)]; rfl
theorem listed_all (l : List S40) (hw : WfR l) (hl : l.length < 8796093022208) (k : Nat) (hk : 3 * l.length + 512 < k) : woodcutref18_Listed.f k l = some (resB (listGo 0 l)) := by
  have := listed_l0 l hw hl l.length 0 [] 0 k (by omega) (by omega) (by omega) (by simp) (by omega)
  unfold woodcutref18_Listed.f
  simp only [Int.natCast_zero, List.drop_zero] at this
  erw [this]
  congr 2
  cases listGo 0 l <;> simp
theorem foldl_len (most : Int) : ∀ (l : List Int) (out : List S40), (l.foldl (stepR most) out).length ≤ out.length + l.length := by
  intro l
  induction l with
  | nil => intro out; simp
  | cons s t ih => intro out; have h1 := ih (stepR most out s); have h2 := stepR_len most out s; simp only [List.foldl_cons, List.length_cons]; omega
theorem j2_fail (k : Nat) (hk : 1000 ≤ k) (x0 : List Int) (x1 : Int) : woodcutlaw21_RunsExact.j2 (k + 1) x0 x1 [] 1 true = some true := by
  rw [woodcutlaw21_RunsExact.j2, if_pos rfl, if_pos rfl, if_pos (by simp), wakes_all k hk]; rfl
theorem exact_f (l0 : List Int) (a1 : Int) (l2 : List S40) (hw : WfR l2) : woodcutlaw21_RunsExact.f 8000 l0 a1 l2 = some true := by
  unfold woodcutlaw21_RunsExact.f
  have stop : ∀ k, woodcutlaw21_RunsExact.j0 (k + 1) l0 a1 l2 true = some true := by intro k; rw [woodcutlaw21_RunsExact.j0]; rfl
  by_cases h0 : (l0.length : Int) > 600
  · rw [if_pos h0]; exact stop 7999
  rw [if_neg h0]
  by_cases h2 : (l2.length : Int) > 600
  · rw [decide_eq_true h2]; exact stop 7999
  rw [decide_eq_false h2, show 8000 = 7999 + 1 from rfl, woodcutlaw21_RunsExact.j0, if_neg (by decide)]
  have ht : woodcutkeep_TwinInts.f l0 = some l0 := by unfold woodcutkeep_TwinInts.f; rw [if_pos (by simp; omega)]; simp
  have j1e : woodcutlaw21_RunsExact.j1 7999 l0 a1 (if a1 < 1 then ([], 1) else resR (ofGo a1 none [] l0)).1 (if a1 < 1 then ([], 1) else resR (ofGo a1 none [] l0)).2 false = some true := by
    rw [show 7999 = 7998 + 1 from rfl, woodcutlaw21_RunsExact.j1, if_neg (by decide)]
    by_cases c : a1 < 1
    · rw [if_pos c, if_pos c]; exact j2_fail 7997 (by omega) _ _
    · rw [if_neg c, if_neg c]
      have hr := rising_l0 l0 (by omega) l0.length 0 7998 (by omega) (by omega) (by omega)
      have hr' : woodcutref18_Rising.f 7998 l0 = some (riseB none l0) := by unfold woodcutref18_Rising.f; simpa [prevOf] using hr
      rw [hr', ofGo_eq]
      simp only [Option.bind_some]
      cases hb : riseB none l0 with
      | false => rw [if_neg (by decide)]; exact j2_fail 7997 (by omega) _ _
      | true =>
        rw [if_pos rfl]
        have hq := refRuns_l0 l0 a1 (by omega) l0.length 0 [] 7997 (by omega) (by omega) (by simp) invR_nil (by simpa [prevOf] using hb) (by omega)
        have hq' : woodcutref18_Runs.f 7997 l0 a1 = some (l0.foldl (stepR a1) []) := by unfold woodcutref18_Runs.f; simpa using hq
        have hlen := foldl_len a1 l0 []
        simp only [resR]
        rw [show 7998 = 7997 + 1 from rfl, woodcutlaw21_RunsExact.j2, if_neg (by decide), if_pos rfl, hq']
        simp only [Option.bind_some]
        rw [runs_all _ _ (by simp at hlen; omega) _ (by simp at hlen; omega)]
        simp only [Option.bind_some, decide_true, if_true]
        rw [wakes_all _ (by omega)]; rfl
  rw [ht]
  simp only [Option.bind_some]
  rw [of_all l0 a1 (by omega) _ (by omega), list_all l2 hw (by omega) _ (by omega), listed_all l2 hw (by omega) _ (by omega)]
  generalize (if a1 < 1 then (([] : List S40), (1 : Int)) else resR (ofGo a1 none [] l0)) = z at j1e ⊢
  simp only [Option.bind_some]
  cases hg : listGo 0 l2 with
  | none =>
    rw [show resL (none : Option (List Int)) = (([] : List Int), (1 : Int)) from rfl, show resB none = (([] : List Int), false) from rfl]
    rw [if_neg (by decide), if_neg (by decide), if_pos rfl, if_neg (by decide), ints_all l0 l0 (by omega) _ (by omega)]
    simp only [Option.bind_some, decide_true, Bool.not_true]
    exact j1e
  | some l =>
    have hlen : l.length ≤ 512 := by
      have key : ∀ (r : List S40) (en : Int) (l : List Int), 0 ≤ en → en ≤ 512 → listGo en r = some l → (l.length : Int) ≤ 512 - en := by
        intro r
        induction r with
        | nil => intro en l _ _ h; simp [listGo] at h; subst h; simp; omega
        | cons x t ih =>
          intro en l h0 h1 h
          rw [listGo] at h
          by_cases c : x.f1 < 1 ∨ x.f0 < en ∨ 512 < x.f0 + x.f1
          · rw [if_pos c] at h; cases h
          · rw [if_neg c] at h
            cases hq : listGo (x.f0 + x.f1) t with
            | none => rw [hq] at h; cases h
            | some l' =>
              rw [hq] at h
              simp only [Option.map_some, Option.some.injEq] at h
              have := ih (x.f0 + x.f1) l' (by omega) (by omega) hq
              subst h
              rw [List.length_append, span_len]; omega
      have := key l2 0 l (by omega) (by omega) hg
      omega
    simp only [resL, resB]
    rw [if_neg (by decide), if_pos trivial, ints_all l l (by omega) _ (by omega)]
    simp only [Option.bind_some, decide_true, if_true]
    rw [ints_all l0 l0 (by omega) _ (by omega)]
    simp only [Option.bind_some, decide_true, Bool.not_true]
    exact j1e
end Go.Proofs.Ytijfghknjkegpaa.PRunsExact
