/- What the printed runs functions come to, in plain lists. -/
import Derived.Test.YtijfghknjkegpaaPRunsBadx3
namespace Go.Proofs.Ytijfghknjkegpaa.PRunsBad
open Go.RowKit Go.Proofs.YtijfghknjkegpaaW.PrintWords Go.Proofs.YtijfghknjkegpaaW.PrintLast

theorem w64 {x : Int} (h0 : -9223372036854775808 ≤ x) (h1 : x ≤ 9223372036854775807) : wrap64 x = x := by unfold wrap64; omega

/-- A run more, or the last one longer. -/
def stepR (most : Int) (out : List S40) (s : Int) : List S40 :=
  match out.getLast? with
  | some r => if r.f0 + r.f1 = s ∧ r.f1 < most then out.dropLast ++ [⟨r.f0, r.f1 + 1⟩] else out ++ [⟨s, 1⟩]
  | none => out ++ [⟨s, 1⟩]
def badS (prev : Option Int) (s : Int) : Prop := s < 0 ∨ 512 ≤ s ∨ ∃ p, prev = some p ∧ s ≤ p
instance (prev : Option Int) (s : Int) : Decidable (badS prev s) := by
  unfold badS
  cases prev with
  | none => exact decidable_of_iff (s < 0 ∨ 512 ≤ s) (by simp)
  | some p => exact decidable_of_iff (s < 0 ∨ 512 ≤ s ∨ s ≤ p) (by simp)
def ofGo (most : Int) : Option Int → List S40 → List Int → Option (List S40)
  | _, out, [] => some out
  | prev, out, s :: t => if badS prev s then none else ofGo most (some s) (stepR most out s) t
def resR : Option (List S40) → List S40 × Int
  | some o => (o, 0)
  | none => ([], 1)
def InvR (out : List S40) : Prop := ∀ r ∈ out, 0 ≤ r.f0 ∧ 1 ≤ r.f1 ∧ r.f0 + r.f1 ≤ 512
theorem invR_nil : InvR [] := fun _ h => by cases h
theorem invR_step {most : Int} {out : List S40} {s : Int} (h : InvR out) (h0 : 0 ≤ s) (h1 : s < 512) : InvR (stepR most out s) := by
  unfold stepR
  cases hg : out.getLast? with
  | none => intro r hr; simp only [List.mem_append, List.mem_singleton] at hr; rcases hr with hr | rfl; exact h r hr; exact ⟨h0, Int.le_refl 1, by show s + 1 ≤ 512; omega⟩
  | some q =>
    have hq : q ∈ out := List.mem_of_getLast? hg
    have := h q hq
    simp only
    split
    · rename_i hc
      intro r hr; simp only [List.mem_append, List.mem_singleton] at hr; rcases hr with hr | rfl
      · exact h r (List.dropLast_subset _ hr)
      · show 0 ≤ q.f0 ∧ 1 ≤ q.f1 + 1 ∧ q.f0 + (q.f1 + 1) ≤ 512; omega
    · intro r hr; simp only [List.mem_append, List.mem_singleton] at hr; rcases hr with hr | rfl; exact h r hr; exact ⟨h0, Int.le_refl 1, by show s + 1 ≤ 512; omega⟩
theorem stepR_len (most : Int) (out : List S40) (s : Int) : (stepR most out s).length ≤ out.length + 1 := by
  unfold stepR
  split
  · split <;> simp <;> omega
  · simp
theorem rdT_last {out : List S40} (h : 0 < out.length) : ∃ r, out.getLast? = some r ∧ rd_T40 out ((out.length : Int) - 1) = r ∧ r ∈ out := by
  have hne : out ≠ [] := by intro e; simp [e] at h
  refine ⟨out.getLast hne, List.getLast?_eq_some_getLast hne, ?_, List.getLast_mem hne⟩
  unfold rd_T40
  rw [show ((out.length : Int) - 1).toNat = out.length - 1 by omega, List.getLast_eq_getElem]
  simp only [List.getD_eq_getElem?_getD]
  rw [List.getElem?_eq_getElem (by omega)]
  rfl
theorem set_last {out : List S40} (h : 0 < out.length) (x : S40) : out.set ((out.length : Int) - 1).toNat x = out.dropLast ++ [x] := by
  have hne : out ≠ [] := by intro e; simp [e] at h
  rw [show ((out.length : Int) - 1).toNat = out.length - 1 by omega]
  conv => lhs; rw [← List.dropLast_concat_getLast hne]
  rw [List.set_append_right _ _ (by simp)]
  simp
theorem j1_true (k : Nat) (l : List Int) (most : Int) (out : List S40) (s n i : Int) : runs_Of.j1 (k + 1) l most out s l n i true = some ([], 1) := by
  simp only [runs_Of.j1]; rfl
theorem j1_false (k : Nat) (l : List Int) (most : Int) (out : List S40) (s n : Int) (i : Nat) (hI : InvR out) (ho : out.length ≤ i) (hi : i < 8796093022208) :
    runs_Of.j1 (k + 1) l most out s l n i false = runs_Of.l0 k l most (stepR most out s) l n ((i + 1 : Nat) : Int) := by
  simp only [runs_Of.j1]
  rw [if_neg (by decide), w64 (x := (out.length : Int) - 1) (by omega) (by omega), w64 (x := (i : Int) + 1) (by omega) (by omega)]
  by_cases h0 : 0 < out.length
  · obtain ⟨r, hg, hr, hm⟩ := rdT_last h0
    have hb := hI r hm
    rw [if_pos (by omega), if_pos (by omega), if_pos (by omega), hr, w64 (x := r.f0 + r.f1) (by omega) (by omega), w64 (x := r.f1 + 1) (by omega) (by omega)]
    by_cases h1 : r.f0 + r.f1 = s
    · rw [if_pos h1]
      by_cases h2 : r.f1 < most
      · rw [if_pos h2, set_last h0]
        simp only [stepR, hg]
        rw [if_pos ⟨h1, h2⟩]; rfl
      · rw [if_neg h2, if_pos (by omega)]
        simp only [stepR, hg]
        rw [if_neg (by omega)]; rfl
    · rw [if_neg h1, if_pos (by omega)]
      simp only [stepR, hg]
      rw [if_neg (by omega)]; rfl
  · have : out = [] := List.eq_nil_of_length_eq_zero (by omega)
    subst this
    rw [if_neg (by simp), if_pos (by simp)]; rfl
def prevOf (l : List Int) (i : Nat) : Option Int := if i = 0 then none else some (rd l ((i : Int) - 1))
theorem l0_step (k : Nat) (l : List Int) (most : Int) (out : List S40) (i : Nat) (h : i < l.length) (hl : l.length < 8796093022208) :
    runs_Of.l0 (k + 1) l most out l (l.length : Int) i = runs_Of.j1 k l most out (rd l i) l (l.length : Int) i (decide (badS (prevOf l i) (rd l i))) := by
  simp only [runs_Of.l0]
  rw [if_pos (by omega), if_pos (by omega), if_pos (by omega)]
  by_cases h0 : rd l i < 0
  · rw [if_pos h0, show decide (badS (prevOf l i) (rd l i)) = true from decide_eq_true (.inl h0)]
  rw [if_neg h0]
  by_cases h1 : rd l i ≥ 512
  · rw [if_pos h1, show decide (badS (prevOf l i) (rd l i)) = true from decide_eq_true (.inr (.inl h1))]
  rw [if_neg h1]
  by_cases h2 : (i : Int) > 0
  · rw [if_pos h2, w64 (x := (i : Int) - 1) (by omega) (by omega), if_pos (by omega), if_pos (by omega)]
    congr 1
    rw [decide_eq_decide]
    unfold badS prevOf
    rw [if_neg (by omega)]
    constructor
    · intro h; exact .inr (.inr ⟨_, rfl, h⟩)
    · rintro (h | h | ⟨p, hp, h⟩)
      · exact absurd h h0
      · exact absurd h h1
      · injection hp with hp; subst hp; exact h
  · rw [if_neg h2]
    congr 1
    symm
    refine decide_eq_false ?_
    unfold badS prevOf
    rw [if_pos (by omega)]
    rintro (h | h | ⟨p, hp, h⟩)
    · exact absurd h h0
    · exact absurd h h1
    · cases hp
theorem rd_eq {l : List Int} {i : Nat} (h : i < l.length) : rd l i = l[i] := by
  unfold rd; rw [Int.toNat_natCast, List.getD_eq_getElem?_getD, List.getElem?_eq_getElem h]; rfl
theorem of_l0 (l : List Int) (most : Int) (hl : l.length < 8796093022208) : ∀ (d i : Nat) (out : List S40) (k : Nat), l.length - i = d → i ≤ l.length → out.length ≤ i → InvR out → 2 * d < k →
    runs_Of.l0 k l most out l (l.length : Int) (i : Int) = some (resR (ofGo most (prevOf l i) out (l.drop i))) := by
  intro d
  induction d with
  | zero =>
    intro i out k hd hi ho hI hk
    obtain ⟨k, rfl⟩ : ∃ m, k = m + 1 := ⟨k - 1, by omega⟩
    simp only [runs_Of.l0]
    rw [if_neg (by omega), List.drop_eq_nil_of_le (by omega)]
    simp only [ofGo, resR]
  | succ d ih =>
    intro i out k hd hi ho hI hk
    obtain ⟨k, rfl⟩ : ∃ m, k = m + 2 := ⟨k - 2, by omega⟩
    have h : i < l.length := by omega
    rw [l0_step _ _ _ _ _ h hl, List.drop_eq_getElem_cons h, ← rd_eq h]
    by_cases hb : badS (prevOf l i) (rd l i)
    · rw [decide_eq_true hb, j1_true]
      simp only [ofGo]; rw [if_pos hb]; rfl
    · rw [decide_eq_false hb, j1_false _ _ _ _ _ _ _ hI ho (by omega)]
      have h0 : 0 ≤ rd l i := by unfold badS at hb; omega
      have h1 : rd l i < 512 := by unfold badS at hb; omega
      rw [ih (i + 1) (stepR most out (rd l i)) k (by omega) (by omega) (by have := stepR_len most out (rd l i); omega) (invR_step hI h0 h1) (by omega)]
      simp only [ofGo]; rw [if_neg hb]
      congr 3
      unfold prevOf; rw [if_neg (by omega)]; congr 2; omega
/-- runs.Of, whatever it is given. -/
theorem of_all (l : List Int) (most : Int) (hl : l.length < 8796093022208) (k : Nat) (hk : 2 * l.length < k) :
    runs_Of.f k l most = some (if most < 1 then ([], 1) else resR (ofGo most none [] l)) := by
  unfold runs_Of.f
  by_cases h : most < 1
  · rw [if_pos h, if_pos h]
  · rw [if_neg h, if_neg h]
    have := of_l0 l most hl l.length 0 [] k (by omega) (by omega) (by simp) invR_nil (by omega)
    simpa [prevOf] using this

/-- The sectors of runs, one run after the other: from the end of the last one on. -/
def span (a : Int) : Nat → List Int
  | 0 => []
  | n + 1 => a :: span (a + 1) n
def listGo : Int → List S40 → Option (List Int)
  | _, [] => some []
  | en, r :: t => if r.f1 < 1 ∨ r.f0 < en ∨ 512 < r.f0 + r.f1 then none else (listGo (r.f0 + r.f1) t).map (span r.f0 r.f1.toNat ++ ·)
def resL (o : Option (List Int)) : List Int × Int := match o with | some l => (l, 0) | none => ([], 1)
theorem span_len (a : Int) (n : Nat) : (span a n).length = n := by induction n generalizing a with | zero => rfl | succ n ih => simp [span, ih]
/-- The cells of a run are whole 64-bit numbers. -/
def WfR (l : List S40) : Prop := ∀ r ∈ l, (Lit.int .i64 r.f0).wf = true ∧ (Lit.int .i64 r.f1).wf = true
theorem wf64 {n : Int} (h : (Lit.int .i64 n).wf = true) : -9223372036854775808 ≤ n ∧ n ≤ 9223372036854775807 := by
  have e1 : IntKind.i64.min = -9223372036854775808 := by decide
  have e2 : IntKind.i64.max = 9223372036854775807 := by decide
  simp only [Lit.wf, Bool.and_eq_true, decide_eq_true_eq, e1, e2] at h
  exact h

theorem list_l1 (x9 : List S40) (x5 x10 x11 : Int) (h5 : x5 ≤ 512) : ∀ (d : Nat) (x4 : List Int) (s : Int) (k : Nat), s + d = x5 → 0 ≤ s → x4.length + d < 17592186044416 →
    runs_List.l1 (k + d + 1) x4 x5 s x9 x10 x11 = runs_List.l0 k (x4 ++ span s d) x5 x9 x10 (wrap64 (x11 + 1)) := by
  intro d
  induction d with
  | zero =>
    intro x4 s k hd h0 hl
    simp only [runs_List.l1]
    rw [if_neg (by omega)]
    simp [span]
  | succ d ih =>
    intro x4 s k hd h0 hl
    rw [show k + (d + 1) + 1 = (k + d + 1) + 1 by omega, runs_List.l1]
    rw [if_pos (by omega), if_pos (by omega), w64 (x := s + 1) (by omega) (by omega), ih (x4 ++ [s]) (s + 1) k (by omega) (by omega) (by simp; omega)]
    simp [span]
theorem within_eq (a b : Int) (h1 : -9223372036854775808 ≤ a ∧ a ≤ 9223372036854775807) (h2 : 1 ≤ b) : frame_Within.f a b 512 = some (decide (0 ≤ a ∧ a + b ≤ 512)) := by
  unfold frame_Within.f
  by_cases c1 : a ≥ 0
  · rw [if_pos c1, if_pos (by omega)]
    by_cases c2 : b ≤ 512
    · rw [if_pos c2, w64 (by omega) (by omega)]
      congr 1
      rw [decide_eq_decide]; omega
    · rw [if_neg c2, decide_eq_false (by omega)]
  · rw [if_neg c1, decide_eq_false (by omega)]
theorem rdT_eq {l : List S40} {i : Nat} (h : i < l.length) : rd_T40 l i = l[i] := by
  unfold rd_T40; rw [Int.toNat_natCast, List.getD_eq_getElem?_getD, List.getElem?_eq_getElem h]; rfl
theorem list_l0 (l : List S40) (hw : WfR l) (hl : l.length < 8796093022208) : ∀ (d i : Nat) (x4 : List Int) (en : Nat) (k : Nat), l.length - i = d → i ≤ l.length → en ≤ 512 → x4.length ≤ en → 3 * d + (512 - en) < k →
    runs_List.l0 k x4 (en : Int) l (l.length : Int) (i : Int) = some (resL ((listGo en (l.drop i)).map (x4 ++ ·))) := by
  intro d
  induction d with
  | zero =>
    intro i x4 en k hd hi he hx hk
    obtain ⟨k, rfl⟩ : ∃ m, k = m + 1 := ⟨k - 1, by omega⟩
    simp only [runs_List.l0]
    rw [if_neg (by omega), List.drop_eq_nil_of_le (by omega)]
    simp [listGo, resL]
  | succ d ih =>
    intro i x4 en k hd hi he hx hk
    obtain ⟨k, rfl⟩ : ∃ m, k = m + 2 := ⟨k - 2, by omega⟩
    have h : i < l.length := by omega
    have hwi := hw (l[i]) (List.getElem_mem h)
    have w0 := wf64 hwi.1
    have w1 := wf64 hwi.2
    simp only [runs_List.l0]
    rw [if_pos (by omega), if_pos (by omega), if_pos (by omega), List.drop_eq_getElem_cons h, rdT_eq h]
    simp only [listGo]
    generalize hr : l[i] = r at *
    have stop : ∀ a b : Int, runs_List.j1 (k + 1) x4 l (l.length : Int) (i : Int) true a b = some ([], 1) := by intro a b; simp only [runs_List.j1]; rfl
    by_cases c1 : r.f1 < 1
    · rw [if_pos c1, stop, if_pos (.inl c1)]; rfl
    · rw [if_neg c1, within_eq _ _ w0 (by omega)]
      simp only [Option.bind_some]
      by_cases c2 : 0 ≤ r.f0 ∧ r.f0 + r.f1 ≤ 512
      · rw [if_pos (decide_eq_true c2)]
        by_cases c3 : r.f0 < en
        · rw [decide_eq_true c3, stop, if_pos (.inr (.inl c3))]; rfl
        · rw [decide_eq_false c3, if_neg (by omega)]
          simp only [runs_List.j1]
          rw [if_neg (by decide), w64 (x := r.f0 + r.f1) (by omega) (by omega)]
          obtain ⟨k', rfl⟩ : ∃ m, k = m + r.f1.toNat + 1 := ⟨k - r.f1.toNat - 1, by omega⟩
          have e1 : r.f0 + r.f1 = ((r.f0 + r.f1).toNat : Int) := by omega
          rw [list_l1 l _ _ _ (by omega) r.f1.toNat x4 r.f0 k' (by omega) (by omega) (by omega), w64 (x := (i : Int) + 1) (by omega) (by omega), e1]
          have := ih (i + 1) (x4 ++ span r.f0 r.f1.toNat) (r.f0 + r.f1).toNat k' (by omega) (by omega) (by omega) (by rw [List.length_append, span_len]; omega) (by omega)
          rw [show ((i : Int) + 1) = ((i + 1 : Nat) : Int) by omega, this]
          congr 2
          cases listGo (((r.f0 + r.f1).toNat : Nat) : Int) (List.drop (i + 1) l) <;> simp
      · rw [if_neg (by simpa using c2), stop, if_pos (by omega)]; rfl
/-- runs.List, whatever it is given. -/
theorem list_all (l : List S40) (hw : WfR l) (hl : l.length < 8796093022208) (k : Nat) (hk : 3 * l.length + 512 < k) : runs_List.f k l = some (resL (listGo 0 l)) := by
  have := list_l0 l hw hl l.length 0 [] 0 k (by omega) (by omega) (by omega) (by simp) (by omega)
  unfold runs_List.f
  simp only [Int.natCast_zero, List.drop_zero] at this
  erw [this]
  congr 2
  cases listGo 0 l <;> simp

theorem ints_l0 (a b : List Int) (h : a.length = b.length) (hl : a.length < 8796093022208) : ∀ (d i k : Nat), a.length - i = d → i ≤ a.length → d < k → woodcutkeep_Ints.l0 k a b (i : Int) = some (decide (a.drop i = b.drop i)) := by
  intro d
  induction d with
  | zero =>
    intro i k hd hi hk
    obtain ⟨k, rfl⟩ : ∃ m, k = m + 1 := ⟨k - 1, by omega⟩
    simp only [woodcutkeep_Ints.l0]
    rw [if_neg (by omega), List.drop_eq_nil_of_le (by omega), List.drop_eq_nil_of_le (by omega)]; rfl
  | succ d ih =>
    intro i k hd hi hk
    obtain ⟨k, rfl⟩ : ∃ m, k = m + 1 := ⟨k - 1, by omega⟩
    have ha : i < a.length := by omega
    have hb : i < b.length := by omega
    simp only [woodcutkeep_Ints.l0]
    rw [if_pos (by omega), if_pos (by omega), if_pos (by omega), rd_eq ha, rd_eq hb, List.drop_eq_getElem_cons ha, List.drop_eq_getElem_cons hb, w64 (x := (i : Int) + 1) (by omega) (by omega)]
    by_cases c : a[i] = b[i]
    · rw [if_pos c, show ((i : Int) + 1) = ((i + 1 : Nat) : Int) by omega, ih (i + 1) k (by omega) (by omega) (by omega)]
      congr 1
      rw [decide_eq_decide, c]; simp only [List.cons.injEq, true_and]
    · rw [if_neg c, decide_eq_false]
      intro e; injection e with e1 _; exact c e1
theorem ints_all (a b : List Int) (hl : a.length < 8796093022208) (k : Nat) (hk : a.length < k) : woodcutkeep_Ints.f k a b = some (decide (a = b)) := by
  unfold woodcutkeep_Ints.f
  by_cases h : a.length = b.length
  · rw [if_pos (by omega)]
    have := ints_l0 a b h hl a.length 0 k (by omega) (by omega) hk
    simpa using this
  · rw [if_neg (by omega), decide_eq_false (by rintro rfl; exact h rfl)]
theorem s40_ext (x y : S40) : x = y ↔ x.f0 = y.f0 ∧ x.f1 = y.f1 := by cases x; cases y; simp
instance : DecidableEq S40 := fun x y => decidable_of_iff _ (s40_ext x y).symm
theorem runs_l0 (a b : List S40) (h : a.length = b.length) (hl : a.length < 8796093022208) : ∀ (d i k : Nat), a.length - i = d → i ≤ a.length → d < k → woodcutkeep_Runs.l0 k a b (i : Int) = some (decide (a.drop i = b.drop i)) := by
  intro d
  induction d with
  | zero =>
    intro i k hd hi hk
    obtain ⟨k, rfl⟩ : ∃ m, k = m + 1 := ⟨k - 1, by omega⟩
    simp only [woodcutkeep_Runs.l0]
    rw [if_neg (by omega), List.drop_eq_nil_of_le (by omega), List.drop_eq_nil_of_le (by omega)]; rfl
  | succ d ih =>
    intro i k hd hi hk
    obtain ⟨k, rfl⟩ : ∃ m, k = m + 1 := ⟨k - 1, by omega⟩
    have ha : i < a.length := by omega
    have hb : i < b.length := by omega
    simp only [woodcutkeep_Runs.l0]
    rw [if_pos (by omega), if_pos (by omega), if_pos (by omega), rdT_eq ha, rdT_eq hb, List.drop_eq_getElem_cons ha, List.drop_eq_getElem_cons hb, w64 (x := (i : Int) + 1) (by omega) (by omega)]
    by_cases c : a[i] = b[i]
    · rw [if_neg (by rw [c]; simp), show ((i : Int) + 1) = ((i + 1 : Nat) : Int) by omega, ih (i + 1) k (by omega) (by omega) (by omega)]
      congr 1
      rw [decide_eq_decide, c]; simp only [List.cons.injEq, true_and]
    · rw [if_pos, decide_eq_false]
      · intro e; injection e with e1 _; exact c e1
      · rw [s40_ext] at c
        by_cases c1 : a[i].f0 = b[i].f0
        · have : a[i].f1 ≠ b[i].f1 := fun h => c ⟨c1, h⟩
          simp [c1, this]
        · simp [c1]
theorem runs_all (a b : List S40) (hl : a.length < 8796093022208) (k : Nat) (hk : a.length < k) : woodcutkeep_Runs.f k a b = some (decide (a = b)) := by
  unfold woodcutkeep_Runs.f
  by_cases h : a.length = b.length
  · rw [if_pos (by omega)]
    have := runs_l0 a b h hl a.length 0 k (by omega) (by omega) hk
    simpa using this
  · rw [if_neg (by omega), decide_eq_false (by rintro rfl; exact h rfl)]
theorem wakes_all (k : Nat) (hk : 1000 ≤ k) : woodcutlaw21_wakes.f k = some true := by
  have h : woodcutlaw21_wakes.f 1000 = some true := by
    unfold woodcutlaw21_wakes.f
    rw [of_all _ _ (by decide) _ (by decide)]
    have e1 : (if (2 : Int) < 1 then (([] : List S40), (1 : Int)) else resR (ofGo 2 none [] [1, 2, 3, 7])) = ([⟨1, 2⟩, ⟨3, 1⟩, ⟨7, 1⟩], 0) := by decide
    rw [e1]
    simp only [Option.bind_some]
    rw [list_all _ (by intro r hr; simp at hr; rcases hr with rfl | rfl | rfl <;> exact ⟨by decide, by decide⟩) (by decide) _ (by decide), of_all _ _ (by decide) _ (by decide)]
    simp only [Option.bind_some]
    rw [runs_all _ _ (by decide) _ (by decide)]
    simp only [Option.bind_some]
    rw [ints_all _ _ (by decide) _ (by decide)]
    decide
  exact at_rounds (fun k => woodcutlaw21_wakes.mono k) hk h
end Go.Proofs.Ytijfghknjkegpaa.PRunsBad
