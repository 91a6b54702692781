/- What the printed functions of the device's laws come to, in plain lists. -/
import Derived.Test.YtijfghknjkegpaaDevF
namespace Go.Proofs.Ytijfghknjkegpaa.PDevExact
open Go.RowKit Go.Proofs.YtijfghknjkegpaaW.PrintWords Go.Proofs.YtijfghknjkegpaaW.PrintLast Go.Proofs.YtijfghknjkegpaaW.PrintMore
theorem rd_eq {l : List Int} {i : Nat} (h : i < l.length) : rd l i = l[i] := by
  unfold rd; rw [Int.toNat_natCast, List.getD_eq_getElem?_getD, List.getElem?_eq_getElem h]; rfl
theorem rdT_eq {l : List S58} {i : Nat} (h : i < l.length) : rd_T58 l i = l[i] := by
  unfold rd_T58; rw [Int.toNat_natCast, List.getD_eq_getElem?_getD, List.getElem?_eq_getElem h]; rfl
theorem bytes_l0 (a b : List Int) (h : a.length = b.length) (hl : a.length < 9223372036854775807) : ∀ (d i k : Nat), a.length - i = d → i ≤ a.length → d < k → woodcutkeep_Bytes.l0 k a b (i : Int) = some (decide (a.drop i = b.drop i)) := by
  intro d
  induction d with
  | zero =>
    intro i k hd hi hk
    obtain ⟨k, rfl⟩ : ∃ m, k = m + 1 := ⟨k - 1, by omega⟩
    rw [woodcutkeep_Bytes.l0, if_neg (by omega), List.drop_eq_nil_of_le (by omega), List.drop_eq_nil_of_le (by omega)]; rfl
  | succ d ih =>
    intro i k hd hi hk
    obtain ⟨k, rfl⟩ : ∃ m, k = m + 1 := ⟨k - 1, by omega⟩
    have ha : i < a.length := by omega
    have hb : i < b.length := by omega
    rw [woodcutkeep_Bytes.l0, if_pos (by omega), if_pos (by omega), if_pos (by omega), rd_eq ha, rd_eq hb, List.drop_eq_getElem_cons ha, List.drop_eq_getElem_cons hb, w64 (x := (i : Int) + 1) (by omega) (by omega)]
    by_cases c : a[i] = b[i]
    · rw [if_pos c, show ((i : Int) + 1) = ((i + 1 : Nat) : Int) by omega, ih (i + 1) k (by omega) (by omega) (by omega)]
      congr 1
      rw [decide_eq_decide, c]; simp only [List.cons.injEq, true_and]
    · rw [if_neg c, decide_eq_false]
      intro e; injection e with e1 _; exact c e1
theorem bytes_k (a b : List Int) (hl : a.length < 9223372036854775807) (k : Nat) (hk : a.length < k) : woodcutkeep_Bytes.f k a b = some (decide (a = b)) := by
  unfold woodcutkeep_Bytes.f
  by_cases h : a.length = b.length
  · rw [if_pos (by omega)]
    have := bytes_l0 a b h hl a.length 0 k (by omega) (by omega) hk
    simpa using this
  · rw [if_neg (by omega), decide_eq_false (by rintro rfl; exact h rfl)]
theorem ints_l0 (a b : List Int) (h : a.length = b.length) (hl : a.length < 9223372036854775807) : ∀ (d i k : Nat), a.length - i = d → i ≤ a.length → d < k → woodcutkeep_Ints.l0 k a b (i : Int) = some (decide (a.drop i = b.drop i)) := by
  intro d
  induction d with
  | zero =>
    intro i k hd hi hk
    obtain ⟨k, rfl⟩ : ∃ m, k = m + 1 := ⟨k - 1, by omega⟩
    rw [woodcutkeep_Ints.l0, if_neg (by omega), List.drop_eq_nil_of_le (by omega), List.drop_eq_nil_of_le (by omega)]; rfl
  | succ d ih =>
    intro i k hd hi hk
    obtain ⟨k, rfl⟩ : ∃ m, k = m + 1 := ⟨k - 1, by omega⟩
    have ha : i < a.length := by omega
    have hb : i < b.length := by omega
    rw [woodcutkeep_Ints.l0, if_pos (by omega), if_pos (by omega), if_pos (by omega), rd_eq ha, rd_eq hb, List.drop_eq_getElem_cons ha, List.drop_eq_getElem_cons hb, w64 (x := (i : Int) + 1) (by omega) (by omega)]
    by_cases c : a[i] = b[i]
    · rw [if_pos c, show ((i : Int) + 1) = ((i + 1 : Nat) : Int) by omega, ih (i + 1) k (by omega) (by omega) (by omega)]
      congr 1
      rw [decide_eq_decide, c]; simp only [List.cons.injEq, true_and]
    · rw [if_neg c, decide_eq_false]
      intro e; injection e with e1 _; exact c e1
theorem ints_k (a b : List Int) (hl : a.length < 9223372036854775807) (k : Nat) (hk : a.length < k) : woodcutkeep_Ints.f k a b = some (decide (a = b)) := by
  unfold woodcutkeep_Ints.f
  by_cases h : a.length = b.length
  · rw [if_pos (by omega)]
    have := ints_l0 a b h hl a.length 0 k (by omega) (by omega) hk
    simpa using this
  · rw [if_neg (by omega), decide_eq_false (by rintro rfl; exact h rfl)]
def heavy (img : List Int) (l : List S58) : Bool := decide (19200 < img.length) || decide (400 < l.length) || l.any (fun x => decide (300 < x.f2.length))
theorem heavy_l0 (l : List S58) (hl : l.length < 9223372036854775807) : ∀ (d i k : Nat), l.length - i = d → i ≤ l.length → d < k → woodcutlaw05_Heavy.l0 k l (i : Int) = some ((l.drop i).any (fun x => decide (300 < x.f2.length))) := by
  intro d
  induction d with
  | zero =>
    intro i k hd hi hk
    obtain ⟨k, rfl⟩ : ∃ m, k = m + 1 := ⟨k - 1, by omega⟩
    rw [woodcutlaw05_Heavy.l0, if_neg (by omega), List.drop_eq_nil_of_le (by omega)]; rfl
  | succ d ih =>
    intro i k hd hi hk
    obtain ⟨k, rfl⟩ : ∃ m, k = m + 1 := ⟨k - 1, by omega⟩
    have ha : i < l.length := by omega
    rw [woodcutlaw05_Heavy.l0, if_pos (by omega), if_pos (by omega), rdT_eq ha, List.drop_eq_getElem_cons ha, w64 (x := (i : Int) + 1) (by omega) (by omega), List.any_cons]
    by_cases c : ((l[i].f2.length : Nat) : Int) > 300
    · rw [if_pos c, decide_eq_true (by omega)]; rfl
    · rw [if_neg c, decide_eq_false (by omega), Bool.false_or]
      exact ih (i + 1) k (by omega) (by omega) (by omega)
theorem heavy_f (img : List Int) (l : List S58) (hl : l.length < 9223372036854775807) : woodcutlaw05_Heavy.f (l.length + 2) img l = some (heavy img l) := by
  unfold woodcutlaw05_Heavy.f heavy
  have stop : woodcutlaw05_Heavy.j0 (l.length + 2) l true = some true := by rw [woodcutlaw05_Heavy.j0]; rfl
  by_cases c : (img.length : Int) > 19200
  · rw [if_pos c, stop, show decide (19200 < img.length) = true from decide_eq_true (by omega)]; rfl
  · rw [if_neg c, show decide (19200 < img.length) = false from decide_eq_false (by omega), Bool.false_or]
    by_cases c2 : (l.length : Int) > 400
    · rw [decide_eq_true c2, stop, show decide (400 < l.length) = true from decide_eq_true (by omega)]; rfl
    · rw [decide_eq_false c2, show decide (400 < l.length) = false from decide_eq_false (by omega), Bool.false_or, woodcutlaw05_Heavy.j0, if_neg (by decide)]
      have := heavy_l0 l hl l.length 0 (l.length + 1) (by omega) (by omega) (by omega)
      simpa using this
theorem twin_f (l : List Int) (hl : l.length < 140737488355328) : woodcutkeep_Twin.f l = some l := by
  unfold woodcutkeep_Twin.f; rw [if_pos (by simpa using hl)]; simp
theorem twinIos_l0 (l : List S58) (hl : l.length < 3518437208883) (hd : ∀ x ∈ l, x.f2.length < 140737488355328) : ∀ (d i k : Nat), l.length - i = d → i ≤ l.length → d < k → woodcutkeep_TwinIos.l0 k l (l.take i) (i : Int) = some l := by
  intro d
  induction d with
  | zero =>
    intro i k hd hi hk
    obtain ⟨k, rfl⟩ : ∃ m, k = m + 1 := ⟨k - 1, by omega⟩
    rw [woodcutkeep_TwinIos.l0, if_neg (by omega), List.take_of_length_le (by omega)]
  | succ d ih =>
    intro i k hd' hi hk
    obtain ⟨k, rfl⟩ : ∃ m, k = m + 1 := ⟨k - 1, by omega⟩
    have ha : i < l.length := by omega
    rw [woodcutkeep_TwinIos.l0, if_pos (by omega), if_pos (by omega), rdT_eq ha, twin_f _ (hd _ (List.getElem_mem ha)), w64 (x := (i : Int) + 1) (by omega) (by omega)]
    simp only [Option.bind_some]
    rw [if_pos (by rw [List.length_take]; omega)]
    have h := ih (i + 1) k (by omega) (by omega) (by omega)
    rw [List.take_succ_eq_append_getElem ha] at h
    exact h
theorem twinIos_f (l : List S58) (hl : l.length < 3518437208883) (hd : ∀ x ∈ l, x.f2.length < 140737488355328) : woodcutkeep_TwinIos.f (l.length + 1) l = some l := by
  unfold woodcutkeep_TwinIos.f
  have := twinIos_l0 l hl hd l.length 0 (l.length + 1) (by omega) (by omega) (by omega)
  simpa using this
theorem in_f (a b c : Int) : woodcutref01_In.f a b c = some (decide (b ≤ a ∧ a ≤ c)) := by
  unfold woodcutref01_In.f
  by_cases h : a ≥ b
  · rw [if_pos h]; congr 1; rw [decide_eq_decide]; omega
  · rw [if_neg h]; congr 1; symm; exact decide_eq_false (by omega)
theorem blocks_f (img : List Int) (h : img.length ≤ 140737488355328) : woodcutref01_Blocks.f img = some (((img.length / 64 : Nat) : Int), validDev img) := by
  unfold woodcutref01_Blocks.f validDev
  have e : ((img.length : Int) / 64) = ((img.length / 64 : Nat) : Int) := by omega
  rw [e, w64 (by omega) (by omega)]
  by_cases c1 : img.length % 64 = 0
  · rw [if_pos (by omega), in_f]
    simp only [Option.bind_some]
    congr 2; rw [decide_eq_decide]; omega
  · rw [if_neg (by omega), decide_eq_false (by omega)]
theorem rsteps_l0 (l : List S58) (n : Nat) (hn : n < 9223372036854775807) (hl : l.length < 9223372036854775807) : ∀ (d i k : Nat), l.length - i = d → i ≤ l.length → d < k →
    woodcutref01_Steps.l0 k l (n : Int) (i : Int) = some (if (l.drop i).any (fun x => !rightIo x n) then 1 else 0) := by
  intro d
  induction d with
  | zero =>
    intro i k hd hi hk
    obtain ⟨k, rfl⟩ : ∃ m, k = m + 1 := ⟨k - 1, by omega⟩
    rw [woodcutref01_Steps.l0, if_neg (by omega), List.drop_eq_nil_of_le (by omega)]; rfl
  | succ d ih =>
    intro i k hd hi hk
    obtain ⟨k, rfl⟩ : ∃ m, k = m + 1 := ⟨k - 1, by omega⟩
    have ha : i < l.length := by omega
    have go := ih (i + 1) k (by omega) (by omega) (by omega)
    rw [show ((i + 1 : Nat) : Int) = (i : Int) + 1 by omega] at go
    rw [woodcutref01_Steps.l0, if_pos (by omega), if_pos (by omega), rdT_eq ha, List.drop_eq_getElem_cons ha, w64 (x := (i : Int) + 1) (by omega) (by omega), w64 (x := (n : Int) - 1) (by omega) (by omega), in_f, List.any_cons]
    simp only [Option.bind_some]
    generalize l[i] = x
    have bad : rightIo x n = false → some (1 : Int) = some (if ((!rightIo x n) || (l.drop (i + 1)).any (fun x => !rightIo x n)) = true then 1 else 0) := fun h => by rw [h]; rfl
    have good : rightIo x n = true → some (if ((l.drop (i + 1)).any (fun x => !rightIo x n)) = true then (1 : Int) else 0) = some (if ((!rightIo x n) || (l.drop (i + 1)).any (fun x => !rightIo x n)) = true then 1 else 0) := fun h => by rw [h]; rfl
    by_cases c1 : x.f0 = 1
    · rw [if_pos c1]
      by_cases c2 : 0 ≤ x.f1 ∧ x.f1 ≤ n - 1
      · rw [if_pos (decide_eq_true c2)]
        by_cases c3 : ((x.f2.length : Nat) : Int) = 64
        · rw [if_pos c3, go]; exact good (by unfold rightIo; rw [if_pos c1]; exact decide_eq_true (by omega))
        · rw [if_neg c3]; exact bad (by unfold rightIo; rw [if_pos c1]; exact decide_eq_false (by omega))
      · rw [if_neg (by simpa using c2)]; exact bad (by unfold rightIo; rw [if_pos c1]; exact decide_eq_false (by omega))
    · rw [if_neg c1]
      by_cases c2 : x.f0 = 2
      · rw [if_pos c2]
        by_cases c3 : x.f1 = 0
        · rw [if_pos c3]
          by_cases c4 : ((x.f2.length : Nat) : Int) > 0
          · rw [if_pos c4]; exact bad (by unfold rightIo; rw [if_neg c1, if_pos c2]; exact decide_eq_false (by omega))
          · rw [if_neg c4, go]; exact good (by unfold rightIo; rw [if_neg c1, if_pos c2]; exact decide_eq_true (by omega))
        · rw [if_neg c3]; exact bad (by unfold rightIo; rw [if_neg c1, if_pos c2]; exact decide_eq_false (by omega))
      · rw [if_neg c2]; exact bad (by unfold rightIo; rw [if_neg c1, if_neg c2])
theorem rsteps_f (img : List Int) (l : List S58) (h : img.length ≤ 140737488355328) (hl : l.length < 9223372036854775807) : woodcutref01_Steps.f (l.length + 2) img l = some (stepsOf img l) := by
  unfold woodcutref01_Steps.f stepsOf
  rw [blocks_f img h]
  simp only [Option.bind_some]
  have stop : woodcutref01_Steps.j0 (l.length + 2) l ((img.length / 64 : Nat) : Int) true = some 2 := by rw [woodcutref01_Steps.j0]; rfl
  cases hv : validDev img with
  | false => rw [if_neg (by decide), if_pos rfl]; exact stop
  | true =>
    rw [if_pos rfl, if_neg (by decide)]
    by_cases c : (l.length : Int) > 1048576
    · rw [decide_eq_true c, if_pos (by omega)]; exact stop
    · rw [decide_eq_false c, if_neg (by omega), woodcutref01_Steps.j0, if_neg (by decide)]
      have := rsteps_l0 l (img.length / 64) (by omega) hl l.length 0 (l.length + 1) (by omega) (by omega) (by omega)
      simpa using this
theorem io_ext (x y : S58) : x = y ↔ x.f0 = y.f0 ∧ x.f1 = y.f1 ∧ x.f2 = y.f2 := by cases x; cases y; simp
instance : DecidableEq S58 := fun x y => decidable_of_iff _ (io_ext x y).symm
theorem ios_self_l0 (a : List S58) (hl : a.length < 9223372036854775807) (m : Nat) (hm : m < 9223372036854775807) (hd : ∀ x ∈ a, x.f2.length ≤ m) : ∀ (d i k : Nat), a.length - i = d → i ≤ a.length → d + m + 1 < k → woodcutkeep_Ios.l0 k a a (i : Int) = some true := by
  intro d
  induction d with
  | zero =>
    intro i k hd' hi hk
    obtain ⟨k, rfl⟩ : ∃ m, k = m + 1 := ⟨k - 1, by omega⟩
    rw [woodcutkeep_Ios.l0, if_neg (by omega)]
  | succ d ih =>
    intro i k hd' hi hk
    obtain ⟨k, rfl⟩ : ∃ m, k = m + 1 := ⟨k - 1, by omega⟩
    have ha : i < a.length := by omega
    have hx := hd _ (List.getElem_mem ha)
    rw [woodcutkeep_Ios.l0, if_pos (by omega), if_pos (by omega), if_pos (by omega), if_pos rfl, if_pos rfl, rdT_eq ha, bytes_k _ _ (by omega) k (by omega), w64 (x := (i : Int) + 1) (by omega) (by omega)]
    simp only [Option.bind_some, decide_true, if_true]
    exact ih (i + 1) k (by omega) (by omega) (by omega)
theorem ios_self (a : List S58) (hl : a.length < 9223372036854775807) (m : Nat) (hm : m < 9223372036854775807) (hd : ∀ x ∈ a, x.f2.length ≤ m) : woodcutkeep_Ios.f (a.length + m + 2) a a = some true := by
  unfold woodcutkeep_Ios.f
  rw [if_pos rfl]
  exact ios_self_l0 a hl m hm hd a.length 0 _ (by omega) (by omega) (by omega)
end Go.Proofs.Ytijfghknjkegpaa.PDevExact
