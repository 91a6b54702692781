/- Crashes that keep all, none: plain laws. -/
import Derived.Test.YtijfghknjkegpaaDevLast
namespace Go.Proofs.Ytijfghknjkegpaa.PDevExact
open Go.RowKit Go.Proofs.YtijfghknjkegpaaW.PrintWords Go.Proofs.YtijfghknjkegpaaW.PrintLast Go.Proofs.YtijfghknjkegpaaW.PrintMore
set_option linter.unusedVariables false
set_option linter.unusedSimpArgs false
theorem info4 : (Try.prog.info? 4).map (fun i => (i.zero, i.size, i.bytes)) = some (some (.bool false), 1, 1) := by kernel_rfl
theorem steps_iff {img : List Int} {l : List S58} : stepsOf img l = 0 ↔ validDev img = true ∧ l.length ≤ 1048576 ∧ ∀ x ∈ l, rightIo x (img.length / 64 : Nat) = true := by
  unfold stepsOf
  cases hv : validDev img with
  | false => simp
  | true =>
    rw [if_neg (by decide)]
    by_cases c : 1048576 < l.length
    · rw [if_pos c]; simp; omega
    · rw [if_neg c]
      cases ha : l.any (fun x => !rightIo x (img.length / 64 : Nat)) with
      | true =>
        rw [if_pos rfl]
        obtain ⟨x, hx, h⟩ := List.any_eq_true.1 ha
        simp only [reduceCtorEq, false_iff, not_and, Int.one_ne_zero]
        intro _ _ hh
        rw [hh x hx] at h; cases h
      | false =>
        rw [if_neg (by decide)]
        simp only [true_and, true_iff]
        refine ⟨by omega, fun x hx => ?_⟩
        have := List.any_eq_false.1 ha x hx
        simpa using this
theorem steps_sub {img X : List Int} {l l' : List S58} (h : stepsOf img l = 0) (hX : X.length = img.length) (hsub : ∀ x ∈ l', x ∈ l) (hl : l'.length ≤ l.length) : stepsOf X l' = 0 := by
  obtain ⟨h1, h2, h3⟩ := steps_iff.1 h
  refine steps_iff.2 ⟨?_, by omega, fun x hx => ?_⟩
  · rw [← h1]; unfold validDev; rw [hX]
  · rw [hX]; exact h3 x (hsub x hx)
theorem steps_take {img : List Int} {l : List S58} (n : Nat) (h : stepsOf img l = 0) : stepsOf img (l.take n) = 0 := steps_sub h rfl (fun x hx => List.mem_of_mem_take hx) (by simp; omega)
theorem fold_take_succ (img : List Int) {l : List S58} {k : Nat} (h : k < l.length) : (l.take (k + 1)).foldl applyIo img = applyIo ((l.take k).foldl applyIo img) l[k] := by
  rw [List.take_succ_eq_append_getElem h, List.foldl_append]; rfl
theorem fold_len {img : List Int} {l : List S58} (hf : ∀ x ∈ l, Fits img.length x) (n : Nat) (hn : n ≤ l.length) : ((l.take n).foldl applyIo img).length = img.length := (want_apply img l 0 hf n hn).1
theorem crash_all (img : List Int) (l : List S58) (safe : Int) : ∀ k, k ≤ l.length → (crashTo img l (List.replicate l.length true) safe k).1 = (l.take k).foldl applyIo img := by
  intro k; induction k with
  | zero => intro _; rfl
  | succ k ih =>
    intro hk
    have h := ih (by omega)
    have hn := crashTo_n img l (List.replicate l.length true) safe k
    rw [fold_take_succ img (show k < l.length by omega), crashTo, rdT_eq (show k < l.length by omega), ← h]
    generalize crashTo img l (List.replicate l.length true) safe k = st at *
    have hr : rdOf false (List.replicate l.length true) (st.2 : Int) = true := by
      unfold rdOf; rw [Int.toNat_natCast, List.getD_eq_getElem?_getD, List.getElem?_replicate, if_pos (by omega)]; rfl
    unfold crashStep
    by_cases c : l[k].f0 = 1
    · rw [if_pos c]
      by_cases cs : (k : Int) < safe
      · rw [if_pos cs]
      · rw [if_neg cs, hr]; rfl
    · rw [if_neg c]; unfold applyIo; rw [if_neg c]
theorem crash_none (img : List Int) (l : List S58) (safe : Int) : ∀ k, k ≤ l.length → (crashTo img l [] safe k).1 = (l.take (min k safe.toNat)).foldl applyIo img := by
  intro k; induction k with
  | zero => intro _; simp [crashTo]
  | succ k ih =>
    intro hk
    have h := ih (by omega)
    rw [crashTo, rdT_eq (show k < l.length by omega)]
    have hr : ∀ n : Nat, rdOf false [] (n : Int) = false := fun n => by unfold rdOf; simp
    by_cases cs : (k : Int) < safe
    · have e1 : min (k + 1) safe.toNat = k + 1 := by omega
      have e2 : min k safe.toNat = k := by omega
      rw [e1, fold_take_succ img (show k < l.length by omega)]
      rw [e2] at h
      rw [← h]
      unfold crashStep
      by_cases c : l[k].f0 = 1
      · rw [if_pos c, if_pos cs]
      · rw [if_neg c]; unfold applyIo; rw [if_neg c]
    · have e1 : min (k + 1) safe.toNat = min k safe.toNat := by omega
      rw [e1, ← h]
      unfold crashStep
      by_cases c : l[k].f0 = 1
      · rw [if_pos c, if_neg cs, hr]; rfl
      · rw [if_neg c]
theorem last_lt (l : List S58) (k : Nat) : (lastTo l k).toNat ≤ k := by
  rcases flTo_last l k with ⟨_, h⟩ | ⟨_, _, _, h, _⟩
  · rw [h]; omega
  · omega
theorem crash_none' (img : List Int) (l : List S58) (cut : Nat) (h : cut ≤ l.length) : (crashTo img l [] (lastTo l cut) cut).1 = (l.take (lastTo l cut).toNat).foldl applyIo img := by
  rw [crash_none img l _ cut h, Nat.min_eq_right (last_lt l cut)]
theorem parts_fold (img : List Int) (l : List S58) (n : Nat) : (l.drop n).foldl applyIo ((l.take n).foldl applyIo img) = l.foldl applyIo img := by
  rw [← List.foldl_append, List.take_append_drop]
theorem crashOf_all {img : List Int} {l : List S58} {q : Nat} (h : stepsOf img l = 0) (hq : q ≤ l.length) : crashOf img l (List.replicate l.length true) (q : Int) = ((l.take q).foldl applyIo img, 0) := by
  unfold crashOf; rw [if_neg (fun g => g h), if_neg (by omega), Int.toNat_natCast, crash_all img l _ q hq]
theorem crashOf_none {img : List Int} {l : List S58} {q : Nat} (h : stepsOf img l = 0) (hq : q ≤ l.length) : crashOf img l [] (q : Int) = ((l.take (lastTo l q).toNat).foldl applyIo img, 0) := by
  unfold crashOf; rw [if_neg (fun g => g h), if_neg (by omega), Int.toNat_natCast, crash_none' img l q hq]
def allTo (n k : Nat) : List Bool := List.replicate k true ++ List.replicate (n - k) false
theorem allTo_len {n k : Nat} (h : k ≤ n) : (allTo n k).length = n := by unfold allTo; simp; omega
theorem allTo_set {n k : Nat} (h : k < n) : (allTo n k).set k true = allTo n (k + 1) := by
  unfold allTo
  rw [List.set_append_right _ _ (by simp), show n - k = (n - (k + 1)) + 1 by omega, List.replicate_succ, List.length_replicate, Nat.sub_self, List.set_cons_zero, List.replicate_succ', List.append_assoc]; rfl
theorem allTo_all (n : Nat) : allTo n n = List.replicate n true := by unfold allTo; simp
theorem allTo_none (n : Nat) : allTo n 0 = List.replicate n false := by unfold allTo; simp
end Go.Proofs.Ytijfghknjkegpaa.PDevExact
