/- Rows. -/
import Derived.Test.YtaaemamcdhebhaaWWords
import Derived.Test.YtaaemamcdhebhaaWMore
import Derived.Deep.Slices
import Derived.SizedLaws
import Derived.ChangeSlices
import Derived.ChangeArms
import Derived.OpenShut
import Derived.Below
namespace Go.Proofs.Ytaaemamcdhebhaa.B0
open Go.ChangeShapes Go.WideShapes Go.RowKit Go.Proofs.YtaaemamcdhebhaaW.PrintWords Go.Deep
section
variable {H : Type} {enc : TypeId × Value → H} {P : Program} {w : World} {base : Nat} {spare : Nat → Bool} {held : Bool}
theorem list_of {α : Type} {Q : Nat → α → Prop} : ∀ (n : Nat), (∀ i, i < n → ∃ p, Q i p) → ∃ xs : List α, xs.length = n ∧ ∀ i p, xs[i]? = some p → Q i p := by
  intro n
  induction n with
  | zero => intro _; exact ⟨[], rfl, fun i p h => by simp at h⟩
  | succ n ih =>
    intro h
    obtain ⟨xs, hl, hx⟩ := ih (fun i hi => h i (by omega))
    obtain ⟨p, hp⟩ := h n (by omega)
    refine ⟨xs ++ [p], by simp [hl], fun i q hq => ?_⟩
    by_cases c : i < xs.length
    · rw [List.getElem?_append_left c] at hq; exact hx i q hq
    · rw [List.getElem?_append_right (by omega)] at hq
      have : i - xs.length = 0 := by
        have := (List.getElem?_eq_some_iff.1 hq).1
        simp at this; omega
      rw [this] at hq
      have e : p = q := by simpa using hq
      subst e
      rw [show i = n by omega]; exact hp
def Elem (enc : TypeId × Value → H) (P : Program) (w : World) (base : Nat) (spare : Nat → Bool) (held : Bool) {α : Type} (d : Kd α) (G : α → Prop) (e : TypeId) : Prop :=
  ∀ n cs x, DataW.trod enc P w base spare held n e cs = some x → ∃ p, d.K w p cs ∧ G p
theorem open_row {α : Type} {d : Kd α} {G : α → Prop} {t e : TypeId} (ht : P.underlying t = some (.slice e)) (hC : P.cellsOf e = d.sz) (hel : Elem enc P w base spare held d G e)
    {n : Nat} {cs : List Value} {x : DataW H × List MemPlace} (h : DataW.trod enc P w base spare held n t cs = some x) :
    ∃ (xs : List α) (a : Option Addr) (cap : Nat), cs = [.slice a xs.length cap] ∧ xs.length ≤ cap ∧ cap ≤ 9223372036854775807 ∧ d.C w a xs.length xs ∧ (∀ p ∈ xs, G p) ∧ (x.1 = .nil ∧ xs = [] ∨ ∃ l r, x.1 = .slice l r ∧ l.length = xs.length) := by
  rcases open_slice ht h with ⟨hcs, hx⟩ | ⟨a, len, cap, m, n', D, Pl, hcs, hb, hl, hm, hmm, hx, hi⟩
  · exact ⟨[], none, 0, hcs, by simp, by omega, Kd.C_nil _ _, (fun p hp => by cases hp), .inl ⟨by rw [hx], rfl⟩⟩
  · have hlm : len ≤ m := by rw [hmm]; split <;> omega
    obtain ⟨xs, hlen, hxs⟩ := list_of (Q := fun i p => G p ∧ ∃ c : List Value, c.length = d.sz ∧ d.K w p c ∧ ∀ j u, c[j]? = some u → w.cell? (a.add (i * d.sz + j)) = some u) len (fun i hi' => by
      obtain ⟨cs', hc, ht'⟩ := hi i (by omega)
      obtain ⟨p, hp, hg⟩ := hel n' cs' _ ht'
      obtain ⟨_, hcl, hat⟩ := World.cells?_some hc
      refine ⟨p, hg, cs', by rw [← hC]; exact hcl, hp, fun j u hj => ?_⟩
      have hjl : j < P.cellsOf e := by have := (List.getElem?_eq_some_iff.1 hj).1; omega
      have h1 := hat j hjl
      rw [Go.Deep.add_add, hC] at h1
      rw [h1]; exact hj)
    subst hlen
    refine ⟨xs, some a, cap, hcs, hl, by unfold maxLen at hm; omega, ⟨rfl, by unfold maxLen at hm; omega, fun _ => ⟨a, rfl, fun j p hj => ?_⟩⟩, fun p hp => ?_, .inr ⟨_, _, by rw [hx], by simp⟩⟩
    · exact (hxs j p hj).2
    · obtain ⟨j, hj⟩ := List.getElem?_of_mem hp
      exact (hxs j p hj).1
theorem elem_int {k : IntKind} {e : TypeId} (he : P.underlying e = some (.int k)) : Elem enc P w base spare held (Kd.int k) (fun p => (Lit.int k p).wf = true) e := fun n cs x h => by
  obtain ⟨p, hc, _, hw⟩ := DataW.trod_int he h
  exact ⟨p, hc, hw⟩
theorem open_arg {α : Type} {d : Kd α} {G : α → Prop} {t e : TypeId} (ht : P.underlying t = some (.slice e)) (hC : P.cellsOf e = d.sz) (hel : Elem enc P w base spare held d G e)
    {v : Value} {dd : DataW H} {ps : List MemPlace} (hv : ∃ a n c, v = .slice a n c) (h : DataW.Trod enc P w base spare held t v dd ps) :
    ∃ (xs : List α) (a : Option Addr) (cap : Nat), v = .slice a xs.length cap ∧ xs.length ≤ cap ∧ cap ≤ 9223372036854775807 ∧ d.C w a xs.length xs ∧ (∀ p ∈ xs, G p) ∧ (dd = .nil ∧ xs = [] ∨ ∃ l r, dd = .slice l r ∧ l.length = xs.length) := by
  obtain ⟨a, n, c, rfl⟩ := hv
  obtain ⟨fuel, hf⟩ := h
  obtain ⟨xs, a', cap, hcs, hl, hm, hc, hg, hd⟩ := open_row ht hC hel hf
  simp [Value.cells] at hcs
  obtain ⟨rfl, rfl, rfl⟩ := hcs
  exact ⟨xs, _, _, rfl, hl, hm, hc, hg, hd⟩
theorem sized_arg {ts : List TypeId} {ds : List (DataW H)} {j B : Nat} {t e : TypeId} {dd : DataW H} {n : Nat} (hsz : (DataW.weightsEach P ts ds).all (· ≤ reachBytes) = true) (ht : ts[j]? = some t) (hd : ds[j]? = some dd)
    (hu : P.underlying t = some (.slice e)) (hB : P.bytesOf e = B) (hn : n = 0 ∨ ∃ l r, dd = .slice l r ∧ l.length = n) : n * B ≤ 140737488351232 := by
  rcases hn with rfl | ⟨l, r, rfl, rfl⟩
  · simp
  · have z := sized_slice hsz ht hd hu
    rw [hB] at z
    have : l.length * B ≤ (l.length + r.length) * B := Nat.mul_le_mul_right _ (by omega)
    have e : reachBytes = 140737488351232 := by decide
    omega
end
end Go.Proofs.Ytaaemamcdhebhaa.B0
