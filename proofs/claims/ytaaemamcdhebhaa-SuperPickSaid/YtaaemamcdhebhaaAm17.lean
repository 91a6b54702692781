/- Am17: part of a calculus over an abstract machine that stands beside the model, and contracts of functions by it.
Conditions: what each theorem says of its arguments. -/
import Derived.Test.YtaaemamcdhebhaaAm16
import Derived.KernelRfl
set_option linter.unusedVariables false
namespace Go.Am
open Go.RowKit
variable {P : Program}
def noRoutine (P : Program) : Bool := P.funcs.toList.all (fun fn => !(fn.name == "runtime.NumGoroutine"))
theorem noRoutine_iff (h : noRoutine P = true) (f : FuncId) (fn : Func) (e : P.funcs[f]? = some fn) : (fn.name == "runtime.NumGoroutine") = false := by
  unfold noRoutine at h
  rw [List.all_eq_true] at h
  have hm : fn ∈ P.funcs.toList := by
    rw [← Array.getElem?_toList] at e
    exact List.mem_of_getElem? e
  have := h fn hm
  simpa using this
/-- A call with arguments without addresses that tells true by the calculus: so tells the world. -/
theorem RunF.calls (hm : P.follows .mixedOrders = true) (hn : noRoutine P = true) {f : FuncId} {args : List Value} (hc : args.all closedV = true) (r : RunF P f args ⟨.leaf, 0, 0⟩ (fun v _ => v = .bool true)) (w : World) :
    Calls P f ⟨args⟩ w fun e w' => e = .returned (.bool true) ∧ Below w.heap.size w w' := by
  obtain ⟨v, h', rfl, N, hN⟩ := r
  have e := hN N (Nat.le_refl _) N (Nat.le_refl _)
  obtain ⟨_, _, h3⟩ := acall_sound hm (noRoutine_iff hn) (sp := fun _ => none) (fun f s args h v h' e => by cases e) N N f args _ _ h' e
  have hv : ∀ (μ : Mu) (l : List Value), l.all closedV = true → VRels μ l l := by
    intro μ l
    induction l with
    | nil => intro _; exact .nil
    | cons x t ih =>
      intro hl
      rw [List.all_cons, Bool.and_eq_true] at hl
      exact .cons (closedV_rel μ hl.1) (ih hl.2)
  refine (h3 (fun _ => none) w ⟨args⟩ ⟨fun i o p _ g => (by cases g), fun i j o o' p p' off _ _ _ g => (by cases g), fun i o g => (by cases g)⟩ (fun _ _ _ => rfl) (hv _ _ hc)).mono ?_
  rintro e w' ⟨v', ν, rfl, h1, h2⟩
  have hvv := closedV_eq (show closedV (.bool true) = true from rfl) h1
  have hown : ∀ b off, ¬ Own ⟨.leaf, 0, 0⟩ (fun _ => none) (fun i => h'.low ≤ i) b off := by
    rintro b off ⟨i, o, p, _, g, _⟩
    cases g
  refine ⟨by rw [hvv], h2.keep.os, h2.keep.tape, h2.keep.output, h2.keep.size, fun k hk => h2.keep.block k hk (fun off => hown k off)⟩
end Go.Am
