/- RunsExact: for every list of sectors, every most and every list of runs (each 64-bit numbers, however they lie in memory) woodcutlaw21.RunsExact returns true, and the arguments read as before. No condition. -/
import Derived.Test.YtijfghknjkegpaaRows
import Derived.Test.YtijfghknjkegpaaRunsExact2
import Derived.Test.YtijfghknjkegpaaB0
import Derived.WalkKit
import Derived.ProofKit
import Derived.OpenShut
import Derived.ShutString
import Derived.ChangeOld
import Derived.Below
import Derived.SizedLaws
namespace Go.Proofs.Ytijfghknjkegpaa.runsExact
open Go.ChangeShapes Go.WideShapes Go.ChangeAt Go.RowKit Go.Proofs.YtijfghknjkegpaaW.PrintWords
open Go.Proofs.Ytijfghknjkegpaa.PRunsExact (S40 k40 WfR)
set_option linter.unusedVariables false
theorem own : ownKnob Try.prog.godebug = none := by kernel_rfl
theorem laidOut : laidOutB Try.prog = true := by kernel_rfl
theorem elem_run {H : Type} {enc : TypeId × Value → H} {w : World} {base : Nat} {spare : Nat → Bool} {held : Bool} :
    B0.Elem enc Try.prog w base spare held k40 (fun r => (Lit.int .i64 r.f0).wf = true ∧ (Lit.int .i64 r.f1).wf = true) 40 := fun n cs x h => by
  obtain ⟨xs, m, _, _, hlen, hx, hf⟩ := DataW.trod_struct Try.underlying40 h
  have h0 : DataW.trod enc Try.prog w base spare held m 3 ((cs.drop 0).take (Try.prog.cellsOf 3)) = xs[0]? := hf 0 _ rfl
  have h1 : DataW.trod enc Try.prog w base spare held m 3 ((cs.drop 1).take (Try.prog.cellsOf 3)) = xs[1]? := hf 1 _ rfl
  rw [show Try.prog.cellsOf 3 = 1 by kernel_rfl] at h0 h1
  have hlen : cs.length = 2 := hlen.trans (by kernel_rfl)
  match xs, hx, cs, hlen with
  | [y0, y1], _, [c0, c1], _ =>
    obtain ⟨a0, e0, _, w0⟩ := DataW.trod_int (x := y0) Try.underlying3 h0
    obtain ⟨a1, e1, _, w1⟩ := DataW.trod_int (x := y1) Try.underlying3 h1
    have q0 : c0 = .int .i64 a0 := by simpa using e0
    have q1 : c1 = .int .i64 a1 := by simpa using e1
    subst q0; subst q1
    exact ⟨⟨a0, a1⟩, PRunsExact.k40_mk w ⟨a0, a1⟩, w0, w1⟩
set_option maxRecDepth 100000 in
theorem lifted (os : Os) (started : os.Started) (H : Type) (enc : TypeId × Value → H) :
    ReturnsInHanded {} Try.checked os 3 .any (Rows.runsExactSpec.pre6 enc Try.prog Try.f3 Rows.runsExactRow.domain false) (Rows.runsExactSpec.post enc Try.prog Try.f3 false true false false) := by
  refine returnsInHanded_of_change_sized (C := Try.checked) own started (by kernel_rfl) Try.func3
    (ChangeSpec.witness6 (enc := enc) (C := Try.checked) false ⟨#[], #[.slice none 0 0, .int .i64 0, .slice none 0 0], []⟩ 8 (by kernel_rfl) (by kernel_rfl) (by kernel_rfl) (by kernel_rfl)) ?_
  intro W base args ds gs before hval0 hW hcnd hsz0 _
  have hsz : (DataW.weightsEach Try.prog (Try.f3.params.toList ++ Rows.runsExactSpec.plain.varTypes Try.prog) (ds ++ gs)).all (· ≤ reachBytes) = true := hsz0
  have hval : ∀ (j : Nat) t v, Try.f3.params[j]? = some t → args[j]? = some v → Value.okWide Try.prog W .any base t v := hval0
  have hW' := hW
  obtain ⟨p, q, hA0, hV, rfl, hfz, hnd⟩ := hW
  have hA : DataW.TrodAll enc Try.prog W 0 (fun _ => true) true Try.f3.params.toList args.toList ds p := hA0
  rw [Try.params3] at hA hval hsz
  obtain ⟨v0, vs0, d0, ds0, p0, q0, hargs, rfl, rfl, h0, r0⟩ := trodAll_cons hA
  obtain ⟨v1, vs1, d1, ds1, p1, q1, rfl, rfl, rfl, h1, r1⟩ := trodAll_cons r0
  obtain ⟨v2, vs2, d2, ds2, p2, q2, rfl, rfl, rfl, h2, r2⟩ := trodAll_cons r1
  obtain ⟨rfl, rfl, rfl⟩ := trodAll_nil r2
  obtain rfl : args = #[v0, v1, v2] := by cases args; simp_all
  obtain ⟨rfl, rfl⟩ := trodVars_none hV
  have k0 := h0
  have lt0 : ∀ x ∈ p0, x.block < W.heap.size := by obtain ⟨m, hm⟩ := k0; exact DataW.trod_lt m _ _ _ hm
  have k2 := h2
  have lt2 : ∀ x ∈ p2, x.block < W.heap.size := by obtain ⟨m, hm⟩ := k2; exact DataW.trod_lt m _ _ _ hm
  obtain ⟨l0, A0, c0, rfl, hc0, hm0, hC0, hG0, hd0⟩ := B0.open_arg (d := Kd.int .i64) Try.underlying22 (by kernel_rfl) (B0.elem_int Try.underlying3) (okWide_slice Try.underlying22 (hval 0 22 v0 rfl rfl)) h0
  obtain ⟨a1, rfl, rfl, rfl, w1⟩ := open_int Try.underlying3 (hval 1 3 v1 rfl rfl) h1
  obtain ⟨l2, A2, c2, rfl, hc2, hm2, hC2, hG2, hd2⟩ := B0.open_arg (d := k40) Try.underlying23 (by kernel_rfl) elem_run (okWide_slice Try.underlying23 (hval 2 23 v2 rfl rfl)) h2
  clear hA0 hval0 hsz0 hsz
  refine (PRunsExact.woodcutlaw21_RunsExact.calls 8000 A0 c0 l0 a1 A2 c2 l2 true W hC0 hc0 hC2 hc2 (PRunsExact.exact_f l0 a1 l2 hG2)).mono fun e W' ⟨he, bel⟩ => ?_
  subst he
  exact ⟨_, rfl, _, _, _, [], _, [], hW', trodAll_mk1 (shut_bool Try.underlying4 _), (trodAll_cons_mk (Below.trod laidOut (by kernel_rfl) (of_decide_eq_true (by kernel_rfl)) k0 bel lt0) (trodAll_cons_mk (shut_int Try.underlying3 w1) (trodAll_cons_mk (Below.trod laidOut (by kernel_rfl) (of_decide_eq_true (by kernel_rfl)) k2 bel lt2) trodAll_mk0))), rfl, bel.frame _, fun h => by cases h⟩
theorem over : Rows.runsExactRow.holds Try.pinned (OpenSpec.ofChange Rows.runsExactSpec) :=
  OpenClaim.holds_of_wide 3 Try.f3 rfl rfl rfl rfl rfl rfl rfl ⟨rfl, rfl, rfl, rfl, rfl⟩ rfl rfl rfl rfl rfl (by kernel_rfl) Try.func3 (by kernel_rfl)
    (of_decide_eq_true (by kernel_rfl)) (by unfold Func.isWrapper; first | (rw [if_pos (by decide +kernel)]; kernel_rfl) | (rw [if_neg (by decide +kernel)]; exact ⟨rfl, rfl⟩))
    (fun os started H enc _ => lifted os started H enc)
end Go.Proofs.Ytijfghknjkegpaa.runsExact
namespace Go.Proofs.Ytijfghknjkegpaa
theorem runsExact_holds : Rows.RunsExactSaid := runsExact.over
end Go.Proofs.Ytijfghknjkegpaa
