/- A device's step, as an argument's element. -/
import Derived.Test.YtijfghknjkegpaaB0
import Derived.Test.YtijfghknjkegpaaDevA
import Derived.WalkKit
import Derived.ProofKit
import Derived.OpenShut
import Derived.ShutString
import Derived.ChangeOld
namespace Go.Proofs.Ytijfghknjkegpaa.PDevExact
open Go.ChangeShapes Go.WideShapes Go.RowKit Go.Proofs.YtijfghknjkegpaaW.PrintWords
theorem elem_io {H : Type} {enc : TypeId × Value → H} {w : World} {base : Nat} {spare : Nat → Bool} {held : Bool} :
    B0.Elem enc Try.prog w base spare held k58 (fun x => (Lit.int .i64 x.f0).wf = true ∧ (Lit.int .i64 x.f1).wf = true ∧ ∀ p ∈ x.f2, (Lit.int .u8 p).wf = true) 58 := fun n cs x h => by
  obtain ⟨xs, m, _, _, hlen, hx, hf⟩ := DataW.trod_struct Try.underlying58 h
  have h0 : DataW.trod enc Try.prog w base spare held m 3 ((cs.drop 0).take (Try.prog.cellsOf 3)) = xs[0]? := hf 0 _ rfl
  have h1 : DataW.trod enc Try.prog w base spare held m 3 ((cs.drop 1).take (Try.prog.cellsOf 3)) = xs[1]? := hf 1 _ rfl
  have h2 : DataW.trod enc Try.prog w base spare held m 44 ((cs.drop 2).take (Try.prog.cellsOf 44)) = xs[2]? := hf 2 _ rfl
  rw [show Try.prog.cellsOf 3 = 1 by kernel_rfl] at h0 h1
  rw [show Try.prog.cellsOf 44 = 1 by kernel_rfl] at h2
  have hlen : cs.length = 3 := hlen.trans (by kernel_rfl)
  match xs, hx, cs, hlen with
  | [y0, y1, y2], _, [c0, c1, c2], _ =>
    obtain ⟨a0, e0, _, w0⟩ := DataW.trod_int (x := y0) Try.underlying3 h0
    obtain ⟨a1, e1, _, w1⟩ := DataW.trod_int (x := y1) Try.underlying3 h1
    obtain ⟨l, A, cap, e2, hc, _, hC, hG, _⟩ := B0.open_row (x := y2) (d := Kd.int .u8) Try.underlying44 (by kernel_rfl) (B0.elem_int Try.underlying5) h2
    have q0 : c0 = .int .i64 a0 := by simpa using e0
    have q1 : c1 = .int .i64 a1 := by simpa using e1
    have q2 : c2 = .slice A l.length cap := by simpa using e2
    subst q0; subst q1; subst q2
    exact ⟨⟨a0, a1, l⟩, k58_mk w ⟨a0, a1, l⟩ hc hC, w0, w1, hG⟩
end Go.Proofs.Ytijfghknjkegpaa.PDevExact
