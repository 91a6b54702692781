import Derived.WalkKit
import Derived.ProofKit
import Derived.OpenShut
import Derived.ShutString
import Derived.ChangeOld
import Derived.Test.YtaaemamcdhebhaaProg
namespace Go.Proofs.Ytaaemamcdhebhaa
open Go.ChangeShapes Go.WideShapes Go.RowKit
theorem arg_bytes4_agg {P : Program} {w : World} {r : Reach} {b0 : Nat} {t : TypeId} {v : Value} {n : Nat} {e : TypeId} (ht : P.underlying t = some (.array n e)) (h : Value.okWide P w r b0 t v) : ∃ cs, v = .agg cs := by
  unfold Value.okWide at h
  rw [ht] at h
  obtain ⟨cs, hc, _⟩ := h
  exact ⟨cs, hc⟩
set_option maxRecDepth 100000 in
theorem arg_bytes4 {H : Type} {enc : TypeId × Value → H} {w : World} {base : Nat} {spare : Nat → Bool} {held : Bool} {r : Reach} {b0 : Nat} {v : Value} {d : DataW H} {p : List MemPlace}
    (hv : Value.okWide Try.prog w r b0 37 v) (h : DataW.Trod enc Try.prog w base spare held 37 v d p) : ∃ a0 a1 a2 a3 : Int, v = .agg #[.int .u8 a0, .int .u8 a1, .int .u8 a2, .int .u8 a3] ∧ (Lit.int .u8 a0).wf = true ∧ (Lit.int .u8 a1).wf = true ∧ (Lit.int .u8 a2).wf = true ∧ (Lit.int .u8 a3).wf = true := by
  obtain ⟨cs, rfl⟩ := arg_bytes4_agg Try.underlying37 hv
  obtain ⟨m0, hm⟩ := h
  obtain ⟨l, rfl⟩ : ∃ l : List Value, cs = l.toArray := ⟨cs.toList, by simp⟩
  have hm' : DataW.trod enc Try.prog w base spare held m0 37 l = some (d, p) := hm
  obtain ⟨xs, m, _, _, hlen, hx, hf⟩ := DataW.trod_array Try.underlying37 hm'
  have h0 : DataW.trod enc Try.prog w base spare held m 5 ((l.drop (0 * Try.prog.cellsOf 5)).take (Try.prog.cellsOf 5)) = xs[0]? := hf 0 (by decide)
  have h1 : DataW.trod enc Try.prog w base spare held m 5 ((l.drop (1 * Try.prog.cellsOf 5)).take (Try.prog.cellsOf 5)) = xs[1]? := hf 1 (by decide)
  have h2 : DataW.trod enc Try.prog w base spare held m 5 ((l.drop (2 * Try.prog.cellsOf 5)).take (Try.prog.cellsOf 5)) = xs[2]? := hf 2 (by decide)
  have h3 : DataW.trod enc Try.prog w base spare held m 5 ((l.drop (3 * Try.prog.cellsOf 5)).take (Try.prog.cellsOf 5)) = xs[3]? := hf 3 (by decide)
  rw [show Try.prog.cellsOf 5 = 1 by kernel_rfl] at h0 h1 h2 h3
  have hlen : l.length = 4 := hlen.trans (by kernel_rfl)
  have hx : xs.length = 4 := hx
  match xs, hx, l, hlen with
  | [y0, y1, y2, y3], _, [c0, c1, c2, c3], _ =>
    obtain ⟨a0, e0, _, w0⟩ := DataW.trod_int (x := y0) Try.underlying5 h0
    obtain ⟨a1, e1, _, w1⟩ := DataW.trod_int (x := y1) Try.underlying5 h1
    obtain ⟨a2, e2, _, w2⟩ := DataW.trod_int (x := y2) Try.underlying5 h2
    obtain ⟨a3, e3, _, w3⟩ := DataW.trod_int (x := y3) Try.underlying5 h3
    have q0 : c0 = .int .u8 a0 := by simpa using e0
    have q1 : c1 = .int .u8 a1 := by simpa using e1
    have q2 : c2 = .int .u8 a2 := by simpa using e2
    have q3 : c3 = .int .u8 a3 := by simpa using e3
    subst q0; subst q1; subst q2; subst q3
    exact ⟨a0, a1, a2, a3, rfl, w0, w1, w2, w3⟩
end Go.Proofs.Ytaaemamcdhebhaa
