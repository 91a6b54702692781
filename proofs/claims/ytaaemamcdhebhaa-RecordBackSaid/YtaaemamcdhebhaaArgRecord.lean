import Derived.WalkKit
import Derived.ProofKit
import Derived.OpenShut
import Derived.ShutString
import Derived.ChangeOld
import Derived.Test.YtaaemamcdhebhaaProg
namespace Go.Proofs.Ytaaemamcdhebhaa
open Go.ChangeShapes Go.WideShapes Go.RowKit
theorem arg_record_agg {P : Program} {w : World} {r : Reach} {b0 : Nat} {t : TypeId} {v : Value} {fs : Array Field} (ht : P.underlying t = some (.struct fs)) (h : Value.okWide P w r b0 t v) : ∃ cs, v = .agg cs := by
  unfold Value.okWide at h
  rw [ht] at h
  obtain ⟨cs, hc, _⟩ := h
  exact ⟨cs, hc⟩
set_option maxRecDepth 100000 in
theorem arg_record {H : Type} {enc : TypeId × Value → H} {w : World} {base : Nat} {spare : Nat → Bool} {held : Bool} {r : Reach} {b0 : Nat} {v : Value} {d : DataW H} {p : List MemPlace}
    (hv : Value.okWide Try.prog w r b0 23 v) (h : DataW.Trod enc Try.prog w base spare held 23 v d p) : ∃ a0 a1 a2 a3 a4 a5 a6 a7 : Int, v = .agg #[.int .i64 a0, .int .i64 a1, .int .i64 a2, .int .i64 a3, .int .i64 a4, .int .i64 a5, .int .i64 a6, .int .i64 a7] ∧ (Lit.int .i64 a0).wf = true ∧ (Lit.int .i64 a1).wf = true ∧ (Lit.int .i64 a2).wf = true ∧ (Lit.int .i64 a3).wf = true ∧ (Lit.int .i64 a4).wf = true ∧ (Lit.int .i64 a5).wf = true ∧ (Lit.int .i64 a6).wf = true ∧ (Lit.int .i64 a7).wf = true := by
  obtain ⟨cs, rfl⟩ := arg_record_agg Try.underlying23 hv
  obtain ⟨m0, hm⟩ := h
  obtain ⟨l, rfl⟩ : ∃ l : List Value, cs = l.toArray := ⟨cs.toList, by simp⟩
  have hm' : DataW.trod enc Try.prog w base spare held m0 23 l = some (d, p) := hm
  obtain ⟨xs, m, _, _, hlen, hx, hf⟩ := DataW.trod_struct Try.underlying23 hm'
  have h0 : DataW.trod enc Try.prog w base spare held m 3 ((l.drop 0).take (Try.prog.cellsOf 3)) = xs[0]? := hf 0 _ rfl
  have h1 : DataW.trod enc Try.prog w base spare held m 3 ((l.drop 1).take (Try.prog.cellsOf 3)) = xs[1]? := hf 1 _ rfl
  have h2 : DataW.trod enc Try.prog w base spare held m 3 ((l.drop 2).take (Try.prog.cellsOf 3)) = xs[2]? := hf 2 _ rfl
  have h3 : DataW.trod enc Try.prog w base spare held m 3 ((l.drop 3).take (Try.prog.cellsOf 3)) = xs[3]? := hf 3 _ rfl
  have h4 : DataW.trod enc Try.prog w base spare held m 3 ((l.drop 4).take (Try.prog.cellsOf 3)) = xs[4]? := hf 4 _ rfl
  have h5 : DataW.trod enc Try.prog w base spare held m 3 ((l.drop 5).take (Try.prog.cellsOf 3)) = xs[5]? := hf 5 _ rfl
  have h6 : DataW.trod enc Try.prog w base spare held m 3 ((l.drop 6).take (Try.prog.cellsOf 3)) = xs[6]? := hf 6 _ rfl
  have h7 : DataW.trod enc Try.prog w base spare held m 3 ((l.drop 7).take (Try.prog.cellsOf 3)) = xs[7]? := hf 7 _ rfl
  rw [show Try.prog.cellsOf 3 = 1 by kernel_rfl] at h0 h1 h2 h3 h4 h5 h6 h7
  have hlen : l.length = 8 := hlen.trans (by kernel_rfl)
  have hx : xs.length = 8 := hx
  match xs, hx, l, hlen with
  | [y0, y1, y2, y3, y4, y5, y6, y7], _, [c0, c1, c2, c3, c4, c5, c6, c7], _ =>
    obtain ⟨a0, e0, _, w0⟩ := DataW.trod_int (x := y0) Try.underlying3 h0
    obtain ⟨a1, e1, _, w1⟩ := DataW.trod_int (x := y1) Try.underlying3 h1
    obtain ⟨a2, e2, _, w2⟩ := DataW.trod_int (x := y2) Try.underlying3 h2
    obtain ⟨a3, e3, _, w3⟩ := DataW.trod_int (x := y3) Try.underlying3 h3
    obtain ⟨a4, e4, _, w4⟩ := DataW.trod_int (x := y4) Try.underlying3 h4
    obtain ⟨a5, e5, _, w5⟩ := DataW.trod_int (x := y5) Try.underlying3 h5
    obtain ⟨a6, e6, _, w6⟩ := DataW.trod_int (x := y6) Try.underlying3 h6
    obtain ⟨a7, e7, _, w7⟩ := DataW.trod_int (x := y7) Try.underlying3 h7
    have q0 : c0 = .int .i64 a0 := by simpa using e0
    have q1 : c1 = .int .i64 a1 := by simpa using e1
    have q2 : c2 = .int .i64 a2 := by simpa using e2
    have q3 : c3 = .int .i64 a3 := by simpa using e3
    have q4 : c4 = .int .i64 a4 := by simpa using e4
    have q5 : c5 = .int .i64 a5 := by simpa using e5
    have q6 : c6 = .int .i64 a6 := by simpa using e6
    have q7 : c7 = .int .i64 a7 := by simpa using e7
    subst q0; subst q1; subst q2; subst q3; subst q4; subst q5; subst q6; subst q7
    exact ⟨a0, a1, a2, a3, a4, a5, a6, a7, rfl, w0, w1, w2, w3, w4, w5, w6, w7⟩
end Go.Proofs.Ytaaemamcdhebhaa
