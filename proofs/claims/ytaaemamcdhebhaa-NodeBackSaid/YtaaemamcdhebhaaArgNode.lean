import Derived.WalkKit
import Derived.ProofKit
import Derived.OpenShut
import Derived.ShutString
import Derived.ChangeOld
import Derived.Test.YtaaemamcdhebhaaProg
namespace Go.Proofs.Ytaaemamcdhebhaa
open Go.ChangeShapes Go.WideShapes Go.RowKit
theorem arg_node_agg {P : Program} {w : World} {r : Reach} {b0 : Nat} {t : TypeId} {v : Value} {fs : Array Field} (ht : P.underlying t = some (.struct fs)) (h : Value.okWide P w r b0 t v) : ∃ cs, v = .agg cs := by
  unfold Value.okWide at h
  rw [ht] at h
  obtain ⟨cs, hc, _⟩ := h
  exact ⟨cs, hc⟩
set_option maxRecDepth 100000 in
theorem arg_node {H : Type} {enc : TypeId × Value → H} {w : World} {base : Nat} {spare : Nat → Bool} {held : Bool} {r : Reach} {b0 : Nat} {v : Value} {d : DataW H} {p : List MemPlace}
    (hv : Value.okWide Try.prog w r b0 43 v) (h : DataW.Trod enc Try.prog w base spare held 43 v d p) : ∃ a0 a1 a2 a3 a4 a5 a6 a7 a8 : Int, v = .agg #[.int .i64 a0, .int .i64 a1, .int .i64 a2, .int .i64 a3, .int .i64 a4, .int .i64 a5, .int .i64 a6, .int .i64 a7, .int .i64 a8] ∧ (Lit.int .i64 a0).wf = true ∧ (Lit.int .i64 a1).wf = true ∧ (Lit.int .i64 a2).wf = true ∧ (Lit.int .i64 a3).wf = true ∧ (Lit.int .i64 a4).wf = true ∧ (Lit.int .i64 a5).wf = true ∧ (Lit.int .i64 a6).wf = true ∧ (Lit.int .i64 a7).wf = true ∧ (Lit.int .i64 a8).wf = true := by
  obtain ⟨cs, rfl⟩ := arg_node_agg Try.underlying43 hv
  obtain ⟨m0, hm⟩ := h
  obtain ⟨l, rfl⟩ : ∃ l : List Value, cs = l.toArray := ⟨cs.toList, by simp⟩
  have hm' : DataW.trod enc Try.prog w base spare held m0 43 l = some (d, p) := hm
  obtain ⟨ys, m1, _, _, hlen, hy, hg⟩ := DataW.trod_struct Try.underlying43 hm'
  have h0 : DataW.trod enc Try.prog w base spare held m1 3 ((l.drop 0).take (Try.prog.cellsOf 3)) = ys[0]? := hg 0 _ rfl
  have hr : DataW.trod enc Try.prog w base spare held m1 41 ((l.drop 1).take (Try.prog.cellsOf 41)) = ys[1]? := hg 1 _ rfl
  rw [show Try.prog.cellsOf 41 = 8 by kernel_rfl] at hr
  have hy2 : ys.length = 2 := hy
  obtain ⟨z0, z1, rfl⟩ : ∃ z0 z1, ys = [z0, z1] := by match ys, hy2 with | [z0, z1], _ => exact ⟨z0, z1, rfl⟩
  obtain ⟨xs, m, _, _, _, hx, hf⟩ := DataW.trod_array (x := z1) Try.underlying41 hr
  have h1 : DataW.trod enc Try.prog w base spare held m 3 ((((l.drop 1).take 8).drop (0 * Try.prog.cellsOf 3)).take (Try.prog.cellsOf 3)) = xs[0]? := hf 0 (by decide)
  have h2 : DataW.trod enc Try.prog w base spare held m 3 ((((l.drop 1).take 8).drop (1 * Try.prog.cellsOf 3)).take (Try.prog.cellsOf 3)) = xs[1]? := hf 1 (by decide)
  have h3 : DataW.trod enc Try.prog w base spare held m 3 ((((l.drop 1).take 8).drop (2 * Try.prog.cellsOf 3)).take (Try.prog.cellsOf 3)) = xs[2]? := hf 2 (by decide)
  have h4 : DataW.trod enc Try.prog w base spare held m 3 ((((l.drop 1).take 8).drop (3 * Try.prog.cellsOf 3)).take (Try.prog.cellsOf 3)) = xs[3]? := hf 3 (by decide)
  have h5 : DataW.trod enc Try.prog w base spare held m 3 ((((l.drop 1).take 8).drop (4 * Try.prog.cellsOf 3)).take (Try.prog.cellsOf 3)) = xs[4]? := hf 4 (by decide)
  have h6 : DataW.trod enc Try.prog w base spare held m 3 ((((l.drop 1).take 8).drop (5 * Try.prog.cellsOf 3)).take (Try.prog.cellsOf 3)) = xs[5]? := hf 5 (by decide)
  have h7 : DataW.trod enc Try.prog w base spare held m 3 ((((l.drop 1).take 8).drop (6 * Try.prog.cellsOf 3)).take (Try.prog.cellsOf 3)) = xs[6]? := hf 6 (by decide)
  have h8 : DataW.trod enc Try.prog w base spare held m 3 ((((l.drop 1).take 8).drop (7 * Try.prog.cellsOf 3)).take (Try.prog.cellsOf 3)) = xs[7]? := hf 7 (by decide)
  rw [show Try.prog.cellsOf 3 = 1 by kernel_rfl] at h0 h1 h2 h3 h4 h5 h6 h7 h8
  have hlen : l.length = 9 := hlen.trans (by kernel_rfl)
  have hx : xs.length = 8 := hx
  match xs, hx, l, hlen with
  | [y0, y1, y2, y3, y4, y5, y6, y7], _, [c0, c1, c2, c3, c4, c5, c6, c7, c8], _ =>
    obtain ⟨a0, e0, _, w0⟩ := DataW.trod_int (x := z0) Try.underlying3 h0
    obtain ⟨a1, e1, _, w1⟩ := DataW.trod_int (x := y0) Try.underlying3 h1
    obtain ⟨a2, e2, _, w2⟩ := DataW.trod_int (x := y1) Try.underlying3 h2
    obtain ⟨a3, e3, _, w3⟩ := DataW.trod_int (x := y2) Try.underlying3 h3
    obtain ⟨a4, e4, _, w4⟩ := DataW.trod_int (x := y3) Try.underlying3 h4
    obtain ⟨a5, e5, _, w5⟩ := DataW.trod_int (x := y4) Try.underlying3 h5
    obtain ⟨a6, e6, _, w6⟩ := DataW.trod_int (x := y5) Try.underlying3 h6
    obtain ⟨a7, e7, _, w7⟩ := DataW.trod_int (x := y6) Try.underlying3 h7
    obtain ⟨a8, e8, _, w8⟩ := DataW.trod_int (x := y7) Try.underlying3 h8
    have q0 : c0 = .int .i64 a0 := by simpa using e0
    have q1 : c1 = .int .i64 a1 := by simpa using e1
    have q2 : c2 = .int .i64 a2 := by simpa using e2
    have q3 : c3 = .int .i64 a3 := by simpa using e3
    have q4 : c4 = .int .i64 a4 := by simpa using e4
    have q5 : c5 = .int .i64 a5 := by simpa using e5
    have q6 : c6 = .int .i64 a6 := by simpa using e6
    have q7 : c7 = .int .i64 a7 := by simpa using e7
    have q8 : c8 = .int .i64 a8 := by simpa using e8
    subst q0; subst q1; subst q2; subst q3; subst q4; subst q5; subst q6; subst q7; subst q8
    exact ⟨a0, a1, a2, a3, a4, a5, a6, a7, a8, rfl, w0, w1, w2, w3, w4, w5, w6, w7, w8⟩
end Go.Proofs.Ytaaemamcdhebhaa
