/- Records and superblocks: numbers that are one, over lists alone. Nothing here names the program. -/
import Derived.Test.YtaaemamcdhebhaaBlk2
import Derived.Test.YtaaemamcdhebhaaNod
namespace Go.Proofs.Ytaaemamcdhebhaa.Rec
open Go.RowKit Go.Proofs.YtaaemamcdhebhaaW.PrintWords Go.Proofs.YtaaemamcdhebhaaW.PrintLast
def isId (x : Int) : Bool := decide (1 ≤ x) && decide (x ≤ 4611686018427387903)
def okR : List Int → Bool
  | [nx, id, pa, rt, sz, kd, fr, dg] => Nod.isPtr nx && Nod.isPtr rt && isId id && (pa != id) && (pa == 0 || isId pa) && decide (0 ≤ sz) && decide (sz ≤ 512) &&
      ((kd == 0 && fr == 0 && dg == 0) || (kd == 1 && decide (1 ≤ fr) && decide (fr ≤ 65535) && decide (0 ≤ dg) && decide (dg ≤ 4294967295)))
  | _ => false
def isLk (n x : Int) : Bool := x == 0 || (decide (2 ≤ x) && decide (x ≤ n - 1))
def okS : List Int → Bool
  | [g, n, rt, sz, fs] => decide (1 ≤ g) && decide (g ≤ 1099511627776) && decide (4 ≤ n) && decide (n ≤ 4096) && decide (0 ≤ sz) && decide (sz ≤ 512) && isLk n rt && isLk n fs
  | _ => false
def chkG (ok : List Int → Bool) (l : List Int) : Int := if ok l = true then 0 else 1
/-- What is told of a block's numbers: why they are none (0: they are one), themselves. -/
def parseG (ok : List Int → Bool) (z : List Int) (r : Int × List Int) : Int × List Int := if r.1 = 0 then (if ok r.2 = true then r else (1, z)) else (r.1, z)
def magR : List Int := [83, 78, 65, 80]
def sizR : List Nat := [4, 8, 8, 4, 4, 4, 4, 4]
def zR : List Int := [0, 0, 0, 0, 0, 0, 0, 0]
def magS : List Int := [87, 67, 85, 84]
def sizS : List Nat := [8, 4, 4, 4, 4]
def zS : List Int := [0, 0, 0, 0, 0]
def parseR (b : List Int) : Int × List Int := parseG okR zR (Blk.readB magR sizR b)
def parseS (b : List Int) : Int × List Int := parseG okS zS (Blk.readB magS sizS b)
def tup8 (l : List Int) (e : Int) : Int × Int × Int × Int × Int × Int × Int × Int × Int := (rd l 0, rd l 1, rd l 2, rd l 3, rd l 4, rd l 5, rd l 6, rd l 7, e)
def tup5 (l : List Int) (e : Int) : Int × Int × Int × Int × Int × Int := (rd l 0, rd l 1, rd l 2, rd l 3, rd l 4, e)
theorem isPtr_b {x : Int} (h : Nod.isPtr x = true) : 0 ≤ x ∧ x < 4096 := by
  unfold Nod.isPtr at h
  simp only [Bool.or_eq_true, beq_iff_eq, Bool.and_eq_true, decide_eq_true_eq] at h
  omega
theorem okR_fits {nx id pa rt sz kd fr dg : Int} (h : okR [nx, id, pa, rt, sz, kd, fr, dg] = true) : Blk.fitsB sizR [nx, id, pa, rt, sz, kd, fr, dg] = true := by
  simp only [okR, Bool.and_eq_true, Bool.or_eq_true, beq_iff_eq, decide_eq_true_eq, isId, bne_iff_ne] at h
  obtain ⟨⟨⟨⟨⟨⟨⟨h1, h2⟩, h3⟩, h4⟩, h5⟩, h6⟩, h7⟩, h8⟩ := h
  have b1 := isPtr_b h1
  have b2 := isPtr_b h2
  simp only [Blk.fitsB, sizR, Bool.and_eq_true, decide_eq_true_eq, Blk.maxId]
  simp only [show (256 : Int) ^ 4 = 4294967296 by decide, show (256 : Int) ^ 8 = 18446744073709551616 by decide]
  repeat' apply And.intro
  all_goals first | omega | exact decide_eq_true (by omega) | trivial
theorem okS_fits {g n rt sz fs : Int} (h : okS [g, n, rt, sz, fs] = true) : Blk.fitsB sizS [g, n, rt, sz, fs] = true := by
  simp only [okS, Bool.and_eq_true, Bool.or_eq_true, beq_iff_eq, decide_eq_true_eq, isLk] at h
  obtain ⟨⟨⟨⟨⟨⟨⟨h1, h2⟩, h3⟩, h4⟩, h5⟩, h6⟩, h7⟩, h8⟩ := h
  simp only [Blk.fitsB, sizS, Bool.and_eq_true, decide_eq_true_eq, Blk.maxId]
  simp only [show (256 : Int) ^ 4 = 4294967296 by decide, show (256 : Int) ^ 8 = 18446744073709551616 by decide]
  repeat' apply And.intro
  all_goals first | omega | exact decide_eq_true (by omega) | trivial
theorem parseR_blk {nx id pa rt sz kd fr dg : Int} (h : okR [nx, id, pa, rt, sz, kd, fr, dg] = true) : parseR (Blk.blk magR sizR [nx, id, pa, rt, sz, kd, fr, dg]) = (0, [nx, id, pa, rt, sz, kd, fr, dg]) := by
  unfold parseR
  rw [Blk.readB_blk rfl (by decide) (okR_fits h)]
  unfold parseG
  rw [if_pos rfl, if_pos h]
theorem parseS_blk {g n rt sz fs : Int} (h : okS [g, n, rt, sz, fs] = true) : parseS (Blk.blk magS sizS [g, n, rt, sz, fs]) = (0, [g, n, rt, sz, fs]) := by
  unfold parseS
  rw [Blk.readB_blk rfl (by decide) (okS_fits h)]
  unfold parseG
  rw [if_pos rfl, if_pos h]
theorem parseG_ne {ok : List Int → Bool} {z l : List Int} {e : Int} (h : ¬ e = 0) : parseG ok z (e, l) = (e, z) := by unfold parseG; rw [if_neg h]
theorem parseG_ok {ok : List Int → Bool} {z l : List Int} (h : ok l = true) : parseG ok z (0, l) = (0, l) := by unfold parseG; rw [if_pos rfl, if_pos h]
theorem parseG_bad {ok : List Int → Bool} {z l : List Int} (h : ok l = false) : parseG ok z (0, l) = (1, z) := by unfold parseG; rw [if_pos rfl, if_neg (by rw [h]; decide)]
theorem put8 {w : World} {g t : Nat} {c0 c1 c2 c3 c4 c5 c6 c7 : Value} (h : w.heap[g]? = some (.cells #[c0, c1, c2, c3, c4, c5, c6, c7] t (0, 0))) (v0 v1 v2 v3 v4 v5 v6 v7 : Value) :
    ((((((((w.setCell ⟨g, 0, none⟩ v0).setCell ⟨g, 1, none⟩ v1).setCell ⟨g, 2, none⟩ v2).setCell ⟨g, 3, none⟩ v3).setCell ⟨g, 4, none⟩ v4).setCell ⟨g, 5, none⟩ v5).setCell ⟨g, 6, none⟩ v6).setCell ⟨g, 7, none⟩ v7).heap[g]? = some (.cells #[v0, v1, v2, v3, v4, v5, v6, v7] t (0, 0)) := by
  have h0 := blk_put h 0 v0 (cs' := #[v0, c1, c2, c3, c4, c5, c6, c7]) rfl
  have h1 := blk_put h0 1 v1 (cs' := #[v0, v1, c2, c3, c4, c5, c6, c7]) rfl
  have h2 := blk_put h1 2 v2 (cs' := #[v0, v1, v2, c3, c4, c5, c6, c7]) rfl
  have h3 := blk_put h2 3 v3 (cs' := #[v0, v1, v2, v3, c4, c5, c6, c7]) rfl
  have h4 := blk_put h3 4 v4 (cs' := #[v0, v1, v2, v3, v4, c5, c6, c7]) rfl
  have h5 := blk_put h4 5 v5 (cs' := #[v0, v1, v2, v3, v4, v5, c6, c7]) rfl
  have h6 := blk_put h5 6 v6 (cs' := #[v0, v1, v2, v3, v4, v5, v6, c7]) rfl
  have h7 := blk_put h6 7 v7 (cs' := #[v0, v1, v2, v3, v4, v5, v6, v7]) rfl
  exact h7
theorem below8 {w0 w : World} {g : Nat} (h : Below w0.heap.size w0 w) (hg : w0.heap.size ≤ g) (v0 v1 v2 v3 v4 v5 v6 v7 : Value) :
    Below w0.heap.size w0 ((((((((w.setCell ⟨g, 0, none⟩ v0).setCell ⟨g, 1, none⟩ v1).setCell ⟨g, 2, none⟩ v2).setCell ⟨g, 3, none⟩ v3).setCell ⟨g, 4, none⟩ v4).setCell ⟨g, 5, none⟩ v5).setCell ⟨g, 6, none⟩ v6).setCell ⟨g, 7, none⟩ v7) :=
  below_set (below_set (below_set (below_set (below_set (below_set (below_set (below_set h hg) hg) hg) hg) hg) hg) hg) hg
theorem list8 {l : List Int} (h : l.length = 8) : ∃ a0 a1 a2 a3 a4 a5 a6 a7, l = [a0, a1, a2, a3, a4, a5, a6, a7] := by
  match l, h with
  | [a0, a1, a2, a3, a4, a5, a6, a7], _ => exact ⟨a0, a1, a2, a3, a4, a5, a6, a7, rfl⟩
theorem put5 {w : World} {g t : Nat} {c0 c1 c2 c3 c4 : Value} (h : w.heap[g]? = some (.cells #[c0, c1, c2, c3, c4] t (0, 0))) (v0 v1 v2 v3 v4 : Value) :
    (((((w.setCell ⟨g, 0, none⟩ v0).setCell ⟨g, 1, none⟩ v1).setCell ⟨g, 2, none⟩ v2).setCell ⟨g, 3, none⟩ v3).setCell ⟨g, 4, none⟩ v4).heap[g]? = some (.cells #[v0, v1, v2, v3, v4] t (0, 0)) := by
  have h0 := blk_put h 0 v0 (cs' := #[v0, c1, c2, c3, c4]) rfl
  have h1 := blk_put h0 1 v1 (cs' := #[v0, v1, c2, c3, c4]) rfl
  have h2 := blk_put h1 2 v2 (cs' := #[v0, v1, v2, c3, c4]) rfl
  have h3 := blk_put h2 3 v3 (cs' := #[v0, v1, v2, v3, c4]) rfl
  have h4 := blk_put h3 4 v4 (cs' := #[v0, v1, v2, v3, v4]) rfl
  exact h4
theorem below5 {w0 w : World} {g : Nat} (h : Below w0.heap.size w0 w) (hg : w0.heap.size ≤ g) (v0 v1 v2 v3 v4 : Value) :
    Below w0.heap.size w0 (((((w.setCell ⟨g, 0, none⟩ v0).setCell ⟨g, 1, none⟩ v1).setCell ⟨g, 2, none⟩ v2).setCell ⟨g, 3, none⟩ v3).setCell ⟨g, 4, none⟩ v4) :=
  below_set (below_set (below_set (below_set (below_set h hg) hg) hg) hg) hg
theorem list5 {l : List Int} (h : l.length = 5) : ∃ a0 a1 a2 a3 a4, l = [a0, a1, a2, a3, a4] := by
  match l, h with
  | [a0, a1, a2, a3, a4], _ => exact ⟨a0, a1, a2, a3, a4, rfl⟩
theorem at_pin {k : IntKind} {w : World} {ad : Addr} {n : Nat} {xs : List Int} (h : (Kd.int k).C w (some ad) n xs) (i : Nat) (hi : i < n) : w.cell? (ad.add i) = some (.int k (rd xs (i : Int))) := by
  obtain ⟨ad', e, hc⟩ := Kd.at_int h (i : Int) (by omega) (by omega)
  injection e with e
  subst e
  exact hc
end Go.Proofs.Ytaaemamcdhebhaa.Rec
