/- Nodes: a level and eight pointers, over lists alone; and an array's index. Nothing here names the program. -/
import Derived.Test.YtaaemamcdhebhaaBlk
import Derived.Test.YtaaemamcdhebhaaCop
namespace Go.Proofs.Ytaaemamcdhebhaa.Nod
open Go.RowKit Go.Proofs.YtaaemamcdhebhaaW.PrintWords
def isPtr (x : Int) : Bool := x == 0 || (decide (2 ≤ x) && decide (x < 4096))
def anyNZ (l : List Int) : Bool := l.any (fun x => x != 0)
def okNode (lv : Int) (ps : List Int) : Bool := decide (0 ≤ lv) && decide (lv ≤ 2) && ps.all isPtr && anyNZ ps
/-- Why a node is none: 1; 0: it is one. -/
def chk (lv : Int) (ps : List Int) : Int := if okNode lv ps = true then 0 else 1
theorem chk0 {lv : Int} {ps : List Int} (h : okNode lv ps = true) : chk lv ps = 0 := by unfold chk; rw [if_pos h]
theorem chk1 {lv : Int} {ps : List Int} (h : okNode lv ps = false) : chk lv ps = 1 := by unfold chk; rw [if_neg (by rw [h]; decide)]
theorem anyNZ_snoc (l : List Int) (x : Int) : anyNZ (l ++ [x]) = (anyNZ l || x != 0) := by unfold anyNZ; simp
theorem rd_take (ps : List Int) (k : Nat) (h : k < ps.length) : ps.take (k + 1) = ps.take k ++ [rd ps (k : Int)] := by
  rw [List.take_succ_eq_append_getElem h]; unfold rd; rw [Int.toNat_natCast, List.getD_eq_getElem?_getD, List.getElem?_eq_getElem h]; rfl
/-- An index into an array's value. -/
theorem run_index_arr {P : Program} {t e : TypeId} {n : Nat} {i : TypeInfo} (hu : P.underlying t = some (.array n e)) (he : P.underlying e = some (.int .i64)) (hi : P.info? e = some i) (hsz : i.size = 1)
    (cs : Array Value) (k : Nat) (hk : k < n) (x : Int) (hx : cs[k]? = some (.int .i64 x)) (W : World) : (Instr.index t (.agg cs) (.int .i64 (k : Int))).run P W = .ok (.int .i64 x) W := by
  simp [Instr.index, asIntOf, run_underlying hu, Go.sizeOf, typeInfo, hi, hsz, hk, part, isAgg, run_underlying he, hx]
def magic : List Int := [78, 79, 68, 69]
def sizes : List Nat := [4, 4, 4, 4, 4, 4, 4, 4, 4]
def zeros9 : List Int := [0, 0, 0, 0, 0, 0, 0, 0, 0]
def parseOf (r : Int × List Int) : Int × List Int := if r.1 = 0 then (if okNode (rd r.2 0) (r.2.drop 1) = true then (0, r.2) else (1, zeros9)) else (r.1, zeros9)
/-- The node that a block is: why it is none (0: it is one), its level and pointers. -/
def parse (b : List Int) : Int × List Int := parseOf (Blk.readB magic sizes b)
theorem parseOf_ne {e : Int} {l : List Int} (h : ¬ e = 0) : parseOf (e, l) = (e, zeros9) := by unfold parseOf; rw [if_neg h]
theorem parseOf_ok {l : List Int} (h : okNode (rd l 0) (l.drop 1) = true) : parseOf (0, l) = (0, l) := by unfold parseOf; rw [if_pos rfl, if_pos h]
theorem parseOf_bad {l : List Int} (h : okNode (rd l 0) (l.drop 1) = false) : parseOf (0, l) = (1, zeros9) := by unfold parseOf; rw [if_pos rfl, if_neg (by rw [h]; decide)]
theorem readB_len {m : List Int} {ss : List Nat} {b : List Int} (h : (Blk.readB m ss b).1 = 0) : (Blk.readB m ss b).2.length = ss.length := by
  unfold Blk.readB at h ⊢
  split at h
  · cases h
  · split at h
    · cases h
    · split at h
      · cases h
      · split at h
        · rename_i h1 h2 h3 h4
          rw [if_neg h1, if_neg h2, if_neg h3, if_pos h4, Blk.numsB_len]
        · cases h
theorem list9 {l : List Int} (h : l.length = 9) : ∃ a0 a1 a2 a3 a4 a5 a6 a7 a8, l = [a0, a1, a2, a3, a4, a5, a6, a7, a8] := by
  match l, h with
  | [a0, a1, a2, a3, a4, a5, a6, a7, a8], _ => exact ⟨a0, a1, a2, a3, a4, a5, a6, a7, a8, rfl⟩
theorem put9 {w : World} {g t : Nat} {c0 c1 c2 c3 c4 c5 c6 c7 c8 : Value} (h : w.heap[g]? = some (.cells #[c0, c1, c2, c3, c4, c5, c6, c7, c8] t (0, 0))) (v0 v1 v2 v3 v4 v5 v6 v7 v8 : Value) :
    (((((((((w.setCell ⟨g, 0, none⟩ v0).setCell ⟨g, 1, none⟩ v1).setCell ⟨g, 2, none⟩ v2).setCell ⟨g, 3, none⟩ v3).setCell ⟨g, 4, none⟩ v4).setCell ⟨g, 5, none⟩ v5).setCell ⟨g, 6, none⟩ v6).setCell ⟨g, 7, none⟩ v7).setCell ⟨g, 8, none⟩ v8).heap[g]? = some (.cells #[v0, v1, v2, v3, v4, v5, v6, v7, v8] t (0, 0)) := by
  have h0 := blk_put h 0 v0 (cs' := #[v0, c1, c2, c3, c4, c5, c6, c7, c8]) rfl
  have h1 := blk_put h0 1 v1 (cs' := #[v0, v1, c2, c3, c4, c5, c6, c7, c8]) rfl
  have h2 := blk_put h1 2 v2 (cs' := #[v0, v1, v2, c3, c4, c5, c6, c7, c8]) rfl
  have h3 := blk_put h2 3 v3 (cs' := #[v0, v1, v2, v3, c4, c5, c6, c7, c8]) rfl
  have h4 := blk_put h3 4 v4 (cs' := #[v0, v1, v2, v3, v4, c5, c6, c7, c8]) rfl
  have h5 := blk_put h4 5 v5 (cs' := #[v0, v1, v2, v3, v4, v5, c6, c7, c8]) rfl
  have h6 := blk_put h5 6 v6 (cs' := #[v0, v1, v2, v3, v4, v5, v6, c7, c8]) rfl
  have h7 := blk_put h6 7 v7 (cs' := #[v0, v1, v2, v3, v4, v5, v6, v7, c8]) rfl
  have h8 := blk_put h7 8 v8 (cs' := #[v0, v1, v2, v3, v4, v5, v6, v7, v8]) rfl
  exact h8
theorem below9 {w0 w : World} {g : Nat} (h : Below w0.heap.size w0 w) (hg : w0.heap.size ≤ g) (v0 v1 v2 v3 v4 v5 v6 v7 v8 : Value) :
    Below w0.heap.size w0 (((((((((w.setCell ⟨g, 0, none⟩ v0).setCell ⟨g, 1, none⟩ v1).setCell ⟨g, 2, none⟩ v2).setCell ⟨g, 3, none⟩ v3).setCell ⟨g, 4, none⟩ v4).setCell ⟨g, 5, none⟩ v5).setCell ⟨g, 6, none⟩ v6).setCell ⟨g, 7, none⟩ v7).setCell ⟨g, 8, none⟩ v8) :=
  below_set (below_set (below_set (below_set (below_set (below_set (below_set (below_set (below_set h hg) hg) hg) hg) hg) hg) hg) hg) hg
end Go.Proofs.Ytaaemamcdhebhaa.Nod
