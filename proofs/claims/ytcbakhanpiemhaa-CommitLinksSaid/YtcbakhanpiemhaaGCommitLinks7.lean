/- CommitLinks: a calculus over an abstract machine that stands beside the model, and contracts of functions by it (part 7).
Conditions: what each theorem says of its arguments. -/
import Derived.Test.YtcbakhanpiemhaaGCommitLinks6
section
set_option linter.unusedVariables false
set_option linter.unusedSectionVars false
set_option maxRecDepth 100000
open Go Go.Am Go.RowKit
namespace Go.Proofs.Ytcbakhanpiemhaa
open Go.Proofs.Try

def okR (id k : Nat) : R8 := ⟨0, ((id + k : Nat) : Int), ((id + k + 1 : Nat) : Int), 0, (k : Int), 0, 0, 0⟩
def okL (id n : Nat) : List R8 := (List.range n).map (okR id)
def bkL (n : Nat) : List Int := (List.range n).map fun k => ((40 + k : Nat) : Int)
def fkL (n : Nat) : List Int := (List.range n).map fun k => ((2 + 3 * k : Nat) : Int)
theorem okL_len (id n : Nat) : (okL id n).length = n := by unfold okL; rw [List.length_map, List.length_range]
theorem bkL_len (n : Nat) : (bkL n).length = n := by unfold bkL; rw [List.length_map, List.length_range]
theorem fkL_len (n : Nat) : (fkL n).length = n := by unfold fkL; rw [List.length_map, List.length_range]
theorem okL_succ (id n : Nat) : okL id (n + 1) = okL id n ++ [okR id n] := by unfold okL; rw [List.range_succ, List.map_append]; rfl
theorem bkL_succ (n : Nat) : bkL (n + 1) = bkL n ++ [((40 + n : Nat) : Int)] := by unfold bkL; rw [List.range_succ, List.map_append]; rfl
theorem fkL_succ (n : Nat) : fkL (n + 1) = fkL n ++ [((2 + 3 * n : Nat) : Int)] := by unfold fkL; rw [List.range_succ, List.map_append]; rfl
theorem okL_get (id : Nat) {n k : Nat} (h : k < n) : (okL id n)[k]? = some (okR id k) := by unfold okL; rw [List.getElem?_map, List.getElem?_range h]; rfl
theorem fkL_getD {n k : Nat} (h : k < n) : (fkL n).getD k 0 = ((2 + 3 * k : Nat) : Int) := by unfold fkL; rw [List.getD_eq_getElem?_getD, List.getElem?_map, List.getElem?_range h]; rfl
theorem okL_fld {id n k j : Nat} (hk : k < n) (hj : j < 8) : apart prog 3 (recCs (okL id n)) (k * 8 + j) = some ((rc8 (okR id k)).getD j undef) := by
  have hl : k < (okL id n).length := by rw [okL_len]; exact hk
  have e : (okL id n)[k] = okR id k := Option.some.inj (by rw [← List.getElem?_eq_getElem hl]; exact okL_get id hk)
  rw [recCs_fld hl hj, e]
theorem rec_ok8 {id pa sz : Nat} (h1 : 1 ≤ id) (h2 : id ≤ 90000) (hp : pa ≤ 90000) (hne : pa ≠ id) (hs : sz ≤ 512) : r8Ok ⟨0, (id : Int), (pa : Int), 0, (sz : Int), 0, 0, 0⟩ = true := by
  show recOk 0 (id : Int) (pa : Int) 0 (sz : Int) 0 0 0 = true
  have hi : idB (id : Int) = true := by unfold idB; rw [decide_eq_false (show ¬ ((id : Int) < 1) by omega), decide_eq_false (show ¬ ((id : Int) > 4611686018427387903) by omega)]; rfl
  have his : recIs 0 (id : Int) (pa : Int) 0 (sz : Int) = true := by
    unfold recIs parB
    rw [hi, (inB_iff _ _ _).2 (by omega), show ptrB 0 = true from rfl, bne_iff_ne.2 (show (pa : Int) ≠ (id : Int) by omega)]
    by_cases h0 : pa = 0
    · subst h0; rfl
    · have hpi : idB (pa : Int) = true := by unfold idB; rw [decide_eq_false (show ¬ ((pa : Int) < 1) by omega), decide_eq_false (show ¬ ((pa : Int) > 4611686018427387903) by omega)]; rfl
      rw [hpi, Bool.or_true]; rfl
  unfold recOk
  rw [if_pos rfl, his]; rfl
theorem io_fld {acs : List Value} {i : Nat} {a b c : Value} (h : (acs.drop (i * 3)).take 3 = [a, b, c]) : apart prog 3 acs (i * 3 + 1) = some b ∧ apart prog 23 acs (i * 3 + 2) = some c := by
  have g : ∀ k, k < 3 → acs[i * 3 + k]? = [a, b, c][k]? := fun k hk => by
    rw [← h, List.getElem?_take, if_pos hk, List.getElem?_drop]
  constructor
  · show nth acs (i * 3 + 1) = _
    rw [nth_eq, g 1 (by decide)]; rfl
  · show nth acs (i * 3 + 2) = _
    rw [nth_eq, g 2 (by decide)]; rfl
theorem links_may {id n : Nat} {w : Bool} (hn : 1 ≤ n) (hn9 : n ≤ 9) (h1 : 1 ≤ id) (h2 : id ≤ 1000) : MayOk (okL id n) (bkL n) n ⟨0, 5000, 0, 0, 0, 0, 0, 0⟩ w (fkL (n + 1)) := by
  refine ⟨by rw [okL_len, bkL_len], by rw [okL_len]; exact Nat.le_refl _, fun r hr => ?_, fun _ => rec_ok8 (id := 5000) (pa := 0) (sz := 0) (by decide) (by decide) (by decide) (by decide) (by decide), fun a ha => ?_, fun a ha => ?_, fun i hi => ?_, by rw [okL_len]; omega, by rw [fkL_len]; omega⟩
  · unfold okL at hr
    obtain ⟨k, hk, rfl⟩ := List.mem_map.1 hr
    have hk := List.mem_range.1 hk
    exact rec_ok8 (id := id + k) (pa := id + k + 1) (sz := k) (by omega) (by omega) (by omega) (by omega) (by omega)
  · unfold bkL at ha
    obtain ⟨k, hk, rfl⟩ := List.mem_map.1 ha
    have hk := List.mem_range.1 hk
    unfold placeB
    rw [decide_eq_true (by omega), decide_eq_true (by omega)]; rfl
  · unfold fkL at ha
    obtain ⟨k, hk, rfl⟩ := List.mem_map.1 ha
    have hk := List.mem_range.1 hk
    unfold placeB
    rw [decide_eq_true (by omega), decide_eq_true (by omega)]; rfl
  · rw [fkL_len] at hi
    rw [fkL_getD (by omega), fkL_getD hi]
    omega
theorem links_A {id n : Nat} {w : Bool} {i : Nat} (hn : 1 ≤ n) (hi : i < (anewL (okL id n) n w ⟨0, 5000, 0, 0, 0, 0, 0, 0⟩).length) : (anewL (okL id n) n w ⟨0, 5000, 0, 0, 0, 0, 0, 0⟩).getD i ⟨0, 0, 0, 0, 0, 0, 0, 0⟩ = if i < n - 1 then okR id (n - 2 - i) else ⟨0, 5000, 0, 0, 0, 0, 0, 0⟩ := by
  unfold anewL at hi ⊢
  have hl : ((okL id n).take (n - 1)).reverse.length = n - 1 := by rw [List.length_reverse, List.length_take, okL_len]; omega
  by_cases h : i < n - 1
  · rw [if_pos h, List.getD_eq_getElem?_getD, List.getElem?_append_left (by omega), List.getElem?_reverse (by rw [List.length_take, okL_len]; omega), List.length_take, okL_len, List.getElem?_take, if_pos (by omega), show min (n - 1) n - 1 - i = n - 2 - i by omega, okL_get id (by omega)]; rfl
  · rw [if_neg h]
    rw [List.length_append, hl] at hi
    cases w with
    | false => simp at hi; omega
    | true =>
      rw [if_pos rfl, List.length_singleton] at hi
      rw [if_pos rfl, List.getD_eq_getElem?_getD, List.getElem?_append_right (by omega), hl, show i - (n - 1) = 0 by omega]; rfl
theorem links_len {id n : Nat} {w : Bool} (hn : 1 ≤ n) : (anewL (okL id n) n w ⟨0, 5000, 0, 0, 0, 0, 0, 0⟩).length = n - 1 + (if w then 1 else 0) := by
  unfold anewL
  rw [List.length_append, List.length_reverse, List.length_take, okL_len]
  cases w
  · show min (n - 1) n + 0 = n - 1 + 0; omega
  · show min (n - 1) n + 1 = n - 1 + 1; omega
set_option maxHeartbeats 32000000 in
theorem commitLinks_walk {h : Heap} {n_ id_ : Int} {w : Bool} : RunF prog 9 [.int .i64 n_, .int .i64 id_, .bool w] h fun v _ => v = .bool true := by
  refine RunF.walk func9 rfl rfl ?_
  obtain ⟨hn0, hn1⟩ := modU n_ 9 (by decide)
  obtain ⟨n, hn⟩ := Int.eq_ofNat_of_zero_le hn0
  obtain ⟨hi0, hi1⟩ := modU id_ 1000 (by decide)
  obtain ⟨id, hid⟩ := Int.eq_ofNat_of_zero_le hi0
  refine RunC.seq (RunC.region (RunO.all rfl ?_))
  refine RunC.seq (RunC.region (RunO.part 2 rfl ?_))
  rw [fwu64']
  refine RunO.part 1 rfl ?_
  rw [hn]
  refine RunO.part 1 rfl ?_
  rw [fw64 (x := (n : Int)) (by omega) (by omega)]
  refine RunO.part 1 rfl ?_
  rw [fw64 (x := 1 + (n : Int)) (by omega) (by omega), show 1 + (n : Int) = ((1 + n : Nat) : Int) by omega]
  refine RunO.part 2 rfl ?_
  rw [fwu64']
  refine RunO.part 1 rfl ?_
  rw [hid]
  refine RunO.part 1 rfl ?_
  rw [fw64 (x := (id : Int)) (by omega) (by omega)]
  refine RunO.part 1 rfl ?_
  rw [fw64 (x := 1 + (id : Int)) (by omega) (by omega), show 1 + (id : Int) = ((1 + id : Nat) : Int) by omega]
  refine RunO.all rfl ?_
  have hN1 : 1 ≤ 1 + n := by omega
  have hN9 : 1 + n ≤ 9 := by omega
  have hI1 : 1 ≤ 1 + id := by omega
  have hI2 : 1 + id ≤ 1000 := by omega
  generalize 1 + n = n at *
  generalize 1 + id = id at *
  clear hn0 hn1 hi0 hi1 hn hid
  refine RunC.seq (RunC.region (RunO.all rfl ?_))
  refine RunC.seq (RunC.region (RunO.all rfl ?_))
  refine RunC.seq (RunC.seq (RunC.region (RunO.all rfl ?_)))
  refine RunC.block ?_
  refine RunC.loop (fun d E h' => ∃ (i : Nat) (ov bv : Value), i + d = n ∧ Fr no h h' ∧ Gr h.next h' ov 8 (okL id i).length (recCs (okL id i)) ∧ Gr h.next h' bv 1 (bkL i).length (is (bkL i)) ∧ (∀ b, At ov b → ¬ At bv b) ∧ Le ((upd (upd (upd (upd (upd (upd (upd E0 0 (.int .i64 (n : Int))) 1 (.int .i64 (id : Int))) 2 (.bool w)) 7 (ov)) 8 (bv)) 9 (.slice none 0 0)) 10 (.int .i64 (i : Int)))) E) ?st1 (k := n) ?ini1
  case ini1 => exact ⟨0, .slice none 0 0, .slice none 0 0, by omega, Fr.refl _ _, (Row.nil _ _ _).gr, (Row.nil _ _ _).gr, (fun b ⟨_, _, e⟩ => by cases e), Le.cons rfl (Le.cons rfl (Le.cons rfl (Le.cons rfl (Le.cons rfl (Le.cons rfl (Le.cons rfl (Le.nil _)))))))⟩
  rintro d E g1 ⟨i, ov, bv, hi, fg, go, gb, hob, hE⟩
  refine RunC.le hE ?_
  clear hE
  refine RunC.seq (RunC.seq (RunC.region (RunO.all rfl ?_)))
  refine RunC.cond rfl (fun hlt => RunC.skip ?go1) (fun hge => RunC.exit ?ex1)
  case go1 =>
    have hlt := of_decide_eq_true hlt
    have hlt : i < n := by omega
    have hol := okL_len id i
    have hbl := bkL_len i
    refine RunC.seq (RunC.block ?_)
    refine RunC.region (RunO.part 4 rfl ?_)
    rw [fw64 (x := (id : Int) + (i : Int)) (by omega) (by omega), show (id : Int) + (i : Int) = ((id + i : Nat) : Int) by omega]
    refine RunO.part 3 rfl ?_
    rw [fw64 (x := (id : Int) + (i : Int)) (by omega) (by omega), show (id : Int) + (i : Int) = ((id + i : Nat) : Int) by omega]
    refine RunO.part 1 rfl ?_
    rw [fw64 (x := ((id + i : Nat) : Int) + 1) (by omega) (by omega), show ((id + i : Nat) : Int) + 1 = ((id + i + 1 : Nat) : Int) by omega]
    refine RunO.part 3 (h1 := g1.push ⟨rc8 ⟨0, ((id + i : Nat) : Int), ((id + i + 1 : Nat) : Int), 0, (i : Int), 0, 0, 0⟩, true⟩) rfl ?_
    have ol := Ow.push g1 (rc8 ⟨0, ((id + i : Nat) : Int), ((id + i + 1 : Nat) : Int), 0, (i : Int), 0, 0, 0⟩)
    have f2 : Fr no g1 (g1.push ⟨rc8 ⟨0, ((id + i : Nat) : Int), ((id + i + 1 : Nat) : Int), 0, (i : Int), 0, 0, 0⟩, true⟩) := Fr.push _ _ _
    have go2 := go.fr0 f2
    have gb2 := gb.fr0 f2
    have hg2n := f2.next
    generalize g1.push ⟨rc8 ⟨0, ((id + i : Nat) : Int), ((id + i + 1 : Nat) : Int), 0, (i : Int), 0, 0, 0⟩, true⟩ = g2 at *
    generalize g1.next = lb at *
    refine RunO.appendG (s := 8) (j := 1) rfl rfl rfl rfl rfl rfl rfl rfl (by decide) go2 ol.all rfl (Nat.le_refl 1) rfl (by show 2 * (_ + 1) * 64 ≤ _; omega) (by omega) ?_
    intro ov2 g3 row3 f3
    have gb3 := gb2.frm f3 (fun b a a2 => hob b a2 a)
    have F3 := (fg.same f2).trans f3 (fun b a => .inr (go2.at a).1)
    have hob3 : ∀ b, At ov2 b → ¬ At bv b := fun b a a2 => by have := (row3.at a).1; have := (gb2.at a2).2; omega
    refine RunO.part 3 rfl ?_
    rw [fw64 (x := 40 + (i : Int)) (by omega) (by omega), show 40 + (i : Int) = ((40 + i : Nat) : Int) by omega]
    refine RunO.part 1 (h1 := g3.push ⟨[.int .i64 ((40 + i : Nat) : Int)], true⟩) rfl ?_
    have ol4 := Ow.push g3 [.int .i64 ((40 + i : Nat) : Int)]
    have f4 : Fr no g3 (g3.push ⟨[.int .i64 ((40 + i : Nat) : Int)], true⟩) := Fr.push _ _ _
    have go4 := row3.gr.fr0 f4
    have gb4 := gb3.fr0 f4
    have hn4 := f4.next
    generalize g3.push ⟨[.int .i64 ((40 + i : Nat) : Int)], true⟩ = g4 at *
    refine RunO.appendG (s := 1) (j := 1) rfl rfl rfl rfl rfl rfl rfl rfl (by decide) gb4 ol4.all rfl (Nat.le_refl 1) rfl (by show 2 * (_ + 1) * 8 ≤ _; omega) (by omega) ?_
    intro bv2 g5 row5 f5
    have go5 := go4.frm f5 (fun b a a2 => hob3 b a a2)
    have F5 := (F3.same f4).trans f5 (fun b a => .inr (gb4.at a).1)
    refine RunO.all rfl ?_
    refine RunC.region (RunO.all rfl ?_)
    refine ⟨d - 1, by omega, i + 1, ov2, bv2, by omega, F5, ?_, ?_, fun b a a2 => by have := (go4.at a).2; have := (row5.at a2).1; omega, Le.cons (inc64 (by omega)) (Le.cons rfl (Le.cons rfl (Le.cons rfl (Le.cons rfl (Le.cons rfl (Le.cons rfl (Le.nil _)))))))⟩
    · rw [okL_succ, List.length_append, recCs_app]
      exact go5.lo (fg.same f2).next
    · rw [bkL_succ, List.length_append, show is (bkL i ++ [((40 + i : Nat) : Int)]) = is (bkL i) ++ [.int .i64 ((40 + i : Nat) : Int)] from List.map_append]
      exact row5.gr.lo (F3.same f4).next
  have hge := of_decide_eq_false hge
  obtain rfl : i = n := by omega
  have so := go.sl (by rw [okL_len]; omega)
  have sb := gb.sl (by rw [bkL_len]; omega)
  have so0 := so
  have sb0 := sb
  obtain ⟨oA, oc, rfl, _, _⟩ := so.form
  obtain ⟨bA, bc, rfl, _, _⟩ := sb.form
  rw [okL_len, bkL_len]
  rw [okL_len] at so0
  rw [bkL_len] at sb0
  -- free
  refine RunC.seq (RunC.seq (RunC.region (RunO.all rfl ?_)))
  refine RunC.block ?_
  refine RunC.loop (fun d E h' => ∃ (k : Nat) (fv : Value), k + d = i + 1 ∧ Fr no g1 h' ∧ Row g1.next h' fv 1 (fkL k).length (is (fkL k)) ∧ Le ((upd (upd (upd (upd (upd (upd E0 0 (.int .i64 (i : Int))) 2 (.bool w)) 7 (.slice oA i oc)) 8 (.slice bA i bc)) 9 (fv)) 11 (.int .i64 (k : Int)))) E) ?st2 (k := i + 1) ?ini2
  case ini2 => exact ⟨0, .slice none 0 0, by omega, Fr.refl _ _, Row.nil _ _ _, Le.cons rfl (Le.cons rfl (Le.cons rfl (Le.cons rfl (Le.cons rfl (Le.cons rfl (Le.nil _))))))⟩
  rintro d E g2 ⟨k, fv, hk, fg2, row, hE⟩
  refine RunC.le hE ?_
  clear hE
  refine RunC.seq (RunC.seq (RunC.region (RunO.part 3 rfl ?_)))
  rw [fw64 (x := (i : Int) + 1) (by omega) (by omega)]
  refine RunO.all rfl ?_
  refine RunC.cond rfl (fun hlt => RunC.skip ?go2) (fun hge => RunC.exit ?ex2)
  case go2 =>
    have hlt := of_decide_eq_true hlt
    have hlt : k < i + 1 := by omega
    have hfl := fkL_len k
    refine RunC.seq (RunC.block ?_)
    refine RunC.region (RunO.part 3 rfl ?_)
    rw [fw64 (x := 3 * (k : Int)) (by omega) (by omega)]
    refine RunO.part 1 rfl ?_
    rw [fw64 (x := 2 + 3 * (k : Int)) (by omega) (by omega), show 2 + 3 * (k : Int) = ((2 + 3 * k : Nat) : Int) by omega]
    refine RunO.part 1 (h1 := g2.push ⟨[.int .i64 ((2 + 3 * k : Nat) : Int)], true⟩) rfl ?_
    have ol := Ow.push g2 [.int .i64 ((2 + 3 * k : Nat) : Int)]
    have f3 : Fr no g2 (g2.push ⟨[.int .i64 ((2 + 3 * k : Nat) : Int)], true⟩) := Fr.push _ _ _
    have row3 := row.gr.fr0 f3
    generalize g2.push ⟨[.int .i64 ((2 + 3 * k : Nat) : Int)], true⟩ = g3 at *
    refine RunO.appendG (s := 1) (j := 1) rfl rfl rfl rfl rfl rfl rfl rfl (by decide) row3 ol.all rfl (Nat.le_refl 1) rfl (by show 2 * (_ + 1) * 8 ≤ _; omega) (by omega) ?_
    intro fv2 g4 row4 f4
    refine RunO.all rfl ?_
    refine RunC.region (RunO.all rfl ?_)
    refine ⟨d - 1, by omega, k + 1, fv2, by omega, (fg2.same f3).trans f4 (fun b a => .inr (row3.at a).1), ?_, Le.cons (inc64 (by omega)) (Le.cons rfl (Le.cons rfl (Le.cons rfl (Le.cons rfl (Le.cons rfl (Le.nil _))))))⟩
    rw [fkL_succ, List.length_append, show is (fkL k ++ [((2 + 3 * k : Nat) : Int)]) = is (fkL k) ++ [.int .i64 ((2 + 3 * k : Nat) : Int)] from List.map_append]
    exact Row.lo row4 (fg2.same f3).next
  have hge := of_decide_eq_false hge
  obtain rfl : k = i + 1 := by omega
  have sf := row.sl (by rw [fkL_len]; omega)
  have sf0 := sf
  obtain ⟨fA, fc, rfl, _, _⟩ := sf.form
  rw [fkL_len]
  rw [fkL_len] at sf0
  have hmay := links_may (w := w) hN1 hN9 hI1 hI2
  have hAl := links_len (id := id) (w := w) hN1
  have hAg := fun k hk => links_A (id := id) (w := w) (i := k) hN1 hk
  have hw1 : (if w then 1 else 0) ≤ 1 := by cases w <;> decide
  refine RunC.seq (RunC.region (RunO.part 6 rfl ?_))
  have so2 := so0.fr0 fg2
  have sb2 := sb0.fr0 fg2
  have hat0 : at0L (bkL i) i = 0 := by unfold at0L; rw [bkL_len, if_neg (by omega)]
  have hrec := commitRecords_ok (h := g2) (ov := .slice oA i oc) (bv := .slice bA i bc) (fv := .slice fA (i + 1) fc) (n := i) (x := ⟨0, 5000, 0, 0, 0, 0, 0, 0⟩) (w := w) (by rw [okL_len]; exact so2) (by rw [bkL_len]; exact sb2) (by rw [fkL_len]; exact sf0) hmay (by rw [hAl, fkL_len]; split <;> omega)
  rw [hat0] at hrec
  refine RunO.callD hrec rfl rfl rfl ?_
  have hok := fun k hk hf => anew_ok hmay (i := k) hk hf
  rw [hat0] at hok
  generalize hAe : anewL (okL id i) i w ⟨0, 5000, 0, 0, 0, 0, 0, 0⟩ = A at *
  rintro _ g3 ⟨f3, lv, rv, rfl, iow, _⟩
  obtain ⟨acs, row3, kk⟩ := iow
  have hwl := wrA_len A (fkL (i + 1)) 0 A.length
  rw [hwl] at row3
  have hAi : A.length ≤ i := by rw [hAl]; split <;> omega
  have sw := row3.sl (by omega)
  have sw0 := sw
  obtain ⟨lA, lc, rfl, _, _⟩ := sw.form
  refine RunO.all rfl ?_
  refine RunC.seq (RunC.seq (RunC.region (RunO.part 6 rfl ?_)))
  refine RunO.part 1 rfl ?_
  rw [decide_eq_false (show ¬ ((A.length : Int) > (i : Int)) by omega)]
  refine RunO.all rfl (RunC.cond rfl (fun g => by cases g) (fun _ => RunC.skip ?_))
  refine RunC.seq (RunC.region (RunO.all rfl ?_))
  refine RunC.seq (RunC.seq (RunC.region (RunO.all rfl ?_)))
  refine RunC.block ?_
  refine RunC.loop (fun d E h' => ∃ k : Nat, k + d = A.length ∧ Fr no g3 h' ∧ Le ((upd (upd (upd (upd (upd (upd (upd (upd E0 0 (.int .i64 (i : Int))) 2 (.bool w)) 7 (.slice oA i oc)) 9 (.slice fA (i + 1) fc)) 12 (.slice lA A.length lc)) 13 (.int .i64 (nxA 0 (fkL (i + 1)) A.length))) 16 (.int .i64 (nxA 0 (fkL (i + 1)) k))) 17 (.int .i64 (k : Int)))) E) ?st3 (k := A.length) ?ini3
  case ini3 => exact ⟨0, by omega, Fr.refl _ _, Le.cons rfl (Le.cons rfl (Le.cons rfl (Le.cons rfl (Le.cons rfl (Le.cons rfl (Le.cons rfl (Le.cons rfl (Le.nil _))))))))⟩
  rintro d E g4 ⟨k, hk, fg4, hE⟩
  refine RunC.le hE ?_
  clear hE
  refine RunC.seq (RunC.seq (RunC.region (RunO.all rfl ?_)))
  refine RunC.cond rfl (fun hlt => RunC.skip ?go3) (fun hge => RunC.exit ?ex3)
  case ex3 =>
    have hge := of_decide_eq_false hge
    obtain rfl : k = A.length := by omega
    refine RunC.seq (RunC.region (RunO.part 2 rfl ?_))
    rw [fw64 (x := (i : Int) - 1) (by omega) (by omega)]
    refine RunO.all rfl ?_
    generalize nxA 0 (fkL (i + 1)) A.length = bh at *
    refine RunC.seqc (fun E' h' => g4 = h' ∧ Le (upd (upd (upd (upd E0 12 (.slice lA A.length lc)) 13 (.int .i64 bh)) 16 (.int .i64 bh)) 20 (.int .i64 (A.length : Int))) E') ?mo ?fin
    case mo =>
      refine RunC.seq (RunC.region (RunO.all rfl ?_))
      cases w with
      | true =>
        refine RunC.cond rfl (fun _ => ?_) (fun g => by cases g)
        have hAl : A.length = i - 1 + 1 := hAl
        refine RunC.region (RunO.part 2 rfl ?_)
        rw [fw64 (x := (i : Int) - 1 + 1) (by omega) (by omega), show (i : Int) - 1 + 1 = (A.length : Int) by omega]
        exact RunO.all rfl ⟨rfl, Le.cons rfl (Le.cons rfl (Le.cons rfl (Le.cons rfl (Le.nil _))))⟩
      | false =>
        refine RunC.cond rfl (fun g => by cases g) (fun _ => RunC.skip ?_)
        have hAl : A.length = i - 1 + 0 := hAl
        rw [show (i : Int) - 1 = (A.length : Int) by omega]
        exact ⟨rfl, Le.cons rfl (Le.cons rfl (Le.cons rfl (Le.cons rfl (Le.nil _))))⟩
    rintro E' _ ⟨rfl, hE⟩
    refine RunC.le hE ?_
    clear hE
    refine RunC.seq (RunC.region (RunO.part 3 rfl ?_))
    refine RunO.part 1 rfl ?_
    rw [beq_self_eq_true (A.length : Int)]
    refine RunO.part 4 rfl ?_
    rw [beq_self_eq_true bh]
    refine RunO.part 2 rfl ?_
    refine RunO.callDG rfl wakes15_ok rfl rfl rfl ?_
    rintro _ h9 ⟨rfl, f9⟩
    exact RunO.all rfl (RunC.ret ⟨_, rfl, rfl⟩)
  have hlt := of_decide_eq_true hlt
  have hlt : k < A.length := by omega
  have hAk := hAg k hlt
  have hokk := hok k hlt (by rw [fkL_len]; omega)
  have hgw : (wrA A (fkL (i + 1)) 0 A.length)[k]? = some (ioA A (fkL (i + 1)) 0 k) := by unfold wrA; rw [List.getElem?_map, List.getElem?_range hlt]; rfl
  obtain ⟨dv, ed, sdv, _, _⟩ := kk k _ hgw
  have hfk := fkL_getD (n := i + 1) (k := k) (by omega)
  have hnx : nxA 0 (fkL (i + 1)) (k + 1) = ((2 + 3 * k : Nat) : Int) := by unfold nxA; rw [if_neg (by omega), Nat.add_sub_cancel, hfk]
  have ed : (acs.drop (k * 3)).take 3 = [.int .i64 1, .int .i64 ((2 + 3 * k : Nat) : Int), dv] := by rw [← hfk]; exact ed
  have sdv : Sl g3 dv 1 (r8B (nx0 (A.getD k ⟨0, 0, 0, 0, 0, 0, 0, 0⟩) (nxA 0 (fkL (i + 1)) k))).length (us (r8B (nx0 (A.getD k ⟨0, 0, 0, 0, 0, 0, 0, 0⟩) (nxA 0 (fkL (i + 1)) k)))) := sdv
  obtain ⟨p1, p2⟩ := io_fld ed
  have hrl := r8B_len (nx0 (A.getD k ⟨0, 0, 0, 0, 0, 0, 0, 0⟩) (nxA 0 (fkL (i + 1)) k))
  have hrb := r8B_byt (nx0 (A.getD k ⟨0, 0, 0, 0, 0, 0, 0, 0⟩) (nxA 0 (fkL (i + 1)) k))
  obtain ⟨rb1, rb2⟩ := r8_back hokk
  generalize hbe : nxA 0 (fkL (i + 1)) k = be at *
  rw [hAk] at hrl hrb rb1 rb2 sdv
  generalize hR : (if k < i - 1 then okR id (i - 2 - k) else (⟨0, 5000, 0, 0, 0, 0, 0, 0⟩ : R8)) = R at *
  have sdv4 := sdv.fr0 fg4
  obtain ⟨dA, dc, rfl, hdc, hdA⟩ := sdv4.form
  refine RunC.seq (RunC.block ?_)
  refine RunC.seq (RunC.region (RunO.part 2 rfl ?_))
  have sw4 := sw0.fr0 fg4
  refine RunO.fldG (k := k) (off := 2) rfl (fun _ => rfl) (fun _ _ => rfl) rfl rfl sw4 rfl rfl hlt (fun _ _ => rfl) p2 rfl rfl rfl rfl rfl ?_
  obtain ⟨db, do_, rfl, drd⟩ := hdA (by rw [hrl]; decide)
  have hparse := recParse_ok (h := g4) (A := some ⟨db, do_, none⟩) (c := dc) (l := r8B (nx0 R be)) (fun _ => ⟨_, rfl, drd⟩) hrb hdc
  rw [rCells_eq, rb2, rb1] at hparse
  rw [hrl] at hparse ⊢
  refine RunO.callD hparse rfl rfl rfl ?_
  rintro _ g5 ⟨rfl, f5⟩
  refine RunO.part 4 (h1 := g5.push ⟨rc8 ⟨0, 0, 0, 0, 0, 0, 0, 0⟩, true⟩) rfl ?_
  refine RunO.store rfl rfl (store_ow (s := 8) (Ow.push g5 (rc8 ⟨0, 0, 0, 0, 0, 0, 0, 0⟩)) rfl rfl rfl (Nat.le_refl 8)) (RunO.all rfl ?_)
  have on : Ow ((g5.push ⟨rc8 ⟨0, 0, 0, 0, 0, 0, 0, 0⟩, true⟩).put g5.next (some ⟨rc8 (nx0 R be), true⟩)) g5.next (rc8 (nx0 R be)) := Ow.put _ (Nat.lt_succ_self _)
  have f6 : Fr no g5 ((g5.push ⟨rc8 ⟨0, 0, 0, 0, 0, 0, 0, 0⟩, true⟩).put g5.next (some ⟨rc8 (nx0 R be), true⟩)) := (Fr.push _ _ _).trans (Fr.put (m := (· = g5.next)) _ (.inl rfl)) (fun j hj => .inr (by omega))
  show RunC prog _ _ _ ((g5.push ⟨rc8 ⟨0, 0, 0, 0, 0, 0, 0, 0⟩, true⟩).put g5.next (some ⟨rc8 (nx0 R be), true⟩)) _ _ _
  generalize (g5.push ⟨rc8 ⟨0, 0, 0, 0, 0, 0, 0, 0⟩, true⟩).put g5.next (some ⟨rc8 (nx0 R be), true⟩) = g6 at *
  generalize g5.next = pb at *
  have F6 := (fg4.same f5).same f6
  have sw6 := sw0.fr0 F6
  have sf6 := (sf0.fr0 f3).fr0 F6
  have so6 := (so2.fr0 f3).fr0 F6
  have hfp := is_part (l := fkL (i + 1)) (i := k) (by rw [fkL_len]; omega)
  have hfe : (fkL (i + 1))[k]'(by rw [fkL_len]; omega) = ((2 + 3 * k : Nat) : Int) := by rw [← hfk, List.getD_eq_getElem?_getD, List.getElem?_eq_getElem (by rw [fkL_len]; omega)]; rfl
  rw [hfe] at hfp
  refine RunC.seq (RunC.seq (RunC.draw0 rfl (RunO.part 5 rfl ?_)))
  refine RunO.fldG (k := k) (off := 1) rfl (fun _ => rfl) (fun _ _ => rfl) rfl rfl sw6 rfl rfl hlt (fun _ _ => rfl) p1 rfl rfl rfl rfl rfl ?_
  refine RunO.part 2 rfl ?_
  refine RunO.atG (s := 1) (k := k) rfl (fun _ => rfl) rfl rfl sf6 rfl rfl (show k < i + 1 by omega) hfp rfl rfl rfl ?_
  refine RunO.part 1 rfl ?_
  rw [show (((2 + 3 * k : Nat) : Int) != ((2 + 3 * k : Nat) : Int)) = false from bne_self_eq_false _]
  refine RunO.part 3 rfl ?_
  refine RunO.loadG (v := .int .i64 be) rfl rfl (on.ld rfl) rfl ?_
  refine RunO.part 2 rfl ?_
  rw [show (be != be) = false from bne_self_eq_false _]
  refine RunO.all rfl (RunC.cond rfl (fun g => by cases g) (fun _ => RunC.skip ?_))
  refine (RunC.seqc (fun E' h' => g6 = h' ∧ Le ((upd (upd (upd (upd (upd (upd (upd (upd E0 0 (.int .i64 (i : Int))) 2 (.bool w)) 7 (.slice oA i oc)) 9 (.slice fA (i + 1) fc)) 12 (.slice lA A.length lc)) 13 (.int .i64 (nxA 0 (fkL (i + 1)) A.length))) 16 (.int .i64 be)) 17 (.int .i64 (k : Int)))) E') ?chk ?nxt)
  case chk =>
    refine RunC.seq (RunC.draw0 (by kernel_rfl) (RunO.part 2 rfl ?_))
    refine RunO.part 1 rfl ?_
    rw [fw64 (x := (i : Int) - 1) (by omega) (by omega)]
    refine RunO.part 1 rfl ?_
    by_cases hki : k < i - 1
    · rw [decide_eq_true (show (k : Int) < (i : Int) - 1 by omega)]
      rw [if_pos hki] at hR
      subst hR
      have hfl := fun j (hj : j < 8) => okL_fld (id := id) (n := i) (k := i - 2 - k) (j := j) (by omega) hj
      refine RunO.part 1 rfl ?_
      refine RunO.part 1 rfl ?_
      refine RunO.loadG (v := .int .i64 ((okR id (i - 2 - k)).id)) rfl rfl (on.ld rfl) rfl ?_
      refine RunO.part 3 rfl ?_
      rw [fw64 (x := (i : Int) - 2) (by omega) (by omega)]
      refine RunO.part 2 rfl ?_
      rw [fw64 (x := (i : Int) - 2 - (k : Int)) (by omega) (by omega), show (i : Int) - 2 - (k : Int) = ((i - 2 - k : Nat) : Int) by omega]
      refine RunO.fldG (k := i - 2 - k) (off := 1) rfl (fun _ => rfl) (fun _ _ => rfl) rfl rfl so6 rfl rfl (show i - 2 - k < i by omega) (fun _ _ => rfl) (hfl 1 (by decide)) rfl rfl rfl rfl rfl ?_
      refine RunO.part 1 rfl ?_
      rw [show ((okR id (i - 2 - k)).id != (okR id (i - 2 - k)).id) = false from bne_self_eq_false _]
      refine RunO.part 1 rfl ?_
      refine RunO.part 1 rfl ?_
      refine RunO.loadG (v := .int .i64 ((okR id (i - 2 - k)).pa)) rfl rfl (on.ld rfl) rfl ?_
      refine RunO.part 3 rfl ?_
      rw [fw64 (x := (i : Int) - 2) (by omega) (by omega)]
      refine RunO.part 2 rfl ?_
      rw [fw64 (x := (i : Int) - 2 - (k : Int)) (by omega) (by omega), show (i : Int) - 2 - (k : Int) = ((i - 2 - k : Nat) : Int) by omega]
      refine RunO.fldG (k := i - 2 - k) (off := 2) rfl (fun _ => rfl) (fun _ _ => rfl) rfl rfl so6 rfl rfl (show i - 2 - k < i by omega) (fun _ _ => rfl) (hfl 2 (by decide)) rfl rfl rfl rfl rfl ?_
      refine RunO.part 1 rfl ?_
      rw [show ((okR id (i - 2 - k)).pa != (okR id (i - 2 - k)).pa) = false from bne_self_eq_false _]
      refine RunO.part 2 rfl ?_
      refine RunO.part 1 rfl ?_
      refine RunO.loadG (v := .int .i64 ((okR id (i - 2 - k)).sz)) rfl rfl (on.ld rfl) rfl ?_
      refine RunO.part 3 rfl ?_
      rw [fw64 (x := (i : Int) - 2) (by omega) (by omega)]
      refine RunO.part 2 rfl ?_
      rw [fw64 (x := (i : Int) - 2 - (k : Int)) (by omega) (by omega), show (i : Int) - 2 - (k : Int) = ((i - 2 - k : Nat) : Int) by omega]
      refine RunO.fldG (k := i - 2 - k) (off := 4) rfl (fun _ => rfl) (fun _ _ => rfl) rfl rfl so6 rfl rfl (show i - 2 - k < i by omega) (fun _ _ => rfl) (hfl 4 (by decide)) rfl rfl rfl rfl rfl ?_
      refine RunO.part 1 rfl ?_
      rw [show ((okR id (i - 2 - k)).sz != (okR id (i - 2 - k)).sz) = false from bne_self_eq_false _]
      refine RunO.part 6 rfl ?_
      rw [fw64 (x := (i : Int) - 1) (by omega) (by omega)]
      refine RunO.part 1 rfl ?_
      rw [show ((k : Int) == (i : Int) - 1) = false from beq_eq_false_iff_ne.2 (by omega)]
      refine RunO.all rfl (RunC.cond rfl (fun g => by cases g) (fun _ => RunC.skip ?_))
      exact ⟨rfl, Le.cons rfl (Le.cons rfl (Le.cons rfl (Le.cons rfl (Le.cons rfl (Le.cons rfl (Le.cons rfl (Le.cons rfl (Le.nil _))))))))⟩
    · rw [decide_eq_false (show ¬ ((k : Int) < (i : Int) - 1) by omega)]
      rw [if_neg hki] at hR
      subst hR
      refine RunO.part 20 rfl ?_
      refine RunO.part 20 rfl ?_
      refine RunO.part 3 rfl ?_
      rw [fw64 (x := (i : Int) - 1) (by omega) (by omega)]
      refine RunO.part 1 rfl ?_
      rw [show ((k : Int) == (i : Int) - 1) = true from beq_iff_eq.2 (by omega)]
      refine RunO.part 2 rfl ?_
      refine RunO.loadG (v := .int .i64 5000) rfl rfl (on.ld rfl) rfl ?_
      refine RunO.all rfl (RunC.cond (t := false) rfl (fun g => by cases g) (fun _ => RunC.skip ?_))
      exact ⟨rfl, Le.cons rfl (Le.cons rfl (Le.cons rfl (Le.cons rfl (Le.cons rfl (Le.cons rfl (Le.cons rfl (Le.cons rfl (Le.nil _))))))))⟩
  rintro E' _ ⟨rfl, hE⟩
  refine RunC.le hE ?_
  clear hE
  refine RunC.region (RunO.part 2 rfl ?_)
  refine RunO.fldG (k := k) (off := 1) rfl (fun _ => rfl) (fun _ _ => rfl) rfl rfl sw6 rfl rfl hlt (fun _ _ => rfl) p1 rfl rfl rfl rfl rfl ?_
  refine RunO.all rfl ?_
  refine RunC.region (RunO.all rfl ?_)
  refine ⟨d - 1, by omega, k + 1, by omega, F6, ?_⟩
  rw [hnx]
  exact Le.cons (inc64 (by omega)) (Le.cons rfl (Le.cons rfl (Le.cons rfl (Le.cons rfl (Le.cons rfl (Le.cons rfl (Le.cons rfl (Le.nil _))))))))
theorem commitLinks_true : ∀ h xs avs, ArgsK [.int .i64, .int .i64, .bool] h xs avs → RunF prog 9 avs h fun v _ => v = .bool true := by
  intro h xs avs ha
  obtain ⟨a, _, _, rfl, _, ha⟩ := argInt ha
  obtain ⟨b, _, _, rfl, _, ha⟩ := argInt ha
  obtain ⟨w, _, _, rfl, ha2⟩ := argBool ha
  obtain rfl := argNil ha2
  exact commitLinks_walk
end Go.Proofs.Ytcbakhanpiemhaa
end
