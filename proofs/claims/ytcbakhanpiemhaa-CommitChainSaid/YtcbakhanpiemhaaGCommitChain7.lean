/- CommitChain: a calculus over an abstract machine that stands beside the model, and contracts of functions by it (part 7).
Conditions: what each theorem says of its arguments. -/
import Derived.Test.YtcbakhanpiemhaaGCommitChain6
section
set_option linter.unusedVariables false
set_option linter.unusedSectionVars false
set_option maxRecDepth 100000
open Go Go.Am Go.RowKit
namespace Go.Proofs.Ytcbakhanpiemhaa
open Go.Proofs.Try

/-- So many more asked for, of nothing. -/
theorem grow_ok {h : Heap} {n : Nat} (hn : n ≤ 1000000) : RunF prog 129 [.slice none 0 0, .int .i64 (n : Int)] h fun v h' => Row h.next h' v 1 0 [] ∧ Fr no h h' := by
  refine RunF.walk func129 rfl rfl ?_
  refine RunC.seq (RunC.region (RunO.all rfl ?_))
  refine RunC.seq (RunC.seq (RunC.region (RunO.part 1 rfl ?_)))
  refine RunO.part 1 rfl ?_
  rw [decide_eq_false (show ¬ ((n : Int) < 0) by omega)]
  refine RunO.all rfl (RunC.cond rfl (fun g => by cases g) (fun _ => RunC.skip ?_))
  refine RunC.seq (RunC.seq (RunC.region (RunO.part 6 rfl ?_)))
  refine RunO.part 1 rfl ?_
  rw [show fwrap .i64 ((n : Int) - fwrap .i64 ((0 : Int) - ((0 : Nat) : Int))) = (n : Int) by rw [fw64 (x := (0 : Int) - ((0 : Nat) : Int)) (by decide) (by decide), fw64 (x := (n : Int) - ((0 : Int) - ((0 : Nat) : Int))) (by omega) (by omega)]; omega]
  refine RunO.all rfl ?_
  refine RunC.seq (RunC.region (RunO.part 1 rfl ?_))
  refine RunO.part 1 rfl ?_
  cases n with
  | zero =>
    refine RunO.all rfl (RunC.cond (t := false) rfl (fun g => by cases g) (fun _ => RunC.skip ?_))
    refine RunC.seq (RunC.region (RunO.all rfl ?_))
    exact RunC.ret ⟨_, rfl, Row.nil _ _ _, Fr.refl _ _⟩
  | succ m =>
    rw [decide_eq_true (show ((m + 1 : Nat) : Int) > 0 by omega)]
    refine RunO.all rfl (RunC.cond rfl (fun _ => ?_) (fun g => by cases g))
    refine RunC.region (RunO.part 5 rfl ?_)
    have key : amake prog h 22 3 (.slice none 0 0) (.int .i64 (.ofNat (m + 1))) = some (.slice (some ⟨h.next, 0, none⟩) (m + 1) (unkc 1), h.push ⟨[], true⟩) := by
      show cond (Nat.ble (Nat.mul (m + 1) 8) 281474976710656) (cond (Nat.ble (m + 1) 9223372036854775807) (some (Value.slice (some ⟨h.next, 0, none⟩) (m + 1) (unkc 1), h.push ⟨[], true⟩)) none) none = _
      rw [Nat.ble_eq_true_of_le (show Nat.mul (m + 1) 8 ≤ 281474976710656 by show (m + 1) * 8 ≤ _; omega), Nat.ble_eq_true_of_le (show m + 1 ≤ 9223372036854775807 by omega)]
      rfl
    refine RunO.one rfl (v := .slice (some ⟨h.next, 0, none⟩) (m + 1) (unkc 1)) (h1 := h.push ⟨[], true⟩) key rfl ?_
    have ow := Ow.push h []
    have f1 : Fr no h (h.push ⟨[], true⟩) := Fr.push _ _ _
    refine RunO.part 2 rfl ?_
    refine RunO.one rfl (v := .slice (some ⟨h.next, 0, none⟩) 0 (unkc 1)) (h1 := h.push ⟨[], true⟩) (by show pureR _ (aslice prog 22 (.slice (some ⟨h.next, 0, none⟩) (m + 1) (unkc 1)) none (some (.int .i64 0)) none) = _; rfl) rfl ?_
    refine RunO.all rfl ?_
    refine RunC.seq (RunC.region (RunO.all rfl ?_))
    exact RunC.ret ⟨_, rfl, ⟨rfl, .inr ⟨h.next, Nat.le_refl _, rfl, ow⟩⟩, f1⟩

/-- Rows of numbers. -/
def RwsI (h : Heap) (v : Value) (rows : List (List Int)) : Prop :=
  ∃ cs, Sl h v 1 rows.length cs ∧ ∀ (j : Nat) (x : List Int), rows[j]? = some x → ∃ w, cs[j]? = some w ∧ Sl h w 1 x.length (is x)
theorem rowI_part {cs : List Value} {j : Nat} {w : Value} (h : cs[j]? = some w) : apart prog 22 cs (j * 1) = some w := by
  show nth cs (j * 1) = _
  rw [Nat.mul_one, nth_eq]; exact h
theorem flat_take {rows : List (List Int)} {i : Nat} (h : i < rows.length) : (rows.take (i + 1)).flatten = (rows.take i).flatten ++ rows[i] := by
  rw [List.take_succ_eq_append_getElem h, List.flatten_append]; simp
set_option maxHeartbeats 4000000 in
theorem concat_ok {h : Heap} {v : Value} {rows : List (List Int)} (sl : RwsI h v rows) (hm : rows.length ≤ 1000) (ht : rows.flatten.length ≤ 1000000) :
    RunF prog 102 [v] h fun r h' => Row h.next h' r 1 rows.flatten.length (is rows.flatten) ∧ Fr no h h' := by
  refine RunF.walk func102 rfl rfl ?_
  obtain ⟨cs, s1, k1⟩ := sl
  have s10 := s1
  obtain ⟨A, c, rfl, hc, _⟩ := s1.form
  have hle : ∀ i, (rows.take i).flatten.length ≤ 1000000 := fun i => by
    have : rows.flatten.length = (rows.take i).flatten.length + (rows.drop i).flatten.length := by rw [← List.length_append, ← List.flatten_append, List.take_append_drop]
    omega
  refine RunC.seq (RunC.region (RunO.all rfl ?_))
  refine RunC.seq (RunC.region (RunO.all rfl ?_))
  refine RunC.seq (RunC.seq (RunC.region (RunO.all rfl ?_)))
  refine RunC.block ?_
  refine RunC.loop (fun d E h' => ∃ i : Nat, i + d = rows.length ∧ h = h' ∧ Le ((upd (upd (upd (upd (upd E0 3 (.int .i64 (((rows.take i).flatten.length : Nat) : Int))) 0 (.slice A rows.length c)) 9 (.slice A rows.length c)) 10 (.int .i64 (rows.length : Int))) 11 (.int .i64 (i : Int)))) E) ?st1 (k := rows.length) ?ini1
  case ini1 => exact ⟨0, by omega, rfl, Le.cons rfl (Le.cons rfl (Le.cons rfl (Le.cons rfl (Le.cons rfl (Le.nil _)))))⟩
  rintro d E _ ⟨i, hi, rfl, hE⟩
  refine RunC.le hE ?_
  clear hE
  refine RunC.seq (RunC.region (RunO.all rfl ?_))
  refine RunC.seq (RunC.cond rfl (fun hlt => RunC.skip ?go1) (fun hge => RunC.exit ?ex1))
  case go1 =>
    have hlt := of_decide_eq_true hlt
    have hlt : i < rows.length := by omega
    obtain ⟨w, ew, sw⟩ := k1 i rows[i] (List.getElem?_eq_getElem hlt)
    have hft := flat_take hlt
    have h1 := hle (i + 1)
    rw [hft, List.length_append] at h1
    obtain ⟨wA, wc, rfl, _, _⟩ := sw.form
    refine RunC.seq (RunC.block ?_)
    refine RunC.seq (RunC.region ?_)
    refine RunO.at (s := 1) (k := i) rfl rfl s10 rfl rfl hlt (rowI_part ew) rfl rfl rfl (RunO.all rfl ?_)
    refine RunC.seq (RunC.region (RunO.part 4 rfl ?_))
    rw [fw64 (x := (((rows.take i).flatten.length : Nat) : Int) + ((rows[i].length : Nat) : Int)) (by omega) (by omega), show (((rows.take i).flatten.length : Nat) : Int) + ((rows[i].length : Nat) : Int) = (((rows.take (i + 1)).flatten.length : Nat) : Int) by rw [hft, List.length_append]; omega]
    refine RunO.all rfl ?_
    refine RunC.seq (RunC.region (RunO.part 1 rfl ?_))
    refine RunO.part 1 rfl ?_
    rw [decide_eq_false (show ¬ ((((rows.take (i + 1)).flatten.length : Nat) : Int) < 0) by omega)]
    refine RunO.all rfl (RunC.cond rfl (fun g => by cases g) (fun _ => RunC.skip ?_))
    refine RunC.region (RunO.all rfl ?_)
    exact ⟨d - 1, by omega, i + 1, by omega, rfl, Le.cons (inc64 (by omega)) (Le.cons rfl (Le.cons rfl (Le.cons rfl (Le.cons rfl (Le.nil _)))))⟩
  have hge := of_decide_eq_false hge
  obtain rfl : i = rows.length := by omega
  rw [List.take_length]
  refine RunC.seq (RunC.region (RunO.part 1 rfl ?_))
  refine RunO.callD (grow_ok (n := rows.flatten.length) ht) rfl rfl rfl ?_
  rintro gv h1 ⟨rg, f1⟩
  refine RunO.all rfl ?_
  refine RunC.seq (RunC.seq (RunC.region (RunO.all rfl ?_)))
  refine RunC.block ?_
  refine RunC.loop (fun d E h' => ∃ (i : Nat) (ov : Value), i + d = rows.length ∧ Fr no h h' ∧ Row h.next h' ov 1 (rows.take i).flatten.length (is (rows.take i).flatten) ∧ Le ((upd (upd (upd (upd E0 6 (ov)) 25 (.slice A rows.length c)) 26 (.int .i64 (rows.length : Int))) 27 (.int .i64 (i : Int)))) E) ?st2 (k := rows.length) ?ini2
  case ini2 => exact ⟨0, gv, by omega, f1, rg, Le.cons rfl (Le.cons rfl (Le.cons rfl (Le.cons rfl (Le.nil _))))⟩
  clear rg f1
  rintro d E g1 ⟨i, ov, hi, fg, row, hE⟩
  refine RunC.le hE ?_
  clear hE
  refine RunC.seq (RunC.region (RunO.all rfl ?_))
  refine RunC.seq (RunC.cond rfl (fun hlt => RunC.skip ?go2) (fun hge => RunC.exit ?ex2))
  case ex2 =>
    have hge := of_decide_eq_false hge
    obtain rfl : i = rows.length := by omega
    rw [List.take_length] at row
    refine RunC.seq (RunC.region (RunO.all rfl ?_))
    exact RunC.ret ⟨_, rfl, row, fg⟩
  have hlt := of_decide_eq_true hlt
  have hlt : i < rows.length := by omega
  obtain ⟨w, ew, sw⟩ := k1 i rows[i] (List.getElem?_eq_getElem hlt)
  have hft := flat_take hlt
  have h1 := hle (i + 1)
  rw [hft, List.length_append] at h1
  refine RunC.seq (RunC.block ?_)
  refine RunC.seq (RunC.region ?_)
  refine RunO.at (s := 1) (k := i) rfl rfl (s10.fr0 fg) rfl rfl hlt (rowI_part ew) rfl rfl rfl (RunO.all rfl ?_)
  refine RunC.region (RunO.part 2 rfl ?_)
  refine RunO.appendOs (s := 1) rfl rfl rfl rfl rfl rfl rfl rfl (Nat.le_refl 1) row fg.next (sw.fr0 fg) (allCells_map (f := Value.int .i64) (fun _ => rfl) _) (by show 2 * (_ + _) * 8 ≤ _; omega) (by omega) ?_
  intro ov2 g2 row2 f2
  have hat := fun b g => (row.gr.at (b := b) g).1
  refine RunO.all rfl ?_
  refine RunC.region (RunO.all rfl ?_)
  exact ⟨d - 1, by omega, i + 1, ov2, by omega, fg.trans f2 (fun b g => .inr (hat b g)), by rw [hft, List.length_append, show is ((rows.take i).flatten ++ rows[i]) = is (rows.take i).flatten ++ is rows[i] from List.map_append]; exact row2, Le.cons (inc64 (by omega)) (Le.cons rfl (Le.cons rfl (Le.cons rfl (Le.nil _))))⟩

theorem cloneR_ok {h : Heap} {v : Value} {l : List R8} (sl : Sl h v 8 l.length (recCs l)) (hb : 2 * l.length * 64 ≤ 281474976710656) :
    RunF prog 66 [v] h fun r h' => Gr h.next h' r 8 l.length (recCs l) ∧ Fr no h h' := by
  refine RunF.walk func66 rfl rfl ?_
  refine RunC.seq (RunC.region (RunO.all rfl ?_))
  obtain ⟨hl, hm, ⟨rfl, h0⟩ | ⟨b, o, c, rfl, hc, rd⟩⟩ := sl
  · refine RunC.seq (RunC.seq (RunC.region (RunO.all rfl ?_)))
    refine RunC.cond rfl (fun _ => ?_) (fun g => by cases g)
    exact RunC.seq (RunC.region (RunO.all rfl (RunC.ret ⟨_, rfl, ⟨hl, .inl ⟨rfl, h0⟩⟩, Fr.refl _ _⟩)))
  · refine RunC.seq (RunC.seq (RunC.region (RunO.all rfl ?_)))
    refine RunC.cond rfl (fun g => by cases g) (fun _ => RunC.skip ?_)
    refine RunC.seq (RunC.region (RunO.part 2 (h1 := h.push ⟨[], true⟩) rfl ?_))
    have f1 : Fr no h (h.push ⟨[], true⟩) := Fr.push _ _ _
    have ow : Ow (h.push ⟨[], true⟩) h.next [] := Ow.push _ _
    by_cases hz : l.length = 0
    · have hn : l = [] := List.eq_nil_of_length_eq_zero hz
      subst hn
      have key : aappend prog (h.push ⟨[], true⟩) 36 36 (.slice (some ⟨h.next, 0, none⟩) 0 (exc 0)) (.slice (some ⟨b, o, none⟩) 0 c) = some (.slice (some ⟨h.next, 0, none⟩) 0 (exc 0), h.push ⟨[], true⟩) := by
        have hs : asrc (h.push ⟨[], true⟩) 8 (.slice (some ⟨b, o, none⟩) 0 c) = some (0, []) := ((rd.fr f1 (fun g => g)).sl (s := 8) (n := 0) rfl (Nat.zero_le _) hc).src0
        show (match asrc (h.push ⟨[], true⟩) 8 (.slice (some ⟨b, o, none⟩) 0 c) with
          | some (0, _) => some (Value.slice (some ⟨h.next, 0, none⟩) 0 (exc 0), h.push ⟨[], true⟩)
          | some (m + 1, news) => _
          | none => none) = _
        rw [hs]
      refine RunO.one rfl (v := .slice (some ⟨h.next, 0, none⟩) 0 (exc 0)) (h1 := h.push ⟨[], true⟩) (abuiltin_app key) rfl ?_
      exact RunO.all rfl (RunC.ret ⟨_, rfl, ⟨rfl, .inr ⟨h.next, exc 0, Nat.le_refl _, rfl, .inr rfl, ow⟩⟩, f1⟩)
    · have key := append_full (P := prog) (t := 36) (e := 63) (s := 8) (k := 0) (m := l.length) (c := exc 0) (c' := c) (olds := []) (news := recCs l) (b := ⟨h.next, 0, none⟩) (a := ⟨b, o, none⟩) rfl rfl rfl rfl rfl ((by decide : 1 ≤ 8)) ow.all rfl rfl (by show 0 < 0 + l.length; omega) (rd.fr f1 (fun g => g)) (recCs_len l) (by omega)
        (by show 2 * (0 + l.length) * 64 ≤ _; omega) (by omega)
      rw [Nat.zero_add, List.nil_append] at key
      refine RunO.one rfl (abuiltin_app key) rfl ?_
      refine RunO.all rfl (RunC.ret ⟨_, rfl, ⟨hl, .inr ⟨_, _, Nat.le_succ _, rfl, .inl rfl, Ow.push _ _⟩⟩, f1.same (Fr.push _ _ _)⟩)
theorem recCs_take : ∀ (l : List R8) (i : Nat), (recCs l).take (i * 8) = recCs (l.take i)
  | l, 0 => by rw [Nat.zero_mul]; rfl
  | [], i + 1 => by simp [recCs]
  | x :: l, i + 1 => by
    show (rc8 x ++ recCs l).take ((i + 1) * 8) = rc8 x ++ recCs (l.take i)
    rw [List.take_append, show (i + 1) * 8 - (rc8 x).length = i * 8 by show (i + 1) * 8 - 8 = _; omega, List.take_of_length_le (by show 8 ≤ _; omega), recCs_take l i]
theorem recCs_put {l : List R8} {i : Nat} (x : R8) (h : i < l.length) : (recCs l).take (0 + i * 8) ++ cellsOf (.agg ⟨rc8 x⟩) ++ (recCs l).drop (0 + i * 8 + 8) = recCs (l.set i x) := by
  rw [Nat.zero_add, recCs_take, show i * 8 + 8 = (i + 1) * 8 by omega, recCs_drop, List.set_eq_take_append_cons_drop, if_pos h, recCs_app]
  show recCs (l.take i) ++ rc8 x ++ recCs (l.drop (i + 1)) = recCs (l.take i) ++ (rc8 x ++ recCs (l.drop (i + 1)))
  rw [List.append_assoc]
set_option maxHeartbeats 4000000 in
theorem reverseR_ok {lo : Nat} {h : Heap} {v : Value} {l : List R8} (gr : Gr lo h v 8 l.length (recCs l)) (hm : l.length ≤ 1000000) :
    RunF prog 67 [v] h fun _ h' => Gr lo h' v 8 l.reverse.length (recCs l.reverse) ∧ Fr (At v) h h' := by
  refine RunF.walk func67 rfl rfl ?_
  obtain ⟨hl, ⟨rfl, h0⟩ | ⟨b, c, hb, rfl, hc, ow⟩⟩ := gr
  · have hn : l = [] := List.eq_nil_of_length_eq_zero h0
    subst hn
    refine RunC.seq (RunC.region (RunO.all rfl ?_))
    refine RunC.block ?_
    refine RunC.loop (fun d E h' => h = h' ∧ Le (upd (upd E0 2 (.int .i64 0)) 3 (.int .i64 (-1))) E) ?st0 (k := 0) ?ini0
    case ini0 => exact ⟨rfl, Le.cons rfl (Le.cons rfl (Le.nil _))⟩
    rintro d E _ ⟨rfl, hE⟩
    refine RunC.le hE ?_
    refine RunC.seq (RunC.seq (RunC.region (RunO.all rfl (RunC.cond (t := false) rfl (fun g => by cases g) (fun _ => RunC.exit ?_)))))
    exact ⟨_, rfl, ⟨rfl, .inl ⟨rfl, rfl⟩⟩, Fr.refl _ _⟩
  have hat : At (.slice (some ⟨b, 0, none⟩) l.length c) b := ⟨_, _, rfl⟩
  refine RunC.seq (RunC.region (RunO.part 3 rfl ?_))
  rw [fw64 (x := (l.length : Int) - 1) (by omega) (by omega), show (l.length : Int) - 1 = (l.length : Int) - 1 - ((0 : Nat) : Int) by omega]
  refine RunO.all rfl ?_
  refine RunC.block ?_
  refine RunC.loop (fun d E h' => ∃ (k : Nat) (M : List R8), 2 * k ≤ l.length ∧ l.length ≤ 2 * k + d ∧ Ow h' b (recCs M) ∧ Fr (At (.slice (some ⟨b, 0, none⟩) l.length c)) h h' ∧ M.length = l.length ∧ (∀ j, j < l.length → M[j]? = if j < k ∨ l.length ≤ j + k then l[l.length - 1 - j]? else l[j]?) ∧ Le ((upd (upd (upd E0 0 (.slice (some ⟨b, 0, none⟩) l.length c)) 2 (.int .i64 (k : Int))) 3 (.int .i64 ((l.length : Int) - 1 - (k : Int))))) E) ?st (k := l.length) ?ini
  case ini => exact ⟨0, l, by omega, by omega, ow, Fr.refl _ _, rfl, fun j hj => by rw [if_neg (by omega)], Le.cons rfl (Le.cons rfl (Le.cons rfl (Le.nil _)))⟩
  rintro d E g ⟨k, M, h2, h3, om, fg, hML, hM, hE⟩
  refine RunC.le hE ?_
  clear hE
  refine RunC.seq (RunC.seq (RunC.region (RunO.all rfl ?_)))
  refine RunC.cond rfl (fun hlt => RunC.skip ?go) (fun hge => RunC.exit ?ex)
  case ex =>
    have hge := of_decide_eq_false hge
    have e : M = l.reverse := by
      refine List.ext_getElem? (fun j => ?_)
      by_cases hj : j < l.length
      · rw [hM j hj, List.getElem?_reverse hj]
        by_cases hc : j < k ∨ l.length ≤ j + k
        · rw [if_pos hc]
        · rw [if_neg hc, show l.length - 1 - j = j by omega]
      · rw [List.getElem?_eq_none (by omega), List.getElem?_eq_none (by rw [List.length_reverse]; omega)]
    rw [e] at om
    exact ⟨_, rfl, ⟨recCs_len _, .inr ⟨b, c, hb, by rw [List.length_reverse], by rw [List.length_reverse]; exact hc, om⟩⟩, fg⟩
  have hlt := of_decide_eq_true hlt
  obtain ⟨q, hq⟩ : ∃ q : Nat, (l.length : Int) - 1 - (k : Int) = (q : Int) := Int.eq_ofNat_of_zero_le (by omega)
  rw [hq]
  have hkl : k < M.length := by omega
  have hql : q < M.length := by omega
  have hcm : Cp 8 M.length c := by
    rw [hML]
    rcases hc with e | e
    · rw [e]; exact Cp.unkc _ _
    · rw [e]; exact Cp.exc (Nat.le_refl _)
  have slm : Sl g (.slice (some ⟨b, 0, none⟩) l.length c) 8 M.length (recCs M) := by rw [← hML]; exact om.all.sl (recCs_len M) (by omega) hcm
  rw [hML] at slm
  have e1 := hM k (by omega)
  have e2 := hM q (by omega)
  rw [if_neg (by omega)] at e1 e2
  refine RunC.seq (RunC.block ?_)
  refine RunC.draw0 rfl (RunO.part 6 rfl ?_)
  refine RunO.at (s := 8) (k := q) rfl rfl slm rfl rfl (by omega) (recCs_part hql) rfl rfl rfl ?_
  refine RunO.part 2 rfl ?_
  refine RunO.at (s := 8) (k := k) rfl rfl slm rfl rfl (by omega) (recCs_part hkl) rfl rfl rfl ?_
  refine RunO.index (s := 8) (k := k) rfl rfl rfl rfl (show k < l.length by omega) rfl ?_
  refine RunO.store rfl rfl (store_ow (s := 8) om rfl rfl rfl (by rw [recCs_len]; omega)) ?_
  rw [recCs_put _ hkl]
  have o2 : Ow (g.put b (some ⟨recCs (M.set k M[q]), true⟩)) b (recCs (M.set k M[q])) := Ow.put _ om.1
  have f2 : Fr (At (.slice (some ⟨b, 0, none⟩) l.length c)) g (g.put b (some ⟨recCs (M.set k M[q]), true⟩)) := Fr.put _ (.inl hat)
  refine RunO.index (s := 8) (k := q) rfl rfl rfl rfl (show q < l.length by omega) rfl ?_
  refine RunO.store rfl rfl (store_ow (s := 8) o2 rfl rfl rfl (by rw [recCs_len, List.length_set]; omega)) (RunO.nil ?_)
  rw [recCs_put _ (by rw [List.length_set]; exact hql)]
  have o3 : Ow ((g.put b (some ⟨recCs (M.set k M[q]), true⟩)).put b (some ⟨recCs ((M.set k M[q]).set q M[k]), true⟩)) b (recCs ((M.set k M[q]).set q M[k])) := Ow.put _ o2.1
  have f3 : Fr (At (.slice (some ⟨b, 0, none⟩) l.length c)) (g.put b (some ⟨recCs (M.set k M[q]), true⟩)) ((g.put b (some ⟨recCs (M.set k M[q]), true⟩)).put b (some ⟨recCs ((M.set k M[q]).set q M[k]), true⟩)) := Fr.put _ (.inl hat)
  refine RunC.region (RunO.part 2 rfl ?_)
  rw [fw64 (x := (k : Int) + 1) (by omega) (by omega), show (k : Int) + 1 = ((k + 1 : Nat) : Int) by omega]
  refine RunO.part 2 rfl ?_
  rw [fw64 (x := (q : Int) - 1) (by omega) (by omega), show (q : Int) - 1 = (l.length : Int) - 1 - ((k + 1 : Nat) : Int) by omega]
  refine RunO.all rfl ?_
  refine ⟨d - 2, by omega, k + 1, (M.set k M[q]).set q M[k], by omega, by omega, o3, (fg.same f2).same f3, by rw [List.length_set, List.length_set]; exact hML, fun j hj => ?_, Le.cons rfl (Le.cons rfl (Le.cons rfl (Le.nil _)))⟩
  rw [List.getElem?_set, List.getElem?_set, List.length_set]
  by_cases hjq : q = j
  · subst hjq
    rw [if_pos rfl, if_pos hql, if_pos (by omega), show l.length - 1 - q = k by omega, ← e1, List.getElem?_eq_getElem hkl]
  · rw [if_neg hjq]
    by_cases hjk : k = j
    · subst hjk
      rw [if_pos rfl, if_pos hkl, if_pos (by omega), show l.length - 1 - k = q by omega, ← e2, List.getElem?_eq_getElem hql]
    · rw [if_neg hjk, hM j hj]
      by_cases hcd : j < k ∨ l.length ≤ j + k
      · rw [if_pos hcd, if_pos (by omega)]
      · rw [if_neg hcd, if_neg (by omega)]
end Go.Proofs.Ytcbakhanpiemhaa
end
section
set_option linter.unusedVariables false
set_option linter.unusedSectionVars false
set_option maxRecDepth 100000
open Go Go.Am Go.RowKit
namespace Go.Proofs.Ytcbakhanpiemhaa
open Go.Proofs.Try

/- Steps in a growing slice, of any data. -/
def IoW (lo : Nat) (h : Heap) (lv : Value) (l : List IoT) : Prop := ∃ acs, Row lo h lv 3 l.length acs ∧ ∀ (j : Nat) (x : IoT), l[j]? = some x → ∃ dv, (acs.drop (j * 3)).take 3 = [.int .i64 x.1, .int .i64 x.2.1, dv] ∧ Sl h dv 1 x.2.2.1.length (us x.2.2.1) ∧ Byt x.2.2.1 ∧ ∀ b o c, dv = .slice (some ⟨b, o, none⟩) x.2.2.1.length c → ¬ At lv b
theorem IoW.fr0 {lo : Nat} {h h' : Heap} {lv : Value} {l : List IoT} (r : IoW lo h lv l) (f : Fr no h h') : IoW lo h' lv l := by
  obtain ⟨acs, h1, h2⟩ := r
  refine ⟨acs, h1.fr f (fun _ _ _ g => g), fun j x hx => ?_⟩
  obtain ⟨dv, e, sd, hd⟩ := h2 j x hx
  exact ⟨dv, e, sd.fr0 f, hd⟩
theorem IoW.at {lo : Nat} {h : Heap} {lv : Value} {l : List IoT} (r : IoW lo h lv l) {b : Nat} (g : At lv b) : lo ≤ b ∧ b < h.next := by
  obtain ⟨acs, h1, _⟩ := r
  exact h1.at g
theorem IoW.nil (lo : Nat) (h : Heap) : IoW lo h (.slice none 0 0) [] := ⟨[], Row.nil lo h 3, fun j x hx => by cases hx⟩
theorem IoW.ios {lo : Nat} {h : Heap} {lv : Value} {l : List IoT} (r : IoW lo h lv l) (hl : l.length ≤ 9223372036854775807) : Ios h lv l := by
  obtain ⟨acs, h1, h2⟩ := r
  refine ⟨acs, h1.sl hl, fun j x hx => ?_⟩
  obtain ⟨dv, e, sd, hb, _⟩ := h2 j x hx
  exact ⟨dv, e, sd, hb⟩
theorem IoW.app {lo : Nat} {h h' : Heap} {lv lv' : Value} {l ys : List IoT} {acs news : List Value} (row : Row lo h lv 3 l.length acs)
    (k : ∀ (j : Nat) (x : IoT), l[j]? = some x → ∃ dv, (acs.drop (j * 3)).take 3 = [.int .i64 x.1, .int .i64 x.2.1, dv] ∧ Sl h dv 1 x.2.2.1.length (us x.2.2.1) ∧ Byt x.2.2.1 ∧ ∀ b o c, dv = .slice (some ⟨b, o, none⟩) x.2.2.1.length c → ¬ At lv b)
    (hn : news.length = ys.length * 3)
    (k2 : ∀ (j : Nat) (x : IoT), ys[j]? = some x → ∃ dv, (news.drop (j * 3)).take 3 = [.int .i64 x.1, .int .i64 x.2.1, dv] ∧ Sl h dv 1 x.2.2.1.length (us x.2.2.1) ∧ Byt x.2.2.1 ∧ ∀ b o c, dv = .slice (some ⟨b, o, none⟩) x.2.2.1.length c → ¬ At lv b)
    (row' : Row h.next h' lv' 3 (l.length + ys.length) (acs ++ news)) (f : Fr (At lv) h h') (hlo : lo ≤ h.next) : IoW lo h' lv' (l ++ ys) := by
  have hl : acs.length = l.length * 3 := row.1
  have hnew : ∀ (y : List Int) (u : Value), Sl h u 1 y.length (us y) → ∀ b o c, u = .slice (some ⟨b, o, none⟩) y.length c → ¬ At lv' b := fun y u su b o c e a => by
    have h1 := su.lt b o c e
    have h2 := (row'.at a).1
    omega
  refine ⟨_, by rw [List.length_append]; exact Row.lo row' hlo, fun j y hy => ?_⟩
  by_cases hj : j < l.length
  · rw [List.getElem?_append_left hj] at hy
    obtain ⟨u, e, su, hb, hu⟩ := k j y hy
    refine ⟨u, ?_, su.frm hu f, hb, hnew _ u su⟩
    rw [List.drop_append_of_le_length (by omega), List.take_append_of_le_length (by rw [List.length_drop]; omega)]
    exact e
  · rw [List.getElem?_append_right (by omega)] at hy
    have hj2 := (List.getElem?_eq_some_iff.1 hy).1
    obtain ⟨u, e, su, hb, hu⟩ := k2 _ y hy
    refine ⟨u, ?_, su.frm hu f, hb, hnew _ u su⟩
    rw [List.drop_append, List.drop_eq_nil_of_le (by omega), List.nil_append, show j * 3 - acs.length = (j - l.length) * 3 by rw [hl, Nat.sub_mul]]
    exact e
def placeB (a : Int) : Bool := decide (a ≥ 2) && decide (a < 4096)
theorem place_ok {h : Heap} {a : Int} : RunF prog 104 [.int .i64 a] h fun v h' => v = .bool (placeB a) ∧ Fr no h h' := by
  refine RunF.walk func104 rfl rfl ?_
  refine RunC.seq (RunC.region (RunO.all rfl ?_))
  refine RunC.seq (RunC.region (RunO.part 3 rfl ?_))
  unfold placeB
  cases decide (a ≥ 2) with
  | true => exact RunO.all rfl (RunC.ret ⟨_, rfl, rfl, Fr.refl _ _⟩)
  | false => exact RunO.all rfl (RunC.ret ⟨_, rfl, rfl, Fr.refl _ _⟩)
theorem mayRec_ok {h : Heap} {r : R8} (hr : r8Ok r = true) : RunF prog 101 [.agg ⟨rc8 r⟩] h fun v h' => v = .bool false ∧ Fr no h h' := by
  refine RunF.walk func101 rfl rfl ?_
  refine RunC.seq (RunC.region (RunO.all (h1 := h.push ⟨rc8 r, true⟩) rfl ?_))
  have oq := Ow.push h (rc8 r)
  have f1 : Fr no h (h.push ⟨rc8 r, true⟩) := Fr.push _ _ _
  generalize h.push ⟨rc8 r, true⟩ = h1 at *
  generalize h.next = p at *
  refine RunC.seq (RunC.region ?_)
  refine RunO.load (v := .agg ⟨rc8 r⟩) rfl (oq.ld rfl) rfl ?_
  refine RunO.callD (recCheck_ok (n := r.nx) (id := r.id) (pa := r.pa) (ro := r.ro) (sz := r.sz) (ki := r.ki) (fr := r.fr) (di := r.di)) rfl rfl rfl ?_
  have hr : recOk r.nx r.id r.pa r.ro r.sz r.ki r.fr r.di = true := hr
  rw [hr]
  rintro _ h2 ⟨rfl, f2⟩
  exact RunO.all rfl (RunC.ret ⟨_, rfl, rfl, f1.same f2⟩)
theorem mayPlace_ok {h : Heap} {a : Int} (ha : placeB a = true) : RunF prog 103 [.int .i64 a] h fun v h' => v = .bool false ∧ Fr no h h' := by
  refine RunF.walk func103 rfl rfl ?_
  refine RunC.seq (RunC.region (RunO.all rfl ?_))
  refine RunC.seq (RunC.region (RunO.part 1 rfl ?_))
  refine RunO.callD place_ok rfl rfl rfl ?_
  rw [ha]
  rintro _ h2 ⟨rfl, f2⟩
  exact RunO.all rfl (RunC.ret ⟨_, rfl, rfl, f2⟩)
def nx0 (x : R8) (a : Int) : R8 := ⟨a, x.id, x.pa, x.ro, x.sz, x.ki, x.fr, x.di⟩
structure MayOk (old : List R8) (bl : List Int) (n : Nat) (x : R8) (w : Bool) (free : List Int) : Prop where
  len : old.length = bl.length
  le : n ≤ old.length
  ok : ∀ r ∈ old, r8Ok r = true
  fst : w = true → r8Ok (nx0 x 0) = true
  pl : ∀ a ∈ bl, placeB a = true
  pf : ∀ a ∈ free, placeB a = true
  up : ∀ i, i + 1 < free.length → free.getD i 0 < free.getD (i + 1) 0
  lo : old.length ≤ 10000
  lf : free.length ≤ 10000
set_option maxHeartbeats 16000000 in
theorem may_ok {h : Heap} {ov bv fv : Value} {old : List R8} {bl free : List Int} {n : Nat} {x : R8} {w : Bool} (so : Sl h ov 8 old.length (recCs old)) (sb : Sl h bv 1 bl.length (is bl)) (sf : Sl h fv 1 free.length (is free)) (m : MayOk old bl n x w free) :
    RunF prog 65 [ov, bv, .int .i64 (n : Int), .agg ⟨rc8 x⟩, .bool w, fv] h fun v h' => v = .bool true ∧ Fr no h h' := by
  refine RunF.walk func65 rfl rfl ?_
  have hlo := m.lo
  have hlf := m.lf
  have hlb := m.len
  have hle := m.le
  have so0 := so
  have sb0 := sb
  have sf0 := sf
  obtain ⟨oA, oc, rfl, _, _⟩ := so.form
  obtain ⟨bA, bc, rfl, _, _⟩ := sb.form
  obtain ⟨fA, fc, rfl, _, _⟩ := sf.form
  refine RunC.seq (RunC.region (RunO.all (h1 := h.push ⟨rc8 x, true⟩) rfl ?_))
  have oq := Ow.push h (rc8 x)
  have f1 : Fr no h (h.push ⟨rc8 x, true⟩) := Fr.push _ _ _
  generalize h.push ⟨rc8 x, true⟩ = h1 at *
  obtain ⟨qb, hqb⟩ : ∃ q, q = h.next := ⟨_, rfl⟩
  rw [← hqb] at oq ⊢
  refine RunC.seq (RunC.region (RunO.part 1 rfl ?_))
  refine RunO.store rfl rfl (store1_ow oq rfl rfl rfl (Nat.le_of_ble_eq_true rfl)) (RunO.nil ?_)
  have o2 : Ow (h1.put qb (some ⟨rc8 (nx0 x 0), true⟩)) qb (rc8 (nx0 x 0)) := Ow.put _ oq.1
  have f2 : Fr no h (h1.put qb (some ⟨rc8 (nx0 x 0), true⟩)) := f1.trans (Fr.put (m := (· = qb)) _ (.inl rfl)) (fun b e => .inr (by have e : b = qb := e; omega))
  show RunC prog _ _ _ (h1.put qb (some ⟨rc8 (nx0 x 0), true⟩)) _ _ _
  generalize h1.put qb (some ⟨rc8 (nx0 x 0), true⟩) = h2 at *
  refine RunC.seqc (fun E' h' => Fr no h h' ∧ Le (upd (upd (upd (upd E0 0 (.slice oA old.length oc)) 1 (.slice bA bl.length bc)) 5 (.slice fA free.length fc)) 13 (.bool false)) E') ?r2 ?r3
  case r2 =>
    refine RunC.region (RunO.part 5 rfl ?_)
    rw [show ((old.length : Int) != (bl.length : Int)) = false from by rw [hlb]; exact bne_self_eq_false _]
    refine RunO.part 3 rfl ?_
    rw [decide_eq_false (show ¬ ((n : Int) < 0) by omega)]
    refine RunO.part 6 rfl ?_
    rw [decide_eq_false (show ¬ ((n : Int) > (old.length : Int)) by omega)]
    refine RunO.part 2 rfl ?_
    cases w with
    | false => exact RunO.all rfl ⟨f2, Le.cons rfl (Le.cons rfl (Le.cons rfl (Le.cons rfl (Le.nil _))))⟩
    | true =>
      have hr : recOk 0 x.id x.pa x.ro x.sz x.ki x.fr x.di = true := m.fst rfl
      refine RunO.part 2 rfl ?_
      refine RunO.loadG (v := .agg ⟨rc8 (nx0 x 0)⟩) rfl rfl (o2.ld rfl) rfl ?_
      refine RunO.callDG rfl (recCheck_ok (n := 0) (id := x.id) (pa := x.pa) (ro := x.ro) (sz := x.sz) (ki := x.ki) (fr := x.fr) (di := x.di)) rfl rfl rfl ?_
      rw [hr]
      rintro _ h3 ⟨rfl, f3⟩
      exact RunO.all rfl ⟨f2.same f3, Le.cons rfl (Le.cons rfl (Le.cons rfl (Le.cons rfl (Le.nil _))))⟩
  rintro E' h3 ⟨f3, hE⟩
  refine RunC.le hE ?_
  clear hE
  refine RunC.seq (RunC.region (RunO.part 3 rfl ?_))
  have key := containsRec_ok (so0.fr0 f3) (u := fun j => .agg ⟨rc8 (old.getD j ⟨0, 0, 0, 0, 0, 0, 0, 0⟩)⟩) (fun j hj => by rw [recCs_part hj, List.getD_eq_getElem?_getD, List.getElem?_eq_getElem hj]; rfl) (g := 101) (cap := []) (p := fun _ => false) (fun j hj h1 _ => mayRec_ok (m.ok _ (by rw [List.getD_eq_getElem?_getD, List.getElem?_eq_getElem hj]; exact List.getElem_mem hj))) (by omega)
  refine RunO.callDG rfl key rfl rfl rfl ?_
  rw [anyI_false (fun _ _ => rfl)]
  rintro _ h4 ⟨rfl, f4⟩
  refine RunO.all rfl ?_
  refine RunC.seq (RunC.region (RunO.part 5 (h1 := h4.push ⟨[.slice bA bl.length bc, .slice fA free.length fc], true⟩) rfl ?_))
  have ol := Ow.push h4 [.slice bA bl.length bc, .slice fA free.length fc]
  have f5 : Fr no h4 (h4.push ⟨[.slice bA bl.length bc, .slice fA free.length fc], true⟩) := Fr.push _ _ _
  generalize h4.push ⟨[.slice bA bl.length bc, .slice fA free.length fc], true⟩ = h5 at *
  generalize h4.next = lb at *
  have F5 := (f3.same f4).same f5
  have hrw : RwsI h5 (.slice (some ⟨lb, 0, none⟩) 2 (exc 2)) [bl, free] := ⟨_, ol.all.sl (s := 1) rfl (by decide) (Cp.exc (Nat.le_refl _)), fun j y hy => by
    match j, hy with
    | 0, hy => cases hy; exact ⟨_, rfl, sb0.fr0 F5⟩
    | 1, hy => cases hy; exact ⟨_, rfl, sf0.fr0 F5⟩
    | j + 2, hy => simp at hy⟩
  have hfl : [bl, free].flatten = bl ++ free := by simp
  have hcc := concat_ok hrw (by show 2 ≤ 1000; decide) (by rw [hfl, List.length_append]; omega)
  rw [hfl] at hcc
  refine RunO.callDG rfl hcc rfl rfl rfl ?_
  rintro cv h6 ⟨rc_, f6⟩
  have scv := rc_.sl (by rw [List.length_append]; omega)
  have key2 := containsI_ok scv (u := fun j => .int .i64 ((bl ++ free).getD j 0)) (fun j hj => by rw [is_part hj, List.getD_eq_getElem?_getD, List.getElem?_eq_getElem hj]; rfl) (g := 103) (cap := []) (p := fun _ => false) (fun j hj h1 _ => mayPlace_ok (by
    have hm : (bl ++ free).getD j 0 ∈ bl ++ free := by rw [List.getD_eq_getElem?_getD, List.getElem?_eq_getElem hj]; exact List.getElem_mem hj
    rcases List.mem_append.1 hm with g | g
    · exact m.pl _ g
    · exact m.pf _ g)) (by rw [List.length_append]; omega)
  refine RunO.callDG rfl key2 rfl rfl rfl ?_
  rw [anyI_false (fun _ _ => rfl)]
  rintro _ h7 ⟨rfl, f7⟩
  have F7 := (F5.same f6).same f7
  refine RunO.all rfl ?_
  refine RunC.seq (RunC.seq (RunC.region (RunO.all rfl ?_)))
  refine RunC.block ?_
  refine RunC.loop (fun d E h' => ∃ i : Nat, i + d = free.length ∧ h7 = h' ∧ Le ((upd (upd (upd (upd E0 5 (.slice fA free.length fc)) 13 (.bool false)) 53 (.int .i64 (free.length : Int))) 54 (.int .i64 (i : Int)))) E) ?st (k := free.length) ?ini
  case ini => exact ⟨0, by omega, rfl, Le.cons rfl (Le.cons rfl (Le.cons rfl (Le.cons rfl (Le.nil _))))⟩
  rintro d E _ ⟨i, hi, rfl, hE⟩
  refine RunC.le hE ?_
  clear hE
  refine RunC.seq (RunC.region (RunO.all rfl ?_))
  refine RunC.seq (RunC.cond rfl (fun hlt => RunC.skip ?go) (fun hge => RunC.exit ?ex))
  case ex =>
    refine RunC.seq (RunC.region (RunO.all rfl ?_))
    exact RunC.ret ⟨_, rfl, rfl, F7⟩
  have hlt := of_decide_eq_true hlt
  have hlt : i < free.length := by omega
  have sf7 := sf0.fr0 F7
  refine RunC.seq (RunC.block ?_)
  refine RunC.seq (RunC.region (RunO.all rfl ?_))
  refine RunC.draw0 rfl (RunO.part 3 rfl ?_)
  refine RunO.part 1 rfl ?_
  by_cases h0 : (i : Int) > 0
  · rw [decide_eq_true h0]
    refine RunO.part 4 rfl ?_
    obtain ⟨k, rfl⟩ : ∃ k, i = k + 1 := ⟨i - 1, by omega⟩
    have hup := m.up k hlt
    rw [fw64 (x := ((k + 1 : Nat) : Int) - 1) (by omega) (by omega), show ((k + 1 : Nat) : Int) - 1 = (k : Int) by omega]
    have hk : k < free.length := by omega
    rw [List.getD_eq_getElem?_getD, List.getElem?_eq_getElem hk, List.getD_eq_getElem?_getD, List.getElem?_eq_getElem hlt] at hup
    have hup : free[k] < free[k + 1] := hup
    refine RunO.atG (s := 1) (k := k) rfl (fun _ => rfl) rfl rfl sf7 rfl rfl hk (is_part hk) rfl rfl rfl ?_
    refine RunO.part 2 rfl ?_
    refine RunO.atG (s := 1) (k := k + 1) rfl (fun _ => rfl) rfl rfl sf7 rfl rfl hlt (is_part hlt) rfl rfl rfl ?_
    refine RunO.part 1 rfl ?_
    rw [decide_eq_false (show ¬ (free[k] ≥ free[k + 1]) by omega)]
    refine RunO.all rfl ?_
    refine RunC.region (RunO.all rfl ?_)
    exact ⟨d - 1, by omega, k + 1 + 1, by omega, rfl, Le.cons (inc64 (by omega)) (Le.cons rfl (Le.cons rfl (Le.cons rfl (Le.nil _))))⟩
  · rw [decide_eq_false h0]
    refine RunO.all rfl ?_
    refine RunC.region (RunO.all rfl ?_)
    exact ⟨d - 1, by omega, i + 1, by omega, rfl, Le.cons (inc64 (by omega)) (Le.cons rfl (Le.cons rfl (Le.cons rfl (Le.nil _))))⟩
end Go.Proofs.Ytcbakhanpiemhaa
end
section
set_option linter.unusedVariables false
set_option linter.unusedSectionVars false
set_option maxRecDepth 100000
open Go Go.Am Go.RowKit
namespace Go.Proofs.Ytcbakhanpiemhaa
open Go.Proofs.Try

def nxA (at0 : Int) (free : List Int) (i : Nat) : Int := if i = 0 then at0 else free.getD (i - 1) 0
def ioA (A : List R8) (free : List Int) (at0 : Int) (i : Nat) : IoT := (1, free.getD i 0, r8B (nx0 (A.getD i ⟨0, 0, 0, 0, 0, 0, 0, 0⟩) (nxA at0 free i)), ())
def wrA (A : List R8) (free : List Int) (at0 : Int) (k : Nat) : List IoT := (List.range k).map (ioA A free at0)
def anewL (old : List R8) (n : Nat) (w : Bool) (x : R8) : List R8 := (old.take (n - 1)).reverse ++ (if w then [x] else [])
def at0L (bl : List Int) (n : Nat) : Int := if n < bl.length then bl.getD n 0 else 0
theorem wrA_len (A : List R8) (free : List Int) (at0 : Int) (k : Nat) : (wrA A free at0 k).length = k := by unfold wrA; rw [List.length_map, List.length_range]
theorem wrA_succ (A : List R8) (free : List Int) (at0 : Int) (k : Nat) : wrA A free at0 (k + 1) = wrA A free at0 k ++ [ioA A free at0 k] := by unfold wrA; rw [List.range_succ, List.map_append]; rfl
theorem r8_nx {r : R8} {a b : Int} (h : r8Ok (nx0 r b) = true) (ha : ptrB a = true) : r8Ok (nx0 r a) = true := by
  have key : ∀ c, recIs c r.id r.pa r.ro r.sz = (ptrB c && recIs 0 r.id r.pa r.ro r.sz) := fun c => by
    unfold recIs
    rw [show ptrB 0 = true from rfl]
    cases ptrB c <;> rfl
  have h : recOk b r.id r.pa r.ro r.sz r.ki r.fr r.di = true := h
  show recOk a r.id r.pa r.ro r.sz r.ki r.fr r.di = true
  unfold recOk at h ⊢
  rw [key] at h
  rw [key, ha, Bool.true_and]
  split
  · rename_i g
    rw [if_pos g] at h
    simp only [Bool.and_eq_true] at h ⊢
    exact ⟨⟨h.1.1.2, h.1.2⟩, h.2⟩
  · rename_i g
    rw [if_neg g] at h
    split
    · rename_i g2
      rw [if_pos g2] at h
      simp only [Bool.and_eq_true] at h ⊢
      exact ⟨⟨h.1.1.2, h.1.2⟩, h.2⟩
    · rename_i g2
      rw [if_neg g2] at h
      cases h
theorem place_ptr {a : Int} (h : placeB a = true) : ptrB a = true := by
  unfold placeB at h
  unfold ptrB
  rw [h, Bool.or_true]
theorem getD_mem {l : List Int} {i : Nat} (h : i < l.length) : l.getD i 0 ∈ l := by rw [List.getD_eq_getElem?_getD, List.getElem?_eq_getElem h]; exact List.getElem_mem h
section
variable {old : List R8} {bl free : List Int} {n : Nat} {x : R8} {w : Bool} (m : MayOk old bl n x w free)
include m
theorem nxA_ptr {i : Nat} (hi : i ≤ free.length) : ptrB (nxA (at0L bl n) free i) = true := by
  unfold nxA
  split
  · unfold at0L
    split
    · rename_i g; exact place_ptr (m.pl _ (getD_mem g))
    · rfl
  · exact place_ptr (m.pf _ (getD_mem (by omega)))
theorem anew_ok {i : Nat} (hi : i < (anewL old n w x).length) (hf : i ≤ free.length) : r8Ok (nx0 ((anewL old n w x).getD i ⟨0, 0, 0, 0, 0, 0, 0, 0⟩) (nxA (at0L bl n) free i)) = true := by
  have hp := nxA_ptr m hf
  have hm : (anewL old n w x).getD i ⟨0, 0, 0, 0, 0, 0, 0, 0⟩ ∈ anewL old n w x := by rw [List.getD_eq_getElem?_getD, List.getElem?_eq_getElem hi]; exact List.getElem_mem hi
  generalize (anewL old n w x).getD i ⟨0, 0, 0, 0, 0, 0, 0, 0⟩ = r at *
  unfold anewL at hm
  rcases List.mem_append.1 hm with g | g
  · have g := m.ok r (List.mem_of_mem_take (List.mem_reverse.1 g))
    exact r8_nx (b := r.nx) g hp
  · cases w with
    | true =>
      rw [if_pos rfl, List.mem_singleton] at g
      rw [g]
      exact r8_nx (m.fst rfl) hp
    | false => rw [if_neg (by decide)] at g; cases g
end
set_option maxHeartbeats 32000000 in
theorem commitRecords_ok {h : Heap} {ov bv fv : Value} {old : List R8} {bl free : List Int} {n : Nat} {x : R8} {w : Bool} (so : Sl h ov 8 old.length (recCs old)) (sb : Sl h bv 1 bl.length (is bl)) (sf : Sl h fv 1 free.length (is free)) (m : MayOk old bl n x w free) (hA : (anewL old n w x).length ≤ free.length) :
    RunF prog 31 [ov, bv, .int .i64 (n : Int), .agg ⟨rc8 x⟩, .bool w, fv] h fun v h' => Fr no h h' ∧ ∃ lv rv, v = .tuple #[lv, .int .i64 (nxA (at0L bl n) free (anewL old n w x).length), rv, .int .i64 0] ∧ IoW h.next h' lv (wrA (anewL old n w x) free (at0L bl n) (anewL old n w x).length) ∧ Osl h.next h' rv 1 (free.drop (anewL old n w x).length).length (is (free.drop (anewL old n w x).length)) := by
  refine RunF.walk func31 rfl rfl ?_
  have hok := fun i hi hf => anew_ok m (i := i) hi hf
  have hlo := m.lo
  have hlf := m.lf
  have hlb := m.len
  have hle := m.le
  have so0 := so
  have sb0 := sb
  have sf0 := sf
  obtain ⟨oA, oc, rfl, _, _⟩ := so.form
  obtain ⟨bA, bc, rfl, _, _⟩ := sb.form
  obtain ⟨fA, fc, rfl, _, _⟩ := sf.form
  refine RunC.seq (RunC.region (RunO.all (h1 := h.push ⟨rc8 x, true⟩) rfl ?_))
  have oq := Ow.push h (rc8 x)
  have f1 : Fr no h (h.push ⟨rc8 x, true⟩) := Fr.push _ _ _
  generalize h.push ⟨rc8 x, true⟩ = h1 at *
  obtain ⟨qb, hqb⟩ : ∃ q, q = h.next := ⟨_, rfl⟩
  rw [← hqb] at oq ⊢
  refine RunC.seq (RunC.seq (RunC.region (RunO.part 3 rfl ?_)))
  refine RunO.load (v := .agg ⟨rc8 x⟩) rfl (oq.ld rfl) rfl ?_
  refine RunO.part 2 rfl ?_
  refine RunO.callD (may_ok (so0.fr0 f1) (sb0.fr0 f1) (sf0.fr0 f1) m) rfl rfl rfl ?_
  rintro _ h2 ⟨rfl, f2⟩
  refine RunO.all rfl (RunC.cond rfl (fun g => by cases g) (fun _ => RunC.skip ?_))
  have F2 := f1.same f2
  replace oq := oq.fr f2 (fun g => g)
  have hq1 := oq.1
  have hmx : (cond (decide ((0 : Int) > (n : Int) - 1)) (0 : Int) ((n : Int) - 1)) = ((n - 1 : Nat) : Int) := by
    by_cases g : (0 : Int) > (n : Int) - 1
    · rw [decide_eq_true g]; show (0 : Int) = _; omega
    · rw [decide_eq_false g]; show (n : Int) - 1 = _; omega
  refine RunC.seq (RunC.region (RunO.part 3 rfl ?_))
  rw [fw64 (x := (n : Int) - 1) (by omega) (by omega)]
  refine RunO.part 1 rfl ?_
  rw [hmx]
  refine RunO.sliceSl (s := 8) (len := old.length) (k := 0) (m := n - 1) rfl rfl rfl rfl rfl (so0.fr0 F2) (.none _) (.some _ _ _) (Nat.zero_le _) (by omega) rfl ?_
  intro tv st
  have hlt_ : (old.take (n - 1)).length = n - 1 := by rw [List.length_take]; omega
  have st : Sl h2 tv 8 (old.take (n - 1)).length (recCs (old.take (n - 1))) := by
    rw [Nat.zero_mul, List.drop_zero, Nat.sub_zero, recCs_take] at st
    rw [hlt_]; exact st
  refine RunO.callD (cloneR_ok st (by omega)) rfl rfl rfl ?_
  rintro av h3 ⟨ga, f3⟩
  refine RunO.all rfl ?_
  refine RunC.seq (RunC.region (RunO.part 1 rfl ?_))
  refine RunO.callD (reverseR_ok ga (by omega)) rfl rfl rfl ?_
  rintro _ h4 ⟨gv, f4⟩
  refine RunO.nil ?_
  have hat3 := fun b g => (ga.at (b := b) g).1
  have F4 : Fr no h2 h4 := f3.trans f4 (fun b g => .inr (hat3 b g))
  replace oq := oq.fr F4 (fun g => g)
  have F4' := F2.same F4
  have hn2 := F2.next
  have gv := gv.lo hn2
  have eA : anewL old n w x = (old.take (n - 1)).reverse ++ (if w then [x] else []) := rfl
  have hRl : (old.take (n - 1)).reverse.length = n - 1 := by rw [List.length_reverse, hlt_]
  obtain ⟨R, hR⟩ : ∃ R, R = (old.take (n - 1)).reverse := ⟨_, rfl⟩
  rw [← hR] at gv eA hRl
  refine RunC.seqc (fun E' h' => ∃ av, Gr h.next h' av 8 (anewL old n w x).length (recCs (anewL old n w x)) ∧ Fr no h h' ∧ Le ((upd (upd (upd (upd (upd (upd E0 1 (.slice bA bl.length bc)) 2 (.int .i64 (n : Int))) 5 (.slice fA free.length fc)) 12 (.slice none 0 0)) 13 (.int .i64 0)) 16 (av))) E') ?wi ?by1
  case wi =>
    refine RunC.seq (RunC.region (RunO.all rfl ?_))
    cases w with
    | false =>
      refine RunC.cond rfl (fun g => by cases g) (fun _ => RunC.skip ?_)
      rw [eA, if_neg (by decide), List.append_nil]
      exact ⟨av, gv, F4', Le.cons rfl (Le.cons rfl (Le.cons rfl (Le.cons rfl (Le.cons rfl (Le.cons rfl (Le.nil _))))))⟩
    | true =>
      refine RunC.cond rfl (fun _ => ?_) (fun g => by cases g)
      refine RunC.region (RunO.part 1 rfl ?_)
      refine RunO.load (v := .agg ⟨rc8 x⟩) rfl (oq.ld rfl) rfl ?_
      refine RunO.part 1 (h1 := h4.push ⟨rc8 x, true⟩) rfl ?_
      have ol := Ow.push h4 (rc8 x)
      have f5 : Fr no h4 (h4.push ⟨rc8 x, true⟩) := Fr.push _ _ _
      have gv5 := gv.fr0 f5
      generalize h4.push ⟨rc8 x, true⟩ = h5 at *
      generalize h4.next = lb at *
      refine RunO.appendG (s := 8) (j := 1) rfl rfl rfl rfl rfl rfl rfl rfl (by decide) gv5 ol.all rfl (Nat.le_refl 1) rfl (by show 2 * (_ + 1) * 64 ≤ _; omega) (by omega) ?_
      intro av2 h6 row f6
      refine RunO.all rfl ?_
      have F6 := (F4'.same f5).trans f6 (fun b g => .inr (gv5.at g).1)
      refine ⟨av2, ?_, F6, Le.cons rfl (Le.cons rfl (Le.cons rfl (Le.cons rfl (Le.cons rfl (Le.cons rfl (Le.nil _))))))⟩
      rw [eA, if_pos rfl, List.length_append, recCs_app]
      exact row.gr.lo (F4'.same f5).next
  rintro E' h5 ⟨av, gw, F5, hE⟩
  refine RunC.le hE ?_
  clear hE gv F4' F4 f4 f3 ga st f2 F2 oq f1
  have hAl : (anewL old n w x).length ≤ 10001 := by rw [eA, List.length_append, hRl]; split <;> (simp; omega)
  have hok := hok
  clear eA hRl
  generalize anewL old n w x = A at *
  have sav := gw.sl (by omega)
  have sav0 := sav
  obtain ⟨nA, nc, rfl, _, _⟩ := sav.form
  refine RunC.seq (RunC.seq (RunC.region (RunO.part 4 rfl ?_)))
  refine RunO.part 1 rfl ?_
  rw [decide_eq_false (show ¬ ((free.length : Int) < (A.length : Int)) by omega)]
  refine RunO.all rfl (RunC.cond rfl (fun g => by cases g) (fun _ => RunC.skip ?_))
  have e0 : at0L bl n = if n < bl.length then bl.getD n 0 else 0 := rfl
  generalize at0L bl n = at0 at *
  refine RunC.seqc (fun E' h' => h5 = h' ∧ Le ((upd (upd (upd (upd E0 5 (.slice fA free.length fc)) 12 (.slice none 0 0)) 13 (.int .i64 at0)) 16 (.slice nA A.length nc))) E') ?at_ ?by2
  case at_ =>
    refine RunC.seq (RunC.region (RunO.part 3 rfl ?_))
    refine RunO.part 1 rfl ?_
    by_cases hnb : (n : Int) < (bl.length : Int)
    · rw [decide_eq_true hnb]
      have hnb : n < bl.length := by omega
      refine RunO.all rfl (RunC.cond rfl (fun _ => ?_) (fun g => by cases g))
      refine RunC.region (RunO.part 2 rfl ?_)
      refine RunO.at (s := 1) (k := n) rfl rfl (sb0.fr0 F5) rfl rfl hnb (is_part hnb) rfl rfl rfl (RunO.all rfl ?_)
      have e1 : bl[n] = at0 := by rw [e0, if_pos hnb, List.getD_eq_getElem?_getD, List.getElem?_eq_getElem hnb]; rfl
      rw [e1]
      exact ⟨rfl, Le.cons rfl (Le.cons rfl (Le.cons rfl (Le.cons rfl (Le.nil _))))⟩
    · rw [decide_eq_false hnb]
      refine RunO.all rfl (RunC.cond rfl (fun g => by cases g) (fun _ => RunC.skip ?_))
      have e1 : at0 = 0 := by rw [e0, if_neg (by omega)]
      rw [e1]
      exact ⟨rfl, Le.cons rfl (Le.cons rfl (Le.cons rfl (Le.cons rfl (Le.nil _))))⟩
  rintro E' _ ⟨rfl, hE⟩
  refine RunC.le hE ?_
  clear hE
  refine RunC.seq (RunC.seq (RunC.region (RunO.all rfl ?_)))
  refine RunC.block ?_
  refine RunC.loop (fun d E h' => ∃ (i : Nat) (lv : Value), i + d = A.length ∧ Fr no h5 h' ∧ IoW h.next h' lv (wrA A free at0 i) ∧ (∀ b, At lv b → h5.next ≤ b) ∧ Le ((upd (upd (upd (upd (upd (upd (upd E0 5 (.slice fA free.length fc)) 12 (lv)) 13 (.int .i64 (nxA at0 free i))) 16 (.slice nA A.length nc)) 55 (.slice nA A.length nc)) 56 (.int .i64 (A.length : Int))) 57 (.int .i64 (i : Int)))) E) ?st (k := A.length) ?ini
  case ini => exact ⟨0, .slice none 0 0, by omega, Fr.refl _ _, IoW.nil _ _, (fun b ⟨_, _, e⟩ => by cases e), Le.cons rfl (Le.cons rfl (Le.cons rfl (Le.cons rfl (Le.cons rfl (Le.cons rfl (Le.cons rfl (Le.nil _)))))))⟩
  rintro d E g1 ⟨i, lv, hi, fg, ios, hlv, hE⟩
  refine RunC.le hE ?_
  clear hE
  have Fg := F5.same fg
  refine RunC.seq (RunC.region (RunO.all rfl ?_))
  refine RunC.seq (RunC.cond rfl (fun hlt => RunC.skip ?go) (fun hge => RunC.exit ?ex))
  case ex =>
    have hge := of_decide_eq_false hge
    obtain rfl : i = A.length := by omega
    refine RunC.seq (RunC.region (RunO.part 5 rfl ?_))
    refine RunO.sliceSl (s := 1) (len := free.length) (k := A.length) (m := free.length) rfl rfl rfl rfl rfl (sf0.fr0 Fg) (.some _ _ _) (.none _) hA (Nat.le_refl _) rfl ?_
    intro uv su
    have hdl : (free.drop A.length).length = free.length - A.length := List.length_drop
    have su : Sl g1 uv 1 (free.drop A.length).length (is (free.drop A.length)) := by
      rw [Nat.mul_one, Nat.mul_one, show (is free).drop A.length = is (free.drop A.length) by unfold is; rw [List.map_drop], List.take_of_length_le (by rw [is_len]; omega)] at su
      rw [hdl]; exact su
    refine RunO.callD (cloneI_ok su (by omega)) rfl rfl rfl ?_
    rintro rv g2 ⟨orv, f2, _⟩
    refine RunO.all rfl (RunC.ret ⟨_, rfl, Fg.same f2, lv, rv, rfl, by rw [hqb]; exact ios.fr0 f2, by rw [hqb]; exact orv.lo Fg.next⟩)
  have hlt := of_decide_eq_true hlt
  have hlt : i < A.length := by omega
  have hif : i < free.length := by omega
  have hoki := hok i hlt (by omega)
  have hws := wrA_succ A free at0 i
  have hwl := wrA_len A free at0 i
  have eio : ioA A free at0 i = (1, free.getD i 0, r8B (nx0 (A.getD i ⟨0, 0, 0, 0, 0, 0, 0, 0⟩) (nxA at0 free i)), ()) := rfl
  have hAi : A.getD i ⟨0, 0, 0, 0, 0, 0, 0, 0⟩ = A[i] := by rw [List.getD_eq_getElem?_getD, List.getElem?_eq_getElem hlt]; rfl
  have hpt := recCs_part hlt
  have hfp := is_part hif
  have hfi : free[i] = free.getD i 0 := by rw [List.getD_eq_getElem?_getD, List.getElem?_eq_getElem hif]; rfl
  have hnx : nxA at0 free (i + 1) = free.getD i 0 := by unfold nxA; rw [if_neg (by omega), Nat.add_sub_cancel]
  rw [hAi] at eio hoki
  rw [hfi] at hfp
  generalize free.getD i 0 = fi at *
  generalize nxA at0 free i = ni at *
  generalize A[i] = r at *
  refine RunC.seq (RunC.block ?_)
  refine RunC.seq (RunC.region (RunO.part 1 rfl ?_))
  refine RunO.at (s := 8) (k := i) rfl rfl (sav0.fr0 fg) rfl rfl hlt hpt rfl rfl rfl ?_
  refine RunO.part 2 (h1 := g1.push ⟨rc8 ⟨0, 0, 0, 0, 0, 0, 0, 0⟩, true⟩) rfl ?_
  refine RunO.store rfl rfl (store_ow (s := 8) (Ow.push g1 (rc8 ⟨0, 0, 0, 0, 0, 0, 0, 0⟩)) rfl rfl rfl (Nat.le_refl 8)) (RunO.nil ?_)
  have on : Ow ((g1.push ⟨rc8 ⟨0, 0, 0, 0, 0, 0, 0, 0⟩, true⟩).put g1.next (some ⟨rc8 r, true⟩)) g1.next (rc8 r) := Ow.put _ (Nat.lt_succ_self _)
  have f6 : Fr no g1 ((g1.push ⟨rc8 ⟨0, 0, 0, 0, 0, 0, 0, 0⟩, true⟩).put g1.next (some ⟨rc8 r, true⟩)) := (Fr.push _ _ _).trans (Fr.put (m := (· = g1.next)) _ (.inl rfl)) (fun j hj => .inr (by omega))
  have hlv1 := fun b g => (ios.at (b := b) g).2
  show RunC prog _ _ _ ((g1.push ⟨rc8 ⟨0, 0, 0, 0, 0, 0, 0, 0⟩, true⟩).put g1.next (some ⟨rc8 r, true⟩)) _ _ _
  generalize (g1.push ⟨rc8 ⟨0, 0, 0, 0, 0, 0, 0, 0⟩, true⟩).put g1.next (some ⟨rc8 r, true⟩) = g2 at *
  obtain ⟨pb, hpb⟩ : ∃ q, q = g1.next := ⟨_, rfl⟩
  rw [← hpb] at on hlv1 ⊢
  refine RunC.seq (RunC.region (RunO.part 2 rfl ?_))
  refine RunO.store rfl rfl (store1_ow on rfl rfl rfl (Nat.le_of_ble_eq_true rfl)) (RunO.nil ?_)
  have on2 : Ow (g2.put pb (some ⟨rc8 (nx0 r ni), true⟩)) pb (rc8 (nx0 r ni)) := Ow.put _ on.1
  have f7 : Fr no g1 (g2.put pb (some ⟨rc8 (nx0 r ni), true⟩)) := f6.trans (Fr.put (m := (· = pb)) _ (.inl rfl)) (fun b e => .inr (by have e : b = pb := e; omega))
  show RunC prog _ _ _ (g2.put pb (some ⟨rc8 (nx0 r ni), true⟩)) _ _ _
  generalize g2.put pb (some ⟨rc8 (nx0 r ni), true⟩) = g3 at *
  refine RunC.seq (RunC.region (RunO.part 2 rfl ?_))
  refine RunO.at (s := 1) (k := i) rfl rfl (sf0.fr0 (Fg.same f7)) rfl rfl hif hfp rfl rfl rfl (RunO.all rfl ?_)
  refine RunC.seq (RunC.region ?_)
  refine RunO.load (v := .agg ⟨rc8 (nx0 r ni)⟩) rfl (on2.ld rfl) rfl ?_
  refine RunO.callD (recBytes_ok (n := ni) (id := r.id) (pa := r.pa) (ro := r.ro) (sz := r.sz) (ki := r.ki) (fr := r.fr) (di := r.di)) rfl rfl rfl ?_
  rintro _ g4 ⟨f8, ⟨_, db, hdb, rfl, od⟩ | ⟨g, _⟩⟩
  case inr =>
    have g : r8Ok (nx0 r ni) = false := g
    rw [hoki] at g; cases g
  have od : Ow g4 db (us (r8B (nx0 r ni))) := od
  have hrl := r8B_len (nx0 r ni)
  have hrb := r8B_byt (nx0 r ni)
  have ios4 := (ios.fr0 f7).fr0 f8
  have hn3 := f7.next
  have hn4 := f8.next
  generalize r8B (nx0 r ni) = RB at *
  refine RunO.all rfl ?_
  refine RunC.region (RunO.part 5 (h1 := g4.push ⟨[.int .i64 1, .int .i64 fi, .slice (some ⟨db, 0, none⟩) 64 (exc 64)], true⟩) rfl ?_)
  have ot := Ow.push g4 [.int .i64 1, .int .i64 fi, .slice (some ⟨db, 0, none⟩) 64 (exc 64)]
  have f9 : Fr no g4 (g4.push ⟨[.int .i64 1, .int .i64 fi, .slice (some ⟨db, 0, none⟩) 64 (exc 64)], true⟩) := Fr.push _ _ _
  replace ios4 := ios4.fr0 f9
  replace od := od.fr f9 (fun g => g)
  have F9 := ((fg.same f7).same f8).same f9
  generalize g4.push ⟨[.int .i64 1, .int .i64 fi, .slice (some ⟨db, 0, none⟩) 64 (exc 64)], true⟩ = g5 at *
  obtain ⟨acs, row, kk⟩ := ios4
  refine RunO.appendG (s := 3) (j := 1) rfl rfl rfl rfl rfl rfl rfl rfl (by decide) row.gr ot.all rfl (Nat.le_refl 1) rfl (by show 2 * (_ + 1) * 40 ≤ _; omega) (by omega) ?_
  intro lv2 g6 row2 f10
  have hsd : Sl g5 (.slice (some ⟨db, 0, none⟩) 64 (exc 64)) 1 RB.length (us RB) := by rw [hrl]; exact od.all.sl (by rw [us_len, hrl]) (by decide) (Cp.exc (Nat.le_refl _))
  have ios2 := IoW.app (ys := [ioA A free at0 i]) row kk rfl (fun j y hy => by
    match j, hy with
    | 0, hy =>
      rw [eio] at hy
      cases hy
      exact ⟨_, rfl, hsd, hrb, fun b o c e a => by injection e with e1; injection e1 with e1; injection e1 with e1; have := hlv1 b a; omega⟩
    | j + 1, hy => simp at hy) row2 f10 (F5.same F9).next
  rw [← hws] at ios2
  refine RunO.all rfl ?_
  refine RunC.region (RunO.all rfl ?_)
  refine ⟨d - 1, by omega, i + 1, lv2, by omega, F9.trans f10 (fun b g => .inr (hlv b g)), ios2, fun b g => by have := (row2.at g).1; have := F9.next; omega, ?_⟩
  rw [hnx]
  exact Le.cons (inc64 (by omega)) (Le.cons rfl (Le.cons rfl (Le.cons rfl (Le.cons rfl (Le.cons rfl (Le.cons rfl (Le.nil _)))))))
end Go.Proofs.Ytcbakhanpiemhaa
end
section
set_option linter.unusedVariables false
set_option linter.unusedSectionVars false
set_option maxRecDepth 100000
open Go Go.Am Go.RowKit
namespace Go.Proofs.Ytcbakhanpiemhaa
open Go.Proofs.Try

theorem ready_ok {h : Heap} {s : S5} {slot : Int} {rv : Value} (hs : superOk s.1 s.2.1 s.2.2.1 s.2.2.2.1 s.2.2.2.2 = true) (hg : s.1 < 1099511627776) (hsl : slot = 0 ∨ slot = 1) :
    RunF prog 56 [.agg ⟨stc s slot rv⟩] h fun v h' => v = .bool true ∧ Fr no h h' := by
  refine RunF.walk func56 rfl rfl ?_
  refine RunC.seq (RunC.region (RunO.all (h1 := h.push ⟨stc s slot rv, true⟩) rfl ?_))
  have oq := Ow.push h (stc s slot rv)
  have f1 : Fr no h (h.push ⟨stc s slot rv, true⟩) := Fr.push _ _ _
  generalize h.push ⟨stc s slot rv, true⟩ = h1 at *
  generalize h.next = qb at *
  refine RunC.seq (RunC.region (RunO.part 1 rfl ?_))
  refine RunO.load (v := .agg ⟨sc s.1 s.2.1 s.2.2.1 s.2.2.2.1 s.2.2.2.2⟩) rfl (oq.ld rfl) rfl ?_
  refine RunO.callD (superCheck_ok (g := s.1) (bl := s.2.1) (rt := s.2.2.1) (sz := s.2.2.2.1) (fi := s.2.2.2.2)) rfl rfl rfl ?_
  rw [hs]
  rintro _ h2 ⟨rfl, f2⟩
  replace oq := oq.fr f2 (fun g => g)
  refine RunO.part 4 rfl ?_
  refine RunO.loadG (v := .int .i64 s.1) rfl rfl (oq.ld rfl) rfl ?_
  refine RunO.part 1 rfl ?_
  rw [decide_eq_true hg]
  refine RunO.part 3 rfl ?_
  refine RunO.loadG (v := .int .i64 slot) rfl rfl (oq.ld rfl) rfl ?_
  rcases hsl with rfl | rfl
  · exact RunO.all rfl (RunC.ret ⟨_, rfl, rfl, f1.same f2⟩)
  · refine RunO.part 3 rfl ?_
    refine RunO.loadG (v := .int .i64 1) rfl rfl (oq.ld rfl) rfl ?_
    exact RunO.all rfl (RunC.ret ⟨_, rfl, rfl, f1.same f2⟩)
theorem write_ok {h : Heap} {a B : Int} {A : Option Addr} {c : Nat} (h2 : 2 ≤ a) (hB : a < B) :
    RunF prog 60 [.agg ⟨[.int .i64 1, .int .i64 a, .slice A 64 c]⟩, .int .i64 B] h fun v h' => v = .bool true ∧ Fr no h h' := by
  refine RunF.walk func60 rfl rfl ?_
  refine RunC.seq (RunC.region (RunO.all (h1 := h.push ⟨[.int .i64 1, .int .i64 a, .slice A 64 c], true⟩) rfl ?_))
  have oq := Ow.push h [.int .i64 1, .int .i64 a, .slice A 64 c]
  have f1 : Fr no h (h.push ⟨[.int .i64 1, .int .i64 a, .slice A 64 c], true⟩) := Fr.push _ _ _
  generalize h.push ⟨[.int .i64 1, .int .i64 a, .slice A 64 c], true⟩ = h1 at *
  generalize h.next = qb at *
  refine RunC.seq (RunC.region (RunO.part 1 rfl ?_))
  refine RunO.load (v := .int .i64 1) rfl (oq.ld rfl) rfl ?_
  refine RunO.part 3 rfl ?_
  refine RunO.loadG (v := .int .i64 a) rfl rfl (oq.ld rfl) rfl ?_
  refine RunO.part 1 rfl ?_
  rw [decide_eq_true (show a ≥ 2 from h2)]
  refine RunO.part 3 rfl ?_
  refine RunO.loadG (v := .int .i64 a) rfl rfl (oq.ld rfl) rfl ?_
  refine RunO.part 2 rfl ?_
  rw [decide_eq_true hB]
  refine RunO.part 3 rfl ?_
  refine RunO.loadG (v := .slice A 64 c) rfl rfl (oq.ld rfl) rfl ?_
  exact RunO.all rfl (RunC.ret ⟨_, rfl, rfl, f1⟩)
theorem stepsC_ok {h : Heap} {q : Nat} {g B r z f a : Int} {A : Option Addr} {c : Nat} (oq : Ow h q (sc g B r z f)) (h2 : 2 ≤ a) (hB : a < B) :
    RunF prog 59 [.agg ⟨[.int .i64 1, .int .i64 a, .slice A 64 c]⟩, .pointer (some ⟨q, 0, none⟩)] h fun v h' => v = .bool false ∧ Fr no h h' := by
  refine RunF.walk func59 rfl rfl ?_
  refine RunC.seq (RunC.region (RunO.all (h1 := h.push ⟨[.int .i64 1, .int .i64 a, .slice A 64 c], true⟩) rfl ?_))
  have ob := Ow.push h [.int .i64 1, .int .i64 a, .slice A 64 c]
  have f1 : Fr no h (h.push ⟨[.int .i64 1, .int .i64 a, .slice A 64 c], true⟩) := Fr.push _ _ _
  replace oq := oq.fr f1 (fun g => g)
  generalize h.push ⟨[.int .i64 1, .int .i64 a, .slice A 64 c], true⟩ = h1 at *
  generalize h.next = qb at *
  refine RunC.seq (RunC.region ?_)
  refine RunO.load (v := .agg ⟨[.int .i64 1, .int .i64 a, .slice A 64 c]⟩) rfl (ob.ld rfl) rfl ?_
  refine RunO.part 1 rfl ?_
  refine RunO.load (v := .int .i64 B) rfl (oq.ld rfl) rfl ?_
  refine RunO.callD (write_ok h2 hB) rfl rfl rfl ?_
  rintro _ h3 ⟨rfl, f3⟩
  exact RunO.all rfl (RunC.ret ⟨_, rfl, rfl, f1.same f3⟩)
def cmtT (s : S5) (slot root size first : Int) : List IoT := [((2 : Int), (0 : Int), ([] : List Int), ()), ((1 : Int), 1 - slot, superBlock (s.1 + 1) s.2.1 root size first, ()), ((2 : Int), (0 : Int), ([] : List Int), ())]
set_option maxHeartbeats 32000000 in
theorem commitSteps_ok {h : Heap} {lv rv : Value} {l : List IoT} {s : S5} {slot root size first : Int} (sl : Ios h lv l) (hl : l.length ≤ 1000) (hs : superOk s.1 s.2.1 s.2.2.1 s.2.2.2.1 s.2.2.2.2 = true) (hg : s.1 < 1099511627776) (hsl : slot = 0 ∨ slot = 1)
    (hn : superOk (s.1 + 1) s.2.1 root size first = true) (hw : ∀ x ∈ l, x.1 = 1 ∧ 2 ≤ x.2.1 ∧ x.2.1 < s.2.1 ∧ x.2.2.1.length = 64) :
    RunF prog 27 [.agg ⟨stc s slot rv⟩, lv, .int .i64 root, .int .i64 size, .int .i64 first] h fun v h' => Fr no h h' ∧ ∃ ov, v = .tuple #[ov, .int .i64 0] ∧ IoW h.next h' ov (l ++ cmtT s slot root size first) := by
  refine RunF.walk func27 rfl rfl ?_
  have hgr := ((superOk_iff _ _ _ _ _).1 hs).1
  obtain ⟨acs, sa, ka⟩ := sl
  have sa0 := sa
  have hal := sa.1
  obtain ⟨lA, lc, rfl, _, _⟩ := sa.form
  have hel : ∀ j (hj : j < l.length), ∃ A c, (acs.drop (j * 3)).take 3 = [.int .i64 1, .int .i64 l[j].2.1, .slice A 64 c] ∧ Sl h (.slice A 64 c) 1 64 (us l[j].2.2.1) ∧ Byt l[j].2.2.1 := fun j hj => by
    obtain ⟨dv, e, sd, hb⟩ := ka j l[j] (List.getElem?_eq_getElem hj)
    obtain ⟨h1, h2, h3, h4⟩ := hw l[j] (List.getElem_mem hj)
    obtain ⟨A, c, rfl, _, _⟩ := sd.form
    rw [h4] at sd e
    rw [h1] at e
    exact ⟨A, c, e, sd, hb⟩
  refine RunC.seq (RunC.region (RunO.all (h1 := h.push ⟨stc s slot rv, true⟩) rfl ?_))
  have oq := Ow.push h (stc s slot rv)
  have f1 : Fr no h (h.push ⟨stc s slot rv, true⟩) := Fr.push _ _ _
  generalize h.push ⟨stc s slot rv, true⟩ = h1 at *
  obtain ⟨qb, hqb⟩ : ∃ q, q = h.next := ⟨_, rfl⟩
  rw [← hqb] at oq ⊢
  refine RunC.seq (RunC.seq (RunC.region ?_))
  refine RunO.load (v := .agg ⟨stc s slot rv⟩) rfl (oq.ld rfl) rfl ?_
  refine RunO.callD (ready_ok hs hg hsl) rfl rfl rfl ?_
  rintro _ h2 ⟨rfl, f2⟩
  refine RunO.all rfl (RunC.cond rfl (fun g => by cases g) (fun _ => RunC.skip ?_))
  replace oq := oq.fr f2 (fun g => g)
  have F2 := f1.same f2
  refine RunC.seq (RunC.region (RunO.part 2 rfl ?_))
  refine RunO.load (v := .int .i64 s.1) rfl (oq.ld rfl) rfl ?_
  refine RunO.part 1 rfl ?_
  rw [fw64 (x := s.1 + 1) (by omega) (by omega)]
  refine RunO.part 2 rfl ?_
  refine RunO.load (v := .int .i64 s.2.1) rfl (oq.ld rfl) rfl ?_
  refine RunO.part 5 (h1 := h2.push ⟨[.int .i64 0, .int .i64 0, .int .i64 0, .int .i64 0, .int .i64 0], true⟩) rfl ?_
  refine RunO.store rfl rfl (store_ow (s := 5) (Ow.push h2 [.int .i64 0, .int .i64 0, .int .i64 0, .int .i64 0, .int .i64 0]) rfl rfl rfl (Nat.le_refl 5)) (RunO.nil ?_)
  have on : Ow ((h2.push ⟨[.int .i64 0, .int .i64 0, .int .i64 0, .int .i64 0, .int .i64 0], true⟩).put h2.next (some ⟨(sc (s.1 + 1) s.2.1 root size first), true⟩)) h2.next (sc (s.1 + 1) s.2.1 root size first) := Ow.put _ (Nat.lt_succ_self _)
  have f3 : Fr no h2 ((h2.push ⟨[.int .i64 0, .int .i64 0, .int .i64 0, .int .i64 0, .int .i64 0], true⟩).put h2.next (some ⟨(sc (s.1 + 1) s.2.1 root size first), true⟩)) := (Fr.push _ _ _).trans (Fr.put (m := (· = h2.next)) _ (.inl rfl)) (fun j hj => .inr (by omega))
  show RunC prog _ _ _ ((h2.push ⟨[.int .i64 0, .int .i64 0, .int .i64 0, .int .i64 0, .int .i64 0], true⟩).put h2.next (some ⟨(sc (s.1 + 1) s.2.1 root size first), true⟩)) _ _ _
  generalize (h2.push ⟨[.int .i64 0, .int .i64 0, .int .i64 0, .int .i64 0, .int .i64 0], true⟩).put h2.next (some ⟨(sc (s.1 + 1) s.2.1 root size first), true⟩) = h3 at *
  generalize h2.next = nb at *
  replace oq := oq.fr f3 (fun g => g)
  refine RunC.seq (RunC.region ?_)
  refine RunO.load (v := .agg ⟨(sc (s.1 + 1) s.2.1 root size first)⟩) rfl (on.ld rfl) rfl ?_
  refine RunO.callD (superBytes_ok (g := s.1 + 1) (bl := s.2.1) (rt := root) (sz := size) (fi := first)) rfl rfl rfl ?_
  rintro _ h4 ⟨f4, ⟨_, sb, hsb, rfl, os⟩ | ⟨g, _⟩⟩
  case inr => rw [hn] at g; cases g
  replace oq := oq.fr f4 (fun g => g)
  replace on := on.fr f4 (fun g => g)
  have F4 := (F2.same f3).same f4
  refine RunO.all rfl ?_
  refine RunC.seq (RunC.seq (RunC.region (RunO.part 5 rfl ?_)))
  have hcs := containsIo_ok (sa0.fr0 F4) (u := fun j => .agg ⟨(acs.drop (j * 3)).take 3⟩) (fun j hj => io_part hal hj) (g := 59) (cap := [.pointer (some ⟨nb, 0, none⟩)]) (p := fun _ => false) (fun j hj h5 f5 => by
    obtain ⟨A, c, e, _, _⟩ := hel j hj
    obtain ⟨_, h2', h3', _⟩ := hw l[j] (List.getElem_mem hj)
    show RunF prog _ [.agg ⟨(acs.drop (j * 3)).take 3⟩, _] h5 _
    rw [e]
    exact stepsC_ok (on.fr f5 (fun g => g)) h2' h3') (by omega)
  refine RunO.callDG rfl hcs rfl rfl rfl ?_
  rw [anyI_false (fun _ _ => rfl)]
  rintro _ h5 ⟨rfl, f5⟩
  refine RunO.all rfl (RunC.cond rfl (fun g => by cases g) (fun _ => RunC.skip ?_))
  replace oq := oq.fr f5 (fun g => g)
  replace os := os.fr f5 (fun g => g)
  have F5 := F4.same f5
  have hsbn := os.1
  refine RunC.seq (RunC.region (RunO.all rfl ?_))
  refine RunC.seq (RunC.seq (RunC.region (RunO.all rfl ?_)))
  refine RunC.block ?_
  refine RunC.loop (fun d E h' => ∃ (i : Nat) (ov : Value), i + d = l.length ∧ Fr no h5 h' ∧ IoW h.next h' ov (l.take i) ∧ (∀ b, At ov b → h5.next ≤ b) ∧ Le ((upd (upd (upd (upd (upd (upd E0 5 (.pointer (some ⟨qb, 0, none⟩))) 13 (.slice (some ⟨sb, 0, none⟩) 64 (exc 64))) 15 (ov)) 45 (.slice lA l.length lc)) 46 (.int .i64 (l.length : Int))) 47 (.int .i64 (i : Int)))) E) ?st (k := l.length) ?ini
  case ini => exact ⟨0, .slice none 0 0, by omega, Fr.refl _ _, IoW.nil _ _, (fun b ⟨_, _, e⟩ => by cases e), Le.cons rfl (Le.cons rfl (Le.cons rfl (Le.cons rfl (Le.cons rfl (Le.cons rfl (Le.nil _))))))⟩
  rintro d E g1 ⟨i, ov, hi, fg, ios, hov, hE⟩
  refine RunC.le hE ?_
  clear hE
  have Fg := F5.same fg
  have hov1 := fun b g => (ios.at (b := b) g).2
  refine RunC.seq (RunC.region (RunO.all rfl ?_))
  refine RunC.seq (RunC.cond rfl (fun hlt => RunC.skip ?go) (fun hge => RunC.exit ?ex))
  case ex =>
    have hge := of_decide_eq_false hge
    obtain rfl : i = l.length := by omega
    rw [List.take_length] at ios
    refine RunC.seq (RunC.region (RunO.part 2 (h1 := g1.push ⟨[.int .i64 0, .int .i64 0, .slice none 0 0], true⟩) rfl ?_))
    refine RunO.store rfl rfl (store_ow (s := 3) (Ow.push g1 [.int .i64 0, .int .i64 0, .slice none 0 0]) rfl rfl rfl (Nat.le_refl 3)) (RunO.nil ?_)
    have ofl : Ow ((g1.push ⟨[.int .i64 0, .int .i64 0, .slice none 0 0], true⟩).put g1.next (some ⟨[.int .i64 2, .int .i64 0, .slice none 0 0], true⟩)) g1.next [.int .i64 2, .int .i64 0, .slice none 0 0] := Ow.put _ (Nat.lt_succ_self _)
    have f6 : Fr no g1 ((g1.push ⟨[.int .i64 0, .int .i64 0, .slice none 0 0], true⟩).put g1.next (some ⟨[.int .i64 2, .int .i64 0, .slice none 0 0], true⟩)) := (Fr.push _ _ _).trans (Fr.put (m := (· = g1.next)) _ (.inl rfl)) (fun j hj => .inr (by omega))
    show RunC prog _ _ _ ((g1.push ⟨[.int .i64 0, .int .i64 0, .slice none 0 0], true⟩).put g1.next (some ⟨[.int .i64 2, .int .i64 0, .slice none 0 0], true⟩)) _ _ _
    generalize (g1.push ⟨[.int .i64 0, .int .i64 0, .slice none 0 0], true⟩).put g1.next (some ⟨[.int .i64 2, .int .i64 0, .slice none 0 0], true⟩) = g2 at *
    generalize g1.next = fb at *
    have fg2 := fg.same f6
    have ios2 := ios.fr0 f6
    replace oq := oq.fr fg2 (fun g => g)
    replace os := os.fr fg2 (fun g => g)
    refine RunC.seq (RunC.region (RunO.part 1 rfl ?_))
    refine RunO.load (v := .agg ⟨[.int .i64 2, .int .i64 0, .slice none 0 0]⟩) rfl (ofl.ld rfl) rfl ?_
    refine RunO.part 1 rfl ?_
    refine RunO.load (v := .int .i64 slot) rfl (oq.ld rfl) rfl ?_
    refine RunO.part 1 rfl ?_
    rw [fw64 (x := 1 - slot) (by omega) (by omega)]
    refine RunO.part 2 rfl ?_
    refine RunO.load (v := .agg ⟨[.int .i64 2, .int .i64 0, .slice none 0 0]⟩) rfl (ofl.ld rfl) rfl ?_
    refine RunO.part 1 (h1 := g2.push ⟨[.int .i64 2, .int .i64 0, .slice none 0 0, .int .i64 1, .int .i64 (1 - slot), .slice (some ⟨sb, 0, none⟩) 64 (exc 64), .int .i64 2, .int .i64 0, .slice none 0 0], true⟩) rfl ?_
    have ot := Ow.push g2 [.int .i64 2, .int .i64 0, .slice none 0 0, .int .i64 1, .int .i64 (1 - slot), .slice (some ⟨sb, 0, none⟩) 64 (exc 64), .int .i64 2, .int .i64 0, .slice none 0 0]
    have f7 : Fr no g2 (g2.push ⟨[.int .i64 2, .int .i64 0, .slice none 0 0, .int .i64 1, .int .i64 (1 - slot), .slice (some ⟨sb, 0, none⟩) 64 (exc 64), .int .i64 2, .int .i64 0, .slice none 0 0], true⟩) := Fr.push _ _ _
    have ios3 := ios2.fr0 f7
    replace os := os.fr f7 (fun g => g)
    have F7 := fg2.same f7
    generalize g2.push ⟨[.int .i64 2, .int .i64 0, .slice none 0 0, .int .i64 1, .int .i64 (1 - slot), .slice (some ⟨sb, 0, none⟩) 64 (exc 64), .int .i64 2, .int .i64 0, .slice none 0 0], true⟩ = g3 at *
    obtain ⟨bcs, row, kk⟩ := ios3
    refine RunO.appendG (s := 3) (j := 3) rfl rfl rfl rfl rfl rfl rfl rfl (by decide) row.gr ot.all rfl (by decide) rfl (by show 2 * (_ + 3) * 40 ≤ _; omega) (by omega) ?_
    intro ov2 g4 row2 f8
    have hbl := superBlock_len (s.1 + 1) s.2.1 root size first
    have hbb := superBlock_byt (s.1 + 1) s.2.1 root size first
    have hbyn : Byt ([] : List Int) := fun x hx => by cases hx
    have fin := IoW.app (ys := cmtT s slot root size first) row kk rfl (fun j y hy => by
      unfold cmtT at hy
      match j, hy with
      | 0, hy => cases hy; exact ⟨_, rfl, Sl.nil _ 1, hbyn, fun b o c e => by cases e⟩
      | 1, hy =>
        cases hy
        refine ⟨_, rfl, ?_, hbb, fun b o c e a => by injection e with e1; injection e1 with e1; injection e1 with e1; have := hov b a; omega⟩
        show Sl g3 _ 1 (superBlock (s.1 + 1) s.2.1 root size first).length (us (superBlock (s.1 + 1) s.2.1 root size first))
        rw [hbl]
        exact os.all.sl (by rw [us_len, hbl]) (by decide) (Cp.exc (Nat.le_refl _))
      | 2, hy => cases hy; exact ⟨_, rfl, Sl.nil _ 1, hbyn, fun b o c e => by cases e⟩
      | j + 3, hy => simp at hy) row2 f8 (F5.same F7).next
    refine RunO.all rfl (RunC.ret ⟨_, rfl, (F5.same F7).trans f8 (fun b g => .inr (by have := hov b g; have := F5.next; omega)), ov2, rfl, by rw [hqb]; exact fin⟩)
  have hlt := of_decide_eq_true hlt
  have hlt : i < l.length := by omega
  obtain ⟨A, c, e, sd, hb⟩ := hel i hlt
  obtain ⟨w1, w2, w3, w4⟩ := hw l[i] (List.getElem_mem hlt)
  have hpt := io_part hal hlt
  rw [e] at hpt
  have htk : l.take (i + 1) = l.take i ++ [l[i]] := List.take_succ_eq_append_getElem hlt
  have htl : (l.take i).length = i := by rw [List.length_take]; omega
  refine RunC.seq (RunC.block ?_)
  refine RunC.seq (RunC.region ?_)
  refine RunO.at (s := 3) (k := i) rfl rfl (sa0.fr0 Fg) rfl rfl hlt hpt rfl rfl rfl ?_
  refine RunO.part 1 (h1 := g1.push ⟨[.int .i64 0, .int .i64 0, .slice none 0 0], true⟩) rfl ?_
  refine RunO.store rfl rfl (store_ow (s := 3) (Ow.push g1 [.int .i64 0, .int .i64 0, .slice none 0 0]) rfl rfl rfl (Nat.le_refl 3)) (RunO.nil ?_)
  have ox : Ow ((g1.push ⟨[.int .i64 0, .int .i64 0, .slice none 0 0], true⟩).put g1.next (some ⟨[.int .i64 1, .int .i64 l[i].2.1, .slice A 64 c], true⟩)) g1.next [.int .i64 1, .int .i64 l[i].2.1, .slice A 64 c] := Ow.put _ (Nat.lt_succ_self _)
  have f6 : Fr no g1 ((g1.push ⟨[.int .i64 0, .int .i64 0, .slice none 0 0], true⟩).put g1.next (some ⟨[.int .i64 1, .int .i64 l[i].2.1, .slice A 64 c], true⟩)) := (Fr.push _ _ _).trans (Fr.put (m := (· = g1.next)) _ (.inl rfl)) (fun j hj => .inr (by omega))
  show RunC prog _ _ _ ((g1.push ⟨[.int .i64 0, .int .i64 0, .slice none 0 0], true⟩).put g1.next (some ⟨[.int .i64 1, .int .i64 l[i].2.1, .slice A 64 c], true⟩)) _ _ _
  generalize (g1.push ⟨[.int .i64 0, .int .i64 0, .slice none 0 0], true⟩).put g1.next (some ⟨[.int .i64 1, .int .i64 l[i].2.1, .slice A 64 c], true⟩) = g2 at *
  have hn6 := f6.next
  generalize hxb : g1.next = xb at *
  have ios2 := ios.fr0 f6
  have fg2 := fg.same f6
  have sd2 := sd.fr0 (Fg.same f6)
  refine RunC.drawT 6 (fun b => At ov b ∨ g2.next ≤ b) rfl ?_
  refine RunQ.part 2 rfl ?_
  refine RunQ.load (v := .int .i64 l[i].2.1) rfl rfl (ox.ld rfl) rfl ?_
  refine RunQ.part 1 rfl ?_
  refine RunQ.load (v := .slice A 64 c) rfl rfl (ox.ld rfl) rfl ?_
  have sd2' : Sl (g2.lo g2.next) (.slice A 64 c) 1 l[i].2.2.1.length (us l[i].2.2.1) := by rw [w4]; exact sd2
  refine RunQ.call rfl (clone8_ok sd2' (by rw [w4]; decide)) (fun v h1 q => q.2.1) rfl rfl rfl ?_
  rintro dv g3 ⟨od, f7, _⟩
  have f7 : Fr no g2 g3 := ⟨f7.next, f7.get, fun l a b c => f7.low l b b c⟩
  have od : Osl g2.next g3 dv 1 l[i].2.2.1.length (us l[i].2.2.1) := od
  have sdv := od.sl
  have hdvb : ∀ b o c, dv = .slice (some ⟨b, o, none⟩) l[i].2.2.1.length c → g2.next ≤ b := fun b o c e => by
    rcases od.2.2 with ⟨e', _⟩ | ⟨b', c', g1', e', _⟩
    · rw [e'] at e; injection e with e1; cases e1
    · rw [e'] at e; injection e with e1; injection e1 with e1; injection e1 with e1; omega
  obtain ⟨dA, dc, rfl, _, _⟩ := sdv.form
  refine RunQ.all rfl ?_
  refine RunT.pure rfl rfl (fun _ => rfl) rfl ?_
  refine RunT.new (ob := ⟨[.int .i64 1, .int .i64 l[i].2.1, .slice dA l[i].2.2.1.length dc], true⟩) rfl rfl (fun _ => rfl) rfl ?_
  have ot := Ow.push g3 [.int .i64 1, .int .i64 l[i].2.1, .slice dA l[i].2.2.1.length dc]
  have f8 : Fr no g3 (g3.push ⟨[.int .i64 1, .int .i64 l[i].2.1, .slice dA l[i].2.2.1.length dc], true⟩) := Fr.push _ _ _
  have ios4 := (ios2.fr0 f7).fr0 f8
  have sdv4 := sdv.fr0 f8
  have F4_ := f7.same f8
  generalize g3.push ⟨[.int .i64 1, .int .i64 l[i].2.1, .slice dA l[i].2.2.1.length dc], true⟩ = g4 at *
  obtain ⟨bcs, row, kk⟩ := ios4
  refine RunT.appendG (s := 3) (j := 1) rfl rfl rfl rfl rfl rfl rfl rfl rfl (by decide) row.gr ot.all rfl (Nat.le_refl 1) rfl (by show 2 * (_ + 1) * 40 ≤ _; omega) (by omega) (fun b g => .inl g) ?_
  intro ov2 g5 row2 f9
  have hn4 := F4_.next
  have fin := IoW.app (ys := [l[i]]) row kk rfl (fun j y hy => by
    match j, hy with
    | 0, hy =>
      cases hy
      exact ⟨_, by rw [w1]; rfl, sdv4, hb, fun b o c e a => by have := hdvb b o c e; have := hov1 b a; omega⟩
    | j + 1, hy => simp at hy) row2 f9 (((F5.same fg2).same F4_).next)
  rw [← htk] at fin
  refine RunT.pure rfl rfl (fun _ => rfl) rfl ?_
  refine RunT.nil ?_
  intro lw F10
  have fin2 : IoW h.next (g5.lo lw) ov2 (l.take (i + 1)) := fin
  have hat2 : ∀ b, At ov2 b → h5.next ≤ b := fun b g => by have := (row2.at g).1; have := fg2.next; omega
  have F10 : Fr no h5 (g5.lo lw) := fg2.trans F10 (fun b g => .inr (by rcases g with g | g; exact hov b g; have := fg2.next; omega))
  generalize g5.lo lw = g6 at *
  refine RunC.region (RunO.all rfl ?_)
  exact ⟨d - 1, by omega, i + 1, ov2, by omega, F10, fin2, hat2, Le.cons (inc64 (by omega)) (Le.cons rfl (Le.cons rfl (Le.cons rfl (Le.cons rfl (Le.cons rfl (Le.nil _))))))⟩
end Go.Proofs.Ytcbakhanpiemhaa
end
section
set_option linter.unusedVariables false
set_option linter.unusedSectionVars false
set_option maxRecDepth 100000
open Go Go.Am Go.RowKit
namespace Go.Proofs.Ytcbakhanpiemhaa
open Go.Proofs.Try

theorem pick_gt {L : List Int} {st : S5 × Int × Bool} {i : Nat} {g bl rt sz fi : Int} (h : blkI L i = superBlock g bl rt sz fi) (ok : superOk g bl rt sz fi = true) (hbl : bl = ((L.length / 64 : Nat) : Int)) (hst : g > st.1.1) : pickStep L st i = ((g, bl, rt, sz, fi), (i : Int), true) := by
  obtain ⟨b1, b2⟩ := super_back ok
  unfold pickStep
  rw [h, b1, b2, if_pos]
  show ((0 : Int) == 0 && (bl == _ && (!st.2.2 || decide (g > st.1.1)))) = true
  rw [hbl, decide_eq_true hst]; simp
theorem pick_le {L : List Int} {st : S5 × Int × Bool} {i : Nat} {g bl rt sz fi : Int} (h : blkI L i = superBlock g bl rt sz fi) (ok : superOk g bl rt sz fi = true) (h2 : st.2.2 = true) (hst : ¬ g > st.1.1) : pickStep L st i = st := by
  obtain ⟨b1, b2⟩ := super_back ok
  unfold pickStep
  rw [h, b1, b2, h2, if_neg]
  show ¬ ((0 : Int) == 0 && (bl == _ && (!true || decide (g > st.1.1)))) = true
  rw [decide_eq_false hst]; simp
/-- One slot stands, the other one is none, or elder. -/
structure Two (B : Nat) (g : Int) (slot : Nat) (rt sz fi : Int) (X : List Int) : Prop where
  len : X.length = B * 64
  byt : Byt X
  cur : blkI X slot = superBlock g (B : Int) rt sz fi
  oth : sCode (blkI X (1 - slot)) ≠ 0 ∨ ∃ g' rt' sz' fi', g' < g ∧ superOk g' (B : Int) rt' sz' fi' = true ∧ blkI X (1 - slot) = superBlock g' (B : Int) rt' sz' fi'
theorem Two.pick {B : Nat} {g rt sz fi : Int} {slot : Nat} {X : List Int} (t : Two B g slot rt sz fi X) (hs : slot = 0 ∨ slot = 1) (ok : superOk g (B : Int) rt sz fi = true) : pickS X = ((g, (B : Int), rt, sz, fi), (slot : Int), true) := by
  have hbl : (B : Int) = ((X.length / 64 : Nat) : Int) := by rw [t.len, Nat.mul_div_cancel _ (by decide)]
  have hg := ((superOk_iff _ _ _ _ _).1 ok).1
  rcases hs with rfl | rfl
  · rcases t.oth with h | ⟨g', rt', sz', fi', h1, h2, h3⟩
    · exact pick_one0 t.cur ok hbl h
    · rw [pick_two, pick_yes t.cur ok hbl rfl, pick_le (i := 1) h3 h2 rfl (by show ¬ g' > g; omega)]
  · rcases t.oth with h | ⟨g', rt', sz', fi', h1, h2, h3⟩
    · exact pick_one1 t.cur ok hbl h
    · rw [pick_two, pick_yes (i := 0) h3 h2 hbl rfl, pick_gt t.cur ok hbl (by show g > g'; omega)]
theorem Two.next {B : Nat} {g rt sz fi rt' sz' fi' : Int} {slot : Nat} {X : List Int} (t : Two B g slot rt sz fi X) (hs : slot = 0 ∨ slot = 1) (hB : 4 ≤ B) (ok : superOk g (B : Int) rt sz fi = true) : Two B (g + 1) (1 - slot) rt' sz' fi' (setBlk X (1 - slot) (superBlock (g + 1) (B : Int) rt' sz' fi')) := by
  have hl := superBlock_len (g + 1) (B : Int) rt' sz' fi'
  have hi : (1 - slot + 1) * 64 ≤ X.length := by rw [t.len]; exact Nat.mul_le_mul_right 64 (by omega)
  refine ⟨by rw [setBlk_len hi hl]; exact t.len, setBlk_byt t.byt (superBlock_byt _ _ _ _ _), blk_set_same hi hl, .inr ⟨g, rt, sz, fi, by omega, ok, ?_⟩⟩
  rw [show 1 - (1 - slot) = slot by omega, blk_set_ne hi hl (by omega)]
  exact t.cur
theorem two_new {B : Nat} (h4 : 4 ≤ B) : Two B 1 0 0 0 0 (newI B) := ⟨newI_len (by omega), newI_byt B, (newI_blk h4).1, .inl (by rw [(newI_blk h4).2, sCode_zeros]; decide)⟩
/-- What a commit's steps make. -/
theorem ap_cmt {o : List Int} {W : List IoT} {s : S5} {slot : Nat} {root size first : Int} (hs : slot = 0 ∨ slot = 1) : applyL o (W ++ cmtT s (slot : Int) root size first) = setBlk (applyL o W) (1 - slot) (superBlock (s.1 + 1) s.2.1 root size first) := by
  unfold applyL cmtT
  rw [List.foldl_append]
  generalize List.foldl applyStep o W = x
  rw [List.foldl_cons, List.foldl_cons, List.foldl_cons, List.foldl_nil]
  have e1 : ∀ y : List Int, applyStep y ((2 : Int), (0 : Int), ([] : List Int), ()) = y := fun y => rfl
  rw [e1, e1]
  rcases hs with rfl | rfl <;> rfl
theorem st_cmt {n : Nat} {W : List IoT} {s : S5} {slot : Nat} {root size first : Int} (hd : devOk n = true) (hs : slot = 0 ∨ slot = 1) (hl : W.length ≤ 1000) (hw : ∀ x ∈ W, wrG n x) : stepsE n (W ++ cmtT s (slot : Int) root size first) = 0 := by
  have hdl : n % 64 = 0 ∧ 4 ≤ n / 64 ∧ n / 64 ≤ 4096 := by
    unfold devOk at hd
    simpa using hd
  refine stepsE_ok hd (by rw [List.length_append]; show W.length + 3 ≤ _; omega) (fun x hx => ?_)
  rcases List.mem_append.1 hx with g | g
  · obtain ⟨h1, ⟨a, ha, hab⟩, h3, _⟩ := hw x g
    exact .inl ⟨h1, ⟨a, ha, by omega⟩, h3⟩
  · unfold cmtT at g
    rcases List.mem_cons.1 g with rfl | g
    · exact .inr ⟨rfl, rfl, rfl⟩
    rcases List.mem_cons.1 g with rfl | g
    · refine .inl ⟨rfl, ⟨1 - slot, ?_, by omega⟩, superBlock_len ..⟩
      show 1 - (slot : Int) = _
      omega
    · rw [List.mem_singleton] at g
      rw [g]
      exact .inr ⟨rfl, rfl, rfl⟩
set_option maxHeartbeats 16000000 in
theorem wakes15_ok {h : Heap} : RunF prog 33 [] h fun v h' => v = .bool true ∧ Fr no h h' := by
  refine RunF.walk func33 rfl rfl ?_
  have h4 : 4 ≤ 8 := by decide
  have hB : 8 ≤ 4096 := by decide
  refine RunC.seq (RunC.region (RunO.all rfl ?_))
  refine RunC.seq (RunC.region ?_)
  refine RunO.callD (openNew_ok (B := 8) h4 hB) rfl rfl rfl ?_
  rintro _ h1 ⟨f1, ib, hib, rfl, oi⟩
  obtain ⟨k1, k2, k3⟩ := lk_new h4 hB
  have hpk := pick_new h4 hB
  have tw := two_new h4
  have hl := newI_len (B := 8) (by decide)
  have hby := newI_byt 8
  generalize newI 8 = L at *
  have k0 : (lk L).2 = 0 := by rw [k1]
  have sli := sl_own oi hl (Cp.exc (Nat.le_refl _)) (by decide)
  refine RunO.all rfl ?_
  refine RunC.seq (RunC.region (RunO.part 1 rfl ?_))
  refine RunO.callD (openOpen_ok sli hby (by omega)) rfl rfl rfl ?_
  rintro _ h2 ⟨f2, ⟨_, rv, rfl, rl⟩ | ⟨g, _⟩⟩
  case inr => exact absurd k0 g
  rw [k3, hpk]
  refine RunO.part 4 (h1 := h2.push ⟨(stc (0, 0, 0, 0, 0) 0 (.slice none 0 0)), true⟩) rfl ?_
  refine RunO.store rfl rfl (store_ow (s := 7) (Ow.push h2 (stc (0, 0, 0, 0, 0) 0 (.slice none 0 0))) rfl rfl (stc_cells rl) (Nat.le_of_ble_eq_true rfl)) (RunO.all rfl ?_)
  rw [stc_store]
  have os : Ow ((h2.push ⟨(stc (0, 0, 0, 0, 0) 0 (.slice none 0 0)), true⟩).put h2.next (some ⟨stc (1, ((8 : Nat) : Int), 0, 0, 0) 0 rv, true⟩)) h2.next (stc (1, ((8 : Nat) : Int), 0, 0, 0) 0 rv) := Ow.put _ (Nat.lt_succ_self _)
  have f3 : Fr no h2 ((h2.push ⟨(stc (0, 0, 0, 0, 0) 0 (.slice none 0 0)), true⟩).put h2.next (some ⟨stc (1, ((8 : Nat) : Int), 0, 0, 0) 0 rv, true⟩)) := (Fr.push _ _ _).trans (Fr.put (m := (· = h2.next)) _ (.inl rfl)) (fun j hj => .inr (by omega))
  show RunC prog _ _ _ ((h2.push ⟨(stc (0, 0, 0, 0, 0) 0 (.slice none 0 0)), true⟩).put h2.next (some ⟨stc (1, ((8 : Nat) : Int), 0, 0, 0) 0 rv, true⟩)) _ _ _
  generalize (h2.push ⟨(stc (0, 0, 0, 0, 0) 0 (.slice none 0 0)), true⟩).put h2.next (some ⟨stc (1, ((8 : Nat) : Int), 0, 0, 0) 0 rv, true⟩) = h3 at *
  generalize h2.next = sb at *
  have sli3 := (sli.fr0 f2).fr0 f3
  refine RunC.seq (RunC.region ?_)
  refine RunO.load (v := .agg ⟨stc (1, ((8 : Nat) : Int), 0, 0, 0) 0 rv⟩) rfl (os.ld rfl) rfl ?_
  have hios : Ios h3 (.slice none 0 0) [] := ⟨[], Sl.nil _ 3, fun j x hx => by cases hx⟩
  have hok2 : superOk (1 + 1) ((8 : Nat) : Int) 0 5 0 = true := by decide
  refine RunO.callD (commitSteps_ok (s := (1, ((8 : Nat) : Int), 0, 0, 0)) (slot := 0) (root := 0) (size := 5) (first := 0) hios (by decide) (by decide) (by show (1 : Int) < _; decide) (.inl rfl) hok2 (fun x hx => by cases hx)) rfl rfl rfl ?_
  rintro _ h5 ⟨f4, lv, rfl, ios⟩
  rw [List.nil_append] at ios
  have hct : (cmtT (1, ((8 : Nat) : Int), 0, 0, 0) 0 0 5 0).length = 3 := rfl
  have ios2 := ios.ios (by decide)
  obtain ⟨lA, lc, rfl⟩ : ∃ a b, lv = .slice a 3 b := by
    obtain ⟨acs, row, _⟩ := ios
    obtain ⟨a, b, e, _⟩ := (row.sl (by decide)).form
    exact ⟨a, b, e⟩
  refine RunO.all rfl ?_
  refine RunC.seq (RunC.region (RunO.part 2 rfl ?_))
  have hst := st_cmt (n := 512) (W := []) (s := (1, ((8 : Nat) : Int), 0, 0, 0)) (slot := 0) (root := 0) (size := 5) (first := 0) (by decide) (.inl rfl) (by decide) (fun x hx => by cases hx)
  have hap := ap_cmt (o := L) (W := []) (s := (1, ((8 : Nat) : Int), 0, 0, 0)) (slot := 0) (root := 0) (size := 5) (first := 0) (.inl rfl)
  rw [List.nil_append] at hst hap
  refine RunO.callD (devApply_ok (sli3.fr0 f4) (by omega) ios2 (by decide)) rfl rfl rfl ?_
  have hst : stepsE L.length (cmtT (1, ((8 : Nat) : Int), 0, 0, 0) 0 0 5 0) = 0 := by rw [hl]; exact hst
  rw [hst]
  rintro _ h6 ⟨f5, ⟨_, xq, xc, hxq, rfl, hxc, ox⟩ | ⟨hno, _⟩⟩
  case inr => exact absurd rfl hno
  have t2 := tw.next (rt' := 0) (sz' := 5) (fi' := 0) (.inl rfl) h4 (by decide)
  have hX : applyL L (cmtT (1, ((8 : Nat) : Int), 0, 0, 0) 0 0 5 0) = setBlk L (1 - 0) (superBlock (1 + 1) ((8 : Nat) : Int) 0 5 0) := hap
  rw [hX] at ox
  have hp2 := t2.pick (.inr rfl) hok2
  have hxl := t2.len
  have hxb := t2.byt
  generalize setBlk L (1 - 0) (superBlock (1 + 1) ((8 : Nat) : Int) 0 5 0) = X at *
  obtain ⟨j1, j2, j3⟩ := lk_empty (by rw [hxl]; decide) hp2 rfl rfl
  have j0 : (lk X).2 = 0 := by rw [j1]
  rw [hl]
  rw [hl, show 8 * 64 = 512 from rfl] at hxc
  have slx : Sl h6 (.slice (some ⟨xq, 0, none⟩) (8 * 64) xc) 1 X.length (us X) := sl_own ox hxl hxc (by decide)
  refine RunO.all rfl ?_
  refine RunC.seq (RunC.region (RunO.part 1 rfl ?_))
  refine RunO.callD (openOpen_ok slx hxb (by omega)) rfl rfl rfl ?_
  rintro _ h7 ⟨f6, ⟨_, wv, rfl, wl⟩ | ⟨g, _⟩⟩
  case inr => exact absurd j0 g
  rw [j3, hp2]
  refine RunO.part 4 (h1 := h7.push ⟨(stc (0, 0, 0, 0, 0) 0 (.slice none 0 0)), true⟩) rfl ?_
  refine RunO.store rfl rfl (store_ow (s := 7) (Ow.push h7 (stc (0, 0, 0, 0, 0) 0 (.slice none 0 0))) rfl rfl (stc_cells wl) (Nat.le_of_ble_eq_true rfl)) (RunO.all rfl ?_)
  rw [stc_store]
  have ot : Ow ((h7.push ⟨(stc (0, 0, 0, 0, 0) 0 (.slice none 0 0)), true⟩).put h7.next (some ⟨stc (1 + 1, ((8 : Nat) : Int), 0, 5, 0) ((1 - 0 : Nat) : Int) wv, true⟩)) h7.next (stc (1 + 1, ((8 : Nat) : Int), 0, 5, 0) ((1 - 0 : Nat) : Int) wv) := Ow.put _ (Nat.lt_succ_self _)
  have f7 : Fr no h7 ((h7.push ⟨(stc (0, 0, 0, 0, 0) 0 (.slice none 0 0)), true⟩).put h7.next (some ⟨stc (1 + 1, ((8 : Nat) : Int), 0, 5, 0) ((1 - 0 : Nat) : Int) wv, true⟩)) := (Fr.push _ _ _).trans (Fr.put (m := (· = h7.next)) _ (.inl rfl)) (fun j hj => .inr (by omega))
  show RunC prog _ _ _ ((h7.push ⟨(stc (0, 0, 0, 0, 0) 0 (.slice none 0 0)), true⟩).put h7.next (some ⟨stc (1 + 1, ((8 : Nat) : Int), 0, 5, 0) ((1 - 0 : Nat) : Int) wv, true⟩)) _ _ _
  generalize (h7.push ⟨(stc (0, 0, 0, 0, 0) 0 (.slice none 0 0)), true⟩).put h7.next (some ⟨stc (1 + 1, ((8 : Nat) : Int), 0, 5, 0) ((1 - 0 : Nat) : Int) wv, true⟩) = h8 at *
  generalize h7.next = tb at *
  refine RunC.seq (RunC.region (RunO.part 2 (h1 := h8.push ⟨[.int .i64 4, .int .i64 6], true⟩) rfl ?_))
  have of := Ow.push h8 [.int .i64 4, .int .i64 6]
  have f8 : Fr no h8 (h8.push ⟨[.int .i64 4, .int .i64 6], true⟩) := Fr.push _ _ _
  replace ot := ot.fr f8 (fun g => g)
  generalize h8.push ⟨[.int .i64 4, .int .i64 6], true⟩ = h9 at *
  generalize h8.next = fb at *
  have sf : Sl h9 (.slice (some ⟨fb, 0, none⟩) 2 (exc 2)) 1 ([4, 6] : List Int).length (is [4, 6]) := of.all.sl (s := 1) rfl (by decide) (Cp.exc (Nat.le_refl _))
  have hup : ∀ i, i + 1 < ([4, 6] : List Int).length → ([4, 6] : List Int).getD i 0 < ([4, 6] : List Int).getD (i + 1) 0 := fun i hi => by
    have hi : i + 1 < 2 := hi
    obtain rfl : i = 0 := by omega
    decide
  have hmay : MayOk [] [] 0 ⟨0, 3, 0, 0, 0, 0, 0, 0⟩ true [4, 6] := ⟨rfl, Nat.le_refl _, (fun r hr => by cases hr), (fun _ => by decide), (fun a ha => by cases ha), (by decide), hup, (by decide), (by decide)⟩
  refine RunO.callD (commitRecords_ok (old := []) (bl := []) (free := [4, 6]) (n := 0) (x := ⟨0, 3, 0, 0, 0, 0, 0, 0⟩) (w := true) (Sl.nil _ 8) (Sl.nil _ 1) sf hmay (by decide)) rfl rfl rfl ?_
  rintro _ g1 ⟨e1, mv, rv2, rfl, iom, orv⟩
  have hA : anewL [] 0 true ⟨0, 3, 0, 0, 0, 0, 0, 0⟩ = [⟨0, 3, 0, 0, 0, 0, 0, 0⟩] := rfl
  rw [hA] at iom orv ⊢
  have iml : (wrA [⟨0, 3, 0, 0, 0, 0, 0, 0⟩] [4, 6] (at0L [] 0) 1).length = 1 := wrA_len _ _ _ _
  obtain ⟨mA, mc, rfl⟩ : ∃ a b, mv = .slice a 1 b := by
    obtain ⟨acs, row, _⟩ := iom
    obtain ⟨a, b, e, _⟩ := (row.sl (by decide)).form
    exact ⟨a, b, e⟩
  have sor : Sl g1 rv2 1 ([6] : List Int).length (is [6]) := orv.sl
  replace ot := ot.fr e1 (fun g => g)
  refine RunO.all rfl ?_
  refine RunC.seq (RunC.region (RunO.part 26 rfl ?_))
  refine RunO.loadG (v := .int .i64 (1 + 1)) rfl rfl (ot.ld rfl) rfl ?_
  refine RunO.part 4 rfl ?_
  refine RunO.loadG (v := .int .i64 1) rfl rfl (ot.ld rfl) rfl ?_
  refine RunO.part 5 rfl ?_
  refine RunO.loadG (v := .int .i64 5) rfl rfl (ot.ld rfl) rfl ?_
  refine RunO.part 17 rfl ?_
  refine RunO.part 1 (h1 := g1.push ⟨[.int .i64 6], true⟩) rfl ?_
  have oz := Ow.push g1 [.int .i64 6]
  have e2 : Fr no g1 (g1.push ⟨[.int .i64 6], true⟩) := Fr.push _ _ _
  replace sor := sor.fr0 e2
  generalize g1.push ⟨[.int .i64 6], true⟩ = g2 at *
  generalize g1.next = zb at *
  have s6 : Sl g2 (.slice (some ⟨zb, 0, none⟩) 1 (exc 1)) 1 ([6] : List Int).length (is [6]) := oz.all.sl (s := 1) rfl (by decide) (Cp.exc (Nat.le_refl _))
  refine RunO.callDG rfl (keepInts_ok sor s6 (by decide)) rfl rfl rfl ?_
  rintro _ _ ⟨rfl, rfl⟩
  exact RunO.all rfl (RunC.ret ⟨_, rfl, rfl, (((((((((f1.same f2).same f3).same f4).same f5).same f6).same f7).same f8).same e1).same e2)⟩)
end Go.Proofs.Ytcbakhanpiemhaa
end
section
set_option linter.unusedVariables false
set_option linter.unusedSectionVars false
set_option maxRecDepth 100000
open Go Go.Am Go.RowKit
namespace Go.Proofs.Ytcbakhanpiemhaa
open Go.Proofs.Try

theorem rm_getD {α : Type} (f : Nat → α) (z : α) {n i : Nat} : ((List.range n).map f).getD i z = if i < n then f i else z := by
  rw [List.getD_eq_getElem?_getD, List.getElem?_map]
  split
  · rename_i h; rw [List.getElem?_range h]; rfl
  · rename_i h; rw [List.getElem?_eq_none (by rw [List.length_range]; omega)]; rfl
theorem rm_get {α : Type} (f : Nat → α) {n i : Nat} (h : i < ((List.range n).map f).length) : ((List.range n).map f)[i] = f i := by
  rw [List.getElem_map, List.getElem_range]
/-- A chain of whole records, wherever they stand. -/
theorem fol_chain {L : List Int} {B N : Nat} {bs : Nat → Int} {rs : Nat → R8} (hb : ∀ i, i < N → rCode (blkI L (bs i).toNat) = 0 ∧ rPar (blkI L (bs i).toNat) = rs i) (hki : ∀ i, i < N → (rs i).ki = 0) (hnx : ∀ i, i < N → (rs i).nx = if i + 1 < N then bs (i + 1) else 0)
    (hid : ∀ i j, i < N → j < i → (rs j).id ≠ (rs i).id) (hbs : ∀ i, i < N → 2 ≤ bs i ∧ bs i < (B : Int)) (hnd : ∀ i j, i < N → j < i → bs j ≠ bs i) (hw : N ≤ 60) :
    ∀ k, k ≤ N → ∀ F, k ≤ F → fol L B F (if 0 < N then bs 0 else 0) [] [] 0 = fol L B (F - k) (if k < N then bs k else 0) ((List.range k).map rs) ((List.range k).map bs) k
  | 0, _, F, _ => rfl
  | k + 1, hk, F, hF => by
    rw [fol_chain hb hki hnx hid hbs hnd hw k (by omega) F (by omega)]
    obtain ⟨f, hf⟩ : ∃ f, F - k = f + 1 := ⟨F - k - 1, by omega⟩
    rw [hf, show F - (k + 1) = f by omega, if_pos (show k < N by omega), fol_succ]
    obtain ⟨b1, b2⟩ := hb k (by omega)
    obtain ⟨c1, c2⟩ := hbs k (by omega)
    have hnc : ((List.range k).map bs).contains (bs k) = false := Bool.eq_false_iff.2 (fun g => by
      obtain ⟨j, hj, e⟩ := List.mem_map.1 (List.contains_iff_mem.1 g)
      exact hnd k j (by omega) (List.mem_range.1 hj) e)
    rw [if_neg (by omega), if_neg (by unfold folB; rw [hnc, decide_eq_false (by omega), decide_eq_false (by omega)]; simp), b1, b2, if_neg]
    · rw [hki k (by omega), hnx k (by omega), List.range_succ, List.map_append, List.map_append, if_pos (show ((0 : Int) == 0) = true from rfl)]
      rfl
    · rw [show ((0 : Int) != 0) = false from rfl, Bool.false_or, Bool.not_eq_true', Bool.not_eq_false]
      unfold mayR
      rw [hki k (by omega), if_neg (by decide), decide_eq_true (by omega), Bool.and_true, Bool.not_eq_true', List.any_eq_false]
      intro x hx
      obtain ⟨j, hj, rfl⟩ := List.mem_map.1 hx
      have := hid k j (by omega) (List.mem_range.1 hj)
      simpa using this
def cOld (at_ n id : Nat) : List R8 := (List.range n).map (rcR at_ n id)
def cBl (at_ n : Nat) : List Int := (List.range n).map fun i => ((at_ + i : Nat) : Int)
def cFr : List Int := (List.range 10).map fun i => ((2 + i : Nat) : Int)
def cFst (id : Nat) : R8 := ⟨0, ((id + 500 : Nat) : Int), 0, 0, 0, 0, 0, 0⟩
def wN (w : Bool) : Nat := if w then 1 else 0
def cA (at_ n id k : Nat) (w : Bool) : List R8 := anewL (cOld at_ n id) k w (cFst id)
def bsC (at_ o k : Nat) (w : Bool) (i : Nat) : Int := if i < o + wN w then ((2 + (o + wN w - 1 - i) : Nat) : Int) else ((at_ + k + (i - (o + wN w)) : Nat) : Int)
def rsC (at_ n id o k : Nat) (w : Bool) (i : Nat) : R8 := if i < o + wN w then nx0 ((cA at_ n id k w).getD (o + wN w - 1 - i) ⟨0, 0, 0, 0, 0, 0, 0, 0⟩) (nxA (at0L (cBl at_ n) k) cFr (o + wN w - 1 - i)) else rcR at_ n id (k + (i - (o + wN w)))
def idN (id o k : Nat) (w : Bool) (i : Nat) : Nat := if i < o + wN w then (if w = true ∧ i = 0 then id + 500 else id + (i - wN w)) else id + k + (i - (o + wN w))
theorem cFr_get {i : Nat} (h : i < 10) : cFr.getD i 0 = ((2 + i : Nat) : Int) := by unfold cFr; rw [rm_getD, if_pos h]
section
variable {at_ n id o k : Nat} {w : Bool} (h1 : 1 ≤ n) (h8 : n ≤ 8) (a1 : 12 ≤ at_) (a2 : at_ ≤ 16) (i1 : 1 ≤ id) (i2 : id ≤ 1000) (hk : (k = 0 ∧ o = 0) ∨ (k = o + 1 ∧ o < n))
include h1 h8 a1 a2 i1 i2 hk
theorem cA_len : (cA at_ n id k w).length = o + wN w := by
  unfold cA anewL cOld wN
  rw [List.length_append, List.length_reverse, List.length_take, List.length_map, List.length_range]
  cases w
  · show min (k - 1) n + 0 = o + 0; omega
  · show min (k - 1) n + 1 = o + 1; omega
theorem cA_get {i : Nat} (hi : i < o + wN w) : (cA at_ n id k w).getD i ⟨0, 0, 0, 0, 0, 0, 0, 0⟩ = if i < o then rcR at_ n id (o - 1 - i) else cFst id := by
  have hl : ((cOld at_ n id).take (k - 1)).reverse.length = o := by unfold cOld; rw [List.length_reverse, List.length_take, List.length_map, List.length_range]; omega
  have hol : (cOld at_ n id).length = n := by unfold cOld; rw [List.length_map, List.length_range]
  unfold cA anewL
  by_cases h : i < o
  · rw [if_pos h, List.getD_eq_getElem?_getD, List.getElem?_append_left (by omega), List.getElem?_reverse (by rw [List.length_take]; omega), List.length_take, hol, List.getElem?_take, if_pos (by omega), show min (k - 1) n - 1 - i = o - 1 - i by omega]
    unfold cOld
    rw [List.getElem?_map, List.getElem?_range (by omega)]; rfl
  · rw [if_neg h]
    cases w with
    | false => exact absurd hi (by show ¬ i < o + 0; omega)
    | true =>
      have hi : i < o + 1 := hi
      rw [if_pos rfl, List.getD_eq_getElem?_getD, List.getElem?_append_right (by omega), hl, show i - o = 0 by omega]; rfl
theorem c_may : MayOk (cOld at_ n id) (cBl at_ n) k (cFst id) w cFr := by
  have hfl : cFr.length = 10 := by unfold cFr; rw [List.length_map, List.length_range]
  refine ⟨by unfold cOld cBl; rw [List.length_map, List.length_map], by unfold cOld; rw [List.length_map, List.length_range]; omega, fun r hr => ?_, fun _ => ?_, fun a ha => ?_, fun a ha => ?_, fun i hi => ?_, by unfold cOld; rw [List.length_map, List.length_range]; omega, by rw [hfl]; omega⟩
  · unfold cOld at hr
    obtain ⟨j, hj, rfl⟩ := List.mem_map.1 hr
    exact rcR_ok (by omega) i1 (by omega) (List.mem_range.1 hj) (by omega)
  · exact rcR_ok (at_ := 2) (n := 1) (id := id + 500) (i := 0) (by decide) (by omega) (by omega) (by decide) (by decide)
  · unfold cBl at ha
    obtain ⟨j, hj, rfl⟩ := List.mem_map.1 ha
    have := List.mem_range.1 hj
    unfold placeB
    rw [decide_eq_true (by omega), decide_eq_true (by omega)]; rfl
  · unfold cFr at ha
    obtain ⟨j, hj, rfl⟩ := List.mem_map.1 ha
    have := List.mem_range.1 hj
    unfold placeB
    rw [decide_eq_true (by omega), decide_eq_true (by omega)]; rfl
  · rw [hfl] at hi
    rw [cFr_get (by omega), cFr_get hi]
    omega
theorem c_at0 : at0L (cBl at_ n) k = if k < n then ((at_ + k : Nat) : Int) else 0 := by
  have : (cBl at_ n).length = n := by unfold cBl; rw [List.length_map, List.length_range]
  unfold at0L
  rw [this]
  split
  · rename_i h
    unfold cBl
    rw [rm_getD, if_pos h]
  · rfl
theorem c_nx {i : Nat} (hi : i ≤ o + wN w) : nxA (at0L (cBl at_ n) k) cFr i = if i = 0 then (if k < n then ((at_ + k : Nat) : Int) else 0) else ((2 + (i - 1) : Nat) : Int) := by
  have hw1 : wN w ≤ 1 := by cases w <;> decide
  unfold nxA
  rw [c_at0 h1 h8 a1 a2 i1 i2 hk]
  split
  · rfl
  · rw [cFr_get (by omega)]
theorem rsC_id {i : Nat} (hi : i < o + wN w + (n - k)) : (rsC at_ n id o k w i).id = (idN id o k w i : Int) ∧ (rsC at_ n id o k w i).ki = 0 ∧ (rsC at_ n id o k w i).ro = 0 := by
  unfold rsC idN
  by_cases h : i < o + wN w
  · rw [if_pos h, if_pos h, cA_get h1 h8 a1 a2 i1 i2 hk (w := w) (by omega)]
    cases w with
    | false =>
      have h : i < o + 0 := h
      rw [if_neg (show ¬ (false = true ∧ i = 0) from fun g => by cases g.1), if_pos (show o + wN false - 1 - i < o by show o + 0 - 1 - i < o; omega)]
      refine ⟨?_, rfl, rfl⟩
      show ((id + (o - 1 - (o + 0 - 1 - i)) : Nat) : Int) = ((id + (i - 0) : Nat) : Int)
      congr 1 <;> omega
    | true =>
      have h : i < o + 1 := h
      by_cases h0 : i = 0
      · rw [if_pos (show true = true ∧ i = 0 from ⟨rfl, h0⟩), if_neg (show ¬ o + wN true - 1 - i < o by show ¬ o + 1 - 1 - i < o; omega)]
        exact ⟨rfl, rfl, rfl⟩
      · rw [if_neg (show ¬ (true = true ∧ i = 0) from fun g => h0 g.2), if_pos (show o + wN true - 1 - i < o by show o + 1 - 1 - i < o; omega)]
        refine ⟨?_, rfl, rfl⟩
        show ((id + (o - 1 - (o + 1 - 1 - i)) : Nat) : Int) = ((id + (i - 1) : Nat) : Int)
        congr 1 <;> omega
  · rw [if_neg h, if_neg h]
    refine ⟨?_, rfl, rfl⟩
    show ((id + (k + (i - (o + wN w))) : Nat) : Int) = _
    congr 1 <;> omega
theorem chain_fol {Y : List Int} (hl : Y.length = 1920) (hY : ∀ i, i < o + wN w + (n - k) → blkI Y (bsC at_ o k w i).toNat = r8B (rsC at_ n id o k w i)) :
    folOf Y (nxA (at0L (cBl at_ n) k) cFr (o + wN w)) = ((List.range (o + wN w + (n - k))).map (rsC at_ n id o k w), (List.range (o + wN w + (n - k))).map (bsC at_ o k w), o + wN w + (n - k), 0) := by
  have hw1 : wN w ≤ 1 := by cases w <;> decide
  have hw0 : w = true ∨ wN w = 0 := by cases w; exact .inr rfl; exact .inl rfl
  have hN : o + wN w + (n - k) ≤ 10 := by omega
  have hmay := c_may (w := w) h1 h8 a1 a2 i1 i2 hk
  have hAl := cA_len (w := w) h1 h8 a1 a2 i1 i2 hk
  have hfl : cFr.length = 10 := by unfold cFr; rw [List.length_map, List.length_range]
  have hok : ∀ i, i < o + wN w + (n - k) → r8Ok (rsC at_ n id o k w i) = true := fun i hi => by
    unfold rsC
    split
    · exact anew_ok hmay (i := o + wN w - 1 - i) (by show _ < (cA at_ n id k w).length; omega) (by omega)
    · exact rcR_ok (by omega) i1 (by omega) (by omega) (by omega)
  have key := fol_chain (L := Y) (B := 30) (N := o + wN w + (n - k)) (bs := bsC at_ o k w) (rs := rsC at_ n id o k w) (fun i hi => by rw [hY i hi]; exact r8_back (hok i hi)) (fun i hi => (rsC_id h1 h8 a1 a2 i1 i2 hk hi).2.1)
    (fun i hi => by
      unfold rsC
      by_cases h : i < o + wN w
      · rw [if_pos h]
        show nxA (at0L (cBl at_ n) k) cFr (o + wN w - 1 - i) = _
        rw [c_nx (w := w) h1 h8 a1 a2 i1 i2 hk (by omega)]
        unfold bsC
        by_cases h0 : o + wN w - 1 - i = 0
        · rw [if_pos h0, if_neg (show ¬ i + 1 < o + wN w by omega)]
          by_cases hkn : k < n
          · rw [if_pos hkn, if_pos (by omega), show i + 1 - (o + wN w) = 0 by omega, Nat.add_zero]
          · rw [if_neg hkn, if_neg (by omega)]
        · rw [if_neg h0, if_pos (by omega), if_pos (by omega)]
          congr 1 <;> omega
      · rw [if_neg h]
        show rcNx at_ n (k + (i - (o + wN w))) = _
        unfold rcNx bsC
        by_cases hkn : i + 1 < o + wN w + (n - k)
        · rw [if_pos hkn, if_pos (by omega), if_neg (by omega)]
          congr 1 <;> omega
        · rw [if_neg hkn, if_neg (by omega)])
    (fun i j hi hj => by
      rw [(rsC_id h1 h8 a1 a2 i1 i2 hk hi).1, (rsC_id h1 h8 a1 a2 i1 i2 hk (show j < o + wN w + (n - k) by omega)).1]
      intro e
      have e : idN id o k w j = idN id o k w i := by omega
      unfold idN at e
      cases w with
      | true =>
        have hwn : wN true = 1 := rfl
        rw [hwn] at e hi
        simp only [true_and] at e
        split at e <;> split at e <;> (try split at e) <;> (try split at e) <;> omega
      | false =>
        have hwn : wN false = 0 := rfl
        rw [hwn] at e hi
        simp only [Bool.false_eq_true, false_and, if_false] at e
        split at e <;> split at e <;> omega)
    (fun i hi => by
      unfold bsC
      by_cases h : i < o + wN w
      · rw [if_pos h]; omega
      · rw [if_neg h]; omega)
    (fun i j hi hj => by
      unfold bsC
      by_cases h : i < o + wN w
      · rw [if_pos h, if_pos (show j < o + wN w by omega)]; omega
      · rw [if_neg h]
        by_cases h' : j < o + wN w
        · rw [if_pos h']; omega
        · rw [if_neg h']; omega)
    (by omega) (o + wN w + (n - k)) (Nat.le_refl _) 30 (by omega)
  have hst : nxA (at0L (cBl at_ n) k) cFr (o + wN w) = if 0 < o + wN w + (n - k) then bsC at_ o k w 0 else 0 := by
    rw [c_nx (w := w) h1 h8 a1 a2 i1 i2 hk (Nat.le_refl _)]
    unfold bsC
    by_cases h0 : o + wN w = 0
    · rw [if_pos h0]
      by_cases hkn : k < n
      · rw [if_pos hkn, if_pos (show 0 < o + wN w + (n - k) by omega), if_neg (show ¬ 0 < o + wN w by omega), show 0 - (o + wN w) = 0 by omega, Nat.add_zero]
      · rw [if_neg hkn, if_neg (show ¬ 0 < o + wN w + (n - k) by omega)]
    · rw [if_neg h0, if_pos (show 0 < o + wN w + (n - k) by omega), if_pos (show 0 < o + wN w by omega)]
      congr 1
  unfold folOf
  rw [hl, hst, show 1920 / 64 = 30 by decide, key, if_neg (Nat.lt_irrefl _)]
  exact fol_end ..
end
end Go.Proofs.Ytcbakhanpiemhaa
end
section
set_option linter.unusedVariables false
set_option linter.unusedSectionVars false
set_option maxRecDepth 100000
open Go Go.Am Go.RowKit
namespace Go.Proofs.Ytcbakhanpiemhaa
open Go.Proofs.Try

def cW (at_ n id o k : Nat) (w : Bool) : List IoT := wrA (cA at_ n id k w) cFr (at0L (cBl at_ n) k) (o + wN w)
def cTo (at_ n o k : Nat) (w : Bool) : Int := nxA (at0L (cBl at_ n) k) cFr (o + wN w)
def cX (at_ n id o k : Nat) (w : Bool) : List Int := applyL (recJ at_ n id) (cW at_ n id o k w)
def cY (at_ n id o k : Nat) (w : Bool) : List Int := setBlk (cX at_ n id o k w) (1 - 0) (superBlock (1 + 1) ((30 : Nat) : Int) 0 0 (cTo at_ n o k w))
theorem wN_le (w : Bool) : wN w ≤ 1 := by cases w <;> decide
theorem cW_len (at_ n id o k : Nat) (w : Bool) : (cW at_ n id o k w).length = o + wN w := wrA_len _ _ _ _
section
variable {at_ n id o k : Nat} {w : Bool} (h1 : 1 ≤ n) (h8 : n ≤ 8) (a1 : 12 ≤ at_) (a2 : at_ ≤ 16) (i1 : 1 ≤ id) (i2 : id ≤ 1000) (hk : (k = 0 ∧ o = 0) ∨ (k = o + 1 ∧ o < n))
include h1 h8 a1 a2 i1 i2 hk
theorem cW_wr : ∀ x ∈ cW at_ n id o k w, x.1 = 1 ∧ 2 ≤ x.2.1 ∧ x.2.1 < 12 ∧ x.2.2.1.length = 64 ∧ Byt x.2.2.1 := by
  intro x hx
  have hw := wN_le w
  unfold cW wrA at hx
  obtain ⟨i, hi, rfl⟩ := List.mem_map.1 hx
  have hi := List.mem_range.1 hi
  have e : (ioA (cA at_ n id k w) cFr (at0L (cBl at_ n) k) i).2.1 = ((2 + i : Nat) : Int) := cFr_get (by omega)
  exact ⟨rfl, by rw [e]; omega, by rw [e]; omega, r8B_len _, r8B_byt _⟩
theorem cW_wg : ∀ x ∈ cW at_ n id o k w, wrG 1920 x := by
  intro x hx
  obtain ⟨b1, b2, b3, b4, b5⟩ := cW_wr h1 h8 a1 a2 i1 i2 hk x hx
  exact ⟨b1, ⟨x.2.1.toNat, by omega, by omega⟩, b4, b5⟩
theorem cW_pair : List.Pairwise (fun x y : IoT => x.2.1 ≠ y.2.1) (cW at_ n id o k w) := by
  have hw := wN_le w
  unfold cW wrA
  rw [List.pairwise_map]
  refine List.Pairwise.imp_of_mem (fun {a b} ha hb h => ?_) (List.pairwise_lt_range (n := o + wN w))
  have ha := List.mem_range.1 ha
  have hb := List.mem_range.1 hb
  show cFr.getD a 0 ≠ cFr.getD b 0
  rw [cFr_get (by omega), cFr_get (by omega)]
  omega
theorem cX_len : (cX at_ n id o k w).length = 1920 := (apL_w _ _ (cW_wg h1 h8 a1 a2 i1 i2 hk) (recJ_len (by omega) (by omega) i1 (by omega)) (recJ_byt (by omega) (by omega) i1 (by omega))).1
theorem cX_byt : Byt (cX at_ n id o k w) := (apL_w _ _ (cW_wg h1 h8 a1 a2 i1 i2 hk) (recJ_len (by omega) (by omega) i1 (by omega)) (recJ_byt (by omega) (by omega) i1 (by omega))).2.1
theorem cX_old {c : Nat} (hc : c < 2 ∨ 12 ≤ c) : blkI (cX at_ n id o k w) c = blkI (recJ at_ n id) c := (apL_w _ _ (cW_wg h1 h8 a1 a2 i1 i2 hk) (recJ_len (by omega) (by omega) i1 (by omega)) (recJ_byt (by omega) (by omega) i1 (by omega))).2.2 c (fun x hx => by
  obtain ⟨b1, b2, b3, b4, b5⟩ := cW_wr h1 h8 a1 a2 i1 i2 hk x hx
  omega)
theorem cX_new {i : Nat} (hi : i < o + wN w) : blkI (cX at_ n id o k w) (2 + i) = r8B (nx0 ((cA at_ n id k w).getD i ⟨0, 0, 0, 0, 0, 0, 0, 0⟩) (nxA (at0L (cBl at_ n) k) cFr i)) := by
  have hw := wN_le w
  have hm : ioA (cA at_ n id k w) cFr (at0L (cBl at_ n) k) i ∈ cW at_ n id o k w := List.mem_map.2 ⟨i, List.mem_range.2 hi, rfl⟩
  have := apL_at (cW at_ n id o k w) (recJ at_ n id) (cW_wg h1 h8 a1 a2 i1 i2 hk) (recJ_len (by omega) (by omega) i1 (by omega)) (recJ_byt (by omega) (by omega) i1 (by omega)) (cW_pair h1 h8 a1 a2 i1 i2 hk) _ hm
  have e : (ioA (cA at_ n id k w) cFr (at0L (cBl at_ n) k) i).2.1 = ((2 + i : Nat) : Int) := cFr_get (by omega)
  rw [e] at this
  exact this
theorem cJ_two : Two 30 1 0 0 0 (rcF at_ n) (recJ at_ n id) := ⟨recJ_len (by omega) (by omega) i1 (by omega), recJ_byt (by omega) (by omega) i1 (by omega), recJ_blk0 (by omega) (by omega) i1 (by omega), .inl (by
  rw [recJ_zero (c := 1 - 0) (by omega) (by omega) i1 (by omega) (by decide) (.inl (by omega)) (by decide), sCode_zeros]; decide)⟩
theorem cX_two : Two 30 1 0 0 0 (rcF at_ n) (cX at_ n id o k w) := ⟨cX_len h1 h8 a1 a2 i1 i2 hk, cX_byt h1 h8 a1 a2 i1 i2 hk, by
    rw [cX_old h1 h8 a1 a2 i1 i2 hk (.inl (by decide))]
    exact recJ_blk0 (by omega) (by omega) i1 (by omega), .inl (by
  rw [cX_old h1 h8 a1 a2 i1 i2 hk (.inl (by decide)), recJ_zero (c := 1 - 0) (by omega) (by omega) i1 (by omega) (by decide) (.inl (by omega)) (by decide), sCode_zeros]; decide)⟩
theorem cJ_ok : superOk 1 ((30 : Nat) : Int) 0 0 (rcF at_ n) = true := rcS3_ok (id := id) (by omega) (by omega) i1 (by omega)
theorem cTo_rng : cTo at_ n o k w = 0 ∨ (2 ≤ cTo at_ n o k w ∧ cTo at_ n o k w < 30) := by
  have hw := wN_le w
  unfold cTo
  rw [c_nx h1 h8 a1 a2 i1 i2 hk (Nat.le_refl _)]
  split
  · split <;> omega
  · omega
theorem cY_ok : superOk (1 + 1) ((30 : Nat) : Int) 0 0 (cTo at_ n o k w) = true := (superOk_iff _ _ _ _ _).2 ⟨by decide, by decide, by decide, .inl rfl, by
  have := cTo_rng (w := w) h1 h8 a1 a2 i1 i2 hk
  omega⟩
theorem cY_two : Two 30 (1 + 1) (1 - 0) 0 0 (cTo at_ n o k w) (cY at_ n id o k w) := (cX_two h1 h8 a1 a2 i1 i2 hk).next (.inl rfl) (by decide) (cJ_ok h1 h8 a1 a2 i1 i2 hk)
theorem cJ_fol : folOf (recJ at_ n id) (at_ : Int) = (cOld at_ n id, cBl at_ n, n, 0) := by
  have h := chain_fol (o := 0) (k := 0) (w := false) h1 h8 a1 a2 i1 i2 (.inl ⟨rfl, rfl⟩) (Y := recJ at_ n id) (recJ_len (by omega) (by omega) i1 (by omega)) (fun i hi => by
    have hi : i < 0 + 0 + (n - 0) := hi
    unfold bsC rsC
    rw [if_neg (show ¬ i < 0 + wN false by show ¬ i < 0 + 0; omega), if_neg (show ¬ i < 0 + wN false by show ¬ i < 0 + 0; omega), show 0 + (i - (0 + wN false)) = i by show 0 + (i - (0 + 0)) = i; omega]
    rw [show ((at_ + 0 + (i - (0 + wN false)) : Nat) : Int).toNat = at_ + i by show ((at_ + 0 + (i - (0 + 0)) : Nat) : Int).toNat = at_ + i; omega]
    exact recJ_blk (by omega) (by omega) i1 (by omega) (by omega))
  have e0 : nxA (at0L (cBl at_ n) 0) cFr (0 + wN false) = (at_ : Int) := by
    rw [show 0 + wN false = 0 from rfl, c_nx (w := false) h1 h8 a1 a2 i1 i2 (.inl ⟨rfl, rfl⟩) (Nat.zero_le _), if_pos rfl, if_pos (by omega), Nat.add_zero]
  rw [e0, show 0 + wN false + (n - 0) = n by show 0 + 0 + (n - 0) = n; omega] at h
  rw [h]
  have e1 : (List.range n).map (rsC at_ n id 0 0 false) = cOld at_ n id := by
    unfold cOld
    refine List.map_congr_left (fun i hi => ?_)
    unfold rsC
    rw [if_neg (show ¬ i < 0 + wN false by show ¬ i < 0 + 0; omega), show 0 + (i - (0 + wN false)) = i by show 0 + (i - (0 + 0)) = i; omega]
  have e2 : (List.range n).map (bsC at_ 0 0 false) = cBl at_ n := by
    unfold cBl
    refine List.map_congr_left (fun i hi => ?_)
    unfold bsC
    rw [if_neg (show ¬ i < 0 + wN false by show ¬ i < 0 + 0; omega), show at_ + 0 + (i - (0 + wN false)) = at_ + i by show at_ + 0 + (i - (0 + 0)) = at_ + i; omega]
  rw [e1, e2]
theorem cY_fol : folOf (cY at_ n id o k w) (cTo at_ n o k w) = ((List.range (o + wN w + (n - k))).map (rsC at_ n id o k w), (List.range (o + wN w + (n - k))).map (bsC at_ o k w), o + wN w + (n - k), 0) := by
  have hw := wN_le w
  refine chain_fol h1 h8 a1 a2 i1 i2 hk (cY_two h1 h8 a1 a2 i1 i2 hk).len (fun i hi => ?_)
  have hb : 2 ≤ bsC at_ o k w i := by unfold bsC; split <;> omega
  have e1 : blkI (cY at_ n id o k w) (bsC at_ o k w i).toNat = blkI (cX at_ n id o k w) (bsC at_ o k w i).toNat := by
    unfold cY
    rw [blk_set_ne (by rw [cX_len h1 h8 a1 a2 i1 i2 hk]; decide) (superBlock_len ..) (by omega)]
  rw [e1]
  unfold bsC rsC
  by_cases h : i < o + wN w
  · rw [if_pos h, if_pos h, show ((2 + (o + wN w - 1 - i) : Nat) : Int).toNat = 2 + (o + wN w - 1 - i) by omega]
    exact cX_new h1 h8 a1 a2 i1 i2 hk (by omega)
  · rw [if_neg h, if_neg h, show ((at_ + k + (i - (o + wN w)) : Nat) : Int).toNat = at_ + (k + (i - (o + wN w))) by omega, cX_old h1 h8 a1 a2 i1 i2 hk (.inr (by omega))]
    exact recJ_blk (by omega) (by omega) i1 (by omega) (by omega)
theorem cJ_lk : lk (recJ at_ n id) = (0, 0) ∧ lkF (recJ at_ n id) = (cOld at_ n id, cBl at_ n, n, 0) ∧ lkS (recJ at_ n id) = (1, ((30 : Nat) : Int), 0, 0, rcF at_ n) := by
  have hl : (recJ at_ n id).length = 1920 := recJ_len (by omega) (by omega) i1 (by omega)
  have h := lk_recs (s := (1, ((30 : Nat) : Int), 0, 0, rcF at_ n)) (rs := cOld at_ n id) (bl := cBl at_ n) (w := n) (bad := 0) (by rw [hl]; decide) ((cJ_two h1 h8 a1 a2 i1 i2 hk).pick (.inl rfl) (cJ_ok h1 h8 a1 a2 i1 i2 hk)) rfl (by
    show folOf _ (rcF at_ n) = _
    rw [show rcF at_ n = (at_ : Int) by unfold rcF; rw [if_pos (by omega)]]
    exact cJ_fol h1 h8 a1 a2 i1 i2 hk) (fun r hr => by
    unfold cOld at hr
    obtain ⟨i, _, rfl⟩ := List.mem_map.1 hr
    rfl)
  rw [if_pos rfl] at h
  exact h
theorem cY_lk : lk (cY at_ n id o k w) = (0, 0) ∧ (lkF (cY at_ n id o k w)).1 = (List.range (o + wN w + (n - k))).map (rsC at_ n id o k w) ∧ lkS (cY at_ n id o k w) = (1 + 1, ((30 : Nat) : Int), 0, 0, cTo at_ n o k w) := by
  have t := cY_two (w := w) h1 h8 a1 a2 i1 i2 hk
  have hl := t.len
  have h := lk_recs (s := (1 + 1, ((30 : Nat) : Int), 0, 0, cTo at_ n o k w)) (by rw [hl]; decide) (t.pick (.inr rfl) (cY_ok h1 h8 a1 a2 i1 i2 hk)) rfl (cY_fol h1 h8 a1 a2 i1 i2 hk) (fun r hr => by
    obtain ⟨i, hi, rfl⟩ := List.mem_map.1 hr
    exact (rsC_id h1 h8 a1 a2 i1 i2 hk (List.mem_range.1 hi)).2.2)
  rw [if_pos rfl] at h
  exact ⟨h.1, by rw [h.2.1], h.2.2⟩
end
end Go.Proofs.Ytcbakhanpiemhaa
end
section
set_option linter.unusedVariables false
set_option linter.unusedSectionVars false
set_option maxRecDepth 100000
open Go Go.Am Go.RowKit
namespace Go.Proofs.Ytcbakhanpiemhaa
open Go.Proofs.Try

def wl (id o k : Nat) (w : Bool) (c : Nat) : List Int := (List.range c).map fun i => ((idN id o k w i : Nat) : Int)
theorem wl_len (id o k : Nat) (w : Bool) (c : Nat) : (wl id o k w c).length = c := by unfold wl; rw [List.length_map, List.length_range]
theorem wl_succ (id o k : Nat) (w : Bool) (c : Nat) : wl id o k w (c + 1) = wl id o k w c ++ [((idN id o k w c : Nat) : Int)] := by unfold wl; rw [List.range_succ, List.map_append]; rfl
def cq (leave : Bool) (out q : Nat) : Nat := if leave = true ∧ out < q then q - 1 else q
theorem cFr_succ (i : Nat) : (List.range (i + 1)).map (fun j => ((2 + j : Nat) : Int)) = (List.range i).map (fun j => ((2 + j : Nat) : Int)) ++ [((2 + i : Nat) : Int)] := by rw [List.range_succ, List.map_append]; rfl
theorem idN_at {id o k out q n : Nat} {w leave : Bool} (hko : (leave = false ∧ k = 0 ∧ o = 0) ∨ (leave = true ∧ k = out + 1 ∧ o = out)) (hq : q < n) (ho : out < n) (hne : leave = false ∨ q ≠ out) : idN id o k w (wN w + cq leave out q) = id + q := by
  have hw := wN_le w
  unfold idN cq
  rcases hko with ⟨rfl, rfl, rfl⟩ | ⟨rfl, rfl, rfl⟩
  · rw [if_neg (show ¬ (false = true ∧ out < q) from fun g => by cases g.1), if_neg (by omega)]; omega
  · have hne : q ≠ o := by rcases hne with g | g; cases g; exact g
    by_cases h : o < q
    · rw [if_pos (show true = true ∧ o < q from ⟨rfl, h⟩), if_neg (by omega)]; omega
    · rw [if_neg (show ¬ (true = true ∧ o < q) from fun g => h g.2), if_pos (by omega), if_neg]
      · omega
      · rintro ⟨rfl, g⟩
        have : wN true = 1 := rfl
        omega
theorem cq_step {out q : Nat} {leave : Bool} (h : leave = false ∨ q ≠ out) : cq leave out (q + 1) = cq leave out q + 1 := by
  unfold cq
  rcases h with rfl | h
  · rw [if_neg (fun g => by cases g.1), if_neg (fun g => by cases g.1)]
  · by_cases h1 : leave = true ∧ out < q
    · rw [if_pos h1, if_pos ⟨h1.1, by omega⟩]; omega
    · rw [if_neg h1, if_neg (fun g => h1 ⟨g.1, by omega⟩)]
theorem cq_out {out : Nat} : cq true out (out + 1) = cq true out out := by
  unfold cq
  rw [if_pos ⟨rfl, by omega⟩, if_neg (fun g => by omega)]; omega
set_option maxHeartbeats 32000000 in
theorem commitChain_walk {h : Heap} {n_ a_ out_ id_ : Int} {w leave : Bool} : RunF prog 10 [.int .i64 n_, .int .i64 a_, .int .i64 out_, .int .i64 id_, .bool w, .bool leave] h fun v _ => v = .bool true := by
  refine RunF.walk func10 rfl rfl ?_
  obtain ⟨hn0, hn1⟩ := modU n_ 8 (by decide)
  obtain ⟨n, hn⟩ := Int.eq_ofNat_of_zero_le hn0
  obtain ⟨ha0, ha1⟩ := modU a_ 5 (by decide)
  obtain ⟨at_, ha⟩ := Int.eq_ofNat_of_zero_le ha0
  obtain ⟨hi0, hi1⟩ := modU id_ 1000 (by decide)
  obtain ⟨id, hi⟩ := Int.eq_ofNat_of_zero_le hi0
  refine RunC.seq (RunC.region (RunO.all rfl ?_))
  refine RunC.seq (RunC.region (RunO.part 2 rfl ?_))
  rw [fwu64']
  refine RunO.part 1 rfl ?_
  rw [hn]
  refine RunO.part 1 rfl ?_
  rw [fw64 (x := (n : Int)) (by omega) (by omega)]
  refine RunO.part 1 rfl ?_
  rw [fw64 (x := 1 + (n : Int)) (by omega) (by omega), show 1 + (n : Int) = ((1 + n : Nat) : Int) by omega]
  refine RunO.part 2 rfl ?_
  rw [fwu64']
  refine RunO.part 1 rfl ?_
  rw [ha]
  refine RunO.part 1 rfl ?_
  rw [fw64 (x := (at_ : Int)) (by omega) (by omega)]
  refine RunO.part 1 rfl ?_
  rw [fw64 (x := 12 + (at_ : Int)) (by omega) (by omega), show 12 + (at_ : Int) = ((12 + at_ : Nat) : Int) by omega]
  refine RunO.part 2 rfl ?_
  rw [fwu64']
  refine RunO.part 1 rfl ?_
  rw [hi]
  refine RunO.part 1 rfl ?_
  rw [fw64 (x := (id : Int)) (by omega) (by omega)]
  refine RunO.part 1 rfl ?_
  rw [fw64 (x := 1 + (id : Int)) (by omega) (by omega), show 1 + (id : Int) = ((1 + id : Nat) : Int) by omega]
  refine RunO.all rfl ?_
  have h1 : 1 ≤ 1 + n := by omega
  have h8 : 1 + n ≤ 8 := by omega
  have a1 : 12 ≤ 12 + at_ := by omega
  have a2 : 12 + at_ ≤ 16 := by omega
  have i1 : 1 ≤ 1 + id := by omega
  have i2 : 1 + id ≤ 1000 := by omega
  generalize 1 + n = n at *
  generalize 12 + at_ = at_ at *
  generalize 1 + id = id at *
  clear hn0 hn1 ha0 ha1 hi0 hi1 hn ha hi
  -- out
  obtain ⟨ho0, ho1⟩ := modU out_ (n : Int) (by omega)
  obtain ⟨out, hout⟩ := Int.eq_ofNat_of_zero_le ho0
  rw [hout] at ho1
  have hol : out < n := by omega
  refine RunC.seq (RunC.region (RunO.part 2 rfl ?_))
  rw [fwu64']
  refine RunO.part 2 rfl ?_
  rw [fwu64 (x := (n : Int)) (by omega) (by omega)]
  refine RunO.one (v := .int .u64 ((out_ % 18446744073709551616).tmod (n : Int))) (E1 := upd _ 56 _) (h1 := h) rfl ?_ rfl ?_
  · show pureR h (cond (decide ((n : Int) = 0)) none (some (Value.int .u64 ((out_ % 18446744073709551616).tmod (n : Int))))) = _
    rw [decide_eq_false (show ¬ ((n : Int) = 0) by omega)]; rfl
  rw [hout]
  refine RunO.part 1 rfl ?_
  rw [fw64 (x := (out : Int)) (by omega) (by omega)]
  refine RunO.all rfl ?_
  clear ho0 ho1 hout
  obtain ⟨k, o, hko⟩ : ∃ k o : Nat, (leave = false ∧ k = 0 ∧ o = 0) ∨ (leave = true ∧ k = out + 1 ∧ o = out) := by
    cases leave
    · exact ⟨0, 0, .inl ⟨rfl, rfl, rfl⟩⟩
    · exact ⟨out + 1, out, .inr ⟨rfl, rfl, rfl⟩⟩
  have hk : (k = 0 ∧ o = 0) ∨ (k = o + 1 ∧ o < n) := by omega
  -- the image
  refine RunC.seq (RunC.region (RunO.part 3 rfl ?_))
  refine RunO.callD (lawRecords3_ok (at_ := at_) (n := n) (id := id) (by omega) (by omega) i1 (by omega)) rfl rfl rfl ?_
  rintro _ h2 ⟨f1, ib, ic, hib, rfl, hic, oi⟩
  have hjl : (recJ at_ n id).length = 1920 := recJ_len (by omega) (by omega) i1 (by omega)
  have hjb : Byt (recJ at_ n id) := recJ_byt (by omega) (by omega) i1 (by omega)
  obtain ⟨j1, j2, j3⟩ := cJ_lk h1 h8 a1 a2 i1 i2 hk
  have jp := (cJ_two h1 h8 a1 a2 i1 i2 hk).pick (.inl rfl) (cJ_ok h1 h8 a1 a2 i1 i2 hk)
  have jf := cJ_fol h1 h8 a1 a2 i1 i2 hk
  have j0 : (lk (recJ at_ n id)).2 = 0 := by rw [j1]
  have sli := sl_own oi hjl hic (by decide)
  refine RunO.all rfl ?_
  -- open
  refine RunC.seq (RunC.region (RunO.part 1 rfl ?_))
  refine RunO.callD (openOpen_ok sli hjb (by rw [hjl]; decide)) rfl rfl rfl ?_
  rintro _ h3 ⟨f2, ⟨_, rv, rfl, rl⟩ | ⟨g, _⟩⟩
  case inr => exact absurd j0 g
  rw [j3, jp]
  refine RunO.part 4 (h1 := h3.push ⟨(stc (0, 0, 0, 0, 0) 0 (.slice none 0 0)), true⟩) rfl ?_
  refine RunO.store rfl rfl (store_ow (s := 7) (Ow.push h3 (stc (0, 0, 0, 0, 0) 0 (.slice none 0 0))) rfl rfl (stc_cells rl) (Nat.le_of_ble_eq_true rfl)) (RunO.all rfl ?_)
  rw [stc_store]
  have osb : Ow ((h3.push ⟨(stc (0, 0, 0, 0, 0) 0 (.slice none 0 0)), true⟩).put h3.next (some ⟨(stc (1, ((30 : Nat) : Int), 0, 0, rcF at_ n) ((0 : Nat) : Int) rv), true⟩)) h3.next (stc (1, ((30 : Nat) : Int), 0, 0, rcF at_ n) ((0 : Nat) : Int) rv) := Ow.put _ (Nat.lt_succ_self _)
  have fsb : Fr no h3 ((h3.push ⟨(stc (0, 0, 0, 0, 0) 0 (.slice none 0 0)), true⟩).put h3.next (some ⟨(stc (1, ((30 : Nat) : Int), 0, 0, rcF at_ n) ((0 : Nat) : Int) rv), true⟩)) := (Fr.push _ _ _).trans (Fr.put (m := (· = h3.next)) _ (.inl rfl)) (fun j hj => .inr (by omega))
  show RunC prog _ _ _ ((h3.push ⟨(stc (0, 0, 0, 0, 0) 0 (.slice none 0 0)), true⟩).put h3.next (some ⟨(stc (1, ((30 : Nat) : Int), 0, 0, rcF at_ n) ((0 : Nat) : Int) rv), true⟩)) _ _ _
  generalize (h3.push ⟨(stc (0, 0, 0, 0, 0) 0 (.slice none 0 0)), true⟩).put h3.next (some ⟨(stc (1, ((30 : Nat) : Int), 0, 0, rcF at_ n) ((0 : Nat) : Int) rv), true⟩) = h4 at *
  generalize h3.next = sb at *

  have sli4 := (sli.fr0 f2).fr0 fsb
  -- the records
  refine RunC.seq (RunC.region (RunO.part 2 rfl ?_))
  refine RunO.callD (openRecords_ok (a := (at_ : Int)) sli4 hjb (by rw [hjl]; decide)) rfl rfl rfl ?_
  have jE : recsE (recJ at_ n id) (at_ : Int) = 0 := by unfold recsE; rw [hjl, jf]; rfl
  rintro _ h5 ⟨f3, ⟨_, lv, bv, rfl, rol, rbl⟩ | ⟨g, _⟩⟩
  case inr => exact absurd jE g
  rw [jf] at rol rbl
  have rol : Row h4.next h5 lv 8 (cOld at_ n id).length (recCs (cOld at_ n id)) := rol
  have rbl : Row h4.next h5 bv 1 (cBl at_ n).length (is (cBl at_ n)) := rbl
  have hcl : (cOld at_ n id).length = n := by unfold cOld; rw [List.length_map, List.length_range]
  have hbl : (cBl at_ n).length = n := by unfold cBl; rw [List.length_map, List.length_range]
  have so := rol.sl (by omega)
  have sb_ := rbl.sl (by omega)
  replace osb := osb.fr f3 (fun g => g)
  refine RunO.all rfl ?_
  -- how many are taken
  refine RunC.seq (RunC.region (RunO.all rfl ?_))
  refine RunC.seqc (fun E' h' => h5 = h' ∧ Le ((upd (upd (upd (upd (upd (upd (upd (upd (upd (upd (upd (upd (upd E0 0 (.int .i64 (n : Int))) 1 (.int .i64 (at_ : Int))) 2 (.int .i64 (out : Int))) 3 (.int .i64 (id : Int))) 4 (.bool w)) 5 (.bool leave)) 13 (.slice (some ⟨ib, 0, none⟩) 1920 ic)) 14 (.pointer (some ⟨sb, 0, none⟩))) 15 (.int .i64 0)) 16 (lv)) 17 (bv)) 18 (.int .i64 0)) 19 (.int .i64 (k : Int)))) E') ?kk ?nx1
  case kk =>
    refine RunC.seq (RunC.region (RunO.all rfl ?_))
    rcases hko with ⟨rfl, rfl, rfl⟩ | ⟨rfl, rfl, rfl⟩
    · exact RunC.cond rfl (fun g => by cases g) (fun _ => RunC.skip ⟨rfl, Le.cons rfl (Le.cons rfl (Le.cons rfl (Le.cons rfl (Le.cons rfl (Le.cons rfl (Le.cons rfl (Le.cons rfl (Le.cons rfl (Le.cons rfl (Le.cons rfl (Le.cons rfl (Le.cons rfl (Le.nil _)))))))))))))⟩)
    · refine RunC.cond rfl (fun _ => ?_) (fun g => by cases g)
      refine RunC.region (RunO.part 2 rfl ?_)
      rw [fw64 (x := (o : Int) + 1) (by omega) (by omega), show (o : Int) + 1 = ((o + 1 : Nat) : Int) by omega]
      exact RunO.all rfl ⟨rfl, Le.cons rfl (Le.cons rfl (Le.cons rfl (Le.cons rfl (Le.cons rfl (Le.cons rfl (Le.cons rfl (Le.cons rfl (Le.cons rfl (Le.cons rfl (Le.cons rfl (Le.cons rfl (Le.cons rfl (Le.nil _)))))))))))))⟩
  rintro E' _ ⟨rfl, hE⟩
  refine RunC.le hE ?_
  clear hE
  -- the first one
  refine RunC.seq (RunC.region (RunO.part 2 rfl ?_))
  rw [fw64 (x := (id : Int) + 500) (by omega) (by omega), show (id : Int) + 500 = ((id + 500 : Nat) : Int) by omega]
  refine RunO.part 2 (h1 := h5.push ⟨rc8 ⟨0, 0, 0, 0, 0, 0, 0, 0⟩, true⟩) rfl ?_
  refine RunO.store rfl rfl (store_ow (s := 8) (Ow.push h5 (rc8 ⟨0, 0, 0, 0, 0, 0, 0, 0⟩)) rfl rfl rfl (Nat.le_refl 8)) (RunO.nil ?_)
  have op : Ow ((h5.push ⟨rc8 ⟨0, 0, 0, 0, 0, 0, 0, 0⟩, true⟩).put h5.next (some ⟨rc8 (cFst id), true⟩)) h5.next (rc8 (cFst id)) := Ow.put _ (Nat.lt_succ_self _)
  have f4 : Fr no h5 ((h5.push ⟨rc8 ⟨0, 0, 0, 0, 0, 0, 0, 0⟩, true⟩).put h5.next (some ⟨rc8 (cFst id), true⟩)) := (Fr.push _ _ _).trans (Fr.put (m := (· = h5.next)) _ (.inl rfl)) (fun j hj => .inr (by omega))
  show RunC prog _ _ _ ((h5.push ⟨rc8 ⟨0, 0, 0, 0, 0, 0, 0, 0⟩, true⟩).put h5.next (some ⟨rc8 (cFst id), true⟩)) _ _ _
  generalize (h5.push ⟨rc8 ⟨0, 0, 0, 0, 0, 0, 0, 0⟩, true⟩).put h5.next (some ⟨rc8 (cFst id), true⟩) = h6 at *
  generalize h5.next = pb at *
  -- free
  refine RunC.seq (RunC.region (RunO.all rfl ?_))
  refine RunC.seq (RunC.seq (RunC.region (RunO.all rfl ?_)))
  refine RunC.block ?_
  refine RunC.loop (fun d E h' => ∃ (i : Nat) (fv : Value), i + d = 10 ∧ Fr no h6 h' ∧ Row h6.next h' fv 1 i (is ((List.range i).map fun j => ((2 + j : Nat) : Int))) ∧ Le ((upd (upd (upd (upd (upd (upd (upd (upd (upd (upd (upd (upd (upd (upd (upd (upd E0 0 (.int .i64 (n : Int))) 1 (.int .i64 (at_ : Int))) 2 (.int .i64 (out : Int))) 3 (.int .i64 (id : Int))) 4 (.bool w)) 5 (.bool leave)) 13 (.slice (some ⟨ib, 0, none⟩) 1920 ic)) 14 (.pointer (some ⟨sb, 0, none⟩))) 15 (.int .i64 0)) 16 (lv)) 17 (bv)) 18 (.int .i64 0)) 19 (.int .i64 (k : Int))) 20 (.pointer (some ⟨pb, 0, none⟩))) 21 (fv)) 22 (.int .i64 ((2 + i : Nat) : Int)))) E) ?st1 (k := 10) ?ini1
  case ini1 => exact ⟨0, .slice none 0 0, by omega, Fr.refl _ _, Row.nil _ _ _, Le.cons rfl (Le.cons rfl (Le.cons rfl (Le.cons rfl (Le.cons rfl (Le.cons rfl (Le.cons rfl (Le.cons rfl (Le.cons rfl (Le.cons rfl (Le.cons rfl (Le.cons rfl (Le.cons rfl (Le.cons rfl (Le.cons rfl (Le.cons rfl (Le.nil _))))))))))))))))⟩
  rintro d E h7 ⟨i, fv, hi, f5, row, hE⟩
  refine RunC.le hE ?_
  clear hE
  refine RunC.seq (RunC.seq (RunC.region (RunO.all rfl ?_)))
  refine RunC.cond rfl (fun hlt => RunC.skip ?go1) (fun hge => RunC.exit ?ex1)
  case go1 =>
    have hlt := of_decide_eq_true hlt
    have hlt : i < 10 := by omega
    refine RunC.seq (RunC.block ?_)
    refine RunC.region (RunO.part 3 (h1 := h7.push ⟨[.int .i64 ((2 + i : Nat) : Int)], true⟩) rfl ?_)
    have ol := Ow.push h7 [.int .i64 ((2 + i : Nat) : Int)]
    have e3 : Fr no h7 (h7.push ⟨[.int .i64 ((2 + i : Nat) : Int)], true⟩) := Fr.push _ _ _
    have row3 := row.gr.fr0 e3
    generalize h7.push ⟨[.int .i64 ((2 + i : Nat) : Int)], true⟩ = g3 at *
    refine RunO.appendG (s := 1) (j := 1) rfl rfl rfl rfl rfl rfl rfl rfl (by decide) row3 ol.all rfl (Nat.le_refl 1) rfl (by show 2 * (_ + 1) * 8 ≤ _; omega) (by omega) ?_
    intro fv2 g4 row4 e4
    refine RunO.all rfl ?_
    refine RunC.region (RunO.part 2 rfl ?_)
    rw [fw64 (x := ((2 + i : Nat) : Int) + 1) (by omega) (by omega), show ((2 + i : Nat) : Int) + 1 = ((2 + (i + 1) : Nat) : Int) by omega]
    refine RunO.all rfl ⟨d - 1, by omega, i + 1, fv2, by omega, (f5.same e3).trans e4 (fun b a => .inr (row3.at a).1), ?_, Le.cons rfl (Le.cons rfl (Le.cons rfl (Le.cons rfl (Le.cons rfl (Le.cons rfl (Le.cons rfl (Le.cons rfl (Le.cons rfl (Le.cons rfl (Le.cons rfl (Le.cons rfl (Le.cons rfl (Le.cons rfl (Le.cons rfl (Le.cons rfl (Le.nil _))))))))))))))))⟩
    rw [cFr_succ, show is ((List.range i).map (fun j => ((2 + j : Nat) : Int)) ++ [((2 + i : Nat) : Int)]) = is ((List.range i).map (fun j => ((2 + j : Nat) : Int))) ++ [.int .i64 ((2 + i : Nat) : Int)] from List.map_append]
    exact Row.lo row4 (f5.same e3).next
  have hge := of_decide_eq_false hge
  obtain rfl : i = 10 := by omega
  have sf : Sl h7 fv 1 cFr.length (is cFr) := by
    have := row.sl (by decide)
    rw [show cFr.length = 10 by unfold cFr; rw [List.length_map, List.length_range]]
    exact this
  have hfl : cFr.length = 10 := by unfold cFr; rw [List.length_map, List.length_range]
  have hw := wN_le w
  have hAl := cA_len (w := w) h1 h8 a1 a2 i1 i2 hk
  -- the commit's records
  have F7 := f4.same f5
  have hrec := commitRecords_ok (x := cFst id) (w := w) (n := k) (so.fr0 F7) (sb_.fr0 F7) sf (c_may h1 h8 a1 a2 i1 i2 hk) (by show (cA at_ n id k w).length ≤ _; omega)
  rw [show anewL (cOld at_ n id) k w (cFst id) = cA at_ n id k w from rfl, hAl] at hrec
  obtain ⟨fA, fc, rfl, _, _⟩ := sf.form
  rw [hfl] at hrec ⊢
  refine RunC.seq (RunC.region (RunO.part 3 rfl ?_))
  refine RunO.load (v := .agg ⟨rc8 (cFst id)⟩) rfl ((op.fr f5 (fun g => g)).ld rfl) rfl ?_
  refine RunO.part 2 rfl ?_
  refine RunO.callD hrec rfl rfl rfl ?_
  rintro _ h8_ ⟨f6, wv, rv2, rfl, iow, osl⟩
  have iow : IoW h7.next h8_ wv (cW at_ n id o k w) := iow
  have hWl := cW_len at_ n id o k w
  have ios := iow.ios (by omega)
  have hwr := cW_wr (w := w) h1 h8 a1 a2 i1 i2 hk
  have hwg := cW_wg (w := w) h1 h8 a1 a2 i1 i2 hk
  obtain ⟨wA, wc, rfl⟩ : ∃ a b, wv = .slice a (o + wN w) b := by
    obtain ⟨acs, row, _⟩ := iow
    obtain ⟨a, b, e, _⟩ := (row.sl (by omega)).form
    rw [hWl] at e
    exact ⟨a, b, e⟩
  obtain ⟨rA, rc_, rfl⟩ : ∃ a b, rv2 = .slice a (10 - (o + wN w)) b := by
    have := osl.sl
    obtain ⟨a, b, e, _⟩ := this.form
    rw [List.length_drop, hfl] at e
    exact ⟨a, b, e⟩
  refine RunO.all rfl ?_
  -- the steps
  have F8 := F7.same f6
  have os8 := osb.fr F8 (fun g => g)
  have hto : nxA (at0L (cBl at_ n) k) cFr (o + wN w) = cTo at_ n o k w := rfl
  rw [hto]
  have hok1 := cJ_ok h1 h8 a1 a2 i1 i2 hk
  have hok2 := cY_ok (w := w) h1 h8 a1 a2 i1 i2 hk
  refine RunC.seq (RunC.region ?_)
  refine RunO.load (v := .agg ⟨(stc (1, ((30 : Nat) : Int), 0, 0, rcF at_ n) ((0 : Nat) : Int) rv)⟩) rfl (os8.ld rfl) rfl ?_
  refine RunO.part 2 rfl ?_
  refine RunO.callD (commitSteps_ok (s := (1, ((30 : Nat) : Int), 0, 0, rcF at_ n)) (slot := ((0 : Nat) : Int)) (root := 0) (size := 0) (first := cTo at_ n o k w) ios (by omega) hok1 (by show (1 : Int) < _; decide) (.inl rfl) hok2 (fun x hx => by
    obtain ⟨b1, b2, b3, b4, b5⟩ := hwr x hx
    exact ⟨b1, b2, by show x.2.1 < ((30 : Nat) : Int); omega, b4⟩)) rfl rfl rfl ?_
  rintro _ h9 ⟨f7, xv, rfl, iox⟩
  have hxl : (cW at_ n id o k w ++ cmtT (1, ((30 : Nat) : Int), 0, 0, rcF at_ n) ((0 : Nat) : Int) 0 0 (cTo at_ n o k w)).length = o + wN w + 3 := by rw [List.length_append, hWl]; rfl
  have iosx := iox.ios (by omega)
  refine RunO.all rfl ?_
  -- the device
  have sli9 := ((sli4.fr0 f3).fr0 F8).fr0 f7
  have hst := st_cmt (n := 1920) (W := cW at_ n id o k w) (s := (1, ((30 : Nat) : Int), 0, 0, rcF at_ n)) (slot := 0) (root := 0) (size := 0) (first := cTo at_ n o k w) (by decide) (.inl rfl) (by omega) hwg
  have hap := ap_cmt (o := recJ at_ n id) (W := cW at_ n id o k w) (s := (1, ((30 : Nat) : Int), 0, 0, rcF at_ n)) (slot := 0) (root := 0) (size := 0) (first := cTo at_ n o k w) (.inl rfl)
  have hap : applyL (recJ at_ n id) (cW at_ n id o k w ++ cmtT (1, ((30 : Nat) : Int), 0, 0, rcF at_ n) ((0 : Nat) : Int) 0 0 (cTo at_ n o k w)) = cY at_ n id o k w := hap
  rw [← hjl] at hst
  refine RunC.seq (RunC.region (RunO.part 2 rfl ?_))
  refine RunO.callD (devApply_ok sli9 (by rw [hjl]; decide) iosx (by omega)) rfl rfl rfl ?_
  rw [hst]
  rintro _ h10 ⟨f8, ⟨_, yb, yc, hyb, rfl, hyc, oy⟩ | ⟨hno, _⟩⟩
  case inr => exact absurd rfl hno
  rw [hap] at oy
  rw [hjl] at hyc ⊢
  have ty := cY_two (w := w) h1 h8 a1 a2 i1 i2 hk
  obtain ⟨y1, y2, y3⟩ := cY_lk (w := w) h1 h8 a1 a2 i1 i2 hk
  have yp := ty.pick (.inr rfl) hok2
  have y0 : (lk (cY at_ n id o k w)).2 = 0 := by rw [y1]
  have sly : Sl h10 (.slice (some ⟨yb, 0, none⟩) 1920 yc) 1 (cY at_ n id o k w).length (us (cY at_ n id o k w)) := sl_own oy ty.len hyc (by decide)
  refine RunO.all rfl ?_
  -- open again
  refine RunC.seq (RunC.region (RunO.part 1 rfl ?_))
  refine RunO.callD (openOpen_ok sly ty.byt (by rw [ty.len]; decide)) rfl rfl rfl ?_
  rintro _ h11 ⟨f9, ⟨_, tv, rfl, tl⟩ | ⟨g, _⟩⟩
  case inr => exact absurd y0 g
  rw [y3, yp]
  rw [y2] at tl
  refine RunO.part 4 (h1 := h11.push ⟨(stc (0, 0, 0, 0, 0) 0 (.slice none 0 0)), true⟩) rfl ?_
  refine RunO.store rfl rfl (store_ow (s := 7) (Ow.push h11 (stc (0, 0, 0, 0, 0) 0 (.slice none 0 0))) rfl rfl (stc_cells tl) (Nat.le_of_ble_eq_true rfl)) (RunO.all rfl ?_)
  rw [stc_store]
  have otb : Ow ((h11.push ⟨(stc (0, 0, 0, 0, 0) 0 (.slice none 0 0)), true⟩).put h11.next (some ⟨(stc (1 + 1, ((30 : Nat) : Int), 0, 0, cTo at_ n o k w) ((1 - 0 : Nat) : Int) tv), true⟩)) h11.next (stc (1 + 1, ((30 : Nat) : Int), 0, 0, cTo at_ n o k w) ((1 - 0 : Nat) : Int) tv) := Ow.put _ (Nat.lt_succ_self _)
  have ftb : Fr no h11 ((h11.push ⟨(stc (0, 0, 0, 0, 0) 0 (.slice none 0 0)), true⟩).put h11.next (some ⟨(stc (1 + 1, ((30 : Nat) : Int), 0, 0, cTo at_ n o k w) ((1 - 0 : Nat) : Int) tv), true⟩)) := (Fr.push _ _ _).trans (Fr.put (m := (· = h11.next)) _ (.inl rfl)) (fun j hj => .inr (by omega))
  show RunC prog _ _ _ ((h11.push ⟨(stc (0, 0, 0, 0, 0) 0 (.slice none 0 0)), true⟩).put h11.next (some ⟨(stc (1 + 1, ((30 : Nat) : Int), 0, 0, cTo at_ n o k w) ((1 - 0 : Nat) : Int) tv), true⟩)) _ _ _
  generalize (h11.push ⟨(stc (0, 0, 0, 0, 0) 0 (.slice none 0 0)), true⟩).put h11.next (some ⟨(stc (1 + 1, ((30 : Nat) : Int), 0, 0, cTo at_ n o k w) ((1 - 0 : Nat) : Int) tv), true⟩) = h12 at *
  generalize h11.next = tb at *

  have tl12 := (tl.sl (by rw [List.length_map, List.length_range]; omega)).fr0 ftb
  have hNl : ((List.range (o + wN w + (n - k))).map (rsC at_ n id o k w)).length = o + wN w + (n - k) := by rw [List.length_map, List.length_range]
  obtain ⟨tA, tc, rfl⟩ : ∃ a b, tv = .slice a (o + wN w + (n - k)) b := by
    obtain ⟨a, b, e, _⟩ := tl12.form
    rw [hNl] at e
    exact ⟨a, b, e⟩
  -- all is well
  refine RunC.seq (RunC.seq (RunC.region (RunO.part 15 rfl ?_)))
  refine RunO.part 14 rfl ?_
  refine RunO.part 1 rfl ?_
  rw [fw64 (x := ((10 : Nat) : Int) - ((o + wN w : Nat) : Int)) (by omega) (by omega), show ((10 : Nat) : Int) - ((o + wN w : Nat) : Int) = ((10 - (o + wN w) : Nat) : Int) by omega]
  refine RunO.part 1 rfl ?_
  rw [show (((10 - (o + wN w) : Nat) : Int) != ((10 - (o + wN w) : Nat) : Int)) = false from bne_self_eq_false _]
  refine RunO.all rfl (RunC.cond rfl (fun g => by cases g) (fun _ => RunC.skip ?_))
  -- what is wanted
  refine RunC.seq (RunC.region (RunO.all rfl ?_))
  refine RunC.seqc (fun E' h' => ∃ av, Fr no h12 h' ∧ Row h12.next h' av 1 (wl id o k w (wN w)).length (is (wl id o k w (wN w))) ∧ Le ((upd (upd (upd (upd (upd (upd (upd (upd E0 0 (.int .i64 (n : Int))) 2 (.int .i64 (out : Int))) 3 (.int .i64 (id : Int))) 4 (.bool w)) 5 (.bool leave)) 23 (.slice wA (o + wN w) wc)) 31 (.pointer (some ⟨tb, 0, none⟩))) 33 (av))) E') ?w0 ?nx2
  case w0 =>
    refine RunC.seq (RunC.region (RunO.all rfl ?_))
    cases w with
    | false => exact RunC.cond rfl (fun g => by cases g) (fun _ => RunC.skip ⟨.slice none 0 0, Fr.refl _ _, Row.nil _ _ _, Le.cons rfl (Le.cons rfl (Le.cons rfl (Le.cons rfl (Le.cons rfl (Le.cons rfl (Le.cons rfl (Le.cons rfl (Le.nil _))))))))⟩)
    | true =>
      refine RunC.cond rfl (fun _ => ?_) (fun g => by cases g)
      refine RunC.region (RunO.part 3 rfl ?_)
      rw [fw64 (x := (id : Int) + 500) (by omega) (by omega), show (id : Int) + 500 = ((id + 500 : Nat) : Int) by omega]
      refine RunO.part 1 (h1 := h12.push ⟨[.int .i64 ((id + 500 : Nat) : Int)], true⟩) rfl ?_
      have ol := Ow.push h12 [.int .i64 ((id + 500 : Nat) : Int)]
      have e3 : Fr no h12 (h12.push ⟨[.int .i64 ((id + 500 : Nat) : Int)], true⟩) := Fr.push _ _ _
      have row3 : Gr h12.next (h12.push ⟨[.int .i64 ((id + 500 : Nat) : Int)], true⟩) (.slice none 0 0) 1 0 [] := (Row.nil _ _ _).gr
      generalize h12.push ⟨[.int .i64 ((id + 500 : Nat) : Int)], true⟩ = g3 at *
      refine RunO.appendG (s := 1) (j := 1) rfl rfl rfl rfl rfl rfl rfl rfl (by decide) row3 ol.all rfl (Nat.le_refl 1) rfl (by decide) (by omega) ?_
      intro av g4 row4 e4
      refine RunO.all rfl ⟨av, e3.trans e4 (fun b a => .inr (row3.at a).1), ?_, Le.cons rfl (Le.cons rfl (Le.cons rfl (Le.cons rfl (Le.cons rfl (Le.cons rfl (Le.cons rfl (Le.cons rfl (Le.nil _))))))))⟩
      have e : wl id o k true (wN true) = [((id + 500 : Nat) : Int)] := by
        show [((idN id o k true 0 : Nat) : Int)] = _
        unfold idN
        rw [if_pos (show 0 < o + wN true from Nat.succ_pos _), if_pos ⟨rfl, rfl⟩]
      rw [e]
      exact Row.lo row4 e3.next
  rintro E' g1 ⟨av, fa, rowa, hE⟩
  refine RunC.le hE ?_
  clear hE
  refine RunC.seq (RunC.seq (RunC.region (RunO.all rfl ?_)))
  refine RunC.block ?_
  refine RunC.loop (fun d E h' => ∃ (q : Nat) (av : Value), q + d = n ∧ Fr no h12 h' ∧ Row h12.next h' av 1 (wl id o k w (wN w + cq leave out q)).length (is (wl id o k w (wN w + cq leave out q))) ∧ Le ((upd (upd (upd (upd (upd (upd (upd (upd (upd E0 0 (.int .i64 (n : Int))) 2 (.int .i64 (out : Int))) 3 (.int .i64 (id : Int))) 4 (.bool w)) 5 (.bool leave)) 23 (.slice wA (o + wN w) wc)) 31 (.pointer (some ⟨tb, 0, none⟩))) 33 (av)) 34 (.int .i64 (q : Int)))) E) ?st2 (k := n) ?ini2
  case ini2 => exact ⟨0, av, by omega, fa, by
    have e : cq leave out 0 = 0 := by unfold cq; rw [if_neg (fun g => by omega)]
    rw [e]; exact rowa, Le.cons rfl (Le.cons rfl (Le.cons rfl (Le.cons rfl (Le.cons rfl (Le.cons rfl (Le.cons rfl (Le.cons rfl (Le.cons rfl (Le.nil _)))))))))⟩
  clear rowa fa av
  rintro d E g2 ⟨q, av, hq, fa, rowa, hE⟩
  refine RunC.le hE ?_
  clear hE
  refine RunC.seq (RunC.seq (RunC.region (RunO.all rfl ?_)))
  refine RunC.cond rfl (fun hlt => RunC.skip ?go2) (fun hge => RunC.exit ?ex2)
  case go2 =>
    have hlt := of_decide_eq_true hlt
    have hlt : q < n := by omega
    have hcn : wN w + cq leave out q ≤ 9 := by unfold cq; split <;> omega
    have hll := wl_len id o k w (wN w + cq leave out q)
    refine RunC.seqc (fun E' h' => ∃ av, Fr no h12 h' ∧ Row h12.next h' av 1 (wl id o k w (wN w + cq leave out (q + 1))).length (is (wl id o k w (wN w + cq leave out (q + 1)))) ∧ Le ((upd (upd (upd (upd (upd (upd (upd (upd (upd E0 0 (.int .i64 (n : Int))) 2 (.int .i64 (out : Int))) 3 (.int .i64 (id : Int))) 4 (.bool w)) 5 (.bool leave)) 23 (.slice wA (o + wN w) wc)) 31 (.pointer (some ⟨tb, 0, none⟩))) 33 (av)) 34 (.int .i64 (q : Int)))) E') ?bl ?inc
    case inc =>
      rintro E' g3 ⟨av2, fa2, rowa2, hE⟩
      refine RunC.le hE ?_
      clear hE
      refine RunC.region (RunO.all rfl ?_)
      exact ⟨d - 1, by omega, q + 1, av2, by omega, fa2, rowa2, Le.cons (inc64 (by omega)) (Le.cons rfl (Le.cons rfl (Le.cons rfl (Le.cons rfl (Le.cons rfl (Le.cons rfl (Le.cons rfl (Le.cons rfl (Le.nil _)))))))))⟩
    case bl =>
    refine RunC.block ?_
    -- is it to be told
    by_cases hto2 : leave = false ∨ q ≠ out
    case neg =>
      obtain ⟨rfl, rfl⟩ : leave = true ∧ q = out := by
        cases leave with
        | false => exact absurd (.inl rfl) hto2
        | true => exact ⟨rfl, Classical.byContradiction (fun g => hto2 (.inr g))⟩
      refine RunC.seq (RunC.region (RunO.part 5 rfl ?_))
      refine RunO.part 1 rfl ?_
      rw [show ((q : Int) != (q : Int)) = false from bne_self_eq_false _]
      refine RunO.all rfl (RunC.cond rfl (fun g => by cases g) (fun _ => RunC.skip ?_))
      rw [cq_out]
      exact ⟨av, fa, rowa, Le.cons rfl (Le.cons rfl (Le.cons rfl (Le.cons rfl (Le.cons rfl (Le.cons rfl (Le.cons rfl (Le.cons rfl (Le.cons rfl (Le.nil _)))))))))⟩
    have hid := idN_at (w := w) (id := id) hko hlt hol hto2
    have hst := cq_step hto2
    refine RunC.seqc (fun E' h' => g2 = h' ∧ Le ((upd (upd (upd (upd (upd (upd (upd (upd (upd (upd E0 0 (.int .i64 (n : Int))) 2 (.int .i64 (out : Int))) 3 (.int .i64 (id : Int))) 4 (.bool w)) 5 (.bool leave)) 23 (.slice wA (o + wN w) wc)) 31 (.pointer (some ⟨tb, 0, none⟩))) 33 (av)) 34 (.int .i64 (q : Int))) 167 (.bool true))) E') ?tst ?app
    case tst =>
      cases leave with
      | false => exact RunC.region (RunO.all rfl ⟨rfl, Le.cons rfl (Le.cons rfl (Le.cons rfl (Le.cons rfl (Le.cons rfl (Le.cons rfl (Le.cons rfl (Le.cons rfl (Le.cons rfl (Le.cons rfl (Le.nil _))))))))))⟩)
      | true =>
        have hne : q ≠ out := by rcases hto2 with g | g; cases g; exact g
        refine RunC.region (RunO.part 5 rfl ?_)
        refine RunO.part 1 rfl ?_
        rw [show ((q : Int) != (out : Int)) = true from bne_iff_ne.2 (by omega)]
        exact RunO.all rfl ⟨rfl, Le.cons rfl (Le.cons rfl (Le.cons rfl (Le.cons rfl (Le.cons rfl (Le.cons rfl (Le.cons rfl (Le.cons rfl (Le.cons rfl (Le.cons rfl (Le.nil _))))))))))⟩
    case app =>
      rintro E' _ ⟨rfl, hE⟩
      refine RunC.le hE ?_
      clear hE
      refine RunC.cond rfl (fun _ => ?_) (fun g => by cases g)
      refine RunC.region (RunO.part 4 rfl ?_)
      rw [fw64 (x := (id : Int) + (q : Int)) (by omega) (by omega), show (id : Int) + (q : Int) = ((id + q : Nat) : Int) by omega]
      refine RunO.part 1 (h1 := g2.push ⟨[.int .i64 ((id + q : Nat) : Int)], true⟩) rfl ?_
      have ol := Ow.push g2 [.int .i64 ((id + q : Nat) : Int)]
      have e3 : Fr no g2 (g2.push ⟨[.int .i64 ((id + q : Nat) : Int)], true⟩) := Fr.push _ _ _
      have row3 := rowa.gr.fr0 e3
      generalize g2.push ⟨[.int .i64 ((id + q : Nat) : Int)], true⟩ = g3 at *
      refine RunO.appendG (s := 1) (j := 1) rfl rfl rfl rfl rfl rfl rfl rfl (by decide) row3 ol.all rfl (Nat.le_refl 1) rfl (by show 2 * (_ + 1) * 8 ≤ _; omega) (by omega) ?_
      intro av2 g4 row4 e4
      refine RunO.all rfl ⟨av2, (fa.same e3).trans e4 (fun b a => .inr (row3.at a).1), ?_, Le.cons rfl (Le.cons rfl (Le.cons rfl (Le.cons rfl (Le.cons rfl (Le.cons rfl (Le.cons rfl (Le.cons rfl (Le.cons rfl (Le.nil _)))))))))⟩
      rw [hst, show wN w + (cq leave out q + 1) = wN w + cq leave out q + 1 by omega, wl_succ, List.length_append, hid, show is (wl id o k w (wN w + cq leave out q) ++ [((id + q : Nat) : Int)]) = is (wl id o k w (wN w + cq leave out q)) ++ [.int .i64 ((id + q : Nat) : Int)] from List.map_append]
      exact Row.lo row4 (fa.same e3).next
  have hge := of_decide_eq_false hge
  obtain rfl : q = n := by omega
  have hcn : wN w + cq leave out q = o + wN w + (q - k) := by
    unfold cq
    rcases hko with ⟨rfl, rfl, rfl⟩ | ⟨rfl, rfl, rfl⟩
    · rw [if_neg (fun g => by cases g.1)]; omega
    · rw [if_pos ⟨rfl, hol⟩]; omega
  rw [hcn] at rowa
  have hll := wl_len id o k w (o + wN w + (q - k))
  have sa := rowa.sl (by omega)
  have sa0 := sa
  obtain ⟨aA, ac, rfl⟩ : ∃ a b, av = .slice a (o + wN w + (q - k)) b := by
    obtain ⟨a, b, e, _⟩ := sa.form
    rw [hll] at e
    exact ⟨a, b, e⟩
  rw [hll] at sa0
  have ot := otb.fr fa (fun g => g)
  have tl2 := tl12.fr0 fa
  rw [hNl] at tl2
  refine RunC.seq (RunC.seq (RunC.region (RunO.part 1 rfl ?_)))
  refine RunO.load (v := .slice tA (o + wN w + (q - k)) tc) rfl (ot.ld rfl) rfl ?_
  refine RunO.part 3 rfl ?_
  refine RunO.part 1 rfl ?_
  rw [show (((o + wN w + (q - k) : Nat) : Int) != ((o + wN w + (q - k) : Nat) : Int)) = false from bne_self_eq_false _]
  refine RunO.all rfl (RunC.cond rfl (fun g => by cases g) (fun _ => RunC.skip ?_))
  -- each one
  refine RunC.seq (RunC.seq (RunC.region (RunO.all rfl ?_)))
  refine RunC.block ?_
  refine RunC.loop (fun d E h' => ∃ j : Nat, j + d = o + wN w + (q - k) ∧ g2 = h' ∧ Le ((upd (upd (upd (upd (upd (upd (upd E0 2 (.int .i64 (out : Int))) 4 (.bool w)) 5 (.bool leave)) 23 (.slice wA (o + wN w) wc)) 31 (.pointer (some ⟨tb, 0, none⟩))) 33 (.slice aA (o + wN w + (q - k)) ac)) 35 (.int .i64 (j : Int)))) E) ?st3 (k := o + wN w + (q - k)) ?ini3
  case ini3 => exact ⟨0, by omega, rfl, Le.cons rfl (Le.cons rfl (Le.cons rfl (Le.cons rfl (Le.cons rfl (Le.cons rfl (Le.cons rfl (Le.nil _)))))))⟩
  rintro d E _ ⟨j, hj, rfl, hE⟩
  refine RunC.le hE ?_
  clear hE
  refine RunC.seq (RunC.seq (RunC.region (RunO.all rfl ?_)))
  refine RunC.cond rfl (fun hlt => RunC.skip ?go3) (fun hge => RunC.exit ?ex3)
  case go3 =>
    have hlt := of_decide_eq_true hlt
    have hlt : j < o + wN w + (q - k) := by omega
    have hfld := recCs_fld (l := (List.range (o + wN w + (q - k))).map (rsC at_ q id o k w)) (i := j) (j := 1) (by rw [hNl]; exact hlt) (by decide)
    rw [rm_get] at hfld
    have hfld : apart prog 3 (recCs ((List.range (o + wN w + (q - k))).map (rsC at_ q id o k w))) (j * 8 + 1) = some (.int .i64 (rsC at_ q id o k w j).id) := hfld
    rw [(rsC_id h1 h8 a1 a2 i1 i2 hk hlt).1] at hfld
    have hpt := is_part (l := wl id o k w (o + wN w + (q - k))) (i := j) (by rw [hll]; exact hlt)
    rw [show (wl id o k w (o + wN w + (q - k)))[j]'(by rw [hll]; exact hlt) = ((idN id o k w j : Nat) : Int) from rm_get _ _] at hpt
    refine RunC.seq (RunC.block ?_)
    refine RunC.seq (RunC.draw0 rfl (RunO.part 1 rfl ?_))
    refine RunO.load (v := .slice tA (o + wN w + (q - k)) tc) rfl (ot.ld rfl) rfl ?_
    refine RunO.part 1 rfl ?_
    refine RunO.fldG (k := j) (off := 1) rfl (fun _ => rfl) (fun _ _ => rfl) rfl rfl tl2 rfl rfl hlt (fun _ _ => rfl) hfld rfl rfl rfl rfl rfl ?_
    refine RunO.part 2 rfl ?_
    refine RunO.atG (s := 1) (k := j) rfl (fun _ => rfl) rfl rfl sa0 rfl rfl hlt hpt rfl rfl rfl ?_
    refine RunO.part 1 rfl ?_
    rw [show (((idN id o k w j : Nat) : Int) != ((idN id o k w j : Nat) : Int)) = false from bne_self_eq_false _]
    refine RunO.all rfl (RunC.cond rfl (fun g => by cases g) (fun _ => RunC.skip ?_))
    refine RunC.region (RunO.all rfl ?_)
    exact ⟨d - 1, by omega, j + 1, by omega, rfl, Le.cons (inc64 (by omega)) (Le.cons rfl (Le.cons rfl (Le.cons rfl (Le.cons rfl (Le.cons rfl (Le.cons rfl (Le.nil _)))))))⟩
  -- how many are written
  refine RunC.seq (RunC.region (RunO.all rfl ?_))
  refine RunC.seqc (fun E' h' => g2 = h' ∧ ∃ r : Nat, r = wN w ∧ Le ((upd (upd (upd (upd (upd E0 2 (.int .i64 (out : Int))) 4 (.bool w)) 5 (.bool leave)) 23 (.slice wA (o + wN w) wc)) 36 (.int .i64 (r : Int)))) E') ?wr1 ?nx3
  case wr1 =>
    refine RunC.seq (RunC.region (RunO.all rfl ?_))
    cases w with
    | false => exact RunC.cond rfl (fun g => by cases g) (fun _ => RunC.skip ⟨rfl, 0, rfl, Le.cons rfl (Le.cons rfl (Le.cons rfl (Le.cons rfl (Le.cons rfl (Le.nil _)))))⟩)
    | true => exact RunC.cond rfl (fun _ => RunC.region (RunO.all rfl ⟨rfl, 1, rfl, Le.cons rfl (Le.cons rfl (Le.cons rfl (Le.cons rfl (Le.cons rfl (Le.nil _)))))⟩)) (fun g => by cases g)
  rintro E' _ ⟨rfl, r, hr, hE⟩
  refine RunC.le hE ?_
  clear hE
  refine RunC.seqc (fun E' h' => g2 = h' ∧ Le ((upd (upd (upd (upd (upd E0 2 (.int .i64 (out : Int))) 4 (.bool w)) 5 (.bool leave)) 23 (.slice wA (o + wN w) wc)) 36 (.int .i64 ((o + wN w : Nat) : Int)))) E') ?wr2 ?nx4
  case wr2 =>
    refine RunC.seq (RunC.region (RunO.all rfl ?_))
    rcases hko with ⟨rfl, rfl, rfl⟩ | ⟨rfl, rfl, rfl⟩
    · refine RunC.cond rfl (fun g => by cases g) (fun _ => RunC.skip ⟨rfl, ?_⟩)
      rw [hr, show ((0 + wN w : Nat) : Int) = (wN w : Int) by omega]
      exact Le.cons rfl (Le.cons rfl (Le.cons rfl (Le.cons rfl (Le.cons rfl (Le.nil _)))))
    · refine RunC.cond rfl (fun _ => ?_) (fun g => by cases g)
      refine RunC.region (RunO.part 3 rfl ?_)
      rw [fw64 (x := (r : Int) + (o : Int)) (by omega) (by omega), show (r : Int) + (o : Int) = ((o + wN w : Nat) : Int) by omega]
      exact RunO.all rfl ⟨rfl, Le.cons rfl (Le.cons rfl (Le.cons rfl (Le.cons rfl (Le.cons rfl (Le.nil _)))))⟩
  rintro E' _ ⟨rfl, hE⟩
  refine RunC.le hE ?_
  clear hE
  refine RunC.seq (RunC.region (RunO.part 3 rfl ?_))
  refine RunO.part 1 rfl ?_
  rw [beq_self_eq_true ((o + wN w : Nat) : Int)]
  refine RunO.part 1 rfl ?_
  refine RunO.callDG rfl wakes15_ok rfl rfl rfl ?_
  rintro _ h13 ⟨rfl, f13⟩
  exact RunO.all rfl (RunC.ret ⟨_, rfl, rfl⟩)
theorem commitChain_true : ∀ h xs avs, ArgsK [.int .i64, .int .i64, .int .i64, .int .i64, .bool, .bool] h xs avs → RunF prog 10 avs h fun v _ => v = .bool true := by
  intro h xs avs ha
  obtain ⟨a, _, _, rfl, _, ha⟩ := argInt ha
  obtain ⟨b, _, _, rfl, _, ha⟩ := argInt ha
  obtain ⟨c, _, _, rfl, _, ha⟩ := argInt ha
  obtain ⟨d, _, _, rfl, _, ha⟩ := argInt ha
  obtain ⟨w, _, _, rfl, ha2⟩ := argBool ha
  obtain ⟨e, _, _, rfl, ha3⟩ := argBool ha2
  obtain rfl := argNil ha3
  exact commitChain_walk
end Go.Proofs.Ytcbakhanpiemhaa
end
