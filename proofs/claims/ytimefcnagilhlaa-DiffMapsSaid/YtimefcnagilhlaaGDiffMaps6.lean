/- DiffMaps: a calculus over an abstract machine that stands beside the model, and contracts of functions by it (part 6).
Conditions: what each theorem says of its arguments. -/
import Derived.Test.YtimefcnagilhlaaGDiffMaps5
section
set_option linter.unusedVariables false
set_option maxRecDepth 100000
open Go Go.Am Go.RowKit
namespace Go.Proofs.Ytimefcnagilhlaa
open Go.Proofs.Try
set_option maxHeartbeats 4000000 in
theorem wakes20_ok {h : Heap} : RunF prog 34 [] h fun v h' => v = .bool true ∧ Fr no h h' := by
  refine RunF.walk func34 rfl rfl ?_
  refine RunC.seq (RunC.region (RunO.all rfl ?_))
  refine RunC.seq (RunC.region ?_)
  refine RunO.callD (chain_ok (B := 8) (at_ := 2) (sec := 75) (data := 6) (by decide) (by decide) (by decide) (by decide) (by decide) (by decide) (by decide)) rfl rfl rfl ?_
  rintro _ h1 ⟨f1, b, c, hb, rfl, hc, ow⟩
  obtain ⟨ct1, ct2⟩ := chain_tree (B := 8) (at_ := 2) (sec := 75) (data := 6) (by decide) (by decide) (by decide) (by decide) (by decide) (by decide)
  rw [if_pos (by decide)] at ct1
  obtain ⟨ct2, ct3⟩ := ct2 ct1
  have hl := chain_len (B := 8) (at_ := 2) (sec := 75) (data := 6) (by decide)
  have hby := chain_byt 8 2 75 6
  generalize chain 8 2 75 6 = L at *
  have h0 : treeE L 0 = 0 := by unfold treeE; rw [hl]; rfl
  have hE : diffE L 0 ((2 + 2 : Nat) : Int) = 0 := by unfold diffE; rw [if_pos h0]; exact ct1
  have hL : diffL L 0 ((2 + 2 : Nat) : Int) = [(75, 0, 6)] := by
    rw [diffL_eq hE, ct2]
    show chs (getI (List.replicate 512 0)) _ 0 512 = _
    rw [chs_one (s := 75) (x := 6) (by decide) (fun j => get_rep 512 j) (fun j => set_one 75 512 6 (by decide) j)]
    rfl
  have hN : diffN L 0 ((2 + 2 : Nat) : Int) = 3 := by
    unfold diffN
    rw [if_pos hE, dgo_none, ← tree_nodes (treeE_ok ct1).1, ct3]; rfl
  obtain ⟨s1, s2, s3⟩ := diff_self L ((2 + 2 : Nat) : Int)
  rw [ct1] at s3
  have sl := sl_own ow hl hc (by decide)
  refine RunO.all rfl ?_
  refine RunC.seq (RunC.region (RunO.part 2 rfl ?_))
  refine RunO.callD (diffTrees_ok (a := 0) (b := ((2 + 2 : Nat) : Int)) sl hby (by omega)) rfl rfl rfl ?_
  rintro _ h2 ⟨f2, lv, rfl, row⟩
  rw [hE, hN]
  rw [hL] at row
  replace sl := sl.fr0 f2
  refine RunO.all rfl ?_
  refine RunC.seq (RunC.region (RunO.part 3 rfl ?_))
  refine RunO.callD (diffTrees_ok (a := ((2 + 2 : Nat) : Int)) (b := ((2 + 2 : Nat) : Int)) sl hby (by omega)) rfl rfl rfl ?_
  rintro _ h3 ⟨f3, mv, rfl, rom⟩
  rw [s3, s2]
  rw [s1] at rom
  replace row := row.fr f3 (fun _ _ _ g => g)
  obtain ⟨mA, mc, rfl, _, _⟩ := (rom.sl (by decide)).form
  have F3 := (f1.same f2).same f3
  refine RunO.all rfl ?_
  refine RunC.seq (RunC.region (RunO.part 8 rfl ?_))
  refine RunO.part 2 (h1 := h3.push ⟨c3 (75, 0, 6), true⟩) rfl ?_
  have ok := Ow.push h3 (c3 (75, 0, 6))
  have f4 : Fr no h3 (h3.push ⟨c3 (75, 0, 6), true⟩) := Fr.push _ _ _
  replace row := row.fr f4 (fun _ _ _ g => g)
  have F4 := F3.same f4
  generalize h3.push ⟨c3 (75, 0, 6), true⟩ = h4 at *
  have slk := sl_cc (l := [(75, 0, 6)]) (n := 1) ok rfl (Cp.exc (Nat.le_refl 1)) (by decide)
  refine RunO.callDG rfl (keepChanges_ok (row.sl (by decide)) slk (by decide)) rfl rfl rfl ?_
  rintro _ _ ⟨rfl, rfl⟩
  rw [show (([(75, 0, 6)] : List (Int × Int × Int)) == [(75, 0, 6)]) = true from by decide]
  refine RunO.part 13 rfl ?_
  refine RunO.part 1 (h1 := h4.push ⟨is [1], true⟩) rfl ?_
  have o1 := Ow.push h4 (is [1])
  have f5 : Fr no h4 (h4.push ⟨is [1], true⟩) := Fr.push _ _ _
  have F5 := F4.same f5
  generalize h4.push ⟨is [1], true⟩ = h5 at *
  refine RunO.part 1 (h1 := h5.push ⟨is [1, 2], true⟩) rfl ?_
  have o2 := Ow.push h5 (is [1, 2])
  have f6 : Fr no h5 (h5.push ⟨is [1, 2], true⟩) := Fr.push _ _ _
  have F6 := F5.same f6
  replace o1 := o1.fr f6 (fun g => g)
  generalize h5.push ⟨is [1, 2], true⟩ = h6 at *
  refine RunO.callDG rfl (diffMaps_ok (sl_owI (l := [1]) (n := 1) o1 rfl (Cp.exc (Nat.le_refl 1)) (by decide)) (sl_owI (l := [1, 2]) (n := 2) o2 rfl (Cp.exc (Nat.le_refl 2)) (by decide)) (by decide) (by decide)) rfl rfl rfl ?_
  rintro _ h7 ⟨row7, f7⟩
  have hm1 : (mapsC [1] [1, 2]).length = 1 := by decide
  rw [hm1] at row7
  obtain ⟨vA, vc, rfl, _, _⟩ := (row7.sl (by decide)).form
  exact RunO.all rfl (RunC.ret ⟨_, rfl, rfl, F6.same f7⟩)
end Go.Proofs.Ytimefcnagilhlaa
end
section
set_option linter.unusedVariables false
set_option maxRecDepth 100000
open Go Go.Am Go.RowKit
namespace Go.Proofs.Ytimefcnagilhlaa
open Go.Proofs.Try
theorem offS_lt (u v : Nat → Int) (n : Nat) : List.Pairwise (· < ·) (offS u v n) := List.pairwise_lt_range.filter _
theorem offS_mem {u v : Nat → Int} {n s : Nat} : s ∈ offS u v n ↔ s < n ∧ u s ≠ v s := by
  unfold offS
  rw [List.mem_filter, List.mem_range, bne_iff_ne]
/-- The first map behind so many changes. -/
def xsL (u v : Nat → Int) (n i : Nat) : List Int := (List.range n).map fun s => if s ∈ (offS u v n).take i then v s else u s
theorem xsL_len (u v : Nat → Int) (n i : Nat) : (xsL u v n i).length = n := by unfold xsL; rw [List.length_map, List.length_range]
theorem xsL_get (u v : Nat → Int) (n i : Nat) {s : Nat} (hs : s < n) : (xsL u v n i)[s]? = some (if s ∈ (offS u v n).take i then v s else u s) := by
  unfold xsL; rw [List.getElem?_map, List.getElem?_range hs]; rfl
theorem xsL_at (u v : Nat → Int) (n : Nat) {i : Nat} (hi : i < (offS u v n).length) : (xsL u v n i)[(offS u v n)[i]]? = some (u (offS u v n)[i]) := by
  have hm := offS_mem.1 (List.getElem_mem hi)
  rw [xsL_get _ _ _ _ hm.1, if_neg ?_]
  intro h
  obtain ⟨j, hj, he⟩ := List.mem_take_iff_getElem.1 h
  have := List.pairwise_iff_getElem.1 (offS_lt u v n) j i (by omega) hi (by omega)
  omega
theorem xsL_step (u v : Nat → Int) (n : Nat) {i : Nat} (hi : i < (offS u v n).length) : (xsL u v n i).set (offS u v n)[i] (v (offS u v n)[i]) = xsL u v n (i + 1) := by
  have hm := offS_mem.1 (List.getElem_mem hi)
  apply List.ext_getElem?
  intro j
  rw [List.getElem?_set, xsL_len]
  by_cases hj : j < n
  · rw [xsL_get _ _ _ _ hj, xsL_get _ _ _ _ hj, List.take_succ_eq_append_getElem hi]
    simp only [List.mem_append, List.mem_singleton]
    by_cases e : (offS u v n)[i] = j
    · rw [if_pos e, if_pos hm.1, if_pos (.inr e.symm), e]
    · rw [if_neg e]
      by_cases c : j ∈ (offS u v n).take i
      · rw [if_pos c, if_pos (.inl c)]
      · rw [if_neg c, if_neg (by rintro (g | g); exact c g; exact e g.symm)]
  · rw [if_neg (by omega), List.getElem?_eq_none (by rw [xsL_len]; omega), List.getElem?_eq_none (by rw [xsL_len]; omega)]
theorem xsL_zero (u v : Nat → Int) (n : Nat) : xsL u v n 0 = (List.range n).map u := by
  unfold xsL
  apply List.map_congr_left
  intro s _
  rw [if_neg (by simp)]
theorem xsL_all (u v : Nat → Int) (n : Nat) : xsL u v n (offS u v n).length = (List.range n).map v := by
  unfold xsL
  apply List.map_congr_left
  intro s hs
  rw [List.take_length]
  by_cases c : s ∈ offS u v n
  · rw [if_pos c]
  · rw [if_neg c]
    rw [offS_mem, not_and] at c
    exact Decidable.not_not.1 (c (List.mem_range.1 hs))
theorem pad_is {a : List Int} {n : Nat} (h : a.length ≤ n) : (is a).take a.length ++ (is (List.replicate n 0)).drop a.length = is ((List.range n).map (getI a)) := by
  have : (is a).take a.length = is a := List.take_of_length_le (by rw [is_len]; exact Nat.le_refl _)
  rw [this]
  have : (is (List.replicate n 0)).drop a.length = is (List.replicate (n - a.length) 0) := by unfold is; rw [← List.map_drop, List.drop_replicate]
  rw [this, ← is_app]
  congr 1
  apply List.ext_getElem?
  intro j
  rw [List.getElem?_map]
  by_cases hj : j < n
  · rw [List.getElem?_range hj]
    show _ = some (a.getD j 0)
    rw [List.getD_eq_getElem?_getD]
    by_cases c : j < a.length
    · rw [List.getElem?_append_left c, List.getElem?_eq_getElem c]; rfl
    · rw [List.getElem?_append_right (by omega), List.getElem?_replicate, if_pos (by omega), List.getElem?_eq_none (show a.length ≤ j by omega)]; rfl
  · rw [List.getElem?_eq_none (by simp; omega), List.getElem?_eq_none (by simp; omega)]; rfl
theorem chs_get (u v : Nat → Int) (n : Nat) {i : Nat} (hi : i < (offS u v n).length) : (chs u v 0 n)[i]? = some ((((offS u v n)[i] : Nat) : Int), u (offS u v n)[i], v (offS u v n)[i]) := by
  unfold chs
  rw [List.getElem?_map, List.getElem?_eq_getElem hi]
  show some (((0 + (offS u v n)[i] : Nat) : Int), _, _) = _
  rw [Nat.zero_add]
theorem chs_cnt (u v : Nat → Int) (f n : Nat) : (chs u v f n).length = (offS u v n).length := by unfold chs; rw [List.length_map]
set_option maxHeartbeats 32000000 in
theorem diffMaps_true : ∀ h xs avs, ArgsK [.slice (.int .i64), .slice (.int .i64)] h xs avs → RunF prog 8 avs h fun v _ => v = .bool true := by
  intro h xs avs ha
  obtain ⟨a, _, av, _, rfl, sa, _, ha⟩ := argInts ha
  obtain ⟨b, _, bv, _, rfl, sb, _, ha⟩ := argInts ha
  obtain rfl := argNil ha
  have sa : Sl h av 1 a.length (is a) := sa
  have sb : Sl h bv 1 b.length (is b) := sb
  have sa0 := sa
  have sb0 := sb
  obtain ⟨aA, ac, rfl, _, _⟩ := sa.form
  obtain ⟨bA, bc, rfl, _, _⟩ := sb.form
  refine RunF.walk func8 rfl rfl ?_
  refine RunC.seq (RunC.region (RunO.all rfl ?_))
  refine RunC.seq (RunC.seqE (upd (upd (upd E0 0 (.slice aA a.length ac)) 1 (.slice bA b.length bc)) 18 (.bool (decide ((a.length : Int) > 600) || decide ((b.length : Int) > 600)))) ?_ ?_)
  · refine RunC.region (RunO.part 4 rfl ?_)
    cases decide ((a.length : Int) > 600) with
    | true => exact RunO.all rfl ⟨rfl, Le.cons rfl (Le.cons rfl (Le.cons rfl (Le.nil _)))⟩
    | false => exact RunO.all rfl ⟨rfl, Le.cons rfl (Le.cons rfl (Le.cons rfl (Le.nil _)))⟩
  cases hh : decide ((a.length : Int) > 600) || decide ((b.length : Int) > 600) with
  | true =>
    refine RunC.cond rfl (fun _ => ?_) (fun g => by cases g)
    exact RunC.seq (RunC.region (RunO.all rfl (RunC.ret ⟨_, rfl, rfl⟩)))
  | false =>
  rw [Bool.or_eq_false_iff, decide_eq_false_iff_not, decide_eq_false_iff_not] at hh
  have hal : a.length ≤ 600 := by omega
  have hbl : b.length ≤ 600 := by omega
  refine RunC.cond rfl (fun g => by cases g) (fun _ => RunC.skip ?_)
  -- the changes
  refine RunC.seq (RunC.region (RunO.part 2 rfl ?_))
  refine RunO.callD (diffMaps_ok sa0 sb0 (by omega) (by omega)) rfl rfl rfl ?_
  rintro lv h1 ⟨rowl, f1⟩
  replace sa0 := sa0.fr0 f1
  replace sb0 := sb0.fr0 f1
  refine RunO.part 2 rfl ?_
  refine RunO.callD (diffMaps_ok sb0 sa0 (by omega) (by omega)) rfl rfl rfl ?_
  rintro mv h2 ⟨rowm, f2⟩
  replace sa0 := sa0.fr0 f2
  replace sb0 := sb0.fr0 f2
  obtain ⟨n, hn⟩ : ∃ n, n = max a.length b.length := ⟨_, rfl⟩
  have hla : mapsC a b = chs (getI a) (getI b) 0 n := by unfold mapsC; rw [hn]
  have hlb : mapsC b a = chs (getI b) (getI a) 0 n := by unfold mapsC; rw [hn, Nat.max_comm]
  have hn6 : n ≤ 600 := by omega
  rw [hla] at rowl
  rw [hlb] at rowm
  have hcl := chs_len (getI a) (getI b) 0 n
  have hcm := chs_symm_len (getI b) (getI a) 0 n
  have sll := (rowl.sl (by omega)).fr0 f2
  have slm := rowm.sl (by omega)
  rw [hcm] at slm
  clear rowl rowm f1 f2 hla hlb
  have sll0 := sll
  have slm0 := slm
  obtain ⟨lA, lc, rfl, _, _⟩ := sll.form
  obtain ⟨mA, mc, rfl, _, _⟩ := slm.form
  refine RunO.all rfl ?_
  refine RunC.seq (RunC.region (RunO.part 5 rfl ?_))
  rw [maxB, ← hn]
  refine RunO.all rfl ?_
  -- the two rows
  refine RunC.seq (RunC.draw0 rfl ?_)
  refine RunO.part 1 rfl ?_
  refine RunO.make (m := n) rfl rfl rfl rfl rfl rfl (show 8 * n ≤ _ by omega) (by omega) rfl ?_
  rw [reps_is]
  have ox := Ow.push h2 (is (List.replicate n 0))
  have f3 : Fr no h2 (h2.push ⟨is (List.replicate n 0), true⟩) := Fr.push _ _ _
  obtain ⟨xb, hxb⟩ : ∃ xb, xb = h2.next := ⟨_, rfl⟩
  rw [← hxb] at ox ⊢
  generalize h2.push ⟨is (List.replicate n 0), true⟩ = h3 at *
  refine RunO.part 1 rfl ?_
  refine RunO.make (m := n) rfl rfl rfl rfl rfl rfl (show 8 * n ≤ _ by omega) (by omega) rfl ?_
  rw [reps_is]
  have oy := Ow.push h3 (is (List.replicate n 0))
  have f4 : Fr no h3 (h3.push ⟨is (List.replicate n 0), true⟩) := Fr.push _ _ _
  obtain ⟨yb, hyb⟩ : ∃ yb, yb = h3.next := ⟨_, rfl⟩
  have hxy : xb < yb := by have := ox.1; rw [hyb]; exact this
  replace ox := ox.fr f4 (fun g => g)
  rw [← hyb] at oy ⊢
  generalize h3.push ⟨is (List.replicate n 0), true⟩ = h4 at *
  refine RunO.all rfl ?_
  have f24 := f3.same f4
  have frX : ∀ {v : Value} {k s : Nat} {cs : List Value} {M : Nat → Prop} {h h' : Heap}, (∃ A c, v = .slice A k c) → Sl h2 v s k cs → Sl h v s k cs → (∀ b, M b → h2.next ≤ b) → Fr M h h' → Sl h' v s k cs := by
    intro v k s cs M h h' _ sl2 sl hM f
    refine ⟨sl.1, sl.2.1, sl.2.2.imp (fun y => y) ?_⟩
    rintro ⟨b, o, c, e1, e2, e3⟩
    refine ⟨b, o, c, e1, e2, e3.fr f (fun g => ?_)⟩
    rcases sl2.2.2 with ⟨g1, _⟩ | ⟨b', o', c', g1, _, rd⟩
    · rw [e1] at g1; cases g1
    · rw [e1] at g1; cases g1
      have h1 : b < h2.next := rd.2.1
      have := hM b g
      omega
  refine RunC.seq (RunC.region (RunO.part 2 rfl ?_))
  refine RunO.copy rfl rfl rfl rfl ox (sa0.fr0 f24) (allCells_map (fun _ => rfl) a) (k := a.length) (by omega) (by rw [is_len, List.length_replicate]; omega) rfl ?_
  intro h5 ox5 f5 hn5
  rw [pad_is (by omega)] at ox5
  refine RunO.nil ?_
  replace oy := oy.fr f5 (fun e => by omega)
  have sb5 := frX ⟨_, _, rfl⟩ sb0 (sb0.fr0 f24) (fun b e => by omega) f5
  refine RunC.seq (RunC.region (RunO.part 2 rfl ?_))
  refine RunO.copy rfl rfl rfl rfl oy sb5 (allCells_map (fun _ => rfl) b) (k := b.length) (by omega) (by rw [is_len, List.length_replicate]; omega) rfl ?_
  intro h6 oy6 f6 hn6'
  rw [pad_is (by omega)] at oy6
  refine RunO.nil ?_
  replace ox5 := ox5.fr f6 (fun e => by omega)
  have sll6 := frX ⟨_, _, rfl⟩ sll0 (frX ⟨_, _, rfl⟩ sll0 (sll0.fr0 f24) (fun b e => by omega) f5) (fun b e => by omega) f6
  have slm6 := frX ⟨_, _, rfl⟩ slm0 (frX ⟨_, _, rfl⟩ slm0 (slm0.fr0 f24) (fun b e => by omega) f5) (fun b e => by omega) f6
  have sa6 := frX ⟨_, _, rfl⟩ sa0 (frX ⟨_, _, rfl⟩ sa0 (sa0.fr0 f24) (fun b e => by omega) f5) (fun b e => by omega) f6
  -- as many the other way about
  refine RunC.seq (RunC.seq (RunC.region (RunO.part 4 rfl ?_)))
  refine RunO.part 1 rfl ?_
  rw [bne_self_eq_false]
  refine RunO.part 3 rfl ?_
  refine RunO.callDG rfl (diffMaps_ok sa6 sa6 (by omega) (by omega)) rfl rfl rfl ?_
  rintro pv h7 ⟨rowp, f7⟩
  have hself : mapsC a a = [] := chs_same _ _ _
  rw [hself] at rowp
  obtain ⟨pA, pc, rfl, _, _⟩ := (rowp.sl (by decide)).form
  refine RunO.all rfl ?_
  refine RunC.cond rfl (fun g => by cases g) (fun _ => RunC.skip ?_)
  replace sll6 := sll6.fr0 f7
  replace slm6 := slm6.fr0 f7
  replace ox5 := ox5.fr f7 (fun g => g)
  replace oy6 := oy6.fr f7 (fun g => g)
  clear rowp f7 f6 f5 f4 f3 f24 sa6 sa0 sb0 sb5 ox oy
  have hlx : ∀ q o c, Value.slice lA (chs (getI a) (getI b) 0 n).length lc = .slice (some ⟨q, o, none⟩) (chs (getI a) (getI b) 0 n).length c → q < h2.next := fun q o c e => by
    rcases sll0.2.2 with ⟨g1, _⟩ | ⟨b', o', c', g1, _, rd⟩
    · rw [g1] at e; cases e
    · rw [g1] at e; cases e; exact rd.2.1
  have hmx : ∀ q o c, Value.slice mA (chs (getI a) (getI b) 0 n).length mc = .slice (some ⟨q, o, none⟩) (chs (getI a) (getI b) 0 n).length c → q < h2.next := fun q o c e => by
    rcases slm0.2.2 with ⟨g1, _⟩ | ⟨b', o', c', g1, _, rd⟩
    · rw [g1] at e; cases e
    · rw [g1] at e; cases e; exact rd.2.1
  clear frX sll0 slm0
  rw [← xsL_zero (getI a) (getI b) n] at ox5
  generalize getI a = u at *
  generalize getI b = v at *
  have hcnt := chs_cnt u v 0 n
  have hcnt' := chs_cnt v u 0 n
  rw [offS_symm v u] at hcnt'
  obtain ⟨N, hN⟩ : ∃ N, N = (chs u v 0 n).length := ⟨_, rfl⟩
  rw [← hN] at sll6 slm6 hlx hmx hcl hcnt ⊢
  have hgl := fun i (hi : i < (offS u v n).length) => chs_get u v n hi
  have hgm : ∀ i (hi : i < (offS u v n).length), (chs v u 0 n)[i]? = some ((((offS u v n)[i] : Nat) : Int), v (offS u v n)[i], u (offS u v n)[i]) := fun i hi => by
    have := chs_get v u n (i := i) (by rw [offS_symm]; exact hi)
    simp only [offS_symm v u n] at this
    exact this
  have hlm : (chs v u 0 n).length = N := hcm.trans hN.symm
  generalize chs u v 0 n = l at *
  generalize chs v u 0 n = m at *
  refine RunC.seq (RunC.seq (RunC.region (RunO.all rfl ?_)))
  refine RunC.block ?_
  let I : Nat → Env → Heap → Prop := fun d E h' => ∃ i : Nat, i + d = N ∧ Ow h' xb (is (xsL u v n i)) ∧ Ow h' yb (is ((List.range n).map v)) ∧ Sl h' (.slice lA N lc) 3 N (cc l) ∧ Sl h' (.slice mA N mc) 3 N (cc m) ∧ Le (upd (upd (upd (upd (upd (upd E0 5 (.slice lA N lc)) 6 (.slice mA N mc)) 7 (.int .i64 (n : Int))) 8 (.slice (some ⟨xb, 0, none⟩) n (exc n))) 9 (.slice (some ⟨yb, 0, none⟩) n (exc n))) 10 (.int .i64 (i : Int))) E
  refine RunC.loop I ?_ (k := N) ?_
  · rintro d E h8 ⟨i, hi, ox8, oy8, sl7, sm7, hE⟩
    refine RunC.le hE ?_
    clear hE
    refine RunC.seq (RunC.seq (RunC.region (RunO.all rfl ?_)))
    refine RunC.cond rfl (fun hlt => ?_) (fun hge => ?_)
    · have hlt := of_decide_eq_true hlt
      have hiN : i < N := by omega
      have hio : i < (offS u v n).length := by omega
      have hil : i < l.length := by omega
      have him : i < m.length := by omega
      have hs := offS_mem.1 (List.getElem_mem hio)
      have hxat := xsL_at u v n hio
      have hxst := xsL_step u v n hio
      have el := hgl i hio
      have em := hgm i hio
      rw [List.getElem?_eq_getElem hil, Option.some.injEq] at el
      rw [List.getElem?_eq_getElem him, Option.some.injEq] at em
      have hl0 := cc_fld hil (j := 0) (by decide)
      have hl1 := cc_fld hil (j := 1) (by decide)
      have hl2 := cc_fld hil (j := 2) (by decide)
      have hm0 := cc_fld him (j := 0) (by decide)
      have hm1 := cc_fld him (j := 1) (by decide)
      have hm2 := cc_fld him (j := 2) (by decide)
      rw [el] at hl0 hl1 hl2
      rw [em] at hm0 hm1 hm2
      -- the one ahead
      have hpre : ∀ j, i = j + 1 → ∃ q : Int, apart prog 3 (cc l) (j * 3 + 0) = some (.int .i64 q) ∧ q < (((offS u v n)[i] : Nat) : Int) := by
        intro j hj
        have hjo : j < (offS u v n).length := by omega
        have hjl : j < l.length := by omega
        have ej := hgl j hjo
        rw [List.getElem?_eq_getElem hjl, Option.some.injEq] at ej
        have h0 := cc_fld hjl (j := 0) (by decide)
        rw [ej] at h0
        refine ⟨_, h0, ?_⟩
        have := List.pairwise_iff_getElem.1 (offS_lt u v n) j i hjo hio (by omega)
        show (((offS u v n)[j] : Nat) : Int) < _
        omega
      clear el em
      generalize (offS u v n)[i] = s at *
      have hs1 := hs.1
      have hs2 := hs.2
      generalize u s = us_ at *
      generalize v s = vs_ at *
      have hsx : s < (xsL u v n i).length := by rw [xsL_len]; exact hs1
      have hxv : apart prog 3 (is (xsL u v n i)) (s * 1) = some (.int .i64 us_) := by
        rw [is_part hsx]
        rw [List.getElem?_eq_getElem hsx, Option.some.injEq] at hxat
        rw [hxat]
      have slx : Sl h8 (.slice (some ⟨xb, 0, none⟩) n (exc n)) 1 n (is (xsL u v n i)) := ox8.all.sl (by rw [is_len, xsL_len, Nat.mul_one]) (by omega) (Cp.exc (Nat.le_refl _))
      change apart _ _ _ _ = some (Value.int .i64 (s : Int)) at hl0 hm0
      change apart _ _ _ _ = some (Value.int .i64 us_) at hl1 hm2
      change apart _ _ _ _ = some (Value.int .i64 vs_) at hl2 hm1
      refine RunC.skip ?_
      refine RunC.seq (RunC.block ?_)
      refine RunC.seq (RunC.seqE (upd (upd (upd (upd (upd (upd (upd E0 5 (.slice lA N lc)) 6 (.slice mA N mc)) 7 (.int .i64 (n : Int))) 8 (.slice (some ⟨xb, 0, none⟩) n (exc n))) 9 (.slice (some ⟨yb, 0, none⟩) n (exc n))) 10 (.int .i64 (i : Int))) 158 (.bool false)) ?_ ?_)
      · refine RunC.draw0 rfl ?_
        refine RunO.part 2 rfl ?_
        refine RunO.fldG (k := i) (off := 0) rfl (fun _ => rfl) (fun _ _ => rfl) rfl rfl sl7 rfl rfl hiN (fun _ _ => rfl) hl0 rfl rfl rfl rfl rfl ?_
        refine RunO.part 2 rfl ?_
        refine RunO.fldG (k := i) (off := 0) rfl (fun _ => rfl) (fun _ _ => rfl) rfl rfl sm7 rfl rfl hiN (fun _ _ => rfl) hm0 rfl rfl rfl rfl rfl ?_
        refine RunO.part 1 rfl ?_
        rw [bne_self_eq_false]
        refine RunO.part 3 rfl ?_
        refine RunO.fldG (k := i) (off := 1) rfl (fun _ => rfl) (fun _ _ => rfl) rfl rfl sl7 rfl rfl hiN (fun _ _ => rfl) hl1 rfl rfl rfl rfl rfl ?_
        refine RunO.part 2 rfl ?_
        refine RunO.fldG (k := i) (off := 2) rfl (fun _ => rfl) (fun _ _ => rfl) rfl rfl sm7 rfl rfl hiN (fun _ _ => rfl) hm2 rfl rfl rfl rfl rfl ?_
        refine RunO.part 1 rfl ?_
        rw [bne_self_eq_false]
        refine RunO.part 4 rfl ?_
        refine RunO.fldG (k := i) (off := 2) rfl (fun _ => rfl) (fun _ _ => rfl) rfl rfl sl7 rfl rfl hiN (fun _ _ => rfl) hl2 rfl rfl rfl rfl rfl ?_
        refine RunO.part 2 rfl ?_
        refine RunO.fldG (k := i) (off := 1) rfl (fun _ => rfl) (fun _ _ => rfl) rfl rfl sm7 rfl rfl hiN (fun _ _ => rfl) hm1 rfl rfl rfl rfl rfl ?_
        refine RunO.part 1 rfl ?_
        rw [bne_self_eq_false]
        refine RunO.part 4 rfl ?_
        refine RunO.fldG (k := i) (off := 0) rfl (fun _ => rfl) (fun _ _ => rfl) rfl rfl sl7 rfl rfl hiN (fun _ _ => rfl) hl0 rfl rfl rfl rfl rfl ?_
        refine RunO.part 1 rfl ?_
        rw [show decide ((s : Int) < 0) = false from decide_eq_false (by omega)]
        refine RunO.part 4 rfl ?_
        refine RunO.fldG (k := i) (off := 0) rfl (fun _ => rfl) (fun _ _ => rfl) rfl rfl sl7 rfl rfl hiN (fun _ _ => rfl) hl0 rfl rfl rfl rfl rfl ?_
        refine RunO.part 2 rfl ?_
        rw [show decide ((s : Int) ≥ (n : Int)) = false from decide_eq_false (by omega)]
        refine RunO.part 5 rfl ?_
        refine RunO.fldG (k := i) (off := 0) rfl (fun _ => rfl) (fun _ _ => rfl) rfl rfl sl7 rfl rfl hiN (fun _ _ => rfl) hl0 rfl rfl rfl rfl rfl ?_
        refine RunO.atG (s := 1) (k := s) rfl (fun _ => rfl) rfl rfl slx rfl rfl hs1 hxv rfl rfl rfl ?_
        refine RunO.part 2 rfl ?_
        refine RunO.fldG (k := i) (off := 1) rfl (fun _ => rfl) (fun _ _ => rfl) rfl rfl sl7 rfl rfl hiN (fun _ _ => rfl) hl1 rfl rfl rfl rfl rfl ?_
        refine RunO.part 1 rfl ?_
        rw [bne_self_eq_false]
        refine RunO.part 4 rfl ?_
        refine RunO.fldG (k := i) (off := 1) rfl (fun _ => rfl) (fun _ _ => rfl) rfl rfl sl7 rfl rfl hiN (fun _ _ => rfl) hl1 rfl rfl rfl rfl rfl ?_
        refine RunO.part 2 rfl ?_
        refine RunO.fldG (k := i) (off := 2) rfl (fun _ => rfl) (fun _ _ => rfl) rfl rfl sl7 rfl rfl hiN (fun _ _ => rfl) hl2 rfl rfl rfl rfl rfl ?_
        refine RunO.part 1 rfl ?_
        rw [show (us_ == vs_) = false from beq_eq_false_iff_ne.2 hs2]
        refine RunO.part 4 rfl ?_
        cases i with
        | zero => exact RunO.all rfl ⟨rfl, Le.cons rfl (Le.cons rfl (Le.cons rfl (Le.cons rfl (Le.cons rfl (Le.cons rfl (Le.cons rfl (Le.nil _)))))))⟩
        | succ j =>
          obtain ⟨q, hp0, hq⟩ := hpre j rfl
          have hjN : j < N := by omega
          rw [show decide (((j + 1 : Nat) : Int) > 0) = true from decide_eq_true (by omega)]
          refine RunO.part 3 rfl ?_
          refine RunO.fldG (k := j + 1) (off := 0) rfl (fun _ => rfl) (fun _ _ => rfl) rfl rfl sl7 rfl rfl hiN (fun _ _ => rfl) hl0 rfl rfl rfl rfl rfl ?_
          refine RunO.part 3 rfl ?_
          rw [fw64 (x := ((j + 1 : Nat) : Int) - 1) (by omega) (by omega), show ((j + 1 : Nat) : Int) - 1 = (j : Int) by omega]
          refine RunO.fldG (k := j) (off := 0) rfl (fun _ => rfl) (fun _ _ => rfl) rfl rfl sl7 rfl rfl hjN (fun _ _ => rfl) hp0 rfl rfl rfl rfl rfl ?_
          refine RunO.part 1 rfl ?_
          rw [show decide ((s : Int) ≤ q) = false from decide_eq_false (by omega)]
          exact RunO.all rfl ⟨rfl, Le.cons rfl (Le.cons rfl (Le.cons rfl (Le.cons rfl (Le.cons rfl (Le.cons rfl (Le.cons rfl (Le.nil _)))))))⟩
      refine RunC.cond rfl (fun g => by cases g) (fun _ => RunC.skip ?_)
      refine RunC.draw0 rfl ?_
      refine RunO.part 3 rfl ?_
      refine RunO.fldG (k := i) (off := 0) rfl (fun _ => rfl) (fun _ _ => rfl) rfl rfl sl7 rfl rfl hiN (fun _ _ => rfl) hl0 rfl rfl rfl rfl rfl ?_
      refine RunO.part 2 rfl ?_
      refine RunO.fldG (k := i) (off := 2) rfl (fun _ => rfl) (fun _ _ => rfl) rfl rfl sl7 rfl rfl hiN (fun _ _ => rfl) hl2 rfl rfl rfl rfl rfl ?_
      refine RunO.index (s := 1) (k := s) rfl rfl rfl rfl hs1 rfl ?_
      refine RunO.store rfl rfl (store1_ow ox8 rfl rfl rfl (by rw [is_len]; omega)) (RunO.nil ?_)
      have ei : (is (xsL u v n i)).set (0 + s * 1) (.int .i64 vs_) = is (xsL u v n (i + 1)) := by rw [Nat.zero_add, Nat.mul_one, ← hxst]; unfold is; rw [List.map_set]
      rw [ei]
      have fx : Fr (· = xb) h8 (h8.put xb (some ⟨is (xsL u v n (i + 1)), true⟩)) := Fr.put _ (.inl rfl)
      refine RunC.region (RunO.all rfl ?_)
      refine ⟨d - 1, by omega, i + 1, by omega, Ow.put _ ox8.1, oy8.fr fx (fun e => by omega), ?_, ?_, Le.cons (inc64 (by omega)) (Le.cons rfl (Le.cons rfl (Le.cons rfl (Le.cons rfl (Le.cons rfl (Le.nil _))))))⟩
      · refine ⟨sl7.1, sl7.2.1, sl7.2.2.imp (fun y => y) ?_⟩
        rintro ⟨b, o, c, e1, e2, e3⟩
        exact ⟨b, o, c, e1, e2, e3.fr fx (fun g => by have g : b = xb := g; have := hlx b o c e1; omega)⟩
      · refine ⟨sm7.1, sm7.2.1, sm7.2.2.imp (fun y => y) ?_⟩
        rintro ⟨b, o, c, e1, e2, e3⟩
        exact ⟨b, o, c, e1, e2, e3.fr fx (fun g => by have g : b = xb := g; have := hmx b o c e1; omega)⟩
    · have hge := of_decide_eq_false hge
      obtain rfl : i = N := by omega
      refine RunC.exit ?_
      rw [hcnt, xsL_all] at ox8
      have slx := sl_owI ox8 (by simp) (Cp.exc (Nat.le_refl n)) (by omega)
      have sly := sl_owI oy8 (by simp) (Cp.exc (Nat.le_refl n)) (by omega)
      refine RunC.seq (RunC.region (RunO.part 2 rfl ?_))
      refine RunO.callD (keepInts_ok slx sly (by rw [List.length_map, List.length_range]; omega)) rfl rfl rfl ?_
      rintro _ _ ⟨rfl, rfl⟩
      rw [show (((List.range n).map v) == ((List.range n).map v)) = true from beq_self_eq_true _]
      refine RunO.part 1 rfl ?_
      refine RunO.callDG rfl wakes20_ok rfl rfl rfl ?_
      rintro _ h9 ⟨rfl, f9⟩
      exact RunO.all rfl (RunC.ret ⟨_, rfl, rfl⟩)
  · exact ⟨0, by omega, ox5, oy6, sll6, slm6, Le.cons rfl (Le.cons rfl (Le.cons rfl (Le.cons rfl (Le.cons rfl (Le.cons rfl (Le.nil _))))))⟩
end Go.Proofs.Ytimefcnagilhlaa
end
