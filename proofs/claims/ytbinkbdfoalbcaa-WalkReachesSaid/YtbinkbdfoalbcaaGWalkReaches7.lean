/- WalkReaches: a calculus over an abstract machine that stands beside the model, and contracts of functions by it (part 7).
Conditions: what each theorem says of its arguments. -/
import Derived.Test.YtbinkbdfoalbcaaGWalkReaches6
section
set_option linter.unusedVariables false
set_option linter.unusedSectionVars false
set_option maxRecDepth 100000
open Go Go.Am Go.RowKit
namespace Go.Proofs.Ytbinkbdfoalbcaa
open Go.Proofs.Try
set_option maxHeartbeats 32000000 in
theorem walkReaches_true : ∀ h xs avs, ArgsK [.slice (.int .u8)] h xs avs → RunF prog 11 avs h fun v _ => v = .bool true := by
  intro h xs avs ha
  obtain ⟨L, _, iv, _, rfl, sl, hwf, ha⟩ := argInts ha
  obtain rfl := argNil ha
  have hb : Byt L := fun x hx => wf_u8 (hwf x hx)
  refine RunF.walk func11 rfl rfl ?_
  refine RunC.seq (RunC.region (RunO.all rfl ?_))
  refine RunC.seq (RunC.seq (RunC.region (RunO.part 1 rfl ?_)))
  refine RunO.callD (heavy_ok sl) rfl rfl rfl ?_
  rintro _ _ ⟨rfl, rfl⟩
  refine RunO.all rfl ?_
  by_cases hL : (L.length : Int) > 19200
  · rw [decide_eq_true hL]
    refine RunC.cond rfl (fun _ => ?_) (fun g => by cases g)
    exact RunC.seq (RunC.region (RunO.all rfl (RunC.ret ⟨_, rfl, rfl⟩)))
  rw [decide_eq_false hL]
  refine RunC.cond rfl (fun g => by cases g) (fun _ => RunC.skip ?_)
  have hm : L.length ≤ 4611686018427387904 := by omega
  have sl0 : Sl h iv 1 L.length (us L) := sl
  obtain ⟨A, c, rfl, _, _⟩ := sl.form
  refine RunC.seq (RunC.region (RunO.part 1 rfl ?_))
  refine RunO.callD (walkCounts_ok sl0 hb hm) rfl rfl rfl ?_
  rintro _ h1 ⟨f1, ⟨g, cB, cb, hcb, rfl, ow⟩ | ⟨g, rfl⟩⟩
  case inr =>
    refine RunO.all rfl ?_
    refine RunC.seq (RunC.region (RunO.part 1 rfl ?_))
    refine RunO.callD (openOpen_ok (sl0.fr0 f1) hb hm) rfl rfl rfl ?_
    rintro _ h2 ⟨f2, ⟨g', _⟩ | ⟨_, rfl⟩⟩
    · exact absurd g' g
    refine RunO.part 4 (h1 := h2.push ⟨stc (0, 0, 0, 0, 0) 0 (.slice none 0 0), true⟩) rfl ?_
    refine RunO.store rfl rfl (store_ow (s := 7) (Ow.push h2 (stc (0, 0, 0, 0, 0) 0 (.slice none 0 0))) rfl rfl rfl (Nat.le_of_ble_eq_true rfl)) (RunO.all rfl ?_)
    generalize (lk L).2 = e at *
    refine RunC.seq (RunC.seq (RunC.region (RunO.part 2 rfl ?_)))
    rw [show (e != 0) = true from bne_iff_ne.2 g]
    refine RunO.all rfl (RunC.cond rfl (fun _ => ?_) (fun g => by cases g))
    refine RunC.seq (RunC.region (RunO.part 3 rfl ?_))
    rw [show (e == e) = true from beq_self_eq_true e]
    refine RunO.part 6 rfl ?_
    refine RunO.callDG rfl wakes12_ok rfl rfl rfl ?_
    rintro _ h9 ⟨rfl, f9⟩
    exact RunO.all rfl (RunC.ret ⟨_, rfl, rfl⟩)
  refine RunO.all rfl ?_
  refine RunC.seq (RunC.region (RunO.part 1 rfl ?_))
  refine RunO.callD (openOpen_ok (sl0.fr0 f1) hb hm) rfl rfl rfl ?_
  rintro _ h2 ⟨f2, ⟨_, rv, rfl, rl⟩ | ⟨g', _⟩⟩
  case inr => exact absurd g g'
  refine RunO.part 4 (h1 := h2.push ⟨stc (0, 0, 0, 0, 0) 0 (.slice none 0 0), true⟩) rfl ?_
  refine RunO.store rfl rfl (store_ow (s := 7) (Ow.push h2 (stc (0, 0, 0, 0, 0) 0 (.slice none 0 0))) rfl rfl (stc_cells rl) (Nat.le_of_ble_eq_true rfl)) (RunO.all rfl ?_)
  rw [stc_store]
  have f3 : Fr no h2 ((h2.push ⟨stc (0, 0, 0, 0, 0) 0 (.slice none 0 0), true⟩).put h2.next (some ⟨stc (lkS L) (pickS L).2.1 rv, true⟩)) := (Fr.push _ _ _).trans (Fr.put (m := (· = h2.next)) _ (.inl rfl)) (fun j hj => .inr (by omega))
  have os : Ow ((h2.push ⟨stc (0, 0, 0, 0, 0) 0 (.slice none 0 0), true⟩).put h2.next (some ⟨stc (lkS L) (pickS L).2.1 rv, true⟩)) h2.next (stc (lkS L) (pickS L).2.1 rv) := Ow.put _ (Nat.lt_succ_self _)
  have slI := ((sl0.fr0 f1).fr0 f2).fr0 f3
  have owc := (ow.fr f2 (fun g => g)).fr f3 (fun g => g)
  obtain ⟨hdv, _, hfe, htr, _, _⟩ := lk_trees g
  have hdl := lk_dev g
  obtain ⟨hre, hrl, hbl⟩ := recs_look g
  have slr := (rl.sl (by omega)).fr0 f3
  show RunC prog _ _ _ ((h2.push ⟨stc (0, 0, 0, 0, 0) 0 (.slice none 0 0), true⟩).put h2.next (some ⟨stc (lkS L) (pickS L).2.1 rv, true⟩)) _ _ _
  generalize (h2.push ⟨stc (0, 0, 0, 0, 0) 0 (.slice none 0 0), true⟩).put h2.next (some ⟨stc (lkS L) (pickS L).2.1 rv, true⟩) = h3 at *
  generalize h2.next = sb at *
  have slr0 := slr
  obtain ⟨rA, rc, rfl, _, _⟩ := slr.form
  refine RunC.seq (RunC.seq (RunC.region (RunO.all rfl (RunC.cond rfl (fun g => by cases g) (fun _ => RunC.skip ?_)))))
  refine RunC.seq (RunC.region (RunO.part 3 rfl ?_))
  refine RunO.load (v := .int .i64 (lkS L).2.2.2.2) rfl (os.ld rfl) rfl ?_
  refine RunO.callD (openRecords_ok slI hb hm) rfl rfl rfl ?_
  rintro _ h4 ⟨f4, ⟨_, lv_, bv, rfl, _, rb⟩ | ⟨g', _⟩⟩
  case inr => exact absurd hre g'
  have rb : Row h3.next h4 bv 1 (lkF L).2.1.length (is (lkF L).2.1) := rb
  replace slI := slI.fr0 f4
  replace owc := owc.fr f4 (fun g => g)
  replace os := os.fr f4 (fun g => g)
  replace slr0 := slr0.fr0 f4
  have slb := rb.sl (by omega)
  have slb0 := slb
  obtain ⟨bA, bc, rfl, _, _⟩ := slb.form
  obtain ⟨B, hB⟩ : ∃ B, B = L.length / 64 := ⟨_, rfl⟩
  have hbr := lk_bl L
  have hcn := cB.1
  rw [← hB] at hbl hdl hbr hcn
  obtain ⟨bl, hbll⟩ : ∃ bl, bl = (lkF L).2.1 := ⟨_, rfl⟩
  rw [← hbll] at hrl hbl hbr slb0
  have hcn' : (cntL L).length = B := hcn
  have slc : Sl h4 (.slice (some ⟨cb, 0, none⟩) B (exc B)) 1 B (is (cntL L)) := by have := sl_owI owc hcn' (Cp.exc (Nat.le_refl _)) (by omega); rwa [hcn'] at this
  rw [← hB, ← hbll]
  refine RunO.all rfl ?_
  refine RunC.seq (RunC.seq (RunC.region (RunO.part 6 rfl ?_)))
  refine RunO.loadG (v := .slice rA (lkF L).1.length rc) rfl rfl (os.ld rfl) rfl ?_
  refine RunO.part 2 rfl ?_
  rw [hrl, show ((bl.length : Int) != (bl.length : Int)) = false from bne_self_eq_false _]
  refine RunO.all rfl (RunC.cond rfl (fun g => by cases g) (fun _ => RunC.skip ?_))
  -- the marks
  refine RunC.seq (RunC.region (RunO.part 2 rfl ?_))
  refine RunO.make (m := B) rfl rfl rfl rfl rfl rfl (show 1 * B ≤ _ by omega) (by omega) rfl ?_
  rw [reps_bo]
  have oo := Ow.push h4 (bo (List.replicate B false))
  have f5 : Fr no h4 (h4.push ⟨bo (List.replicate B false), true⟩) := Fr.push _ _ _
  generalize h4.push ⟨bo (List.replicate B false), true⟩ = h5 at *
  obtain ⟨ob, hob⟩ : ∃ q, q = h4.next := ⟨_, rfl⟩
  rw [← hob] at oo ⊢
  refine RunO.all rfl ?_
  refine RunC.seq (RunC.seq (RunC.region (RunO.all rfl ?_)))
  refine RunC.block ?_
  refine RunC.loop (fun d E h' => ∃ (i : Nat) (o : List Bool), i + d = 2 ∧ Fr no h4 h' ∧ Ow h' ob (bo o) ∧ OnI B o (fun j => j < i) ∧ Le ((upd (upd (upd (upd (upd (upd E0 0 (.slice A L.length c)) 3 (.slice (some ⟨cb, 0, none⟩) B (exc B))) 5 (.pointer (some ⟨sb, 0, none⟩))) 8 (.slice bA bl.length bc)) 10 (.slice (some ⟨ob, 0, none⟩) B (exc B))) 11 (.int .i64 (i : Int)))) E) ?st1 (k := 2) ?ini1
  case ini1 => exact ⟨0, _, by omega, f5, oo, (OnI.none B).weak (fun j => ⟨fun g => g.elim, fun g => by omega⟩), Le.cons rfl (Le.cons rfl (Le.cons rfl (Le.cons rfl (Le.cons rfl (Le.cons rfl (Le.nil _))))))⟩
  rintro d E g1 ⟨i, o, hi, fg, oo, on, hE⟩
  refine RunC.le hE ?_
  clear hE
  refine RunC.seq (RunC.seq (RunC.region (RunO.part 2 rfl ?_)))
  by_cases hlt : (i : Int) < 2
  · rw [decide_eq_true hlt]
    refine RunO.part 5 rfl ?_
    rw [decide_eq_true (show (i : Int) < (B : Int) by omega)]
    refine RunO.all rfl (RunC.cond rfl (fun _ => RunC.skip ?_) (fun g => by cases g))
    refine RunC.seq (RunC.block ?_)
    refine RunC.region (RunO.part 2 rfl ?_)
    refine RunO.index (s := 1) (k := i) rfl rfl rfl rfl (show i < B by omega) rfl ?_
    refine RunO.store rfl rfl (store1_ow oo rfl rfl rfl (by rw [bo_len, on.len]; omega)) (RunO.nil ?_)
    rw [bo_set]
    refine RunC.region (RunO.all rfl ?_)
    exact ⟨d - 1, by omega, i + 1, _, by omega, fg.trans (Fr.put (m := (· = ob)) _ (.inl rfl)) (fun b e => .inr (by have e : b = ob := e; omega)), Ow.put _ oo.1, (on.set (show i < B by omega)).weak (fun j => by omega), Le.cons (inc64 (by omega)) (Le.cons rfl (Le.cons rfl (Le.cons rfl (Le.cons rfl (Le.cons rfl (Le.nil _))))))⟩
  rw [decide_eq_false hlt]
  refine RunO.all rfl (RunC.cond rfl (fun g => by cases g) (fun _ => RunC.exit ?_))
  obtain rfl : i = 2 := by omega
  -- the trees
  refine RunC.seq (RunC.seq (RunC.region (RunO.all rfl ?_)))
  refine RunC.block ?_
  replace on := on.weak (mkd_zero L)
  refine RunC.loop (fun d E h' => ∃ (m : Nat) (o : List Bool), m + d = bl.length + 1 ∧ Fr no h4 h' ∧ Ow h' ob (bo o) ∧ OnI B o (mkd L m) ∧ Le ((upd (upd (upd (upd (upd (upd E0 0 (.slice A L.length c)) 3 (.slice (some ⟨cb, 0, none⟩) B (exc B))) 5 (.pointer (some ⟨sb, 0, none⟩))) 8 (.slice bA bl.length bc)) 10 (.slice (some ⟨ob, 0, none⟩) B (exc B))) 12 (.int .i64 ((m : Int) - 1)))) E) ?st2 (k := bl.length + 1) ?ini2
  case ini2 => exact ⟨0, _, by omega, fg, oo, on, Le.cons rfl (Le.cons rfl (Le.cons rfl (Le.cons rfl (Le.cons rfl (Le.cons rfl (Le.nil _))))))⟩
  clear oo on fg f5
  rintro d_ E g2 ⟨m, o, hi, fg, oo, on, hE⟩
  refine RunC.le hE ?_
  clear hE
  refine RunC.seq (RunC.seq (RunC.region (RunO.part 4 rfl ?_)))
  by_cases hlt : (m : Int) - 1 < (bl.length : Int)
  case neg =>
    rw [decide_eq_false hlt]
    refine RunO.all rfl (RunC.cond rfl (fun g => by cases g) (fun _ => RunC.exit ?_))
    obtain rfl : m = bl.length + 1 := by omega
    have onr := on.weak (Q' := rch L) (fun j => by rw [hbll]; exact mkd_full L (by rw [hrl, hbll]) j)
    have hcnt : ∀ j, decide ((cntL L).getD j 0 > 0) = o.getD j false := on_cnt g (by rw [← hB]; exact onr)
    refine RunC.seq (RunC.seq (RunC.region (RunO.all rfl ?_)))
    refine RunC.block ?_
    refine RunC.loop (fun d E h' => ∃ i : Nat, i + d = B ∧ g2 = h' ∧ Le ((upd (upd (upd (upd E0 0 (.slice A L.length c)) 3 (.slice (some ⟨cb, 0, none⟩) B (exc B))) 10 (.slice (some ⟨ob, 0, none⟩) B (exc B))) 19 (.int .i64 (i : Int)))) E) ?st3 (k := B) ?ini3
    case ini3 => exact ⟨0, by omega, rfl, Le.cons rfl (Le.cons rfl (Le.cons rfl (Le.cons rfl (Le.nil _))))⟩
    rintro d E _ ⟨i, hi, rfl, hE⟩
    refine RunC.le hE ?_
    clear hE
    refine RunC.seq (RunC.seq (RunC.region (RunO.all rfl ?_)))
    refine RunC.cond rfl (fun hlt => RunC.skip ?go3) (fun hge => RunC.exit ?ex3)
    case ex3 =>
      refine RunC.seq (RunC.region (RunO.part 3 rfl ?_))
      rw [fw64 (x := (B : Int) * 64) (by omega) (by omega)]
      refine RunO.part 3 rfl ?_
      rw [show ((B : Int) * 64 == (L.length : Int)) = true from beq_iff_eq.2 (by omega)]
      refine RunO.part 1 rfl ?_
      refine RunO.callDG rfl wakes12_ok rfl rfl rfl ?_
      rintro _ h9 ⟨rfl, f9⟩
      exact RunO.all rfl (RunC.ret ⟨_, rfl, rfl⟩)
    have hlt := of_decide_eq_true hlt
    have hlt : i < B := by omega
    have hci := hcnt i
    refine RunC.seq (RunC.block ?_)
    refine RunC.seq (RunC.draw0 rfl (RunO.part 2 rfl ?_))
    refine RunO.at (s := 1) (k := i) rfl rfl (slc.fr0 fg) rfl rfl hlt (ig_at (by rw [hcn']; exact hlt)) rfl rfl rfl ?_
    refine RunO.part 3 rfl ?_
    refine RunO.index (s := 1) (k := i) rfl rfl rfl rfl hlt rfl ?_
    refine RunO.load (v := .bool (o.getD i false)) rfl (oo.ld (bo_at0 (by rw [on.len]; exact hlt))) rfl ?_
    rw [hci]
    generalize o.getD i false = x at *
    refine RunO.part 1 rfl ?_
    rw [beq_self_eq_true x]
    refine RunO.all rfl (RunC.cond rfl (fun g => by cases g) (fun _ => RunC.skip ?_))
    refine RunC.region (RunO.all rfl ?_)
    exact ⟨d - 1, by omega, i + 1, by omega, rfl, Le.cons (inc64 (by omega)) (Le.cons rfl (Le.cons rfl (Le.cons rfl (Le.nil _))))⟩
  rw [decide_eq_true hlt]
  refine RunO.all rfl (RunC.cond rfl (fun _ => RunC.skip ?_) (fun g => by cases g))
  have hmR : m < (lkR L).length := by rw [lkR_len, hrl]; omega
  refine RunC.seq (RunC.block ?_)
  refine RunC.seq (RunC.region (RunO.part 2 rfl ?_))
  refine RunO.load (v := .int .i64 (lkS L).2.2.1) rfl ((os.fr fg (fun g => g)).ld rfl) rfl (RunO.all rfl ?_)
  refine RunC.seqc (fun E' h' => ∃ o, Fr no h4 h' ∧ Ow h' ob (bo o) ∧ OnI B o (fun j => mkd L m j ∨ (0 < m ∧ (j : Int) = (lkF L).2.1.getD (m - 1) 0)) ∧ Le ((upd (upd (upd (upd (upd (upd (upd E0 0 (.slice A L.length c)) 3 (.slice (some ⟨cb, 0, none⟩) B (exc B))) 5 (.pointer (some ⟨sb, 0, none⟩))) 8 (.slice bA bl.length bc)) 10 (.slice (some ⟨ob, 0, none⟩) B (exc B))) 12 (.int .i64 ((m : Int) - 1))) 13 (.int .i64 ((lkR L).getD m (0, 0)).1))) E') ?rec ?tree
  case rec =>
    refine RunC.seq (RunC.region (RunO.part 2 rfl ?_))
    by_cases hm0 : (m : Int) - 1 ≥ 0
    · rw [decide_eq_true hm0]
      obtain ⟨n, rfl⟩ : ∃ n, m = n + 1 := ⟨m - 1, by omega⟩
      have hn : n < (lkF L).1.length := by omega
      have hnb : n < bl.length := by omega
      have hro : ((lkR L).getD (n + 1) (0, 0)).1 = (lkF L).1[n].ro := by
        have : (lkR L).getD (n + 1) (0, 0) = ((lkF L).1.map fun r => (r.ro, r.sz)).getD n (0, 0) := rfl
        rw [this, List.getD_eq_getElem?_getD, List.getElem?_map, List.getElem?_eq_getElem hn]; rfl
      rw [hro]
      have hfld := recCs_fld hn (j := 3) (by decide)
      have hfld : apart prog 3 (recCs (lkF L).1) (n * 8 + 3) = some (.int .i64 (lkF L).1[n].ro) := hfld
      generalize (lkF L).1[n].ro = ro at *
      rw [show ((n + 1 : Nat) : Int) - 1 = (n : Int) by omega]
      refine RunO.all rfl (RunC.cond rfl (fun _ => ?_) (fun g => by cases g))
      refine RunC.seq (RunC.region (RunO.part 1 rfl ?_))
      refine RunO.load (v := .slice rA (lkF L).1.length rc) rfl ((os.fr fg (fun g => g)).ld rfl) rfl ?_
      refine RunO.part 1 rfl ?_
      refine RunO.fldG (k := n) (off := 3) rfl (fun _ => rfl) (fun _ _ => rfl) rfl rfl (slr0.fr0 fg) rfl rfl hn (fun _ _ => rfl) hfld rfl rfl rfl rfl rfl ?_
      refine RunO.all rfl ?_
      have hpt := is_part hnb
      have hgd : (lkF L).2.1.getD (n + 1 - 1) 0 = bl[n] := by rw [← hbll, Nat.add_sub_cancel, List.getD_eq_getElem?_getD, List.getElem?_eq_getElem hnb]; rfl
      have hxr := hbr bl[n] (List.getElem_mem hnb)
      rw [hgd]
      generalize bl[n] = x at *
      obtain ⟨y, rfl⟩ := Int.eq_ofNat_of_zero_le (show 0 ≤ x by omega)
      have hyB : y < B := by omega
      have sb4 := slb0.fr0 fg
      refine RunC.seq (RunC.seq (RunC.region (RunO.part 2 rfl ?_)))
      refine RunO.at (s := 1) (k := n) rfl rfl sb4 rfl rfl hnb hpt rfl rfl rfl ?_
      refine RunO.part 1 rfl ?_
      rw [decide_eq_false (show ¬ ((y : Int) < 0) by omega)]
      refine RunO.part 3 rfl ?_
      refine RunO.atG (s := 1) (k := n) rfl (fun _ => rfl) rfl rfl sb4 rfl rfl hnb hpt rfl rfl rfl ?_
      refine RunO.part 3 rfl ?_
      rw [decide_eq_false (show ¬ ((y : Int) ≥ (B : Int)) by omega)]
      refine RunO.all rfl (RunC.cond rfl (fun g => by cases g) (fun _ => RunC.skip ?_))
      refine RunC.region (RunO.part 3 rfl ?_)
      refine RunO.at (s := 1) (k := n) rfl rfl sb4 rfl rfl hnb hpt rfl rfl rfl ?_
      refine RunO.index (s := 1) (k := y) rfl rfl rfl rfl hyB rfl ?_
      refine RunO.store rfl rfl (store1_ow oo rfl rfl rfl (by rw [bo_len, on.len]; omega)) (RunO.nil ?_)
      rw [bo_set]
      exact ⟨_, fg.trans (Fr.put (m := (· = ob)) _ (.inl rfl)) (fun b e => .inr (by have e : b = ob := e; omega)), Ow.put _ oo.1, (on.set hyB).weak (fun j => or_congr Iff.rfl ⟨fun g => ⟨by omega, by omega⟩, fun g => by omega⟩), Le.cons rfl (Le.cons rfl (Le.cons rfl (Le.cons rfl (Le.cons rfl (Le.cons rfl (Le.cons rfl (Le.nil _)))))))⟩
    · rw [decide_eq_false hm0]
      obtain rfl : m = 0 := by omega
      refine RunO.all rfl (RunC.cond rfl (fun g => by cases g) (fun _ => RunC.skip ?_))
      exact ⟨o, fg, oo, on.weak (fun j => ⟨.inl, fun g => g.resolve_right (fun g => absurd g.1 (by omega))⟩), Le.cons rfl (Le.cons rfl (Le.cons rfl (Le.cons rfl (Le.cons rfl (Le.cons rfl (Le.cons rfl (Le.nil _)))))))⟩
  rintro E' g3 ⟨o1, fg, oo, on, hE⟩
  refine RunC.le hE ?_
  clear hE
  have hpt : (lkR L).getD m (0, 0) ∈ lkR L := by rw [List.getD_eq_getElem?_getD, List.getElem?_eq_getElem hmR]; exact List.getElem_mem hmR
  have hstep := mkd_step hmR (by rw [hrl, hbll])
  have htk := htr _ hpt
  generalize ((lkR L).getD m (0, 0)).1 = root at *
  have hte : treeE L root = 0 := by unfold treeE; rw [if_pos hdv, if_pos htk]
  -- its nodes, its map
  refine RunC.seq (RunC.region (RunO.part 2 rfl ?_))
  refine RunO.callD (treeNodes_ok (slI.fr0 fg) hb hm) rfl rfl rfl ?_
  rintro _ g4 ⟨f4_, ⟨_, nv, rfl, rn⟩ | ⟨g', _⟩⟩
  case inr => exact absurd hte g'
  refine RunO.all rfl ?_
  refine RunC.seq (RunC.region (RunO.part 2 rfl ?_))
  refine RunO.callD (treeMap_ok (slI.fr0 (fg.same f4_)) hb hm) rfl rfl rfl ?_
  rintro _ g5 ⟨f5, ⟨_, mb, hmb, rfl, om⟩ | ⟨g', _⟩⟩
  case inr => exact absurd hte g'
  refine RunO.all rfl ?_
  refine RunC.seq (RunC.seq (RunC.region (RunO.all rfl (RunC.cond rfl (fun g => by cases g) (fun _ => RunC.skip ?_)))))
  have hnl := treeN_len L root
  have hml := treeM_len L root
  have hobn := oo.1
  have slm : Sl g5 (.slice (some ⟨mb, 0, none⟩) 512 (exc 512)) 1 512 (is (treeM L root)) := by have := sl_owI om hml (Cp.exc (Nat.le_refl _)) (by omega); rwa [hml] at this
  replace rn := rn.fr f5 (fun _ _ _ g => g)
  have F5 := (fg.same f4_).same f5
  have oo5 := (oo.fr f4_ (fun g => g)).fr f5 (fun g => g)
  have hnn := (f4_.same f5).next
  refine RunC.seq (RunC.region (RunO.part 2 rfl ?_))
  refine RunO.appendOs (s := 1) rfl rfl rfl rfl rfl rfl rfl rfl (Nat.le_refl 1) rn hnn slm (allCells_map (f := Value.int .i64) (fun _ => rfl) _) (by show 2 * (_ + _) * 8 ≤ _; omega) (by omega) ?_
  intro lv g6 rl6 f6
  have hat := fun b g => (rn.gr.at (b := b) g).1
  have oo6 := oo5.fr f6 (fun g => by have := hat ob g; omega)
  have F6 : Fr no h4 g6 := F5.trans f6 (fun b g => .inr (by have := hat b g; have := fg.next; omega))
  have hlsl : (lsT L root).length = (treeN L root).length + 512 := by unfold lsT; rw [List.length_append, hml]
  have sll : Sl g6 lv 1 (lsT L root).length (is (lsT L root)) := by
    have := rl6.sl (by omega)
    rw [hlsl, show is (lsT L root) = is (treeN L root) ++ is (treeM L root) from List.map_append]
    exact this
  have hnob : ∀ b o c, lv = .slice (some ⟨b, o, none⟩) (lsT L root).length c → ¬ (b = ob) := fun b o c e => by
    rcases rl6.2 with ⟨e', _⟩ | ⟨b', h1', e', h3'⟩
    · rw [e'] at e; injection e with e1; cases e1
    · rw [e'] at e; injection e with e1; injection e1 with e1; injection e1 with e1; omega
  have hin := lsT_in hdv htk
  have hrg := lsT_rng hdv htk
  rw [← hB] at hrg
  clear rn slm om rl6 f6 f4_ f5 oo5 hat F5
  generalize lsT L root = l at *
  have sll0 := sll
  obtain ⟨lA, lc, rfl, _, _⟩ := sll.form
  refine RunO.all rfl ?_
  refine RunC.seq (RunC.region (RunO.all rfl ?_))
  refine RunC.block ?_
  refine RunC.loop (fun d E h' => ∃ (k : Nat) (o : List Bool), k + d = l.length ∧ Fr (· = ob) g6 h' ∧ Ow h' ob (bo o) ∧ OnI B o (fun j => (mkd L m j ∨ (0 < m ∧ (j : Int) = (lkF L).2.1.getD (m - 1) 0)) ∨ ∃ v ∈ l.take k, v > 0 ∧ v = (j : Int)) ∧ Le ((upd (upd (upd (upd (upd (upd (upd (upd E0 0 (.slice A L.length c)) 3 (.slice (some ⟨cb, 0, none⟩) B (exc B))) 5 (.pointer (some ⟨sb, 0, none⟩))) 8 (.slice bA bl.length bc)) 10 (.slice (some ⟨ob, 0, none⟩) B (exc B))) 12 (.int .i64 ((m : Int) - 1))) 14 (.slice lA l.length lc)) 18 (.int .i64 (k : Int)))) E) ?st4 (k := l.length) ?ini4
  case ini4 => exact ⟨0, o1, by omega, Fr.refl _ _, oo6, on.weak (fun j => ⟨.inl, fun g => g.resolve_right (fun ⟨v, hv, _⟩ => by cases hv)⟩), Le.cons rfl (Le.cons rfl (Le.cons rfl (Le.cons rfl (Le.cons rfl (Le.cons rfl (Le.cons rfl (Le.cons rfl (Le.nil _))))))))⟩
  clear oo6 on
  rintro d E g7 ⟨k, o2, hk, f7, oo7, on7, hE⟩
  refine RunC.le hE ?_
  clear hE
  have F7 : Fr no h4 g7 := F6.trans f7 (fun b e => .inr (by have e : b = ob := e; omega))
  refine RunC.seq (RunC.seq (RunC.region (RunO.all rfl ?_)))
  refine RunC.cond rfl (fun hlt => RunC.skip ?go4) (fun hge => RunC.exit ?ex4)
  case ex4 =>
    have hge := of_decide_eq_false hge
    obtain rfl : k = l.length := by omega
    rw [List.take_length] at on7
    refine RunC.region (RunO.part 2 rfl ?_)
    rw [fw64 (x := (m : Int) - 1 + 1) (by omega) (by omega), show (m : Int) - 1 + 1 = ((m + 1 : Nat) : Int) - 1 by omega]
    refine RunO.all rfl ?_
    exact ⟨d_ - 1, by omega, m + 1, o2, by omega, F7, oo7, on7.weak (fun j => by
      have := hstep j
      rw [hin j] at this
      exact this), Le.cons rfl (Le.cons rfl (Le.cons rfl (Le.cons rfl (Le.cons rfl (Le.cons rfl (Le.nil _))))))⟩
  have hlt := of_decide_eq_true hlt
  have hlt : k < l.length := by omega
  have sl7 := sll0.frm (M := (· = ob)) hnob f7
  have hp7 := is_part hlt
  have hx7 := hrg l[k] (List.getElem_mem hlt)
  have hs7 := fun j => lsT_step hlt (Q := fun j => mkd L m j ∨ (0 < m ∧ (j : Int) = (lkF L).2.1.getD (m - 1) 0)) j
  generalize l[k] = x at *
  obtain ⟨y, rfl⟩ := Int.eq_ofNat_of_zero_le hx7.1
  have hyB : y < B := by omega
  refine RunC.seq (RunC.block ?_)
  refine RunC.seq (RunC.seq (RunC.region (RunO.part 2 rfl ?_)))
  refine RunO.at (s := 1) (k := k) rfl rfl sl7 rfl rfl hlt hp7 rfl rfl rfl ?_
  refine RunO.part 1 rfl ?_
  rw [decide_eq_false (show ¬ ((y : Int) < 0) by omega)]
  refine RunO.part 3 rfl ?_
  refine RunO.atG (s := 1) (k := k) rfl (fun _ => rfl) rfl rfl sl7 rfl rfl hlt hp7 rfl rfl rfl ?_
  refine RunO.part 3 rfl ?_
  rw [decide_eq_false (show ¬ ((y : Int) ≥ (B : Int)) by omega)]
  refine RunO.all rfl (RunC.cond rfl (fun g => by cases g) (fun _ => RunC.skip ?_))
  refine RunC.seq (RunC.region (RunO.part 2 rfl ?_))
  refine RunO.at (s := 1) (k := k) rfl rfl sl7 rfl rfl hlt hp7 rfl rfl rfl ?_
  refine RunO.all rfl ?_
  refine RunC.cond rfl (fun hgt => ?_) (fun hng => RunC.skip ?_)
  · have hgt := of_decide_eq_true hgt
    refine RunC.region (RunO.part 3 rfl ?_)
    refine RunO.at (s := 1) (k := k) rfl rfl sl7 rfl rfl hlt hp7 rfl rfl rfl ?_
    refine RunO.index (s := 1) (k := y) rfl rfl rfl rfl hyB rfl ?_
    refine RunO.store rfl rfl (store1_ow oo7 rfl rfl rfl (by rw [bo_len, on7.len]; omega)) (RunO.nil ?_)
    rw [bo_set]
    refine RunC.region (RunO.all rfl ?_)
    exact ⟨d - 1, by omega, k + 1, _, by omega, f7.same (Fr.put _ (.inl rfl)), Ow.put _ oo7.1, (on7.set hyB).weak (fun j => by
      rw [← hs7 j, Int.toNat_natCast]
      exact or_congr Iff.rfl ⟨fun g => ⟨hgt, g⟩, fun g => g.2⟩), Le.cons (inc64 (by omega)) (Le.cons rfl (Le.cons rfl (Le.cons rfl (Le.cons rfl (Le.cons rfl (Le.cons rfl (Le.cons rfl (Le.nil _))))))))⟩
  · have hng := of_decide_eq_false hng
    refine RunC.region (RunO.all rfl ?_)
    exact ⟨d - 1, by omega, k + 1, o2, by omega, f7, oo7, on7.weak (fun j => by
      rw [← hs7 j]
      exact ⟨.inl, fun g => g.resolve_right (fun g => hng g.1)⟩), Le.cons (inc64 (by omega)) (Le.cons rfl (Le.cons rfl (Le.cons rfl (Le.cons rfl (Le.cons rfl (Le.cons rfl (Le.cons rfl (Le.nil _))))))))⟩
end Go.Proofs.Ytbinkbdfoalbcaa
end
