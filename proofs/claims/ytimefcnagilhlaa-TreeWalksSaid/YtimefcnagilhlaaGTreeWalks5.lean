/- TreeWalks: a calculus over an abstract machine that stands beside the model, and contracts of functions by it (part 5).
Conditions: what each theorem says of its arguments. -/
import Derived.Test.YtimefcnagilhlaaGTreeWalks4
section
set_option linter.unusedVariables false
set_option maxRecDepth 100000
open Go Go.Am Go.RowKit
namespace Go.Proofs.Ytimefcnagilhlaa
open Go.Proofs.Try
/-- What a tree that is one says of its map. -/
theorem tree_spec {L : List Int} {root : Int} (hr : root ≠ 0) (h : treeOk L root = true) : TSpec L (L.length / 64) 2 root 0 (List.replicate 512 0, [], false) (treeM L root, treeN L root, false) := by
  unfold treeOk at h
  rw [show (root == 0) = false from beq_eq_false_iff_ne.2 hr, Bool.false_or, Bool.and_eq_true, Bool.not_eq_true', Bool.not_eq_true'] at h
  have hm : treeM L root = (treeW L root).1 := by unfold treeM; rw [show (root == 0) = false from beq_eq_false_iff_ne.2 hr]; rfl
  have hn : treeN L root = (treeW L root).2.1 := by unfold treeN; rw [show (root == 0) = false from beq_eq_false_iff_ne.2 hr]; rfl
  have := tgo_spec L (L.length / 64) 2 root 0 (List.replicate 512 0, [], false) (by decide) List.length_replicate rfl (fun s _ _ => by
    rw [List.getD_eq_getElem?_getD, List.getElem?_replicate]; split <;> rfl) h.1
  change TSpec L (L.length / 64) 2 root 0 (List.replicate 512 0, [], false) (treeW L root) at this
  rw [hm, hn]
  generalize treeW L root = w at *
  obtain ⟨a, b, c⟩ := w
  have hc : c = false := h.1
  subst hc
  exact this
theorem tree_at {L : List Int} {root : Int} (hr : root ≠ 0) (h : treeOk L root = true) {s : Nat} (hs : s < 512) : (treeM L root).getD s 0 = look L (L.length / 64) 3 root s := by
  have := (tree_spec hr h).m s hs
  rw [if_pos ⟨Nat.zero_le _, by simpa using hs⟩, Nat.sub_zero] at this
  exact this
theorem sl64 {h : Heap} {v : Value} {l : List Int} (hl : l.length = 64) (sl : Sl h v 1 64 (us l)) : Sl h v 1 l.length (us l) := by rw [hl]; exact sl
theorem nodParseS_ok {h : Heap} {v : Value} {l : List Int} (sl : Sl h v 1 l.length (us l)) (hb : Byt l) : RunF prog 27 [v] h fun r h' => r = .tuple #[.agg ⟨nc (nodV l).1 (nodV l).2⟩, .int .i64 (nCode l)] ∧ Fr no h h' := by
  obtain ⟨A, c, rfl, hc, hA⟩ := sl.form
  rw [← nodV_cells]
  exact nodParse_ok (fun hl => by obtain ⟨b, o, rfl, rd⟩ := hA (by omega); exact ⟨_, rfl, rd⟩) hb hc
theorem is_pos {l : List Int} (hl : l ≠ []) : 0 < l.length := List.length_pos_iff.2 hl
set_option maxHeartbeats 16000000 in
theorem treeWalks_true : ∀ h xs avs, ArgsK [.slice (.int .u8), .int .i64] h xs avs → RunF prog 6 avs h fun v _ => v = .bool true := by
  intro h xs avs ha
  obtain ⟨L, _, iv, _, rfl, sl, hLw, ha⟩ := argInts ha
  obtain ⟨root, _, _, rfl, _, ha⟩ := argInt ha
  obtain rfl := argNil ha
  have hb : Byt L := fun x hx => wf_u8 (hLw x hx)
  have sl : Sl h iv 1 L.length (us L) := sl
  refine RunF.walk func6 rfl rfl ?_
  refine RunC.seq (RunC.region (RunO.all rfl ?_))
  refine RunC.seq (RunC.seq (RunC.region (RunO.part 1 rfl ?_)))
  refine RunO.callD (heavy_ok sl) rfl rfl rfl ?_
  rintro _ _ ⟨rfl, rfl⟩
  refine RunO.all rfl ?_
  cases hh : decide ((L.length : Int) > 19200) with
  | true =>
    refine RunC.cond rfl (fun _ => ?_) (fun g => by cases g)
    exact RunC.seq (RunC.region (RunO.all rfl (RunC.ret ⟨_, rfl, rfl⟩)))
  | false =>
  have hLl : L.length ≤ 19200 := by have := of_decide_eq_false hh; omega
  refine RunC.cond rfl (fun g => by cases g) (fun _ => RunC.skip ?_)
  refine RunC.seq (RunC.region (RunO.part 2 rfl ?_))
  refine RunO.callD (treeMap_ok (root := root) sl hb (by omega)) rfl rfl rfl ?_
  rintro _ h2 ⟨f2, hv2⟩
  have sl2 := sl.fr0 f2
  by_cases he : treeE L root = 0
  case neg =>
    rcases hv2 with ⟨h0, _⟩ | ⟨_, rfl⟩
    · exact absurd h0 he
    refine RunO.all rfl ?_
    refine RunC.seq (RunC.region (RunO.part 2 rfl ?_))
    refine RunO.callD (treeNodes_ok (root := root) sl2 hb (by omega)) rfl rfl rfl ?_
    rintro _ h3 ⟨f3, ⟨h0, _⟩ | ⟨_, rfl⟩⟩
    · exact absurd h0 he
    generalize treeE L root = e at *
    refine RunO.all rfl ?_
    refine RunC.seq (RunC.seq (RunC.region (RunO.part 3 rfl ?_)))
    rw [show (e != 0) = true from bne_iff_ne.2 he]
    refine RunO.all rfl ?_
    refine RunC.cond rfl (fun _ => ?_) (fun g => by cases g)
    refine RunC.seq (RunC.region (RunO.part 4 rfl ?_))
    rw [show (e == e) = true from beq_self_eq_true e]
    refine RunO.part 8 rfl ?_
    refine RunO.callDG rfl wakes10_ok rfl rfl rfl ?_
    rintro _ h9 ⟨rfl, f9⟩
    exact RunO.all rfl (RunC.ret ⟨_, rfl, rfl⟩)
  rcases hv2 with ⟨_, mb, hmb, rfl, om⟩ | ⟨h0, _⟩
  case inr => exact absurd he h0
  refine RunO.all rfl ?_
  refine RunC.seq (RunC.region (RunO.part 2 rfl ?_))
  refine RunO.callD (treeNodes_ok (root := root) sl2 hb (by omega)) rfl rfl rfl ?_
  rintro _ h3 ⟨f3, ⟨_, nv, rfl, row⟩ | ⟨h0, _⟩⟩
  case inr => exact absurd he h0
  have sl3 := sl2.fr0 f3
  replace om := om.fr f3 (fun g => g)
  obtain ⟨hok, hdev⟩ := treeE_ok he
  have hml := treeM_len L root
  have hnl := treeN_len L root
  refine RunO.all rfl ?_
  refine RunC.seq (RunC.seq (RunC.region (RunO.all rfl (RunC.cond rfl (fun g => by cases g) (fun _ => RunC.skip ?_)))))
  have slm := sl_owI om hml (Cp.exc (Nat.le_refl 512)) (by decide)
  have sln := row.sl (by omega)
  have hlen : ∀ {E : Env} {h : Heap}, alen prog 23 nv = some (.int .i64 ((treeN L root).length : Int)) := by
    intro _ _
    obtain ⟨A, c, rfl, _, _⟩ := sln.form
    rfl
  by_cases hr : root = 0
  · -- no tree
    subst hr
    have z2 : treeM L 0 = List.replicate 512 0 := rfl
    have z3 : treeN L 0 = [] := rfl
    rw [z2] at om
    rw [z3] at row sln
    obtain ⟨A, c, rfl, hc, _⟩ := sln.form
    refine RunC.seq (RunC.seq (RunC.region (RunO.all rfl (RunC.cond rfl (fun _ => ?_) (fun g => by cases g)))))
    refine RunC.seq (RunC.region (RunO.part 9 rfl ?_))
    refine RunO.makeG (m := 512) rfl rfl rfl rfl rfl rfl rfl (Nat.le_of_ble_eq_true rfl) (by decide) rfl ?_
    rw [reps_is]
    have ok := Ow.push h3 (is (List.replicate 512 0))
    have f6 : Fr no h3 (h3.push ⟨is (List.replicate 512 0), true⟩) := Fr.push _ _ _
    replace om := om.fr f6 (fun g => g)
    generalize h3.push ⟨is (List.replicate 512 0), true⟩ = h6 at *
    refine RunO.callDG rfl (keepInts_ok (sl_owI om List.length_replicate (Cp.exc (Nat.le_refl 512)) (by decide)) (sl_owI ok List.length_replicate (Cp.exc (Nat.le_refl 512)) (by decide)) (by decide)) rfl rfl rfl ?_
    rintro _ _ ⟨rfl, rfl⟩
    rw [show ((List.replicate 512 (0 : Int)) == List.replicate 512 0) = true from beq_self_eq_true _]
    refine RunO.part 2 rfl ?_
    refine RunO.callDG rfl wakes10_ok rfl rfl rfl ?_
    rintro _ h9 ⟨rfl, f9⟩
    exact RunO.all rfl (RunC.ret ⟨_, rfl, rfl⟩)
  have spec := tree_spec hr hok
  have hat := fun s hs => tree_at hr hok (s := s) hs
  have hnd : (treeN L root).Nodup := spec.nd List.nodup_nil
  obtain ⟨t, hnt⟩ := spec.ns
  have hnt : treeN L root = root :: t := hnt
  have hpath : ∀ s, s < 512 → pathOk L (L.length / 64) 3 root s := fun s hs => spec.path s hs
  have hB : L.length / 64 * 64 ≤ L.length := Nat.div_mul_le_self _ _
  generalize treeN L root = ns at *
  generalize treeM L root = m at *
  clear spec
  have hn0 : 0 < ns.length := by have := congrArg List.length hnt; simp at this; omega
  obtain ⟨nA, nc_, hnv, hncp, _⟩ := sln.form
  refine RunC.seq (RunC.seq (RunC.region (RunO.part 3 rfl ?_)))
  rw [show (root == 0) = false from beq_eq_false_iff_ne.2 hr]
  subst hnv
  refine RunO.part 3 rfl ?_
  rw [show ((ns.length : Int) == 0) = false from beq_eq_false_iff_ne.2 (by omega)]
  refine RunO.all rfl ?_
  refine RunC.cond rfl (fun g => by cases g) (fun _ => RunC.skip ?_)
  refine RunC.seq (RunC.region (RunO.part 1 rfl ?_))
  refine RunO.callD (refBlocks_ok sl3 (by omega)) rfl rfl rfl ?_
  rintro _ _ ⟨rfl, rfl⟩
  obtain ⟨B, hBe⟩ : ∃ B, B = L.length / 64 := ⟨_, rfl⟩
  rw [← hBe] at hat hpath hB ⊢
  refine RunO.all rfl ?_
  refine RunC.seq (RunC.seq (RunC.region (RunO.part 1 rfl ?_)))
  have hn0' : ns[0]'hn0 = root := by
    have := congrArg (fun l => l[0]?) hnt
    simp only [List.getElem?_eq_getElem hn0] at this
    exact Option.some.inj this
  refine RunO.at (s := 1) (k := 0) (u := .int .i64 root) rfl rfl sln rfl rfl hn0 (by rw [is_part hn0, hn0']) rfl rfl rfl ?_
  refine RunO.part 1 rfl ?_
  refine RunO.bin (v := .bool false) rfl rfl (by show some (Value.bool (root != root)) = _; simp) rfl (RunO.all rfl ?_)
  refine RunC.cond rfl (fun g => by cases g) (fun _ => RunC.skip ?_)
  -- the sectors
  refine RunC.seqc (fun E' h' => Fr no h3 h' ∧ Le (upd E0 7 (.slice nA ns.length nc_)) E') ?_ ?_
  · refine RunC.seq (RunC.region (RunO.all rfl ?_))
    refine RunC.block ?_
    let I : Nat → Env → Heap → Prop := fun d E h' => ∃ s : Nat, s + d = 512 ∧ Fr no h3 h' ∧ Le (upd (upd (upd (upd (upd (upd E0 0 iv) 1 (.int .i64 root)) 5 (.slice (some ⟨mb, 0, none⟩) 512 (exc 512))) 7 (.slice nA ns.length nc_)) 9 (.int .i64 (B : Int))) 11 (.int .i64 (s : Int))) E
    refine RunC.loop I ?_ (k := 512) ?_
    · rintro d E h4 ⟨s, hs, f4, hE⟩
      refine RunC.le hE ?_
      clear hE
      refine RunC.seq (RunC.seq (RunC.region (RunO.all rfl ?_)))
      refine RunC.cond rfl (fun hlt => ?_) (fun hge => ?_)
      · have hlt := of_decide_eq_true hlt
        have hs5 : s < 512 := by omega
        have hms := hat s hs5
        refine RunC.skip ?_
        refine RunC.seq (RunC.block ?_)
        refine RunC.seq (RunC.region (RunO.all rfl ?_))
        refine RunC.seq (RunC.seq (RunC.region (RunO.all rfl ?_)))
        refine RunC.block ?_
        let J : Nat → Env → Heap → Prop := fun k E h' => ∃ (at_ : Int) (rest : Nat), k ≤ 3 ∧ look L B k at_ rest = m.getD s 0 ∧ pathOk L B k at_ rest ∧ rest < 8 ^ k ∧ Fr no h3 h' ∧ Le (upd (upd (upd (upd (upd (upd (upd (upd (upd E0 0 iv) 1 (.int .i64 root)) 5 (.slice (some ⟨mb, 0, none⟩) 512 (exc 512))) 7 (.slice nA ns.length nc_)) 9 (.int .i64 (B : Int))) 11 (.int .i64 (s : Int))) 12 (.int .i64 at_)) 13 (.int .i64 (rest : Int))) 14 (.int .i64 ((k : Int) - 1))) E
        refine RunC.loop J ?_ (k := 3) ?_
        · rintro k E h5 ⟨at_, rest, hk3, hlook, hpo, hrest, f5, hE⟩
          refine RunC.le hE ?_
          clear hE
          -- what stands behind the walk down
          have fin : at_ = m.getD s 0 → ∀ E, Le (upd (upd (upd (upd (upd (upd (upd E0 0 iv) 1 (.int .i64 root)) 5 (.slice (some ⟨mb, 0, none⟩) 512 (exc 512))) 7 (.slice nA ns.length nc_)) 9 (.int .i64 (B : Int))) 11 (.int .i64 (s : Int))) 12 (.int .i64 at_)) E → True := fun _ _ _ => trivial
          by_cases hstop : k = 0 ∨ at_ = 0
          · have hval : at_ = m.getD s 0 := by
              rw [← hlook]
              rcases hstop with e | e
              · subst e; rfl
              · subst e; rw [look_zero]
            have hsm : s < m.length := by omega
            have hpm : apart prog 3 (is m) (s * 1) = some (.int .i64 at_) := by
              rw [is_part hsm, hval, List.getD_eq_getElem?_getD, List.getElem?_eq_getElem hsm]; rfl
            refine RunC.seq ?_
            refine RunC.seqE (upd (upd (upd (upd (upd (upd (upd (upd E0 0 iv) 1 (.int .i64 root)) 5 (.slice (some ⟨mb, 0, none⟩) 512 (exc 512))) 7 (.slice nA ns.length nc_)) 9 (.int .i64 (B : Int))) 11 (.int .i64 (s : Int))) 12 (.int .i64 at_)) 104 (.bool false)) ?_ ?_
            · refine RunC.region (RunO.part 3 rfl ?_)
              by_cases hk0 : k = 0
              · rw [show decide ((k : Int) - 1 ≥ 0) = false from decide_eq_false (by omega)]
                exact RunO.all rfl ⟨rfl, Le.cons rfl (Le.cons rfl (Le.cons rfl (Le.cons rfl (Le.cons rfl (Le.cons rfl (Le.cons rfl (Le.cons rfl (Le.nil _))))))))⟩
              · rw [show decide ((k : Int) - 1 ≥ 0) = true from decide_eq_true (by omega)]
                obtain rfl : at_ = 0 := hstop.resolve_left hk0
                exact RunO.all rfl ⟨rfl, Le.cons rfl (Le.cons rfl (Le.cons rfl (Le.cons rfl (Le.cons rfl (Le.cons rfl (Le.cons rfl (Le.cons rfl (Le.nil _))))))))⟩
            refine RunC.cond rfl (fun g => by cases g) (fun _ => RunC.exit ?_)
            have slm5 : Sl h5 (.slice (some ⟨mb, 0, none⟩) 512 (exc 512)) 1 512 (is m) := by have := slm.fr0 f5; rwa [hml] at this
            refine RunC.seq (RunC.region (RunO.part 2 rfl ?_))
            refine RunO.at (s := 1) (k := s) rfl rfl slm5 rfl rfl hs5 hpm rfl rfl rfl ?_
            refine RunO.part 1 rfl ?_
            refine RunO.bin (v := .bool false) rfl rfl (by show some (Value.bool (at_ != at_)) = _; simp) rfl (RunO.all rfl ?_)
            refine RunC.cond rfl (fun g => by cases g) (fun _ => RunC.skip ?_)
            refine RunC.region (RunO.all rfl ?_)
            exact ⟨d - 1, by omega, s + 1, by omega, f5, Le.cons (inc64 (by omega)) (Le.cons rfl (Le.cons rfl (Le.cons rfl (Le.cons rfl (Le.cons rfl (Le.nil _))))))⟩
          · rw [not_or] at hstop
            obtain ⟨hk0, ha0⟩ := hstop
            obtain ⟨j, rfl⟩ : ∃ j, k = j + 1 := ⟨k - 1, by omega⟩
            obtain ⟨his, hpo2⟩ := hpo ha0
            have hab := atIs_ne his
            obtain ⟨a, rfl⟩ := Int.eq_ofNat_of_zero_le (show 0 ≤ at_ by omega)
            have hal : (a + 1) * 64 ≤ L.length := Nat.le_trans (Nat.mul_le_mul_right 64 (by omega)) hB
            have hlook2 : look L B j ((atV L B (a : Int)).2.getD (rest / 8 ^ j) 0) (rest % 8 ^ j) = m.getD s 0 := by rw [← hlook]; show _ = if (a : Int) = 0 then 0 else _; rw [if_neg ha0]
            have hin : atIn B (a : Int) = true := atIn_iff.2 ⟨by omega, by omega⟩
            have hvv : atV L B (a : Int) = nodV (blkI L a) := by unfold atV; rw [hin, if_pos rfl, Int.toNat_natCast]
            have hcd : nCode (blkI L a) = 0 ∧ (nodV (blkI L a)).1 = (j : Int) := by
              unfold atIs at his
              rw [hin, hvv, Int.toNat_natCast, Bool.true_and, Bool.and_eq_true, beq_iff_eq, beq_iff_eq] at his
              exact his
            rw [hvv] at hlook2 hpo2
            have hbl := blkI_len hal
            have hbb := byt_blk hb a
            have hvl := nodV_len (blkI L a)
            have hpos : 0 < 8 ^ j := Nat.pow_pos (by decide)
            have hq8 : rest / 8 ^ j < 8 := by rw [Nat.div_lt_iff_lt_mul hpos]; rw [Nat.pow_succ, Nat.mul_comm] at hrest; exact hrest
            have hlow : rest % 8 ^ j < 8 ^ j := Nat.mod_lt _ hpos
            refine RunC.seq (RunC.seq (RunC.region (RunO.part 3 rfl ?_)))
            rw [show decide (((j + 1 : Nat) : Int) - 1 ≥ 0) = true from decide_eq_true (by omega)]
            refine RunO.part 2 rfl ?_
            rw [show ((a : Int) != 0) = true from bne_iff_ne.2 ha0]
            refine RunO.all rfl ?_
            refine RunC.cond rfl (fun _ => RunC.skip ?_) (fun g => by cases g)
            refine RunC.seq (RunC.block ?_)
            refine RunC.seq (RunC.seq (RunC.region (RunO.part 3 rfl ?_)))
            rw [show decide ((a : Int) < 2) = false from decide_eq_false (by omega)]
            refine RunO.part 3 rfl ?_
            rw [show decide ((a : Int) ≥ (B : Int)) = false from decide_eq_false (by omega)]
            refine RunO.all rfl ?_
            refine RunC.cond rfl (fun g => by cases g) (fun _ => RunC.skip ?_)
            refine RunC.seq (RunC.region (RunO.part 2 rfl ?_))
            refine RunO.callD (refBlock_ok (i := a) (sl3.fr0 f5) hal (by omega)) rfl rfl rfl ?_
            rintro bv _ ⟨slb, rfl⟩
            refine RunO.callD (nodParseS_ok (sl64 hbl slb) hbb) rfl rfl rfl ?_
            rintro _ h6 ⟨rfl, f6⟩
            rw [hcd.1]
            have hl1 := hcd.2
            generalize nodV (blkI L a) = nd at *
            obtain ⟨nl, ps⟩ := nd
            simp only at hvl hl1 hlook2 hpo2
            subst hl1
            refine RunO.part 4 (h1 := h6.push ⟨nc 0 nZero, true⟩) rfl ?_
            have hcl : (cellsOf (.agg ⟨nc (j : Int) ps⟩)).length = 9 := by show (nc (j : Int) ps).length = 9; simp [nc, is_len, hvl]
            have hac : allCells (cellsOf (.agg ⟨nc (j : Int) ps⟩)) = true := by show allCells (.int .i64 (j : Int) :: is ps) = true; exact allCells_map (f := Value.int .i64) (fun _ => rfl) ps
            refine RunO.store rfl rfl (store_ow (s := 9) (Ow.push h6 (nc 0 nZero)) rfl hcl hac (Nat.le_refl 9)) (RunO.all rfl ?_)
            have e9 : (nc 0 nZero).take 0 ++ cellsOf (.agg ⟨nc (j : Int) ps⟩) ++ (nc 0 nZero).drop (0 + 9) = nc (j : Int) ps := by
              show [] ++ nc (j : Int) ps ++ [] = _; simp
            rw [e9]
            have on : Ow ((h6.push ⟨nc 0 nZero, true⟩).put h6.next (some ⟨nc (j : Int) ps, true⟩)) h6.next (nc (j : Int) ps) := Ow.put _ (Nat.lt_succ_self _)
            have f7 : Fr no h6 ((h6.push ⟨nc 0 nZero, true⟩).put h6.next (some ⟨nc (j : Int) ps, true⟩)) := (Fr.push _ _ _).trans (Fr.put (m := (· = h6.next)) _ (.inl rfl)) (fun j hj => .inr (by omega))
            have F7 := (f5.same f6).same f7
            generalize (h6.push ⟨nc 0 nZero, true⟩).put h6.next (some ⟨nc (j : Int) ps, true⟩) = h7 at *
            generalize h6.next = q at *
            refine RunC.seq (RunC.region (RunO.part 2 rfl ?_))
            rw [show ((j + 1 : Nat) : Int) - 1 = (j : Int) by omega]
            refine RunO.callD (nodPlace_ok (s := rest) (k := j) (by omega) hrest) rfl rfl rfl ?_
            rintro _ _ ⟨rfl, rfl⟩
            generalize rest / 8 ^ j = i at *
            generalize rest % 8 ^ j = low at *
            refine RunO.all rfl ?_
            refine RunC.seq (RunC.seq (RunC.region (RunO.part 8 rfl ?_)))
            refine RunO.loadG (v := .int .i64 (j : Int)) rfl rfl (on.ld rfl) rfl ?_
            refine RunO.part 1 rfl ?_
            refine RunO.oneG (v := .bool false) (h1 := h7) rfl (by show some (Value.bool ((j : Int) != (j : Int)), h7) = _; rw [show ((j : Int) != (j : Int)) = false by simp]) rfl ?_
            refine RunO.part 4 rfl ?_
            rw [show decide ((i : Int) < 0) = false from decide_eq_false (by omega)]
            refine RunO.part 4 rfl ?_
            rw [show decide ((i : Int) ≥ 8) = false from decide_eq_false (by omega)]
            refine RunO.all rfl ?_
            refine RunC.cond rfl (fun g => by cases g) (fun _ => RunC.skip ?_)
            refine RunC.region (RunO.part 2 rfl ?_)
            refine RunO.indexA (s := 1) rfl rfl rfl rfl rfl hq8 rfl ?_
            have hip : i < ps.length := by omega
            refine RunO.load (v := .int .i64 ps[i]) rfl (on.ld (by show nth (nc (j : Int) ps) (1 + i * 1) = _; rw [Nat.mul_one, Nat.add_comm]; exact is_nth hip)) rfl (RunO.all rfl ?_)
            have hgd : ps.getD i 0 = ps[i] := by rw [List.getD_eq_getElem?_getD, List.getElem?_eq_getElem hip]; rfl
            rw [hgd] at hlook2 hpo2
            refine RunC.region (RunO.all rfl ?_)
            exact ⟨j, Nat.lt_succ_self j, ps[i], low, by omega, hlook2, hpo2, hlow, F7, Le.cons (by rw [fw64 (by omega) (by omega)]; rfl) (Le.cons rfl (Le.cons rfl (Le.cons rfl (Le.cons rfl (Le.cons rfl (Le.cons rfl (Le.cons rfl (Le.cons rfl (Le.nil _)))))))))⟩
        · exact ⟨root, s, Nat.le_refl 3, hms.symm, hpath s hs5, hs5, f4, Le.cons rfl (Le.cons rfl (Le.cons rfl (Le.cons rfl (Le.cons rfl (Le.cons rfl (Le.cons rfl (Le.cons rfl (Le.cons rfl (Le.nil _)))))))))⟩
      · refine RunC.exit ?_
        exact ⟨f4, Le.cons rfl (Le.nil _)⟩
    · exact ⟨0, by omega, Fr.refl _ _, Le.cons rfl (Le.cons rfl (Le.cons rfl (Le.cons rfl (Le.cons rfl (Le.cons rfl (Le.nil _))))))⟩
  · rintro E' h4 ⟨f4, hE⟩
    refine RunC.le hE ?_
    clear hE
    have sl4 := sln.fr0 f4
    refine RunC.seq (RunC.seq (RunC.region (RunO.all rfl ?_)))
    refine RunC.block ?_
    let I : Nat → Env → Heap → Prop := fun d E h' => ∃ i : Nat, i + d = ns.length ∧ h4 = h' ∧ Le (upd (upd E0 7 (.slice nA ns.length nc_)) 20 (.int .i64 (i : Int))) E
    refine RunC.loop I ?_ (k := ns.length) ?_
    · rintro d E h5 ⟨i, hi, rfl, hE⟩
      refine RunC.le hE ?_
      clear hE
      refine RunC.seq (RunC.seq (RunC.region (RunO.all rfl ?_)))
      refine RunC.cond rfl (fun hlt => ?_) (fun hge => ?_)
      · have hlt := of_decide_eq_true hlt
        have hil : i < ns.length := by omega
        refine RunC.skip ?_
        refine RunC.seq (RunC.block ?_)
        refine RunC.seq (RunC.region (RunO.all rfl ?_))
        refine RunC.block ?_
        let J : Nat → Env → Heap → Prop := fun e E h' => ∃ k : Nat, k + e = i ∧ h4 = h' ∧ Le (upd (upd (upd E0 7 (.slice nA ns.length nc_)) 20 (.int .i64 (i : Int))) 21 (.int .i64 (k : Int))) E
        refine RunC.loop J ?_ (k := i) ?_
        · rintro e E h6 ⟨k, hk, rfl, hE⟩
          refine RunC.le hE ?_
          clear hE
          refine RunC.seq (RunC.seq (RunC.region (RunO.all rfl ?_)))
          refine RunC.cond rfl (fun hlt2 => ?_) (fun hge => ?_)
          · have hlt2 := of_decide_eq_true hlt2
            have hkl : k < ns.length := by omega
            have hne : ns[k] ≠ ns[i] := List.pairwise_iff_getElem.1 hnd k i hkl hil (by omega)
            refine RunC.skip ?_
            refine RunC.seq (RunC.block ?_)
            refine RunC.seq (RunC.draw0 rfl (RunO.part 2 rfl ?_))
            refine RunO.at (s := 1) rfl rfl sl4 rfl rfl hkl (is_part hkl) rfl rfl rfl ?_
            refine RunO.part 2 rfl ?_
            refine RunO.at (s := 1) rfl rfl sl4 rfl rfl hil (is_part hil) rfl rfl rfl ?_
            refine RunO.bin (v := .bool false) rfl rfl (by show some (Value.bool (ns[k] == ns[i])) = _; rw [beq_eq_false_iff_ne.2 hne]) rfl (RunO.all rfl ?_)
            refine RunC.cond rfl (fun g => by cases g) (fun _ => RunC.skip ?_)
            refine RunC.region (RunO.all rfl ?_)
            exact ⟨e - 1, by omega, k + 1, by omega, rfl, Le.cons (inc64 (by omega)) (Le.cons rfl (Le.cons rfl (Le.nil _)))⟩
          · refine RunC.exit ?_
            refine RunC.region (RunO.all rfl ?_)
            exact ⟨d - 1, by omega, i + 1, by omega, rfl, Le.cons (inc64 (by omega)) (Le.cons rfl (Le.nil _))⟩
        · exact ⟨0, by omega, rfl, Le.cons rfl (Le.cons rfl (Le.cons rfl (Le.nil _)))⟩
      · refine RunC.exit ?_
        refine RunC.seq (RunC.region ?_)
        refine RunO.callD wakes10_ok rfl rfl rfl ?_
        rintro _ h9 ⟨rfl, f9⟩
        exact RunO.all rfl (RunC.ret ⟨_, rfl, rfl⟩)
    · exact ⟨0, by omega, rfl, Le.cons rfl (Le.cons rfl (Le.nil _))⟩
end Go.Proofs.Ytimefcnagilhlaa
end
