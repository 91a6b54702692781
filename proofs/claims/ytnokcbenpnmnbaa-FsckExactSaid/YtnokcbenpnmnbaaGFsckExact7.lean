/- FsckExact: a calculus over an abstract machine that stands beside the model, and contracts of functions by it (part 7).
Conditions: what each theorem says of its arguments. -/
import Derived.Test.YtnokcbenpnmnbaaGFsckExact6
section
set_option linter.unusedVariables false
set_option linter.unusedSectionVars false
set_option maxRecDepth 100000
open Go Go.Am Go.RowKit
namespace Go.Proofs.Ytnokcbenpnmnbaa
open Go.Proofs.Try
theorem is_set (l : List Int) (i : Nat) (x : Int) : (is l).set (0 + i * 1) (.int .i64 x) = is (l.set i x) := by unfold is; rw [List.map_set, Nat.zero_add, Nat.mul_one]
theorem ig_at {l : List Int} {i : Nat} (h : i < l.length) : apart prog 3 (is l) (i * 1) = some (.int .i64 (l.getD i 0)) := by
  rw [is_part h, List.getD_eq_getElem?_getD, List.getElem?_eq_getElem h]; rfl
theorem ig_at0 {l : List Int} {i : Nat} (h : i < l.length) : apart prog 3 (is l) (0 + i * 1) = some (.int .i64 (l.getD i 0)) := by rw [Nat.zero_add]; exact ig_at h
theorem bo_at0 {l : List Bool} {i : Nat} (h : i < l.length) : apart prog 4 (bo l) (0 + i * 1) = some (.bool (l.getD i false)) := by rw [Nat.zero_add]; exact bo_part h
theorem bmp_nat {c : List Int} {q : Nat} (h : (q : Int) ≠ 0) : bmp c (q : Int) = c.set q (c.getD q 0 + 1) := by
  unfold bmp; rw [if_neg h, Int.toNat_natCast]
theorem fold_snoc {α β : Type} (f : β → α → β) (b : β) {l : List α} {i : Nat} (h : i < l.length) : (l.take (i + 1)).foldl f b = f ((l.take i).foldl f b) l[i] := by
  rw [List.take_succ_eq_append_getElem h, List.foldl_append]; rfl
theorem c0_len (B : Nat) : ∀ (bl : List Int) (c : List Int), (bl.foldl (fun c a => c.set a.toNat 1) c).length = c.length
  | [], c => rfl
  | a :: bl, c => by rw [List.foldl_cons, c0_len B bl, List.length_set]
theorem c0_CB {B : Nat} : ∀ (bl : List Int) (c : List Int), CB B 1 c → CB B 1 (bl.foldl (fun c a => c.set a.toNat 1) c)
  | [], c, h => h
  | a :: bl, c, h => by rw [List.foldl_cons]; exact c0_CB bl _ (h.set (by decide))
set_option maxHeartbeats 64000000 in
theorem walkOf_ok {h : Heap} {iv : Value} {L : List Int} {xb lo : Nat} (sl : Sl h iv 1 L.length (us L)) (hb : Byt L) (hz : (lk L).2 = 0) (lr_ : LkR lo h xb L) :
    RunF prog 67 [iv, .pointer (some ⟨xb, 0, none⟩)] h fun v h' => Fr no h h' ∧ CB (L.length / 64) 5000000000 (cntL L) ∧ ∃ b, h.next ≤ b ∧ v = .slice (some ⟨b, 0, none⟩) (L.length / 64) (exc (L.length / 64)) ∧ Ow h' b (is (cntL L)) := by
  obtain ⟨hd, hp, hbad, htr, _, _⟩ := lk_trees hz
  have hdl : L.length % 64 = 0 ∧ 4 ≤ L.length / 64 ∧ L.length / 64 ≤ 4096 := by
    unfold devOk at hd
    simpa using hd
  have hm : L.length ≤ 4611686018427387904 := by omega
  obtain ⟨rv, bv, tv, TL, hxb, ox, rl, rb, st', hTm, hTok⟩ := lr_
  have hrr := fun p (hp : p ∈ lkR L) => root_rng hd (htr p hp)
  have htp := fun p (hp : p ∈ lkR L) x (hx : x ∈ treeN L p.1) => tree_ptr hd (htr p hp) hx
  have htn := fun p (hp : p ∈ lkR L) => (tree_rng hd (htr p hp)).2
  have hff := fol_ok (L := L) (B := L.length / 64) (L.length / 64) (lkS L).2.2.2.2 [] [] 0 (fun r h => absurd h List.not_mem_nil) (fun x h => absurd h List.not_mem_nil) rfl
  have hff : (∀ x ∈ (lkF L).2.1, 2 ≤ x ∧ x < (L.length / 64 : Nat)) ∧ (lkF L).1.length = (lkF L).2.1.length ∧ (lkF L).2.1.length ≤ L.length / 64 := by
    refine ⟨hff.2.1, hff.2.2.1, ?_⟩
    have := hff.2.2.2
    unfold lkF folOf
    simpa using this
  obtain ⟨hlbr, hlrl, hlbl⟩ := hff
  have hR : lkR L = ((lkS L).2.2.1, (lkS L).2.2.2.1) :: (lkF L).1.map fun r => (r.ro, r.sz) := rfl
  have hcnt : cntL L = ((wRs L).foldl (treeB L) (c0L (L.length / 64) (lkF L).2.1, List.replicate (L.length / 64) false)).1 := rfl
  have hwR : wRs L = (lkR L).map fun p => (p.1, treeN L p.1) := rfl
  have hTn : TL.map (fun t => t.2.2) = (lkR L).map fun p => treeN L p.1 := by
    have := congrArg (List.map Prod.snd) hTm
    rw [List.map_map] at this
    unfold lkT at this
    rw [List.map_map] at this
    exact this
  have hTl : TL.length = (lkR L).length := by
    have := congrArg List.length hTn
    rwa [List.length_map, List.length_map] at this
  generalize (pickS L).2.1 = slot at *
  generalize lkS L = s at *
  generalize hlr : (lkF L).1 = lr at *
  generalize hlb : (lkF L).2.1 = lb at *
  obtain ⟨RS, hRS⟩ : ∃ RS, RS = lkR L := ⟨_, rfl⟩
  rw [← hRS] at hR hwR hTn hTl hrr htp htn
  have hRl : RS.length = lr.length + 1 := by rw [hR, List.length_cons, List.length_map]
  refine RunF.walk func67 rfl rfl ?_
  have sl0 := sl
  obtain ⟨ab, ao, c, rfl, hc, rdI⟩ := sl.nz (by omega)
  obtain ⟨bA, bc, rfl, _, _⟩ := (rb.sl (by omega)).form
  obtain ⟨lA, lc, rfl, _, _⟩ := (rl.sl (by omega)).form
  have slb := rb.sl (by omega)
  have slr := rl.sl (by omega)
  obtain ⟨tA, tc, rfl, _, _⟩ := st'.form
  obtain ⟨B, hB⟩ : ∃ B, B = L.length / 64 := ⟨_, rfl⟩
  rw [← hB] at hdl hlbr hlbl hrr htp htn hTok hcnt ⊢
  refine RunC.seq (RunC.region (RunO.all rfl ?_))
  refine RunC.seq (RunC.region (RunO.part 1 rfl ?_))
  refine RunO.callD (devCheck_ok hm) rfl rfl rfl ?_
  rintro _ _ ⟨rfl, rfl⟩
  rw [hd, if_pos rfl, if_pos rfl, ← hB]
  refine RunO.all rfl ?_
  refine RunC.seq (RunC.region (RunO.part 1 rfl ?_))
  refine RunO.make (m := B) rfl rfl rfl rfl rfl rfl (show 8 * B ≤ _ by omega) (by omega) rfl ?_
  rw [reps_is]
  have oo := Ow.push h (is (List.replicate B 0))
  have f1 : Fr no h (h.push ⟨is (List.replicate B 0), true⟩) := Fr.push _ _ _
  generalize h.push ⟨is (List.replicate B 0), true⟩ = h1 at *
  obtain ⟨ob, hob⟩ : ∃ q, q = h.next := ⟨_, rfl⟩
  rw [← hob] at oo ⊢
  refine RunO.all rfl ?_
  -- the slots
  refine RunC.seq ?_
  refine RunC.seq (RunC.region (RunO.all rfl ?_))
  refine RunC.block ?_
  refine RunC.loop (fun d E h' => ∃ i : Nat, i + d = 2 ∧ Ow h' ob (is ((List.range i).foldl (fun c j => c.set j 1) (List.replicate B 0))) ∧ Fr (· = ob) h1 h' ∧ Le ((upd (upd (upd (upd (upd E0 0 (.slice (some ⟨ab, ao, none⟩) L.length c)) 1 (.pointer (some ⟨xb, 0, none⟩))) 5 (.int .i64 (B : Int))) 7 (.slice (some ⟨ob, 0, none⟩) B (exc B))) 30 (.int .i64 (i : Int)))) E) ?st1 (k := 2) ?ini1
  case ini1 => exact ⟨0, rfl, oo, Fr.refl _ _, Le.cons rfl (Le.cons rfl (Le.cons rfl (Le.cons rfl (Le.cons rfl (Le.nil _)))))⟩
  rintro d E g1 ⟨i, hi, oo, fg, hE⟩
  refine RunC.le hE ?_
  clear hE
  have hcl : ((List.range i).foldl (fun c j => c.set j 1) (List.replicate B (0 : Int))).length = B := by
    have key : ∀ (l : List Nat) (c : List Int), (l.foldl (fun c j => c.set j 1) c).length = c.length := by
      intro l
      induction l with
      | nil => intro c; rfl
      | cons x l ih => intro c; rw [List.foldl_cons, ih, List.length_set]
    rw [key, List.length_replicate]
  refine RunC.seq (RunC.region (RunO.all rfl ?_))
  refine RunC.seq (RunC.cond rfl (fun hlt => RunC.skip ?go1) (fun hge => RunC.exit ?ex1))
  case go1 =>
    have hlt := of_decide_eq_true hlt
    have hsucc : (List.range (i + 1)).foldl (fun c j => c.set j 1) (List.replicate B (0 : Int)) = ((List.range i).foldl (fun c j => c.set j 1) (List.replicate B 0)).set i 1 := by
      rw [List.range_succ, List.foldl_append]; rfl
    refine RunC.seq (RunC.block ?_)
    refine RunC.seq (RunC.region (RunO.all rfl ?_))
    refine RunC.region (RunO.part 2 rfl ?_)
    refine RunO.index (s := 1) (k := i) rfl rfl rfl rfl (by omega) rfl ?_
    refine RunO.store rfl rfl (store1_ow oo rfl rfl rfl (by rw [is_len, hcl]; omega)) (RunO.nil ?_)
    rw [is_set, ← hsucc]
    refine RunC.region (RunO.all rfl ?_)
    exact ⟨d - 1, by omega, i + 1, by omega, Ow.put _ oo.1, fg.trans (Fr.put (m := (· = ob)) _ (.inl rfl)) (fun _ g => .inl g), Le.cons (inc64 (by omega)) (Le.cons rfl (Le.cons rfl (Le.cons rfl (Le.cons rfl (Le.nil _)))))⟩
  have hge1 := of_decide_eq_false hge
  obtain rfl : i = 2 := by omega
  change Ow g1 ob (is (((List.replicate B 0).set 0 1).set 1 1)) at oo
  have hc0 : CB B 1 (((List.replicate B (0 : Int)).set 0 1).set 1 1) := CB.set (CB.set ⟨List.length_replicate, fun x hx => by rw [List.eq_of_mem_replicate hx]; decide⟩ (by decide)) (by decide)
  have F1 : Fr no h g1 := f1.trans fg (fun b e => .inr (by have e : b = ob := e; omega))
  -- the records
  refine RunC.seq ?_
  refine RunC.seq (RunC.region (RunO.part 3 rfl ?_))
  refine RunO.load (v := .slice bA lb.length bc) rfl ((ox.fr F1 (fun g => g)).ld rfl) rfl (RunO.all rfl ?_)
  refine RunC.block ?_
  refine RunC.loop (fun d E h' => ∃ i : Nat, i + d = lb.length ∧ Ow h' ob (is ((lb.take i).foldl (fun c a => c.set a.toNat 1) (((List.replicate B (0 : Int)).set 0 1).set 1 1))) ∧ Fr no h h' ∧ Le ((upd (upd (upd (upd (upd (upd (upd E0 0 (.slice (some ⟨ab, ao, none⟩) L.length c)) 1 (.pointer (some ⟨xb, 0, none⟩))) 5 (.int .i64 (B : Int))) 7 (.slice (some ⟨ob, 0, none⟩) B (exc B))) 40 (.slice bA lb.length bc)) 41 (.int .i64 (lb.length : Int))) 42 (.int .i64 (i : Int)))) E) ?st2 (k := lb.length) ?ini2
  case ini2 => exact ⟨0, by omega, oo, F1, Le.cons rfl (Le.cons rfl (Le.cons rfl (Le.cons rfl (Le.cons rfl (Le.cons rfl (Le.cons rfl (Le.nil _)))))))⟩
  rintro d E g2 ⟨i, hi, oo, fg2, hE⟩
  refine RunC.le hE ?_
  clear hE
  refine RunC.seq (RunC.region (RunO.all rfl ?_))
  refine RunC.seq (RunC.cond rfl (fun hlt => RunC.skip ?go2) (fun hge => RunC.exit ?ex2))
  case go2 =>
    have hlt := of_decide_eq_true hlt
    have hlt : i < lb.length := by omega
    obtain ⟨x2, xB⟩ := hlbr lb[i] (List.getElem_mem hlt)
    have hsn := fold_snoc (fun (c : List Int) a => c.set a.toNat 1) (((List.replicate B (0 : Int)).set 0 1).set 1 1) hlt
    have hpt := is_part hlt
    obtain ⟨q, hq⟩ := Int.eq_ofNat_of_zero_le (show 0 ≤ lb[i] by omega)
    rw [hq] at hsn hpt
    rw [Int.toNat_natCast] at hsn
    have hqB : q < B := by omega
    have hcl := c0_len B (lb.take i) (((List.replicate B (0 : Int)).set 0 1).set 1 1)
    rw [hc0.1] at hcl
    refine RunC.seq (RunC.block ?_)
    refine RunC.seq (RunC.region ?_)
    refine RunO.at (s := 1) (k := i) rfl rfl (slb.fr0 fg2) rfl rfl hlt hpt rfl rfl rfl (RunO.all rfl ?_)
    refine RunC.region (RunO.part 2 rfl ?_)
    refine RunO.index (s := 1) (k := q) rfl rfl rfl rfl hqB rfl ?_
    refine RunO.store rfl rfl (store1_ow oo rfl rfl rfl (by rw [is_len, hcl]; omega)) (RunO.nil ?_)
    rw [is_set, ← hsn]
    refine RunC.region (RunO.all rfl ?_)
    exact ⟨d - 1, by omega, i + 1, by omega, Ow.put _ oo.1, fg2.trans (Fr.put (m := (· = ob)) _ (.inl rfl)) (fun b e => .inr (by have e : b = ob := e; omega)), Le.cons (inc64 (by omega)) (Le.cons rfl (Le.cons rfl (Le.cons rfl (Le.cons rfl (Le.cons rfl (Le.cons rfl (Le.nil _)))))))⟩
  have hge2 := of_decide_eq_false hge
  obtain rfl : i = lb.length := by omega
  rw [List.take_length] at oo
  change Ow g2 ob (is (c0L B lb)) at oo
  have hc1 : CB B 1 (c0L B lb) := c0_CB lb _ hc0
  have hog := oo.1
  -- the roots
  refine RunC.seq (RunC.region (RunO.part 5 rfl ?_))
  refine RunO.load (v := .int .i64 s.2.2.1) rfl ((ox.fr fg2 (fun g => g)).ld rfl) rfl ?_
  refine RunO.part 1 (h1 := g2.push ⟨is [s.2.2.1], true⟩) rfl ?_
  have or := Ow.push g2 (is [s.2.2.1])
  have f3 : Fr no g2 (g2.push ⟨is [s.2.2.1], true⟩) := Fr.push _ _ _
  generalize g2.push ⟨is [s.2.2.1], true⟩ = g3 at *
  obtain ⟨rq, hrq⟩ : ∃ q, q = g2.next := ⟨_, rfl⟩
  rw [← hrq] at or ⊢
  have hR1 : (RS.take 1).map (·.1) = [s.2.2.1] := by rw [hR]; rfl
  refine RunO.all rfl ?_
  refine RunC.seq ?_
  refine RunC.seq (RunC.region (RunO.part 4 rfl ?_))
  refine RunO.load (v := .slice lA lr.length lc) rfl (((ox.fr fg2 (fun g => g)).fr f3 (fun g => g)).ld rfl) rfl (RunO.all rfl ?_)
  refine RunC.block ?_
  refine RunC.loop (fun d E h' => ∃ (i : Nat) (rov : Value), i + d = lr.length ∧ Gr rq h' rov 1 (i + 1) (is ((RS.take (i + 1)).map (·.1))) ∧ Fr no g2 h' ∧ rq < h'.next ∧ Le ((upd (upd (upd (upd (upd (upd (upd (upd E0 0 (.slice (some ⟨ab, ao, none⟩) L.length c)) 1 (.pointer (some ⟨xb, 0, none⟩))) 5 (.int .i64 (B : Int))) 7 (.slice (some ⟨ob, 0, none⟩) B (exc B))) 61 (.slice lA lr.length lc)) 62 (.int .i64 (lr.length : Int))) 11 (rov)) 63 (.int .i64 (i : Int)))) E) ?st3 (k := lr.length) ?ini3
  case ini3 =>
    refine ⟨0, .slice (some ⟨rq, 0, none⟩) 1 (exc 1), by omega, ?_, f3, or.1, Le.cons rfl (Le.cons rfl (Le.cons rfl (Le.cons rfl (Le.cons rfl (Le.cons rfl (Le.cons rfl (Le.cons rfl (Le.nil _))))))))⟩
    rw [hR1]; exact Gr.full or rfl (Nat.le_refl _)
  rintro d E g4 ⟨i, rov, hi, gr, fg4, hrg, hE⟩
  refine RunC.le hE ?_
  clear hE
  refine RunC.seq (RunC.region (RunO.all rfl ?_))
  refine RunC.seq (RunC.cond rfl (fun hlt => RunC.skip ?go3) (fun hge => RunC.exit ?ex3))
  case go3 =>
    have hlt := of_decide_eq_true hlt
    have hlt : i < lr.length := by omega
    have hRg : RS.take (i + 1 + 1) = RS.take (i + 1) ++ [(lr[i].ro, lr[i].sz)] := by
      rw [List.take_succ_eq_append_getElem (by omega)]
      congr 2
      simp [hR]
    have hpt := recCs_part hlt
    generalize lr[i] = r at *
    refine RunC.seq (RunC.block ?_)
    refine RunC.seq (RunC.region ?_)
    refine RunO.at (s := 8) (k := i) rfl rfl ((slr.fr0 fg2).fr0 fg4) rfl rfl hlt hpt rfl rfl rfl ?_
    refine RunO.part 1 (h1 := g4.push ⟨rc8 ⟨0, 0, 0, 0, 0, 0, 0, 0⟩, true⟩) rfl ?_
    refine RunO.store rfl rfl (store_ow (s := 8) (Ow.push g4 (rc8 ⟨0, 0, 0, 0, 0, 0, 0, 0⟩)) rfl rfl rfl (Nat.le_refl 8)) (RunO.nil ?_)
    have e8 : (rc8 ⟨0, 0, 0, 0, 0, 0, 0, 0⟩).take 0 ++ cellsOf (.agg ⟨rc8 r⟩) ++ (rc8 ⟨0, 0, 0, 0, 0, 0, 0, 0⟩).drop (0 + 8) = rc8 r := rfl
    rw [e8]
    have on : Ow ((g4.push ⟨rc8 ⟨0, 0, 0, 0, 0, 0, 0, 0⟩, true⟩).put g4.next (some ⟨rc8 r, true⟩)) g4.next (rc8 r) := Ow.put _ (Nat.lt_succ_self _)
    have f5 : Fr no g4 ((g4.push ⟨rc8 ⟨0, 0, 0, 0, 0, 0, 0, 0⟩, true⟩).put g4.next (some ⟨rc8 r, true⟩)) := (Fr.push _ _ _).trans (Fr.put (m := (· = g4.next)) _ (.inl rfl)) (fun j hj => .inr (by omega))
    have hrx : ∀ b, At rov b → rq ≤ b := fun b g => (gr.at g).1
    replace gr := gr.fr0 f5
    have fg5 := fg4.same f5
    have hn5 := f5.next
    generalize (g4.push ⟨rc8 ⟨0, 0, 0, 0, 0, 0, 0, 0⟩, true⟩).put g4.next (some ⟨rc8 r, true⟩) = g5 at *
    generalize g4.next = pb at *
    refine RunC.region (RunO.part 2 rfl ?_)
    refine RunO.load (v := .int .i64 r.ro) rfl (on.ld rfl) rfl ?_
    refine RunO.part 1 (h1 := g5.push ⟨is [r.ro], true⟩) rfl ?_
    have ot := Ow.push g5 (is [r.ro])
    have f6 : Fr no g5 (g5.push ⟨is [r.ro], true⟩) := Fr.push _ _ _
    replace gr := gr.fr0 f6
    have fg6 := fg5.same f6
    have hn56 := f6.next
    generalize g5.push ⟨is [r.ro], true⟩ = g6 at *
    refine RunO.appendG (s := 1) (j := 1) rfl rfl rfl rfl rfl rfl rfl rfl (by decide) gr ot.all rfl (Nat.le_refl 1) rfl (by show 2 * (_ + 1) * 8 ≤ _; omega) (by omega) ?_
    intro rov2 g7 row f7
    have fg7 : Fr no g2 g7 := fg6.trans f7 (fun b g => .inr (by have := hrx b g; omega))
    have hn6 := fg6.next
    have hn7 := f7.next
    have e1 : is ((RS.take (i + 1)).map (·.1)) ++ is [r.ro] = is ((RS.take (i + 1 + 1)).map (·.1)) := by
      rw [hRg, List.map_append]; exact (List.map_append ..).symm
    rw [e1] at row
    have hrow : rq < g7.next := by have := ot.1; omega
    refine RunO.all rfl ?_
    refine RunC.region (RunO.all rfl ?_)
    exact ⟨d - 1, by omega, i + 1, rov2, by omega, row.gr.lo (by omega), fg7, hrow, Le.cons (inc64 (by omega)) (Le.cons rfl (Le.cons rfl (Le.cons rfl (Le.cons rfl (Le.cons rfl (Le.cons rfl (Le.cons rfl (Le.nil _))))))))⟩
  have hge3 := of_decide_eq_false hge
  obtain rfl : i = lr.length := by omega
  rw [show RS.take (lr.length + 1) = RS from List.take_of_length_le (by omega), ← hRl] at gr
  have oo4 := oo.fr fg4 (fun g => g)
  have F4 : Fr no h g4 := fg2.same fg4
  have slro := gr.sl (by omega)
  have grge := Gr.ge gr
  obtain ⟨rA, rc_, rfl, _, _⟩ := slro.form
  -- met
  refine RunC.seq (RunC.region (RunO.part 1 rfl ?_))
  refine RunO.make (m := B) rfl rfl rfl rfl rfl rfl (show 1 * B ≤ _ by omega) (by omega) rfl ?_
  rw [reps_bo]
  have om := Ow.push g4 (bo (List.replicate B false))
  have f5 : Fr no g4 (g4.push ⟨bo (List.replicate B false), true⟩) := Fr.push _ _ _
  replace oo4 := oo4.fr f5 (fun g => g)
  replace slro := slro.fr0 f5
  have F5 := F4.same f5
  have hnx4 : ob < g4.next := by have := fg4.next; omega
  have hnr4 : ∀ b o c, Value.slice rA RS.length rc_ = .slice (some ⟨b, o, none⟩) RS.length c → b < g4.next := fun b o c e => by
    have := gr.sl (by omega)
    exact this.lt b o c e
  generalize g4.push ⟨bo (List.replicate B false), true⟩ = g5 at *
  obtain ⟨mb, hmb⟩ : ∃ q, q = g4.next := ⟨_, rfl⟩
  rw [← hmb] at om ⊢
  refine RunO.all rfl ?_
  have hst0 : ((wRs L).take 0).foldl (treeB L) (c0L B lb, List.replicate B false) = (c0L B lb, List.replicate B false) := rfl
  have hwl : (wRs L).length = RS.length := by rw [hwR, List.length_map]
  have hRB : RS.length ≤ 4097 := by omega
  have hob4 : ob ≠ mb := by omega
  have hobm : ∀ b, b = ob ∨ b = mb → no b ∨ h.next ≤ b := by
    rintro b (rfl | rfl)
    · exact .inr (by omega)
    · exact .inr (by have := F4.next; omega)
  have hnr : ∀ b o c, Value.slice rA RS.length rc_ = .slice (some ⟨b, o, none⟩) RS.length c → ¬ (b = ob ∨ b = mb) := by
    intro b o c e
    have h1 := hnr4 b o c e
    have h2 := grge b o _ c e
    omega
  refine RunC.seq ?_
  refine RunC.seq (RunC.region (RunO.all rfl ?_))
  refine RunC.block ?_
  refine RunC.loop (fun d E h' => ∃ (i : Nat) (st : List Int × List Bool), i + d = RS.length ∧ st = ((wRs L).take i).foldl (treeB L) (c0L B lb, List.replicate B false) ∧ Ow h' ob (is st.1) ∧ Ow h' mb (bo st.2) ∧ CB B (1 + 900000 * (i : Nat)) st.1 ∧ st.2.length = B ∧ Fr (fun b => b = ob ∨ b = mb) g5 h' ∧ Le ((upd (upd (upd (upd (upd (upd (upd (upd E0 0 (.slice (some ⟨ab, ao, none⟩) L.length c)) 1 (.pointer (some ⟨xb, 0, none⟩))) 5 (.int .i64 (B : Int))) 7 (.slice (some ⟨ob, 0, none⟩) B (exc B))) 14 (.slice (some ⟨mb, 0, none⟩) B (exc B))) 75 (.slice rA RS.length rc_)) 76 (.int .i64 (RS.length : Int))) 77 (.int .i64 (i : Int)))) E) ?st4 (k := RS.length) ?ini4
  case ini4 => exact ⟨0, _, by omega, rfl, oo4, om, hc1, List.length_replicate, Fr.refl _ _, Le.cons rfl (Le.cons rfl (Le.cons rfl (Le.cons rfl (Le.cons rfl (Le.cons rfl (Le.cons rfl (Le.cons rfl (Le.nil _))))))))⟩
  rintro d E g6 ⟨i, st, hi, hst, oo, om, hcb, hml, fg6, hE⟩
  refine RunC.le hE ?_
  clear hE
  refine RunC.seq (RunC.region (RunO.all rfl ?_))
  refine RunC.seq (RunC.cond rfl (fun hlt => RunC.skip ?go4) (fun hge => RunC.exit ?ex4))
  case go4 =>
    have hlt := of_decide_eq_true hlt
    have hlt : i < RS.length := by omega
    have hsn := fold_snoc (treeB L) (c0L B lb, List.replicate B false) (l := wRs L) (i := i) (by omega)
    rw [← hst] at hsn
    have hri := hrr RS[i] (List.getElem_mem hlt)
    have hpi := htp RS[i] (List.getElem_mem hlt)
    have hni := htn RS[i] (List.getElem_mem hlt)
    have hpt := is_part (l := RS.map (·.1)) (i := i) (by rw [List.length_map]; exact hlt)
    rw [List.getElem_map] at hpt
    have hTi : i < TL.length := by omega
    have htl : TL[i].2.2 = treeN L RS[i].1 := by
      have e : (TL.map fun t => t.2.2)[i]? = (RS.map fun p => treeN L p.1)[i]? := by rw [hTn]
      rw [List.getElem?_map, List.getElem?_map, List.getElem?_eq_getElem hTi, List.getElem?_eq_getElem hlt] at e
      exact Option.some.inj e
    obtain ⟨iv', mv, nv, owt, _, sln, _, hnl, _, _⟩ := hTok TL[i] (List.getElem_mem hTi)
    rw [htl] at sln hnl
    have hwi : (wRs L)[i]'(by omega) = (RS[i].1, treeN L RS[i].1) := by
      have e : (wRs L)[i]? = (RS.map fun p => (p.1, treeN L p.1))[i]? := by rw [hwR]
      rw [List.getElem?_map, List.getElem?_eq_getElem hlt, List.getElem?_eq_getElem (by omega)] at e
      exact Option.some.inj e
    rw [hwi] at hsn
    have htps := tps_part hTi
    obtain ⟨wb, hwb⟩ : ∃ q, q = TL[i].1 := ⟨_, rfl⟩
    rw [← hwb] at owt htps
    generalize RS[i].1 = r0 at *
    generalize treeN L r0 = tn at *
    obtain ⟨q, rfl⟩ := Int.eq_ofNat_of_zero_le (show 0 ≤ r0 by omega)
    have hqB : q < B := by omega
    have hF6 : Fr no h g6 := F5.trans fg6 hobm
    have slr6 := slro.frm hnr fg6
    refine RunC.seq (RunC.block ?_)
    refine RunC.seq (RunC.region (RunO.part 1 rfl ?_))
    refine RunO.at (s := 1) (k := i) rfl rfl slr6 rfl rfl hlt hpt rfl rfl rfl (RunO.all rfl ?_)
    refine RunC.seqc (fun E' h' => Ow h' ob (is (bmp st.1 (q : Int))) ∧ Ow h' mb (bo st.2) ∧ Fr (fun b => b = ob ∨ b = mb) g5 h' ∧ Le ((upd (upd (upd (upd (upd (upd (upd (upd (upd E0 0 (.slice (some ⟨ab, ao, none⟩) L.length c)) 1 (.pointer (some ⟨xb, 0, none⟩))) 5 (.int .i64 (B : Int))) 7 (.slice (some ⟨ob, 0, none⟩) B (exc B))) 14 (.slice (some ⟨mb, 0, none⟩) B (exc B))) 75 (.slice rA RS.length rc_)) 76 (.int .i64 (RS.length : Int))) 77 (.int .i64 (i : Int))) 15 (.int .i64 (i : Int)))) E') ?_ ?_
    · refine RunC.seq (RunC.region (RunO.all rfl ?_))
      by_cases hq0 : (q : Int) = 0
      · refine RunC.cond (t := false) (by show some (Value.bool (!decide ((q : Int) = 0))) = _; rw [decide_eq_true hq0]; rfl) (fun g => by cases g) (fun _ => RunC.skip ?_)
        refine ⟨?_, om, fg6, Le.cons rfl (Le.cons rfl (Le.cons rfl (Le.cons rfl (Le.cons rfl (Le.cons rfl (Le.cons rfl (Le.cons rfl (Le.cons rfl (Le.nil _)))))))))⟩
        unfold bmp; rw [if_pos hq0]; exact oo
      · refine RunC.cond (t := true) (by show some (Value.bool (!decide ((q : Int) = 0))) = _; rw [decide_eq_false hq0]; rfl) (fun _ => ?_) (fun g => by cases g)
        have hgq := hcb.get (by omega) q
        refine RunC.region (RunO.part 2 rfl ?_)
        refine RunO.index (s := 1) (k := q) rfl rfl rfl rfl hqB rfl ?_
        refine RunO.load (v := .int .i64 (st.1.getD q 0)) rfl (oo.ld (ig_at0 (by rw [hcb.1]; exact hqB))) rfl ?_
        refine RunO.part 1 rfl ?_
        rw [fw64 (by omega) (by omega)]
        refine RunO.index (s := 1) (k := q) rfl rfl rfl rfl hqB rfl ?_
        refine RunO.store rfl rfl (store1_ow oo rfl rfl rfl (by rw [is_len, hcb.1]; omega)) (RunO.nil ?_)
        rw [is_set, ← bmp_nat hq0]
        refine ⟨Ow.put _ oo.1, om.fr (Fr.put (m := (· = ob)) _ (.inl rfl)) (fun e => hob4 e.symm), fg6.trans (Fr.put (m := (· = ob)) _ (.inl rfl)) (fun b e => .inl (.inl e)), Le.cons rfl (Le.cons rfl (Le.cons rfl (Le.cons rfl (Le.cons rfl (Le.cons rfl (Le.cons rfl (Le.cons rfl (Le.cons rfl (Le.nil _)))))))))⟩
    rintro E g7 ⟨oo7, om7, fg7, hE⟩
    refine RunC.le hE ?_
    clear hE
    have hF7 : Fr no h g7 := F5.trans fg7 hobm
    obtain ⟨nA, nc_, rfl, _, _⟩ := sln.form
    refine RunC.seq (RunC.region (RunO.part 3 rfl ?_))
    refine RunO.load (v := .slice tA TL.length tc) rfl ((ox.fr hF7 (fun g => g)).ld rfl) rfl ?_
    refine RunO.part 1 rfl ?_
    refine RunO.at (s := 1) (k := i) rfl rfl (st'.fr0 hF7) rfl rfl hTi htps rfl rfl rfl ?_
    refine RunO.part 2 rfl ?_
    refine RunO.load (v := .slice nA tn.length nc_) rfl ((owt.fr hF7 (fun g => g)).ld rfl) rfl (RunO.all rfl ?_)
    have hcb7 : CB B (1 + 900000 * (i : Nat) + 1) (bmp st.1 (q : Int)) := hcb.bmp (by omega) _
    clear oo om fg6
    refine RunC.block ?_
    refine RunC.loop (fun d E h' => ∃ (j : Nat) (su : List Int × List Bool), j + d = tn.length ∧ su = (tn.take j).foldl (nodeB L) (bmp st.1 (q : Int), st.2) ∧ Ow h' ob (is su.1) ∧ Ow h' mb (bo su.2) ∧ CB B (1 + 900000 * (i : Nat) + 1 + 8 * (j : Nat)) su.1 ∧ su.2.length = B ∧ Fr (fun b => b = ob ∨ b = mb) g5 h' ∧ Le ((upd (upd (upd (upd (upd (upd (upd (upd (upd (upd (upd E0 0 (.slice (some ⟨ab, ao, none⟩) L.length c)) 1 (.pointer (some ⟨xb, 0, none⟩))) 5 (.int .i64 (B : Int))) 7 (.slice (some ⟨ob, 0, none⟩) B (exc B))) 14 (.slice (some ⟨mb, 0, none⟩) B (exc B))) 75 (.slice rA RS.length rc_)) 76 (.int .i64 (RS.length : Int))) 77 (.int .i64 (i : Int))) 99 (.slice nA tn.length nc_)) 100 (.int .i64 (tn.length : Int))) 101 (.int .i64 (j : Int)))) E) ?st5 (k := tn.length) ?ini5
    case ini5 => exact ⟨0, _, by omega, rfl, oo7, om7, hcb7, hml, fg7, Le.cons rfl (Le.cons rfl (Le.cons rfl (Le.cons rfl (Le.cons rfl (Le.cons rfl (Le.cons rfl (Le.cons rfl (Le.cons rfl (Le.cons rfl (Le.cons rfl (Le.nil _)))))))))))⟩
    rintro d2 E g8 ⟨j, su, hj, hsu, oo, om, hcb8, hml8, fg8, hE⟩
    refine RunC.le hE ?_
    clear hE
    refine RunC.seq (RunC.region (RunO.all rfl ?_))
    refine RunC.seq (RunC.cond rfl (fun hlt => RunC.skip ?go5) (fun hge => RunC.exit ?ex5))
    case ex5 =>
      have hge := of_decide_eq_false hge
      obtain rfl : j = tn.length := by omega
      rw [List.take_length] at hsu
      refine RunC.region (RunO.all rfl ?_)
      refine ⟨d - 1, by omega, i + 1, su, by omega, ?_, oo, om, hcb8.le (by omega), hml8, fg8, Le.cons (inc64 (by omega)) (Le.cons rfl (Le.cons rfl (Le.cons rfl (Le.cons rfl (Le.cons rfl (Le.cons rfl (Le.cons rfl (Le.nil _))))))))⟩
      rw [hsn]; exact hsu
    have hjl := of_decide_eq_true hlt
    have hjl : j < tn.length := by omega
    have hsn2 := fold_snoc (nodeB L) (bmp st.1 (q : Int), st.2) (l := tn) hjl
    rw [← hsu] at hsn2
    have hpx := hpi tn[j] (List.getElem_mem hjl)
    have hxB := hni tn[j] (List.getElem_mem hjl)
    have hpt2 := is_part hjl
    generalize tn[j] = x at *
    obtain ⟨y, rfl⟩ := Int.eq_ofNat_of_zero_le (show 0 ≤ x by omega)
    have hyB : y < B := by omega
    have hF8 : Fr no h g8 := F5.trans fg8 hobm
    refine RunC.seq (RunC.block ?_)
    refine RunC.seq (RunC.region ?_)
    refine RunO.at (s := 1) (k := j) rfl rfl (sln.fr0 hF8) rfl rfl hjl hpt2 rfl rfl rfl (RunO.all rfl ?_)
    refine RunC.seq (RunC.seq (RunC.region (RunO.part 2 rfl ?_)))
    refine RunO.index (s := 1) (k := y) rfl rfl rfl rfl hyB rfl ?_
    refine RunO.load (v := .bool (su.2.getD y false)) rfl (om.ld (bo_at0 (by rw [hml8]; exact hyB))) rfl (RunO.all rfl ?_)
    cases hmt : su.2.getD y false with
    | true =>
      refine RunC.cond rfl (fun _ => RunC.exit ?_) (fun g => by cases g)
      refine RunC.region (RunO.all rfl ?_)
      refine ⟨d2 - 1, by omega, j + 1, su, by omega, ?_, oo, om, hcb8.le (by omega), hml8, fg8, Le.cons (inc64 (by omega)) (Le.cons rfl (Le.cons rfl (Le.cons rfl (Le.cons rfl (Le.cons rfl (Le.cons rfl (Le.cons rfl (Le.cons rfl (Le.cons rfl (Le.cons rfl (Le.nil _)))))))))))⟩
      rw [hsn2]; unfold nodeB; rw [Int.toNat_natCast, hmt]; rfl
    | false =>
    refine RunC.cond rfl (fun g => by cases g) (fun _ => RunC.skip ?_)
    have hnb : nodeB L su (y : Int) = ((wPs L (y : Int)).foldl bmp su.1, su.2.set y true) := by
      unfold nodeB; rw [Int.toNat_natCast, hmt]; rfl
    rw [hnb] at hsn2
    refine RunC.seq (RunC.region (RunO.part 2 rfl ?_))
    refine RunO.index (s := 1) (k := y) rfl rfl rfl rfl hyB rfl ?_
    refine RunO.store rfl rfl (store1_ow om rfl rfl rfl (by rw [bo_len, hml8]; omega)) (RunO.nil ?_)
    rw [bo_set]
    have om9 : Ow (g8.put mb (some ⟨bo (su.2.set y true), true⟩)) mb (bo (su.2.set y true)) := Ow.put _ om.1
    have fm : Fr (· = mb) g8 (g8.put mb (some ⟨bo (su.2.set y true), true⟩)) := Fr.put (m := (· = mb)) _ (.inl rfl)
    have oo9 := oo.fr fm hob4
    have fg9 : Fr (fun b => b = ob ∨ b = mb) g5 (g8.put mb (some ⟨bo (su.2.set y true), true⟩)) := fg8.trans fm (fun b e => .inl (.inr e))
    generalize g8.put mb (some ⟨bo (su.2.set y true), true⟩) = g9 at *
    have hF9 : Fr no h g9 := F5.trans fg9 hobm
    clear oo om fg8 fm
    have haL : (y + 1) * 64 ≤ L.length := by
      have : y + 1 ≤ B := by omega
      omega
    refine RunC.seq (RunC.region (RunO.part 2 rfl ?_))
    refine RunO.callD (devOf_ok (o := ao) haL hm hc) rfl rfl rfl ?_
    rintro _ _ ⟨⟨c', hc', rfl⟩, rfl⟩
    have hbl := blkI_len haL
    have hparse := nodParse_ok (h := g9) (A := some ⟨ab, ao + y * 64, none⟩) (c := c') (l := blkI L y) (fun _ => ⟨_, rfl, rdBlk (rdI.fr hF9 (fun g => g)) haL⟩) (byt_blk hb y) (by rw [hbl]; exact hc')
    rw [hbl, nodV_cells] at hparse
    refine RunO.callD hparse rfl rfl rfl ?_
    rintro v h2 ⟨rfl, f2⟩
    have hps : (nodV (blkI L y)).2 = wPs L (y : Int) := by unfold wPs; rw [Int.toNat_natCast]
    rw [hps]
    have hlen := wPs_len L (y : Int)
    generalize (nodV (blkI L y)).1 = nl at *
    have hpw : (wPs L (y : Int)).foldl bmp su.1 = ((wPs L (y : Int)).take 8).foldl bmp su.1 := by rw [List.take_of_length_le (by omega)]
    generalize wPs L (y : Int) = ps at *
    refine RunO.part 4 (h1 := h2.push ⟨nc 0 nZero, true⟩) rfl ?_
    have hcl : (cellsOf (.agg ⟨nc nl ps⟩)).length = 9 := by show (nc nl ps).length = 9; simp [nc, is_len, hlen]
    have hac : allCells (cellsOf (.agg ⟨nc nl ps⟩)) = true := by show allCells (.int .i64 nl :: is ps) = true; exact allCells_map (f := Value.int .i64) (fun _ => rfl) ps
    refine RunO.store rfl rfl (store_ow (s := 9) (Ow.push h2 (nc 0 nZero)) rfl hcl hac (Nat.le_refl 9)) (RunO.all rfl ?_)
    have e9 : (nc 0 nZero).take 0 ++ cellsOf (.agg ⟨nc nl ps⟩) ++ (nc 0 nZero).drop (0 + 9) = nc nl ps := by
      show [] ++ nc nl ps ++ [] = _; simp
    rw [e9]
    have on : Ow ((h2.push ⟨nc 0 nZero, true⟩).put h2.next (some ⟨nc nl ps, true⟩)) h2.next (nc nl ps) := Ow.put _ (Nat.lt_succ_self _)
    have f4 : Fr no h2 ((h2.push ⟨nc 0 nZero, true⟩).put h2.next (some ⟨nc nl ps, true⟩)) := (Fr.push _ _ _).trans (Fr.put (m := (· = h2.next)) _ (.inl rfl)) (fun j hj => .inr (by omega))
    have oo10 := (oo9.fr f2 (fun g => g)).fr f4 (fun g => g)
    have om10 := (om9.fr f2 (fun g => g)).fr f4 (fun g => g)
    have fg10 := (fg9.quiet f2).quiet f4
    generalize (h2.push ⟨nc 0 nZero, true⟩).put h2.next (some ⟨nc nl ps, true⟩) = ga at *
    generalize h2.next = nb at *
    refine RunC.seq (RunC.region (RunO.part 1 rfl ?_))
    refine RunO.load (v := .agg ⟨is ps⟩) rfl (nc_ptrs hlen on) rfl (RunO.all rfl ?_)
    clear on oo9 om9 fg9
    refine RunC.block ?_
    refine RunC.loop (fun d E h' => ∃ k : Nat, k + d = 8 ∧ Ow h' ob (is ((ps.take k).foldl bmp su.1)) ∧ Ow h' mb (bo (su.2.set y true)) ∧ CB B (1 + 900000 * (i : Nat) + 1 + 8 * (j : Nat) + k) ((ps.take k).foldl bmp su.1) ∧ Fr (fun b => b = ob ∨ b = mb) g5 h' ∧ Le ((upd (upd (upd (upd (upd (upd (upd (upd (upd (upd (upd (upd (upd E0 0 (.slice (some ⟨ab, ao, none⟩) L.length c)) 1 (.pointer (some ⟨xb, 0, none⟩))) 5 (.int .i64 (B : Int))) 7 (.slice (some ⟨ob, 0, none⟩) B (exc B))) 14 (.slice (some ⟨mb, 0, none⟩) B (exc B))) 75 (.slice rA RS.length rc_)) 76 (.int .i64 (RS.length : Int))) 77 (.int .i64 (i : Int))) 99 (.slice nA tn.length nc_)) 100 (.int .i64 (tn.length : Int))) 101 (.int .i64 (j : Int))) 120 (.agg ⟨is ps⟩)) 121 (.int .i64 (k : Int)))) E) ?st6 (k := 8) ?ini6
    case ini6 => exact ⟨0, by omega, oo10, om10, hcb8.le (by omega), fg10, Le.cons rfl (Le.cons rfl (Le.cons rfl (Le.cons rfl (Le.cons rfl (Le.cons rfl (Le.cons rfl (Le.cons rfl (Le.cons rfl (Le.cons rfl (Le.cons rfl (Le.cons rfl (Le.cons rfl (Le.nil _)))))))))))))⟩
    rintro d3 E gb ⟨k, hk, oo, om, hcbk, fgb, hE⟩
    refine RunC.le hE ?_
    clear hE
    refine RunC.seq (RunC.region (RunO.all rfl ?_))
    refine RunC.seq (RunC.cond rfl (fun hlt => RunC.skip ?go6) (fun hge => RunC.exit ?ex6))
    case ex6 =>
      have hge := of_decide_eq_false hge
      obtain rfl : k = 8 := by omega
      rw [← hpw] at oo hcbk
      refine RunC.region (RunO.all rfl ?_)
      refine ⟨d2 - 1, by omega, j + 1, _, by omega, hsn2.symm, oo, om, hcbk.le (by omega), by show (su.2.set y true).length = B; rw [List.length_set]; exact hml8, fgb, Le.cons (inc64 (by omega)) (Le.cons rfl (Le.cons rfl (Le.cons rfl (Le.cons rfl (Le.cons rfl (Le.cons rfl (Le.cons rfl (Le.cons rfl (Le.cons rfl (Le.cons rfl (Le.nil _)))))))))))⟩
    have hkl := of_decide_eq_true hlt
    have hk8 : k < 8 := by omega
    have hkl : k < ps.length := by omega
    have hsn3 := fold_snoc bmp su.1 (l := ps) hkl
    have hpp := hpx ps[k] (List.getElem_mem hkl)
    have hpt3 := is_part hkl
    generalize ps[k] = p at *
    obtain ⟨z, rfl⟩ := Int.eq_ofNat_of_zero_le (show 0 ≤ p by omega)
    have hzB : z < B := by omega
    refine RunC.seq (RunC.block ?_)
    refine RunC.seq (RunC.region ?_)
    refine RunO.indexV (s := 1) (k := k) rfl rfl rfl rfl hk8 hpt3 rfl (RunO.all rfl ?_)
    refine RunC.seq (RunC.region (RunO.all rfl ?_))
    have hcbn : CB B (1 + 900000 * (i : Nat) + 1 + 8 * (j : Nat) + (k + 1 : Nat)) ((ps.take (k + 1)).foldl bmp su.1) := by
      rw [hsn3]; exact (hcbk.bmp (by omega) _).le (by omega)
    by_cases hz0 : (z : Int) = 0
    · refine RunC.cond (t := false) (by show some (Value.bool (!decide ((z : Int) = 0))) = _; rw [decide_eq_true hz0]; rfl) (fun g => by cases g) (fun _ => RunC.skip ?_)
      refine RunC.region (RunO.all rfl ?_)
      refine ⟨d3 - 1, by omega, k + 1, by omega, ?_, om, hcbn, fgb, Le.cons (inc64 (by omega)) (Le.cons rfl (Le.cons rfl (Le.cons rfl (Le.cons rfl (Le.cons rfl (Le.cons rfl (Le.cons rfl (Le.cons rfl (Le.cons rfl (Le.cons rfl (Le.cons rfl (Le.cons rfl (Le.nil _)))))))))))))⟩
      rw [hsn3]; unfold bmp; rw [if_pos hz0]; exact oo
    · refine RunC.cond (t := true) (by show some (Value.bool (!decide ((z : Int) = 0))) = _; rw [decide_eq_false hz0]; rfl) (fun _ => ?_) (fun g => by cases g)
      generalize hcc : (ps.take k).foldl bmp su.1 = cc at *
      have hgz := hcbk.get (by omega) z
      refine RunC.region (RunO.part 2 rfl ?_)
      refine RunO.index (s := 1) (k := z) rfl rfl rfl rfl hzB rfl ?_
      refine RunO.load (v := .int .i64 (cc.getD z 0)) rfl (oo.ld (ig_at0 (by rw [hcbk.1]; exact hzB))) rfl ?_
      refine RunO.part 1 rfl ?_
      rw [fw64 (by omega) (by omega)]
      refine RunO.index (s := 1) (k := z) rfl rfl rfl rfl hzB rfl ?_
      refine RunO.store rfl rfl (store1_ow oo rfl rfl rfl (by rw [is_len, hcbk.1]; omega)) (RunO.nil ?_)
      rw [is_set, ← bmp_nat hz0, ← hsn3]
      refine RunC.region (RunO.all rfl ?_)
      exact ⟨d3 - 1, by omega, k + 1, by omega, Ow.put _ oo.1, om.fr (Fr.put (m := (· = ob)) _ (.inl rfl)) (fun e => hob4 e.symm), hcbn, fgb.trans (Fr.put (m := (· = ob)) _ (.inl rfl)) (fun b e => .inl (.inl e)), Le.cons (inc64 (by omega)) (Le.cons rfl (Le.cons rfl (Le.cons rfl (Le.cons rfl (Le.cons rfl (Le.cons rfl (Le.cons rfl (Le.cons rfl (Le.cons rfl (Le.cons rfl (Le.cons rfl (Le.cons rfl (Le.nil _)))))))))))))⟩
  have hge4 := of_decide_eq_false hge
  obtain rfl : i = RS.length := by omega
  rw [← hwl, List.take_length] at hst
  refine RunC.seq (RunC.region (RunO.all rfl ?_))
  refine RunC.ret ⟨_, rfl, F5.trans fg6 hobm, ?_, ob, by omega, rfl, ?_⟩
  · rw [hcnt, ← hst]; exact hcb.le (by omega)
  · rw [hcnt, ← hst]; exact oo
end Go.Proofs.Ytnokcbenpnmnbaa
end
section
set_option linter.unusedVariables false
set_option linter.unusedSectionVars false
set_option maxRecDepth 100000
open Go Go.Am Go.RowKit
namespace Go.Proofs.Ytnokcbenpnmnbaa
open Go.Proofs.Try
theorem getD_set_ne {c : List Int} {i j : Nat} {v : Int} (h : i ≠ j) : (c.set i v).getD j 0 = c.getD j 0 := by
  rw [List.getD_eq_getElem?_getD, List.getD_eq_getElem?_getD, List.getElem?_set_ne h]
theorem bmp_comm (c : List Int) (p q : Int) : bmp (bmp c p) q = bmp (bmp c q) p := by
  unfold bmp
  by_cases hp : p = 0
  · rw [if_pos hp, if_pos hp]
  · by_cases hq : q = 0
    · rw [if_pos hq, if_pos hq]
    · rw [if_neg hp, if_neg hq, if_neg hp, if_neg hq]
      by_cases e : p.toNat = q.toNat
      · rw [e]
      · rw [getD_set_ne e, getD_set_ne (fun g => e g.symm), List.set_comm _ _ e]
theorem bmps_comm : ∀ (l : List Int) (c : List Int) (p : Int), l.foldl bmp (bmp c p) = bmp (l.foldl bmp c) p
  | [], _, _ => rfl
  | x :: l, c, p => by
    rw [List.foldl_cons, List.foldl_cons, bmp_comm c p x]
    exact bmps_comm l (bmp c x) p
theorem node_bmp (L : List Int) (c : List Int) (m : List Bool) (p a : Int) : nodeB L (bmp c p, m) a = (bmp (nodeB L (c, m) a).1 p, (nodeB L (c, m) a).2) := by
  unfold nodeB
  by_cases h : m.getD a.toNat false = true
  · rw [if_pos h, if_pos h]
  · rw [if_neg h, if_neg h]
    show (_, _) = (_, _)
    rw [bmps_comm]
theorem nodes_bmp (L : List Int) : ∀ (ns : List Int) (c : List Int) (m : List Bool) (p : Int), ns.foldl (nodeB L) (bmp c p, m) = (bmp (ns.foldl (nodeB L) (c, m)).1 p, (ns.foldl (nodeB L) (c, m)).2)
  | [], _, _, _ => rfl
  | a :: ns, c, m, p => by
    rw [List.foldl_cons, List.foldl_cons, node_bmp, nodes_bmp L ns]
theorem nodes_bmps (L : List Int) (ns : List Int) : ∀ (l : List Int) (c : List Int) (m : List Bool), ns.foldl (nodeB L) (l.foldl bmp c, m) = (l.foldl bmp (ns.foldl (nodeB L) (c, m)).1, (ns.foldl (nodeB L) (c, m)).2)
  | [], _, _ => rfl
  | p :: l, c, m => by
    rw [List.foldl_cons, nodes_bmps L ns l (bmp c p) m, nodes_bmp, List.foldl_cons]
theorem trees_bmp (L : List Int) : ∀ (t : List (Int × List Int)) (c : List Int) (m : List Bool), t.foldl (treeB L) (c, m) = ((t.map (·.1)).foldl bmp ((t.flatMap (·.2)).foldl (nodeB L) (c, m)).1, ((t.flatMap (·.2)).foldl (nodeB L) (c, m)).2)
  | [], _, _ => rfl
  | x :: t, c, m => by
    have e : treeB L (c, m) x = (bmp (x.2.foldl (nodeB L) (c, m)).1 x.1, (x.2.foldl (nodeB L) (c, m)).2) := nodes_bmp L x.2 c m x.1
    rw [List.foldl_cons, e, trees_bmp L t, List.flatMap_cons, List.foldl_append, List.map_cons, List.foldl_cons, nodes_bmp]
theorem set_bmps : ∀ (bl : List Int) (c : List Int), bl.Nodup → (∀ a ∈ bl, 2 ≤ a ∧ c.getD a.toNat 0 = 0) → bl.foldl (fun c a => c.set a.toNat 1) c = bl.foldl bmp c
  | [], _, _, _ => rfl
  | a :: bl, c, hn, h => by
    obtain ⟨h1, h2⟩ := List.nodup_cons.1 hn
    obtain ⟨h3, h4⟩ := h a (List.mem_cons_self ..)
    have e : bmp c a = c.set a.toNat 1 := by unfold bmp; rw [if_neg (by omega), h4]; rfl
    rw [List.foldl_cons, List.foldl_cons, e]
    refine set_bmps bl _ h2 (fun x hx => ?_)
    obtain ⟨h5, h6⟩ := h x (List.mem_cons_of_mem _ hx)
    have hne : a ≠ x := fun g => h1 (by rw [g]; exact hx)
    exact ⟨h5, by rw [getD_set_ne (by omega)]; exact h6⟩
theorem zip_bmps : ∀ (bl ro : List Int) (c : List Int), bl.length = ro.length → (bl.zip ro).foldl (fun c x => bmp (bmp c x.1) x.2) c = ro.foldl bmp (bl.foldl bmp c)
  | [], [], _, _ => rfl
  | [], _ :: _, _, h => by simp at h
  | _ :: _, [], _, h => by simp at h
  | a :: bl, r :: ro, c, h => by
    rw [List.zip_cons_cons, List.foldl_cons, zip_bmps bl ro _ (by simpa using h), List.foldl_cons, List.foldl_cons, bmps_comm]
def c00 (B : Nat) : List Int := ((List.replicate B 0).set 0 1).set 1 1
/-- Once more, in the page's order. -/
def refC (L : List Int) : List Int := (((lkR L).flatMap fun p => treeN L p.1).foldl (nodeB L) (((lkF L).2.1.zip ((lkF L).1.map (·.ro))).foldl (fun c x => bmp (bmp c x.1) x.2) (bmp (c00 (L.length / 64)) (lkS L).2.2.1), List.replicate (L.length / 64) false)).1
theorem refC_eq {L : List Int} (hl : (lkF L).1.length = (lkF L).2.1.length) (hn : (lkF L).2.1.Nodup) (hr : ∀ a ∈ (lkF L).2.1, 2 ≤ a) : refC L = cntL L := by
  have e1 : cntL L = (((wRs L).map (·.1)).foldl bmp (((wRs L).flatMap (·.2)).foldl (nodeB L) (c0L (L.length / 64) (lkF L).2.1, List.replicate (L.length / 64) false)).1) := by
    unfold cntL
    rw [trees_bmp]
  have e2 : (wRs L).map (·.1) = (lkS L).2.2.1 :: (lkF L).1.map (·.ro) := by
    unfold wRs lkR
    rw [List.map_map, List.map_cons, List.map_map]; rfl
  have e3 : (wRs L).flatMap (·.2) = (lkR L).flatMap fun p => treeN L p.1 := by
    unfold wRs
    rw [List.flatMap_map]
  have e4 : c0L (L.length / 64) (lkF L).2.1 = (lkF L).2.1.foldl bmp (c00 (L.length / 64)) := by
    unfold c0L
    refine set_bmps _ _ hn (fun a ha => ⟨hr a ha, ?_⟩)
    have := hr a ha
    rw [getD_set_ne (by omega), getD_set_ne (by omega), List.getD_eq_getElem?_getD, List.getElem?_replicate]
    split <;> rfl
  rw [e1, e2, e3, e4]
  have e5 : (lkF L).2.1.length = ((lkF L).1.map (·.ro)).length := by rw [List.length_map, hl]
  unfold refC
  rw [zip_bmps _ _ _ e5, bmps_comm, List.foldl_cons]
  have := nodes_bmps L ((lkR L).flatMap fun p => treeN L p.1) ((lkF L).1.map (·.ro)) (bmp ((lkF L).2.1.foldl bmp (c00 (L.length / 64))) (lkS L).2.2.1) (List.replicate (L.length / 64) false)
  rw [this]
  have h2 := nodes_bmp L ((lkR L).flatMap fun p => treeN L p.1) ((lkF L).2.1.foldl bmp (c00 (L.length / 64))) (List.replicate (L.length / 64) false) (lkS L).2.2.1
  rw [h2]
end Go.Proofs.Ytnokcbenpnmnbaa
end
section
set_option linter.unusedVariables false
set_option linter.unusedSectionVars false
set_option maxRecDepth 100000
open Go Go.Am Go.RowKit
namespace Go.Proofs.Ytnokcbenpnmnbaa
open Go.Proofs.Try

theorem bl_nodup {L : List Int} (h : (lkF L).2.2.2 = 0) : (lkF L).2.1.Nodup := by
  have v : FolI L (L.length / 64) (lkS L).2.2.2.2 (lkF L).1 (lkF L).2.1 0 := folOf_inv (a := (lkS L).2.2.2.2) h
  unfold List.Nodup
  rw [List.pairwise_iff_getElem]
  intro i j hi hj hij e
  have hl := v.len
  obtain ⟨_, _, _, _, h1⟩ := v.blk i (by omega)
  obtain ⟨_, _, _, _, h2⟩ := v.blk j (by omega)
  have g1 : (lkF L).2.1.getD i 0 = (lkF L).2.1[i] := by rw [List.getD_eq_getElem?_getD, List.getElem?_eq_getElem hi]; rfl
  have g2 : (lkF L).2.1.getD j 0 = (lkF L).2.1[j] := by rw [List.getD_eq_getElem?_getD, List.getElem?_eq_getElem hj]; rfl
  refine (v.apart j (by omega) i (by omega) hij).1 ?_
  rw [h1, h2, g1, g2, e]
set_option maxHeartbeats 64000000 in
theorem refCounts10_ok {h : Heap} {iv rv bv mv nv : Value} {slot : Int} {L : List Int} {cn : List Value} (sl : Sl h iv 1 L.length (us L)) (hb : Byt L) (hm : L.length ≤ 4611686018427387904) (hz : (lk L).2 = 0) (srl : Sl h rv 8 (lkF L).1.length (recCs (lkF L).1)) (sbl : Sl h bv 1 (lkF L).2.1.length (is (lkF L).2.1)) (snl : Sl h nv 1 (lkR L).length cn) (jn : JEl (fun _ => True) h cn ((lkR L).map fun p => treeN L p.1)) (hmv : isCell mv = true) :
    RunF prog 21 [iv, .agg ⟨imx (lkS L) slot rv bv mv nv⟩] h fun v h' => Fr no h h' ∧ ∃ ob, h.next ≤ ob ∧ v = .slice (some ⟨ob, 0, none⟩) (L.length / 64) (exc (L.length / 64)) ∧ Ow h' ob (is (cntL L)) ∧ CB (L.length / 64) 100000000000 (cntL L) := by
  obtain ⟨hd, hp, hbad, htr, hbey, hC⟩ := lk_trees hz
  have hdl : L.length % 64 = 0 ∧ 4 ≤ L.length / 64 ∧ L.length / 64 ≤ 4096 := by
    unfold devOk at hd
    simpa using hd
  have hfo := fol_ok (L := L) (B := L.length / 64) (L.length / 64) (lkS L).2.2.2.2 [] [] 0 (fun r h => absurd h List.not_mem_nil) (fun x h => absurd h List.not_mem_nil) rfl
  have hFe2 : lkF L = fol L (L.length / 64) (L.length / 64) (lkS L).2.2.2.2 [] [] 0 := rfl
  rw [← hFe2] at hfo
  obtain ⟨hrok, hbr, hrbl, hbn⟩ := hfo
  have hbn : (lkF L).2.1.length ≤ 4096 := by have : ([] : List Int).length = 0 := rfl; omega
  have hcnt := refC_eq hrbl (bl_nodup hbad) (fun a ha => (hbr a ha).1)
  have hRl : (lkR L).length = (lkF L).1.length + 1 := by unfold lkR; rw [List.length_cons, List.length_map]
  have hroot := root_rng hd (htr _ (List.mem_cons_self .. : ((lkS L).2.2.1, (lkS L).2.2.2.1) ∈ lkR L))
  have hro : ∀ r ∈ (lkF L).1, r.ro = 0 ∨ (2 ≤ r.ro ∧ r.ro < (L.length / 64 : Nat)) := fun r hr => root_rng hd (htr (r.ro, r.sz) (List.mem_cons_of_mem _ (List.mem_map.2 ⟨r, hr, rfl⟩)))
  have hptr := fun p hpm x hx => tree_ptr (L := L) hd (htr p hpm) (x := x) hx
  have hrng := fun p hpm => tree_rng (L := L) hd (htr p hpm)
  have hrc : refC L = (((lkR L).flatMap fun p => treeN L p.1).foldl (nodeB L) (((lkF L).2.1.zip ((lkF L).1.map (·.ro))).foldl (fun c x => bmp (bmp c x.1) x.2) (bmp (c00 (L.length / 64)) (lkS L).2.2.1), List.replicate (L.length / 64) false)).1 := rfl
  rw [← hcnt]
  obtain ⟨B, hB⟩ : ∃ B, B = L.length / 64 := ⟨_, rfl⟩
  rw [← hB] at hrc hbr hroot hro hptr hrng hdl ⊢
  obtain ⟨rA, rc_, rfl, _, _⟩ := srl.form
  obtain ⟨bA, bc, rfl, _, _⟩ := sbl.form
  obtain ⟨nA, nc_, rfl, _, _⟩ := snl.form
  refine RunF.walk func21 rfl rfl ?_
  refine RunC.seq (RunC.region (RunO.all (h1 := h.push ⟨(imx (lkS L) slot (.slice rA (lkF L).1.length rc_) (.slice bA (lkF L).2.1.length bc) mv (.slice nA (lkR L).length nc_)), true⟩) rfl ?_))
  have ox := Ow.push h (imx (lkS L) slot (.slice rA (lkF L).1.length rc_) (.slice bA (lkF L).2.1.length bc) mv (.slice nA (lkR L).length nc_))
  have f1 : Fr no h (h.push ⟨(imx (lkS L) slot (.slice rA (lkF L).1.length rc_) (.slice bA (lkF L).2.1.length bc) mv (.slice nA (lkR L).length nc_)), true⟩) := Fr.push _ _ _
  generalize h.push ⟨(imx (lkS L) slot (.slice rA (lkF L).1.length rc_) (.slice bA (lkF L).2.1.length bc) mv (.slice nA (lkR L).length nc_)), true⟩ = h1 at *
  obtain ⟨xb, hxb⟩ : ∃ q, q = h.next := ⟨_, rfl⟩
  rw [← hxb] at ox ⊢
  refine RunC.seq (RunC.region (RunO.part 1 rfl ?_))
  refine RunO.callD (refBlocks_ok (sl.fr0 f1) hm) rfl rfl rfl ?_
  rintro _ _ ⟨rfl, rfl⟩
  rw [← hB]
  refine RunO.all rfl ?_
  -- the counts
  refine RunC.seq (RunC.region (RunO.part 1 rfl ?_))
  refine RunO.make (m := B) rfl rfl rfl rfl rfl rfl (show 8 * B ≤ _ by omega) (by omega) rfl ?_
  rw [reps_is]
  have oo := Ow.push h1 (is (List.replicate B 0))
  have hx1 : xb < h1.next := ox.1
  have f2 : Fr no h1 (h1.push ⟨is (List.replicate B 0), true⟩) := Fr.push _ _ _
  replace ox := ox.fr f2 (fun g => g)
  generalize h1.push ⟨is (List.replicate B 0), true⟩ = h2 at *
  obtain ⟨ob, hob⟩ : ∃ q, q = h1.next := ⟨_, rfl⟩
  rw [← hob] at oo ⊢
  refine RunO.all rfl ?_
  refine RunC.seq (RunC.region (RunO.part 2 rfl ?_))
  refine RunO.index (s := 1) (k := 0) rfl rfl rfl rfl (by omega) rfl ?_
  refine RunO.store rfl rfl (store1_ow oo rfl rfl rfl (by rw [is_len, List.length_replicate]; omega)) ?_
  rw [is_set]
  have oo1 : Ow (h2.put ob (some ⟨is ((List.replicate B 0).set 0 1), true⟩)) ob (is ((List.replicate B 0).set 0 1)) := Ow.put _ oo.1
  have fp1 : Fr (· = ob) h2 (h2.put ob (some ⟨is ((List.replicate B 0).set 0 1), true⟩)) := Fr.put _ (.inl rfl)
  generalize h2.put ob (some ⟨is ((List.replicate B 0).set 0 1), true⟩) = h3 at *
  refine RunO.index (s := 1) (k := 1) rfl rfl rfl rfl (by omega) rfl ?_
  refine RunO.store rfl rfl (store1_ow oo1 rfl rfl rfl (by rw [is_len, List.length_set, List.length_replicate]; omega)) (RunO.nil ?_)
  rw [is_set, show ((List.replicate B (0 : Int)).set 0 1).set 1 1 = c00 B from rfl]
  have oo2 : Ow (h3.put ob (some ⟨is (c00 B), true⟩)) ob (is (c00 B)) := Ow.put _ oo1.1
  have fp2 : Fr (· = ob) h3 (h3.put ob (some ⟨is (c00 B), true⟩)) := Fr.put _ (.inl rfl)
  generalize h3.put ob (some ⟨is (c00 B), true⟩) = h4 at *
  have fp := fp1.same fp2
  have ox4 := ox.fr fp (fun e => by have e : xb = ob := e; omega)
  have F4 : Fr no h h4 := (f1.same f2).trans fp (fun b e => .inr (by have e : b = ob := e; have := f1.next; omega))
  -- the marks
  refine RunC.seq (RunC.region (RunO.part 1 rfl ?_))
  refine RunO.make (m := B) rfl rfl rfl rfl rfl rfl (show 1 * B ≤ _ by omega) (by omega) rfl ?_
  rw [reps_bo]
  have om := Ow.push h4 (bo (List.replicate B false))
  have f5 : Fr no h4 (h4.push ⟨bo (List.replicate B false), true⟩) := Fr.push _ _ _
  have hob4 : ob < h4.next := oo2.1
  replace ox := ox4.fr f5 (fun g => g)
  replace oo := oo2.fr f5 (fun g => g)
  have F5 := F4.same f5
  generalize h4.push ⟨bo (List.replicate B false), true⟩ = h5 at *
  obtain ⟨mb, hmb⟩ : ∃ q, q = h4.next := ⟨_, rfl⟩
  rw [← hmb] at om ⊢
  have hne : xb ≠ ob ∧ xb ≠ mb ∧ ob ≠ mb := ⟨by omega, by omega, by omega⟩
  have hobn : h.next ≤ ob := by have := f1.next; omega
  have hmbn : h.next ≤ mb := by omega
  refine RunO.all rfl ?_
  have hcb0 : CB B 1 (c00 B) := by
    unfold c00
    refine CB.set (CB.set ⟨List.length_replicate, fun x hx => ?_⟩ ⟨by decide, by decide⟩) ⟨by decide, by decide⟩
    rw [List.eq_of_mem_replicate hx]; decide
  obtain ⟨rt, hrt⟩ : ∃ r, r = (lkS L).2.2.1 := ⟨_, rfl⟩
  rw [← hrt] at hrc hroot
  obtain ⟨z, hze⟩ := Int.eq_ofNat_of_zero_le (show 0 ≤ rt by omega)
  have hzB : z < B := by omega
  -- the root
  refine RunC.seqc (fun E' h' => Ow h' ob (is (bmp (c00 B) rt)) ∧ Fr (· = ob) h5 h' ∧ Le ((upd (upd (upd (upd (upd E0 0 (iv)) 3 (.pointer (some ⟨xb, 0, none⟩))) 5 (.int .i64 (B : Int))) 7 (.slice (some ⟨ob, 0, none⟩) B (exc B))) 8 (.slice (some ⟨mb, 0, none⟩) B (exc B)))) E') ?rt ?nx
  case rt =>
    refine RunC.seq (RunC.region (RunO.part 3 rfl ?_))
    refine RunO.load (v := .int .i64 rt) rfl (by rw [hrt]; exact ox.ld rfl) rfl ?_
    subst hze
    refine RunO.all rfl ?_
    by_cases hz0 : (z : Int) = 0
    · refine RunC.cond (t := false) (by show some (Value.bool (!decide ((z : Int) = 0))) = _; rw [decide_eq_true hz0]; rfl) (fun g => by cases g) (fun _ => RunC.skip ?_)
      refine ⟨?_, Fr.refl _ _, Le.cons rfl (Le.cons rfl (Le.cons rfl (Le.cons rfl (Le.cons rfl (Le.nil _)))))⟩
      unfold bmp; rw [if_pos hz0]; exact oo
    · refine RunC.cond (t := true) (by show some (Value.bool (!decide ((z : Int) = 0))) = _; rw [decide_eq_false hz0]; rfl) (fun _ => ?_) (fun g => by cases g)
      have hgq := hcb0.get (by omega) z
      refine RunC.region (RunO.part 4 rfl ?_)
      refine RunO.load (v := .int .i64 (z : Int)) rfl (by rw [hrt]; exact ox.ld rfl) rfl ?_
      refine RunO.index (s := 1) (k := z) rfl rfl rfl rfl hzB rfl ?_
      refine RunO.load (v := .int .i64 ((c00 B).getD z 0)) rfl (oo.ld (ig_at0 (by rw [hcb0.1]; exact hzB))) rfl ?_
      refine RunO.part 1 rfl ?_
      rw [fw64 (x := (c00 B).getD z 0 + 1) (by omega) (by omega)]
      refine RunO.index (s := 1) (k := z) rfl rfl rfl rfl hzB rfl ?_
      refine RunO.store rfl rfl (store1_ow oo rfl rfl rfl (by rw [is_len, hcb0.1]; omega)) (RunO.nil ?_)
      rw [is_set, ← bmp_nat hz0]
      exact ⟨Ow.put _ oo.1, Fr.put _ (.inl rfl), Le.cons rfl (Le.cons rfl (Le.cons rfl (Le.cons rfl (Le.cons rfl (Le.nil _)))))⟩
  rintro E' g0 ⟨oo, fg0, hE⟩
  refine RunC.le hE ?_
  clear hE
  clear ox4 oo1 oo2 fp fp1 fp2
  have hcb1 : CB B 2 (bmp (c00 B) rt) := (hcb0.bmp (by decide) rt).le (by decide)
  have om0 := om.fr fg0 (fun e => by have e : mb = ob := e; omega)
  -- the records
  obtain ⟨P, hP⟩ : ∃ P, P = (lkF L).2.1.zip ((lkF L).1.map (·.ro)) := ⟨_, rfl⟩
  rw [← hP] at hrc
  have hPl : P.length = (lkF L).1.length := by rw [hP, List.length_zip, List.length_map]; omega
  have hbm : (bmp (c00 B) rt).length = B := hcb1.1
  generalize bmp (c00 B) rt = c1 at *
  refine RunC.seq (RunC.seq (RunC.region (RunO.all rfl ?_)))
  refine RunC.block ?_
  refine RunC.loop (fun d E h' => ∃ i : Nat, i + d = P.length ∧ Ow h' ob (is ((P.take i).foldl (fun c x => bmp (bmp c x.1) x.2) c1)) ∧ CB B (2 + 2 * (i : Nat)) ((P.take i).foldl (fun c x => bmp (bmp c x.1) x.2) c1) ∧ Fr (· = ob) h5 h' ∧ Le ((upd (upd (upd (upd (upd (upd E0 0 (iv)) 3 (.pointer (some ⟨xb, 0, none⟩))) 5 (.int .i64 (B : Int))) 7 (.slice (some ⟨ob, 0, none⟩) B (exc B))) 8 (.slice (some ⟨mb, 0, none⟩) B (exc B))) 9 (.int .i64 (i : Int)))) E) ?s1 (k := P.length) ?i1
  case i1 => exact ⟨0, by omega, oo, hcb1.le (by omega), fg0, Le.cons rfl (Le.cons rfl (Le.cons rfl (Le.cons rfl (Le.cons rfl (Le.cons rfl (Le.nil _))))))⟩
  clear oo om0 fg0
  rintro d E g1 ⟨i, hi, oo, hcb, fg, hE⟩
  refine RunC.le hE ?_
  clear hE
  have ox1 := ox.fr fg (fun e => by have e : xb = ob := e; omega)
  have F1 : Fr no h g1 := F5.trans fg (fun b e => .inr (by have e : b = ob := e; omega))
  refine RunC.seq (RunC.seq (RunC.region (RunO.part 3 rfl ?_)))
  refine RunO.load (v := .slice rA (lkF L).1.length rc_) rfl (ox1.ld rfl) rfl ?_
  refine RunO.all rfl ?_
  refine RunC.cond rfl (fun hlt => RunC.skip ?go1) (fun hge => RunC.exit ?ex1)
  case go1 =>
    have hlt := of_decide_eq_true hlt
    have hlt : i < P.length := by omega
    have hib : i < (lkF L).2.1.length := by omega
    have hir : i < (lkF L).1.length := by omega
    have hsn := fold_snoc (fun (c : List Int) (x : Int × Int) => bmp (bmp c x.1) x.2) c1 hlt
    have hPi : P[i] = ((lkF L).2.1[i], (lkF L).1[i].ro) := by
      have : P[i] = ((lkF L).2.1.zip ((lkF L).1.map (·.ro)))[i]'(by rw [← hP]; exact hlt) := by congr 1
      rw [this, List.getElem_zip, List.getElem_map]
    rw [hPi] at hsn
    have hr1 := hbr _ (List.getElem_mem hib)
    have hr2 := hro _ (List.getElem_mem hir)
    have hpt := is_part hib
    have hf1 : apart prog 3 (recCs (lkF L).1) (i * 8 + 3) = some (.int .i64 (lkF L).1[i].ro) := by rw [recCs_fld hir (by decide)]; rfl
    obtain ⟨a, ha⟩ := Int.eq_ofNat_of_zero_le (show 0 ≤ (lkF L).2.1[i] by omega)
    obtain ⟨y, hy⟩ := Int.eq_ofNat_of_zero_le (show 0 ≤ (lkF L).1[i].ro by omega)
    rw [ha] at hsn hpt hr1
    rw [hy] at hsn hf1 hr2
    have haB : a < B := by omega
    have hyB : y < B := by omega
    generalize (P.take i).foldl (fun c x => bmp (bmp c x.1) x.2) c1 = c2 at *
    have hga := hcb.get (by omega) a
    have ha0 : (a : Int) ≠ 0 := by omega
    refine RunC.seq (RunC.block ?_)
    refine RunC.seq (RunC.region (RunO.part 2 rfl ?_))
    refine RunO.load (v := .slice bA (lkF L).2.1.length bc) rfl (ox1.ld rfl) rfl ?_
    refine RunO.part 1 rfl ?_
    refine RunO.at (s := 1) (k := i) rfl rfl (sbl.fr0 F1) rfl rfl hib hpt rfl rfl rfl ?_
    refine RunO.index (s := 1) (k := a) rfl rfl rfl rfl haB rfl ?_
    refine RunO.load (v := .int .i64 (c2.getD a 0)) rfl (oo.ld (ig_at0 (by rw [hcb.1]; exact haB))) rfl ?_
    refine RunO.part 1 rfl ?_
    rw [fw64 (x := c2.getD a 0 + 1) (by omega) (by omega)]
    refine RunO.index (s := 1) (k := a) rfl rfl rfl rfl haB rfl ?_
    refine RunO.store rfl rfl (store1_ow oo rfl rfl rfl (by rw [is_len, hcb.1]; omega)) (RunO.nil ?_)
    rw [is_set, ← bmp_nat ha0]
    have hcb2 : CB B (2 + 2 * (i : Nat) + 1) (bmp c2 (a : Int)) := hcb.bmp (by omega) _
    have oo2 : Ow (g1.put ob (some ⟨is (bmp c2 (a : Int)), true⟩)) ob (is (bmp c2 (a : Int))) := Ow.put _ oo.1
    have fg2 : Fr (· = ob) g1 (g1.put ob (some ⟨is (bmp c2 (a : Int)), true⟩)) := Fr.put _ (.inl rfl)
    generalize g1.put ob (some ⟨is (bmp c2 (a : Int)), true⟩) = g2 at *
    have fgg := fg.same fg2
    have ox2 := ox1.fr fg2 (fun e => by have e : xb = ob := e; omega)
    have F2 : Fr no h g2 := F5.trans fgg (fun b e => .inr (by have e : b = ob := e; omega))
    generalize bmp c2 (a : Int) = c3 at *
    refine RunC.seq (RunC.region (RunO.part 2 rfl ?_))
    refine RunO.load (v := .slice rA (lkF L).1.length rc_) rfl (ox2.ld rfl) rfl ?_
    refine RunO.part 1 rfl ?_
    refine RunO.fldG (k := i) (off := 3) rfl (fun _ => rfl) (fun _ _ => rfl) rfl rfl (srl.fr0 F2) rfl rfl hir (fun _ _ => rfl) hf1 rfl rfl rfl rfl rfl ?_
    refine RunO.all rfl ?_
    refine RunC.seq (RunC.region (RunO.all rfl ?_))
    have hcb4 : CB B (2 + 2 * ((i + 1 : Nat) : Int)) (bmp c3 (y : Int)) := (hcb2.bmp (by omega) _).le (by omega)
    by_cases hy0 : (y : Int) = 0
    · refine RunC.cond (t := false) (by show some (Value.bool (!decide ((y : Int) = 0))) = _; rw [decide_eq_true hy0]; rfl) (fun g => by cases g) (fun _ => RunC.skip ?_)
      refine RunC.region (RunO.all rfl ?_)
      have e : bmp c3 (y : Int) = c3 := by unfold bmp; rw [if_pos hy0]
      refine ⟨d - 1, by omega, i + 1, by omega, by rw [hsn, e]; exact oo2, by rw [hsn]; exact hcb4, fgg, Le.cons (inc64 (by omega)) (Le.cons rfl (Le.cons rfl (Le.cons rfl (Le.cons rfl (Le.cons rfl (Le.nil _))))))⟩
    · refine RunC.cond (t := true) (by show some (Value.bool (!decide ((y : Int) = 0))) = _; rw [decide_eq_false hy0]; rfl) (fun _ => ?_) (fun g => by cases g)
      have hgy := hcb2.get (by omega) y
      refine RunC.region (RunO.part 2 rfl ?_)
      refine RunO.index (s := 1) (k := y) rfl rfl rfl rfl hyB rfl ?_
      refine RunO.load (v := .int .i64 (c3.getD y 0)) rfl (oo2.ld (ig_at0 (by rw [hcb2.1]; exact hyB))) rfl ?_
      refine RunO.part 1 rfl ?_
      rw [fw64 (x := c3.getD y 0 + 1) (by omega) (by omega)]
      refine RunO.index (s := 1) (k := y) rfl rfl rfl rfl hyB rfl ?_
      refine RunO.store rfl rfl (store1_ow oo2 rfl rfl rfl (by rw [is_len, hcb2.1]; omega)) (RunO.nil ?_)
      rw [is_set, ← bmp_nat hy0]
      refine RunC.region (RunO.all rfl ?_)
      exact ⟨d - 1, by omega, i + 1, by omega, by rw [hsn]; exact Ow.put _ oo2.1, by rw [hsn]; exact hcb4, fgg.same (Fr.put _ (.inl rfl)), Le.cons (inc64 (by omega)) (Le.cons rfl (Le.cons rfl (Le.cons rfl (Le.cons rfl (Le.cons rfl (Le.nil _))))))⟩
  have hge := of_decide_eq_false hge
  obtain rfl : i = P.length := by omega
  rw [List.take_length] at oo hcb
  generalize P.foldl (fun c x => bmp (bmp c x.1) x.2) c1 = c2 at *
  have ox1 := ox.fr fg (fun e => by have e : xb = ob := e; omega)
  have om1 := om.fr fg (fun e => by have e : mb = ob := e; omega)
  have hwi : ∀ b, b = ob → b = ob ∨ b = mb := fun b e => .inl e
  have fgw : Fr (fun b => b = ob ∨ b = mb) h5 g1 := fg.weak (fun b e => .inl (.inl e))
  have hobm : ∀ b, (b = ob ∨ b = mb) → False ∨ h.next ≤ b := fun b e => .inr (by rcases e with e | e <;> omega)
  have hPn : P.length ≤ 4096 := by omega
  have hcb := hcb.le (show 2 + 2 * ((P.length : Nat) : Int) ≤ 10000 by omega)
  have oxF : ∀ {g : Heap}, Fr (fun b => b = ob ∨ b = mb) h5 g → Ow g xb (imx (lkS L) slot (.slice rA (lkF L).1.length rc_) (.slice bA (lkF L).2.1.length bc) mv (.slice nA (lkR L).length nc_)) := fun f => ox.fr f (fun e => by rcases e with e | e <;> omega)
  have hFF : ∀ {g : Heap}, Fr (fun b => b = ob ∨ b = mb) h5 g → Fr no h g := fun f => F5.trans f (fun b e => .inr (by rcases e with e | e <;> omega))
  clear fg ox1
  refine RunC.seq (RunC.seq (RunC.region (RunO.all rfl ?_)))
  refine RunC.block ?_
  refine RunC.loop (fun d E h' => ∃ (i : Nat) (st : List Int × List Bool), i + d = (lkR L).length ∧ st = (((lkR L).take i).flatMap fun p => treeN L p.1).foldl (nodeB L) (c2, List.replicate B false) ∧ Ow h' ob (is st.1) ∧ Ow h' mb (bo st.2) ∧ CB B (10000 + 1000 * (i : Nat)) st.1 ∧ st.2.length = B ∧ Fr (fun b => b = ob ∨ b = mb) h5 h' ∧ Le ((upd (upd (upd (upd (upd (upd E0 0 (iv)) 3 (.pointer (some ⟨xb, 0, none⟩))) 5 (.int .i64 (B : Int))) 7 (.slice (some ⟨ob, 0, none⟩) B (exc B))) 8 (.slice (some ⟨mb, 0, none⟩) B (exc B))) 11 (.int .i64 (i : Int)))) E) ?s2 (k := (lkR L).length) ?i2
  case i2 => exact ⟨0, _, by omega, rfl, oo, om1, hcb.le (by omega), List.length_replicate, fgw, Le.cons rfl (Le.cons rfl (Le.cons rfl (Le.cons rfl (Le.cons rfl (Le.cons rfl (Le.nil _))))))⟩
  clear oo om1 hcb fgw
  rintro d E g2 ⟨i, st, hi, hst, oo, om, hcb, hml, fg, hE⟩
  refine RunC.le hE ?_
  clear hE
  refine RunC.seq (RunC.seq (RunC.region (RunO.part 2 rfl ?_)))
  refine RunO.load (v := .slice nA (lkR L).length nc_) rfl ((oxF fg).ld rfl) rfl ?_
  refine RunO.all rfl ?_
  refine RunC.cond rfl (fun hlt => RunC.skip ?go2) (fun hge => RunC.exit ?ex2)
  case ex2 =>
    have hge := of_decide_eq_false hge
    obtain rfl : i = (lkR L).length := by omega
    rw [List.take_length] at hst
    rw [← hst] at hrc
    rw [hrc]
    refine RunC.seq (RunC.region (RunO.all rfl (RunC.ret ⟨_, rfl, hFF fg, ob, by omega, rfl, oo, hcb.le (by omega)⟩)))
  have hlt := of_decide_eq_true hlt
  have hlt : i < (lkR L).length := by omega
  obtain ⟨p, hpe⟩ : ∃ p, p = (lkR L)[i] := ⟨_, rfl⟩
  have hpm : p ∈ lkR L := by rw [hpe]; exact List.getElem_mem hlt
  have hrn := (hrng p hpm).2
  have hpx := fun x hx => hptr p hpm x hx
  have hnl := treeN_len L p.1
  have tkN : (((lkR L).take (i + 1)).flatMap fun p => treeN L p.1) = (((lkR L).take i).flatMap fun p => treeN L p.1) ++ treeN L p.1 := by
    rw [List.take_succ_eq_append_getElem hlt, List.flatMap_append, ← hpe]; simp
  obtain ⟨nw, enw, snw, _⟩ := jn.2 i (treeN L p.1) (by rw [List.getElem?_map, List.getElem?_eq_getElem hlt, ← hpe]; rfl)
  obtain ⟨nwA, nwc, rfl, _, _⟩ := snw.form
  have pnw := nth_sl enw
  refine RunC.seq (RunC.block ?_)
  refine RunC.seq (RunC.region (RunO.all rfl ?_))
  refine RunC.block ?_
  refine RunC.loop (fun d E h' => ∃ (j : Nat) (su : List Int × List Bool), j + d = (treeN L p.1).length ∧ su = ((treeN L p.1).take j).foldl (nodeB L) st ∧ Ow h' ob (is su.1) ∧ Ow h' mb (bo su.2) ∧ CB B (10000 + 1000 * (i : Nat) + 8 * (j : Nat)) su.1 ∧ su.2.length = B ∧ Fr (fun b => b = ob ∨ b = mb) h5 h' ∧ Le ((upd (upd (upd (upd (upd (upd (upd E0 0 (iv)) 3 (.pointer (some ⟨xb, 0, none⟩))) 5 (.int .i64 (B : Int))) 7 (.slice (some ⟨ob, 0, none⟩) B (exc B))) 8 (.slice (some ⟨mb, 0, none⟩) B (exc B))) 11 (.int .i64 (i : Int))) 12 (.int .i64 (j : Int)))) E) ?s3 (k := (treeN L p.1).length) ?i3
  case i3 => exact ⟨0, st, by omega, rfl, oo, om, hcb.le (by omega), hml, fg, Le.cons rfl (Le.cons rfl (Le.cons rfl (Le.cons rfl (Le.cons rfl (Le.cons rfl (Le.cons rfl (Le.nil _)))))))⟩
  clear oo om hcb hml fg
  rintro d2 E g3 ⟨j, su, hj, hsu, oo, om, hcb, hml, fg, hE⟩
  refine RunC.le hE ?_
  clear hE
  have F3 := hFF fg
  refine RunC.seq (RunC.seq (RunC.region (RunO.part 2 rfl ?_)))
  refine RunO.load (v := .slice nA (lkR L).length nc_) rfl ((oxF fg).ld rfl) rfl ?_
  refine RunO.part 1 rfl ?_
  refine RunO.at (s := 1) (k := i) rfl rfl (snl.fr0 F3) rfl rfl hlt pnw rfl rfl rfl ?_
  refine RunO.all rfl ?_
  refine RunC.cond rfl (fun hlt3 => RunC.skip ?go3) (fun hge3 => RunC.exit ?ex3)
  case ex3 =>
    have hge3 := of_decide_eq_false hge3
    obtain rfl : j = (treeN L p.1).length := by omega
    rw [List.take_length] at hsu
    refine RunC.region (RunO.all rfl ?_)
    exact ⟨d - 1, by omega, i + 1, su, by omega, by rw [tkN, List.foldl_append, ← hst]; exact hsu, oo, om, hcb.le (by omega), hml, fg, Le.cons (inc64 (by omega)) (Le.cons rfl (Le.cons rfl (Le.cons rfl (Le.cons rfl (Le.cons rfl (Le.nil _))))))⟩
  have hlt3 := of_decide_eq_true hlt3
  have hlt3 : j < (treeN L p.1).length := by omega
  have hpt := is_part hlt3
  have hym := List.getElem_mem hlt3
  have hr := hrn _ hym
  have hpx := hpx _ hym
  have hsn := fold_snoc (nodeB L) st hlt3
  rw [← hsu] at hsn
  obtain ⟨y, hy⟩ := Int.eq_ofNat_of_zero_le (show 0 ≤ (treeN L p.1)[j] by omega)
  rw [hy] at hpt hr hpx hsn
  have hyB : y < B := by omega
  have hnb : nodeB L su (y : Int) = if su.2.getD y false then su else ((wPs L (y : Int)).foldl bmp su.1, su.2.set y true) := rfl
  refine RunC.seqc (fun E' h' => ∃ sv : List Int × List Bool, sv = nodeB L su (y : Int) ∧ Ow h' ob (is sv.1) ∧ Ow h' mb (bo sv.2) ∧ CB B (10000 + 1000 * (i : Nat) + 8 * ((j + 1 : Nat) : Int)) sv.1 ∧ sv.2.length = B ∧ Fr (fun b => b = ob ∨ b = mb) h5 h' ∧ Le ((upd (upd (upd (upd (upd (upd (upd E0 0 (iv)) 3 (.pointer (some ⟨xb, 0, none⟩))) 5 (.int .i64 (B : Int))) 7 (.slice (some ⟨ob, 0, none⟩) B (exc B))) 8 (.slice (some ⟨mb, 0, none⟩) B (exc B))) 11 (.int .i64 (i : Int))) 12 (.int .i64 (j : Int)))) E') ?pt ?nq
  case nq =>
    rintro E' gc ⟨sv, hsv, oo, om, hcb, hml, fg, hE⟩
    refine RunC.le hE ?_
    clear hE
    refine RunC.region (RunO.all rfl ?_)
    exact ⟨d2 - 1, by omega, j + 1, sv, by omega, by rw [hsn]; exact hsv, oo, om, hcb, hml, fg, Le.cons (inc64 (by omega)) (Le.cons rfl (Le.cons rfl (Le.cons rfl (Le.cons rfl (Le.cons rfl (Le.cons rfl (Le.nil _)))))))⟩
  refine RunC.block ?_
  refine RunC.seq (RunC.region (RunO.part 1 rfl ?_))
  refine RunO.load (v := .slice nA (lkR L).length nc_) rfl ((oxF fg).ld rfl) rfl ?_
  refine RunO.part 1 rfl ?_
  refine RunO.at (s := 1) (k := i) rfl rfl (snl.fr0 F3) rfl rfl hlt pnw rfl rfl rfl ?_
  refine RunO.part 1 rfl ?_
  refine RunO.at (s := 1) (k := j) rfl rfl (snw.fr0 F3) rfl rfl hlt3 hpt rfl rfl rfl ?_
  refine RunO.all rfl ?_
  -- met
  refine RunC.seq (RunC.seq (RunC.region (RunO.part 2 rfl ?_)))
  refine RunO.index (s := 1) (k := y) rfl rfl rfl rfl hyB rfl ?_
  refine RunO.load (v := .bool (su.2.getD y false)) rfl (om.ld (bo_at0 (by rw [hml]; exact hyB))) rfl ?_
  refine RunO.all rfl ?_
  cases hmet : su.2.getD y false with
  | true =>
    rw [hmet, if_pos rfl] at hnb
    refine RunC.cond rfl (fun _ => RunC.exit ?_) (fun g => by cases g)
    exact ⟨su, hnb.symm, oo, om, hcb.le (by omega), hml, fg, Le.cons rfl (Le.cons rfl (Le.cons rfl (Le.cons rfl (Le.cons rfl (Le.cons rfl (Le.cons rfl (Le.nil _)))))))⟩
  | false =>
  rw [hmet, if_neg Bool.false_ne_true] at hnb
  refine RunC.cond rfl (fun g => by cases g) (fun _ => RunC.skip ?_)
  refine RunC.seq (RunC.region (RunO.part 2 rfl ?_))
  refine RunO.index (s := 1) (k := y) rfl rfl rfl rfl hyB rfl ?_
  refine RunO.store rfl rfl (store1_ow om rfl rfl rfl (by rw [bo_len, hml]; omega)) (RunO.nil ?_)
  rw [bo_set]
  have om4 : Ow (g3.put mb (some ⟨bo (su.2.set y true), true⟩)) mb (bo (su.2.set y true)) := Ow.put _ om.1
  have fm : Fr (· = mb) g3 (g3.put mb (some ⟨bo (su.2.set y true), true⟩)) := Fr.put _ (.inl rfl)
  have oo4 := oo.fr fm (fun e => hne.2.2 e)
  have fg4 := fg.trans fm (fun b e => .inl (.inr e))
  generalize g3.put mb (some ⟨bo (su.2.set y true), true⟩) = g4 at *
  have F4_ := hFF fg4
  have hyL : (y + 1) * 64 ≤ L.length := by
    have := Nat.mul_le_mul_right 64 (show y + 1 ≤ B by omega)
    omega
  refine RunC.seq (RunC.region (RunO.part 2 rfl ?_))
  refine RunO.callD (refBlock_ok (i := y) (sl.fr0 F4_) hyL hm) rfl rfl rfl ?_
  rintro bv_ _ ⟨slb, rfl⟩
  have hbl := blkI_len hyL
  refine RunO.callD (refParseNode_ok (by rw [hbl]; exact slb) (byt_blk hb y)) rfl rfl rfl ?_
  rintro _ g5 ⟨rfl, f5⟩
  have hvl := nodV_len (blkI L y)
  have hwp : wPs L (y : Int) = (nodV (blkI L y)).2 := rfl
  rw [hwp] at hpx hnb
  generalize nodV (blkI L y) = nd at *
  obtain ⟨lw, ps⟩ := nd
  simp only at hvl hpx hnb
  refine RunO.part 4 (h1 := g5.push ⟨nc 0 nZero, true⟩) rfl ?_
  refine RunO.store rfl rfl (nc_store (lv := lw) (ps := ps) (Ow.push g5 (nc 0 nZero)) rfl hvl rfl) (RunO.all rfl ?_)
  have on : Ow ((g5.push ⟨nc 0 nZero, true⟩).put g5.next (some ⟨nc lw ps, true⟩)) g5.next (nc lw ps) := Ow.put _ (Nat.lt_succ_self _)
  have f6 : Fr no g5 ((g5.push ⟨nc 0 nZero, true⟩).put g5.next (some ⟨nc lw ps, true⟩)) := (Fr.push _ _ _).trans (Fr.put (m := (· = g5.next)) _ (.inl rfl)) (fun j hj => .inr (by omega))
  have f56 := f5.same f6
  have hqn : ob < g5.next ∧ mb < g5.next := ⟨by have := oo4.1; have := f5.next; omega, by have := om4.1; have := f5.next; omega⟩
  replace oo4 := oo4.fr f56 (fun g => g)
  replace om4 := om4.fr f56 (fun g => g)
  replace fg4 := fg4.quiet f56
  generalize (g5.push ⟨nc 0 nZero, true⟩).put g5.next (some ⟨nc lw ps, true⟩) = g6 at *
  obtain ⟨qb, hqb⟩ : ∃ q, q = g5.next := ⟨_, rfl⟩
  rw [← hqb] at on hqn ⊢
  refine RunC.seq (RunC.region (RunO.all rfl ?_))
  refine RunC.block ?_
  refine RunC.loop (fun d E h' => ∃ k : Nat, k + d = 8 ∧ Ow h' ob (is ((ps.take k).foldl bmp su.1)) ∧ Ow h' mb (bo (su.2.set y true)) ∧ Ow h' qb (nc lw ps) ∧ CB B (10000 + 1000 * (i : Nat) + 8 * (j : Nat) + (k : Nat)) ((ps.take k).foldl bmp su.1) ∧ Fr (fun b => b = ob ∨ b = mb) h5 h' ∧ Le ((upd (upd (upd (upd (upd (upd (upd (upd (upd E0 0 (iv)) 3 (.pointer (some ⟨xb, 0, none⟩))) 5 (.int .i64 (B : Int))) 7 (.slice (some ⟨ob, 0, none⟩) B (exc B))) 8 (.slice (some ⟨mb, 0, none⟩) B (exc B))) 11 (.int .i64 (i : Int))) 12 (.int .i64 (j : Int))) 14 (.pointer (some ⟨qb, 0, none⟩))) 16 (.int .i64 (k : Int)))) E) ?s4 (k := 8) ?i4
  case i4 => exact ⟨0, by omega, oo4, om4, on, hcb.le (by omega), fg4, Le.cons rfl (Le.cons rfl (Le.cons rfl (Le.cons rfl (Le.cons rfl (Le.cons rfl (Le.cons rfl (Le.cons rfl (Le.cons rfl (Le.nil _)))))))))⟩
  clear oo4 om4 on fg4
  rintro d3 E g7 ⟨k, hk, oo, om, on, hcbk, fg, hE⟩
  refine RunC.le hE ?_
  clear hE
  refine RunC.seq (RunC.seq (RunC.region (RunO.all rfl ?_)))
  refine RunC.cond rfl (fun hlt4 => RunC.skip ?go4) (fun hge4 => RunC.exit ?ex4)
  case ex4 =>
    have hge4 := of_decide_eq_false hge4
    obtain rfl : k = 8 := by omega
    rw [List.take_of_length_le (by omega)] at oo hcbk
    exact ⟨_, hnb.symm, oo, om, hcbk.le (by omega), by show (su.2.set y true).length = B; rw [List.length_set]; exact hml, fg, Le.cons rfl (Le.cons rfl (Le.cons rfl (Le.cons rfl (Le.cons rfl (Le.cons rfl (Le.cons rfl (Le.nil _)))))))⟩
  have hkl := of_decide_eq_true hlt4
  have hk8 : k < 8 := by omega
  have hkl : k < ps.length := by omega
  have hsn3 := fold_snoc bmp su.1 (l := ps) hkl
  have hpp := hpx ps[k] (List.getElem_mem hkl)
  have hld : apart prog 3 (nc lw ps) (1 + k * 1) = some (.int .i64 ps[k]) := by
    show nth (nc lw ps) (1 + k * 1) = _
    rw [Nat.mul_one, Nat.add_comm]; exact is_nth hkl
  generalize ps[k] = x at *
  obtain ⟨z, rfl⟩ := Int.eq_ofNat_of_zero_le (show 0 ≤ x by omega)
  have hzB : z < B := by omega
  have hcbn : CB B (10000 + 1000 * (i : Nat) + 8 * (j : Nat) + (k + 1 : Nat)) ((ps.take (k + 1)).foldl bmp su.1) := by
    rw [hsn3]; exact (hcbk.bmp (by omega) _).le (by omega)
  refine RunC.seq (RunC.block ?_)
  refine RunC.seq (RunC.region (RunO.part 2 rfl ?_))
  refine RunO.indexA (s := 1) rfl rfl rfl rfl rfl hk8 rfl ?_
  refine RunO.load (v := .int .i64 (z : Int)) rfl (on.ld hld) rfl (RunO.all rfl ?_)
  by_cases hz0 : (z : Int) = 0
  · refine RunC.cond (t := false) (by show some (Value.bool (!decide ((z : Int) = 0))) = _; rw [decide_eq_true hz0]; rfl) (fun g => by cases g) (fun _ => RunC.skip ?_)
    refine RunC.region (RunO.all rfl ?_)
    refine ⟨d3 - 1, by omega, k + 1, by omega, ?_, om, on, hcbn, fg, Le.cons (inc64 (by omega)) (Le.cons rfl (Le.cons rfl (Le.cons rfl (Le.cons rfl (Le.cons rfl (Le.cons rfl (Le.cons rfl (Le.cons rfl (Le.nil _)))))))))⟩
    rw [hsn3]; unfold bmp; rw [if_pos hz0]; exact oo
  · refine RunC.cond (t := true) (by show some (Value.bool (!decide ((z : Int) = 0))) = _; rw [decide_eq_false hz0]; rfl) (fun _ => ?_) (fun g => by cases g)
    generalize hcc : (ps.take k).foldl bmp su.1 = cc at *
    have hgz := hcbk.get (by omega) z
    refine RunC.region (RunO.part 3 rfl ?_)
    refine RunO.indexA (s := 1) rfl rfl rfl rfl rfl hk8 rfl ?_
    refine RunO.load (v := .int .i64 (z : Int)) rfl (on.ld hld) rfl ?_
    refine RunO.index (s := 1) (k := z) rfl rfl rfl rfl hzB rfl ?_
    refine RunO.load (v := .int .i64 (cc.getD z 0)) rfl (oo.ld (ig_at0 (by rw [hcbk.1]; exact hzB))) rfl ?_
    refine RunO.part 1 rfl ?_
    rw [fw64 (x := cc.getD z 0 + 1) (by omega) (by omega)]
    refine RunO.index (s := 1) (k := z) rfl rfl rfl rfl hzB rfl ?_
    refine RunO.store rfl rfl (store1_ow oo rfl rfl rfl (by rw [is_len, hcbk.1]; omega)) (RunO.nil ?_)
    rw [is_set, ← bmp_nat hz0, ← hsn3]
    refine RunC.region (RunO.all rfl ?_)
    have fp : Fr (· = ob) g7 (g7.put ob (some ⟨is ((ps.take (k + 1)).foldl bmp su.1), true⟩)) := Fr.put _ (.inl rfl)
    exact ⟨d3 - 1, by omega, k + 1, by omega, Ow.put _ oo.1, om.fr fp (fun e => hne.2.2 e.symm), on.fr fp (fun e => by have e : qb = ob := e; omega), hcbn, fg.trans fp (fun b e => .inl (.inl e)), Le.cons (inc64 (by omega)) (Le.cons rfl (Le.cons rfl (Le.cons rfl (Le.cons rfl (Le.cons rfl (Le.cons rfl (Le.cons rfl (Le.cons rfl (Le.nil _)))))))))⟩
end Go.Proofs.Ytnokcbenpnmnbaa
end
section
set_option linter.unusedVariables false
set_option linter.unusedSectionVars false
set_option maxRecDepth 100000
open Go Go.Am Go.RowKit
namespace Go.Proofs.Ytnokcbenpnmnbaa
open Go.Proofs.Try
/-- What the page's Open tells. -/
structure OpenR (h : Heap) (L : List Int) (S : S5) (slot : Int) (rv bv mv nv : Value) (fb : Int) : Prop where
  cells : allCells (imx S slot rv bv mv nv) = true
  good : (lk L).2 = 0 → S = lkS L ∧ slot = (pickS L).2.1 ∧ fb = 0 ∧ Sl h rv 8 (lkF L).1.length (recCs (lkF L).1) ∧ Sl h bv 1 (lkF L).2.1.length (is (lkF L).2.1) ∧ ∃ cm cn, Sl h mv 1 (lkR L).length cm ∧ JEl (fun _ => True) h cm ((lkR L).map fun p => treeM L p.1) ∧ Sl h nv 1 (lkR L).length cn ∧ JEl (fun _ => True) h cn ((lkR L).map fun p => treeN L p.1)
  bad : (lk L).2 ≠ 0 → S = (0, 0, 0, 0, 0) ∧ slot = 0 ∧ fb = (lk L).1 ∧ rv = .slice none 0 0 ∧ bv = .slice none 0 0 ∧ mv = .slice none 0 0 ∧ nv = .slice none 0 0
theorem OpenR.fr0 {h h' : Heap} {L : List Int} {S : S5} {slot : Int} {rv bv mv nv : Value} {fb : Int} (r : OpenR h L S slot rv bv mv nv fb) (f : Fr no h h') : OpenR h' L S slot rv bv mv nv fb := by
  refine ⟨r.cells, fun g => ?_, r.bad⟩
  obtain ⟨a1, a2, a3, a4, a5, cm, cn, a6, a7, a8, a9⟩ := r.good g
  exact ⟨a1, a2, a3, a4.fr0 f, a5.fr0 f, cm, cn, a6.fr0 f, a7.fr0 f, a8.fr0 f, a9.fr0 f⟩
theorem sl_cell {h : Heap} {v : Value} {s n : Nat} {cs : List Value} (r : Sl h v s n cs) : isCell v = true := by
  obtain ⟨A, c, rfl, _, _⟩ := r.form
  rfl
theorem imx_cells {S : S5} {slot : Int} {rv bv mv nv : Value} (h1 : isCell rv = true) (h2 : isCell bv = true) (h3 : isCell mv = true) (h4 : isCell nv = true) : allCells (imx S slot rv bv mv nv) = true := by
  show cond (isCell rv) (cond (isCell bv) (cond (isCell mv) (cond (isCell nv) true false) false) false) false = true
  rw [h1, h2, h3, h4]; rfl
theorem refOpen10_u {h : Heap} {iv : Value} {L : List Int} (sl : Sl h iv 1 L.length (us L)) (hb : Byt L) (hm : L.length ≤ 4611686018427387904) :
    RunF prog 15 [iv] h fun v h' => Fr no h h' ∧ ∃ S slot rv bv mv nv fb, v = .tuple #[.agg ⟨imx S slot rv bv mv nv⟩, .agg ⟨[.int .i64 fb, .int .i64 (lk L).2]⟩] ∧ OpenR h' L S slot rv bv mv nv fb := by
  refine (refOpen10_ok sl hb hm).mono ?_
  rintro v h' ⟨f, ⟨g, rv, bv, mv, nv, cm, cn, rfl, a1, a2, a3, a4, a5, a6⟩ | ⟨g, rfl⟩⟩
  · exact ⟨f, _, _, rv, bv, mv, nv, 0, by rw [g], imx_cells (sl_cell a1) (sl_cell a2) (sl_cell a3) (sl_cell a5), fun _ => ⟨rfl, rfl, rfl, a1, a2, cm, cn, a3, a4, a5, a6⟩, fun e => absurd g e⟩
  · exact ⟨f, _, _, _, _, _, _, _, rfl, rfl, fun e => absurd e g, fun _ => ⟨rfl, rfl, rfl, rfl, rfl, rfl, rfl⟩⟩
theorem imx_store (S : S5) (slot : Int) (rv bv mv nv : Value) : (imx (0, 0, 0, 0, 0) 0 (.slice none 0 0) (.slice none 0 0) (.slice none 0 0) (.slice none 0 0)).take 0 ++ cellsOf (.agg ⟨imx S slot rv bv mv nv⟩) ++ (imx (0, 0, 0, 0, 0) 0 (.slice none 0 0) (.slice none 0 0) (.slice none 0 0) (.slice none 0 0)).drop (0 + 10) = imx S slot rv bv mv nv := rfl
end Go.Proofs.Ytnokcbenpnmnbaa
end
section
set_option linter.unusedVariables false
set_option linter.unusedSectionVars false
set_option maxRecDepth 100000
open Go Go.Am Go.RowKit
namespace Go.Proofs.Ytnokcbenpnmnbaa
open Go.Proofs.Try
/-- The numbers below n with p, in order. -/
def idxs (p : Nat → Bool) (n : Nat) : List Int := ((List.range n).filter p).map fun (j : Nat) => (j : Int)
def cntI (p : Nat → Bool) (n : Nat) : Nat := ((List.range n).filter p).length
def posP (c : List Int) (j : Nat) : Bool := decide (c.getD j 0 > 0)
def shP (c : List Int) (j : Nat) : Bool := decide ((j : Int) ≥ 2) && decide (c.getD j 0 > 1)
theorem idxs_len (p : Nat → Bool) (n : Nat) : (idxs p n).length = cntI p n := List.length_map _
theorem cntI_le (p : Nat → Bool) (n : Nat) : cntI p n ≤ n := by
  unfold cntI
  have := List.length_filter_le p (List.range n)
  rwa [List.length_range] at this
theorem idxs_yes {p : Nat → Bool} {n : Nat} (h : p n = true) : idxs p (n + 1) = idxs p n ++ [(n : Int)] := by
  unfold idxs
  rw [List.range_succ, List.filter_append, List.map_append, List.filter_cons_of_pos h]; rfl
theorem idxs_no {p : Nat → Bool} {n : Nat} (h : p n = false) : idxs p (n + 1) = idxs p n := by
  unfold idxs
  rw [List.range_succ, List.filter_append, List.map_append, List.filter_cons_of_neg (by rw [h]; decide)]
  exact List.append_nil _
theorem idxs_mem {p : Nat → Bool} {n : Nat} {x : Int} : x ∈ idxs p n ↔ ∃ j : Nat, j < n ∧ p j = true ∧ x = (j : Int) := by
  unfold idxs
  rw [List.mem_map]
  constructor
  · rintro ⟨j, hj, rfl⟩
    rw [List.mem_filter, List.mem_range] at hj
    exact ⟨j, hj.1, hj.2, rfl⟩
  · rintro ⟨j, h1, h2, rfl⟩
    exact ⟨j, List.mem_filter.2 ⟨List.mem_range.2 h1, h2⟩, rfl⟩
section
variable {h : Heap} {iv : Value} {L : List Int} (sl : Sl h iv 1 L.length (us L)) (hb : Byt L) (hm : L.length ≤ 4611686018427387904)
include sl hb hm
set_option maxHeartbeats 4000000 in
theorem walkCounts_ok : RunF prog 44 [iv] h fun v h' => Fr no h h' ∧ (((lk L).2 = 0 ∧ CB (L.length / 64) 5000000000 (cntL L) ∧ ∃ b, h.next ≤ b ∧ v = .tuple #[.slice (some ⟨b, 0, none⟩) (L.length / 64) (exc (L.length / 64)), .int .i64 0] ∧ Ow h' b (is (cntL L))) ∨ ((lk L).2 ≠ 0 ∧ v = .tuple #[.slice none 0 0, .int .i64 (lk L).2])) := by
  refine RunF.walk func44 rfl rfl ?_
  refine RunC.seq (RunC.region (RunO.all rfl ?_))
  refine RunC.seq (RunC.region (RunO.part 1 rfl ?_))
  refine RunO.callD (openLook_ok sl hb hm) rfl rfl rfl ?_
  rintro _ h1 ⟨f1, ⟨g, xb, rfl, lr⟩ | ⟨g, rfl⟩⟩
  · refine RunO.all rfl ?_
    refine RunC.seq (RunC.seq (RunC.region (RunO.all rfl (RunC.cond rfl (fun g => by cases g) (fun _ => RunC.skip ?_)))))
    refine RunC.seq (RunC.region (RunO.part 2 rfl ?_))
    refine RunO.callD (walkOf_ok (sl.fr0 f1) hb g lr) rfl rfl rfl ?_
    rintro _ h2 ⟨f2, cb, b, hbn, rfl, ow⟩
    refine RunO.all rfl ?_
    exact RunC.ret ⟨_, rfl, f1.same f2, .inl ⟨g, cb, b, by have := f1.next; omega, rfl, ow⟩⟩
  · refine RunO.all rfl ?_
    refine RunC.seq (RunC.seq (RunC.region (RunO.all rfl (RunC.cond (t := true) (by show some (Value.bool (!decide ((lk L).2 = 0))) = _; rw [decide_eq_false g]; rfl) (fun _ => ?_) (fun g => by cases g)))))
    refine RunC.seq (RunC.region (RunO.all rfl ?_))
    exact RunC.ret ⟨_, rfl, f1, .inr ⟨g, rfl⟩⟩
/-- How many are reached. -/
def usedL (L : List Int) : Nat := if (lk L).2 = 0 then cntI (posP (cntL L)) (L.length / 64) else 0
def sharedL (L : List Int) : List Int := if (lk L).2 = 0 then idxs (shP (cntL L)) (L.length / 64) else []
end
end Go.Proofs.Ytnokcbenpnmnbaa
end
section
set_option linter.unusedVariables false
set_option linter.unusedSectionVars false
set_option maxRecDepth 100000
open Go Go.Am Go.RowKit
namespace Go.Proofs.Ytnokcbenpnmnbaa
open Go.Proofs.Try

/-- What is free, by the page. -/
def frP (c : List Int) (j : Nat) : Bool := decide ((j : Int) ≥ 2) && (c.getD j 0 == 0)
set_option maxHeartbeats 8000000 in
theorem refFree_ok {h : Heap} {v : Value} {l : List Int} (sl : Sl h v 1 l.length (is l)) (hm : 2 ≤ l.length) (hm2 : l.length ≤ 1000000) : RunF prog 20 [v] h fun r h' => Row h.next h' r 1 (idxs (frP l) l.length).length (is (idxs (frP l) l.length)) ∧ Fr no h h' := by
  have sl0 := sl
  obtain ⟨A, c, rfl, _, _⟩ := sl.form
  refine RunF.walk func20 rfl rfl ?_
  refine RunC.seq (RunC.region (RunO.all rfl ?_))
  refine RunC.seq (RunC.region (RunO.all rfl ?_))
  refine RunC.seq (RunC.seq (RunC.region (RunO.all rfl ?_)))
  refine RunC.block ?_
  have h2 : idxs (frP l) 2 = [] := by
    have e0 : frP l 0 = false := rfl
    have e1 : frP l 1 = false := rfl
    rw [show 2 = 0 + 1 + 1 from rfl, idxs_no e1, idxs_no e0]; rfl
  refine RunC.loop (fun d E h' => ∃ (i : Nat) (av : Value), i + d = l.length ∧ 2 ≤ i ∧ Fr no h h' ∧ Row h.next h' av 1 (idxs (frP l) i).length (is (idxs (frP l) i)) ∧ Le ((upd (upd (upd E0 0 (.slice A l.length c)) 3 (av)) 4 (.int .i64 (i : Int)))) E) ?st (k := l.length - 2) ?ini
  case ini => exact ⟨2, .slice none 0 0, by omega, Nat.le_refl _, Fr.refl _ _, by rw [h2]; exact Row.nil _ _ _, Le.cons rfl (Le.cons rfl (Le.cons rfl (Le.nil _)))⟩
  rintro d E h7 ⟨i, av, hi, hi2, f7, rowa, hE⟩
  refine RunC.le hE ?_
  clear hE
  refine RunC.seq (RunC.seq (RunC.region (RunO.all rfl ?_)))
  refine RunC.cond rfl (fun hlt => RunC.skip ?go) (fun hge => RunC.exit ?ex)
  case ex =>
    have hge := of_decide_eq_false hge
    obtain rfl : i = l.length := by omega
    exact RunC.seq (RunC.region (RunO.all rfl (RunC.ret ⟨_, rfl, rowa, f7⟩)))
  have hlt := of_decide_eq_true hlt
  have hlt : i < l.length := by omega
  have hcs := cntI_le (frP l) i
  have hil := idxs_len (frP l) i
  have hpt := ig_at (l := l) (i := i) hlt
  have e : frP l i = (l.getD i 0 == 0) := by unfold frP; rw [decide_eq_true (by omega), Bool.true_and]
  refine RunC.seq (RunC.block ?_)
  refine RunC.seq (RunC.region (RunO.part 2 rfl ?_))
  refine RunO.at (s := 1) (k := i) rfl rfl (sl0.fr0 f7) rfl rfl hlt hpt rfl rfl rfl ?_
  refine RunO.part 1 rfl ?_
  rw [← e]
  cases hp : frP l i with
  | true =>
    refine RunO.all rfl (RunC.cond rfl (fun _ => ?_) (fun g => by cases g))
    refine RunC.region (RunO.part 2 rfl ?_)
    refine RunO.part 1 (h1 := h7.push ⟨[.int .i64 (i : Int)], true⟩) rfl ?_
    have ol := Ow.push h7 [.int .i64 (i : Int)]
    have e3 : Fr no h7 (h7.push ⟨[.int .i64 (i : Int)], true⟩) := Fr.push _ _ _
    have row3 := rowa.gr.fr0 e3
    generalize h7.push ⟨[.int .i64 (i : Int)], true⟩ = g3 at *
    refine RunO.appendG (s := 1) (j := 1) rfl rfl rfl rfl rfl rfl rfl rfl (by decide) row3 ol.all rfl (Nat.le_refl 1) rfl (by show 2 * (_ + 1) * 8 ≤ _; omega) (by omega) ?_
    intro av2 g4 row4 e4
    refine RunO.all rfl ?_
    refine RunC.region (RunO.all rfl ?_)
    refine ⟨d - 1, by omega, i + 1, av2, by omega, by omega, (f7.same e3).trans e4 (fun b a => .inr (row3.at a).1), ?_, Le.cons (inc64 (by omega)) (Le.cons rfl (Le.cons rfl (Le.nil _)))⟩
    rw [idxs_yes hp, List.length_append, show is (idxs (frP l) i ++ [(i : Int)]) = is (idxs (frP l) i) ++ [.int .i64 (i : Int)] from List.map_append]
    exact Row.lo row4 (f7.same e3).next
  | false =>
    refine RunO.all rfl (RunC.cond rfl (fun g => by cases g) (fun _ => RunC.skip ?_))
    refine RunC.region (RunO.all rfl ?_)
    refine ⟨d - 1, by omega, i + 1, av, by omega, by omega, f7, ?_, Le.cons (inc64 (by omega)) (Le.cons rfl (Le.cons rfl (Le.nil _)))⟩
    rw [idxs_no hp]
    exact rowa
end Go.Proofs.Ytnokcbenpnmnbaa
end
section
set_option linter.unusedVariables false
set_option linter.unusedSectionVars false
set_option maxRecDepth 100000
open Go Go.Am Go.RowKit
namespace Go.Proofs.Ytnokcbenpnmnbaa
open Go.Proofs.Try
/- With no trees only the slots and the records are reached. -/
theorem cnt_zeros (L : List Int) : ∀ (l : List (Int × Int)) (st : List Int × List Bool), (∀ p ∈ l, p.1 = 0) → (l.map fun p => (p.1, treeN L p.1)).foldl (treeB L) st = st
  | [], st, h => rfl
  | p :: l, st, h => by
    have h0 := h p (List.mem_cons_self ..)
    rw [List.map_cons, List.foldl_cons, h0]
    have : treeB L st (0, treeN L 0) = st := rfl
    rw [this]
    exact cnt_zeros L l st (fun q hq => h q (List.mem_cons_of_mem _ hq))
theorem cnt_zero {L : List Int} (h : ∀ p ∈ lkR L, p.1 = 0) : cntL L = c0L (L.length / 64) (lkF L).2.1 := by
  unfold cntL wRs
  rw [cnt_zeros L _ _ h]
theorem cnt_new {B : Nat} (h4 : 4 ≤ B) (hB : B ≤ 4096) : cntL (newI B) = c0L B [] := by
  obtain ⟨_, hF, hS⟩ := lk_new h4 hB
  rw [cnt_zero, hF, newI_len (by omega), Nat.mul_div_cancel _ (by decide)]
  intro p hp
  unfold lkR at hp
  rw [hF, hS] at hp
  have hp : p ∈ [((0 : Int), (0 : Int))] := hp
  rw [List.mem_singleton] at hp
  rw [hp]
end Go.Proofs.Ytnokcbenpnmnbaa
end
section
set_option linter.unusedVariables false
set_option linter.unusedSectionVars false
set_option maxRecDepth 100000
open Go Go.Am Go.RowKit
namespace Go.Proofs.Ytnokcbenpnmnbaa
open Go.Proofs.Try
def ftc (l : List (Int × Int)) : List Value := l.flatMap fun p => is [p.1, p.2]
theorem ftc_get {l : List (Int × Int)} {i : Nat} (h : i < l.length) : ((ftc l).drop (i * 2)).take 2 = is [l[i].1, l[i].2] := by
  induction l generalizing i with
  | nil => exact absurd h (Nat.not_lt_zero _)
  | cons x l ih =>
    cases i with
    | zero => rfl
    | succ i =>
      have e : ftc (x :: l) = is [x.1, x.2] ++ ftc l := rfl
      rw [e, List.drop_append, show (i + 1) * 2 - (is [x.1, x.2]).length = i * 2 by show (i + 1) * 2 - 2 = _; omega, List.drop_eq_nil_of_le (by show 2 ≤ _; omega), List.nil_append, ih (by simpa using h)]; rfl
theorem ftc_part {l : List (Int × Int)} {i : Nat} (h : i < l.length) : apart prog 40 (ftc l) (i * 2) = some (.agg ⟨is [l[i].1, l[i].2]⟩) := by
  show (match takeN 2 (dropN (i * 2) (ftc l)) with | some l => some (Value.agg ⟨l⟩) | none => none) = _
  have hlen : ∀ l : List (Int × Int), (ftc l).length = l.length * 2 := fun l => by
    induction l with
    | nil => rfl
    | cons x l ih => show (is [x.1, x.2] ++ ftc l).length = _; rw [List.length_append, ih, List.length_cons]; show 2 + _ = _; omega
  rw [takeN_eq, dropN_eq, ftc_get h, if_pos (by rw [List.length_drop, hlen]; omega)]
theorem fault_ne (a b c d : Int) : abinop prog .neq 40 (.agg ⟨is [a, b]⟩) (.agg ⟨is [c, d]⟩) = some (.bool (!(a == c && b == d))) := by
  have h : abinop prog .neq 40 (.agg ⟨is [a, b]⟩) (.agg ⟨is [c, d]⟩) = eqOp .neq (match some (a == c) with
    | some true => (match some (b == d) with
      | some true => some true
      | some false => some false
      | none => none)
    | some false => some false
    | none => none) := by kernel_rfl
  rw [h]
  cases (a == c) <;> cases (b == d) <;> rfl
theorem keepFaults_ok {h : Heap} {v w : Value} {l m : List (Int × Int)} (sl : Sl h v 2 l.length (ftc l)) (sm : Sl h w 2 m.length (ftc m)) (hl : l.length ≤ 4611686018427387904) :
    RunF prog 18 [v, w] h fun v h' => v = .bool (l == m) ∧ h = h' := by
  refine RunF.walk func18 rfl rfl ?_
  obtain ⟨A, c, rfl, hc, _⟩ := sl.form
  obtain ⟨B, d, rfl, hd, _⟩ := sm.form
  refine RunC.seq (RunC.region (RunO.all rfl ?_))
  refine RunC.seq (RunC.seq (RunC.region (RunO.all rfl ?_)))
  by_cases hn : l.length = m.length
  case neg =>
    rw [show ((l.length : Int) != (m.length : Int)) = true from bne_iff_ne.2 (by omega)]
    refine RunC.cond rfl (fun _ => ?_) (fun g => by cases g)
    rw [show (l == m) = false from beq_eq_false_iff_ne.2 (fun e => hn (by rw [e]))]
    exact RunC.seq (RunC.region (RunO.all rfl (RunC.ret ⟨_, rfl, rfl, rfl⟩)))
  rw [show ((l.length : Int) != (m.length : Int)) = false from by rw [hn]; exact bne_self_eq_false _]
  refine RunC.cond rfl (fun g => by cases g) (fun _ => RunC.skip ?_)
  refine RunC.seq (RunC.seq (RunC.region (RunO.all rfl ?_)))
  refine RunC.block ?_
  refine RunC.loop (fun k E h' => ∃ i : Nat, i + k = l.length ∧ l.take i = m.take i ∧ h' = h ∧ Le (upd (upd (upd E0 0 (.slice A l.length c)) 1 (.slice B m.length d)) 5 (.int .i64 (i : Int))) E) ?st (k := l.length) ?ini
  case ini => exact ⟨0, by omega, rfl, rfl, Le.cons rfl (Le.cons rfl (Le.cons rfl (Le.nil _)))⟩
  rintro k E _ ⟨i, hi, ht, rfl, hE⟩
  refine RunC.le hE ?_
  clear hE
  refine RunC.seq (RunC.seq (RunC.region (RunO.all rfl ?_)))
  refine RunC.cond rfl (fun hlt => RunC.skip ?go) (fun hge => RunC.exit ?ex)
  case go =>
    have hlt := of_decide_eq_true hlt
    have h1 : i < l.length := by omega
    have h2 : i < m.length := by omega
    refine RunC.seq (RunC.block ?_)
    refine RunC.seq (RunC.draw0 rfl (RunO.part 2 rfl ?_))
    refine RunO.at (s := 2) (k := i) rfl rfl sl rfl rfl h1 (ftc_part h1) rfl rfl rfl ?_
    refine RunO.part 2 rfl ?_
    refine RunO.at (s := 2) (k := i) rfl rfl sm rfl rfl h2 (ftc_part h2) rfl rfl rfl ?_
    refine RunO.bin rfl rfl (fault_ne _ _ _ _) rfl (RunO.nil ?_)
    by_cases he : l[i] = m[i]
    · rw [show (!(l[i].1 == m[i].1 && l[i].2 == m[i].2)) = false by simp [he]]
      refine RunC.cond rfl (fun g => by cases g) (fun _ => RunC.skip ?_)
      refine RunC.region (RunO.all rfl ?_)
      refine ⟨k - 1, by omega, i + 1, by omega, ?_, rfl, Le.cons (inc64 (by omega)) (Le.cons rfl (Le.cons rfl (Le.nil _)))⟩
      rw [List.take_succ_eq_append_getElem h1, List.take_succ_eq_append_getElem h2, ht, he]
    · rw [show (!(l[i].1 == m[i].1 && l[i].2 == m[i].2)) = true by
        rw [Bool.not_eq_true', Bool.eq_false_iff]
        intro g
        rw [Bool.and_eq_true, beq_iff_eq, beq_iff_eq] at g
        exact he (Prod.ext g.1 g.2)]
      refine RunC.cond rfl (fun _ => ?_) (fun g => by cases g)
      have hlm : (l == m) = false := beq_eq_false_iff_ne.2 (fun e => he (by simp [e]))
      rw [hlm]
      exact RunC.seq (RunC.region (RunO.all rfl (RunC.ret ⟨_, rfl, rfl, rfl⟩)))
  have hge := of_decide_eq_false hge
  have hi2 : i = l.length := by omega
  rw [hi2, List.take_length, hn, List.take_length] at ht
  have hlm : (l == m) = true := beq_iff_eq.2 ht
  rw [hlm]
  exact RunC.seq (RunC.region (RunO.all rfl (RunC.ret ⟨_, rfl, rfl, rfl⟩)))
section
variable {h : Heap} {iv : Value} {L : List Int} (sl : Sl h iv 1 L.length (us L)) (hb : Byt L) (hm : L.length ≤ 4611686018427387904)
include sl hb hm
theorem fsckCheck_ok : RunF prog 13 [iv] h fun v h' => Fr no h h' ∧ (((lk L).2 = 0 ∧ v = .slice none 0 0) ∨ ((lk L).2 ≠ 0 ∧ ∃ b, h.next ≤ b ∧ v = .slice (some ⟨b, 0, none⟩) 1 (exc 1) ∧ Ow h' b (ftc [lk L]))) := by
  refine RunF.walk func13 rfl rfl ?_
  refine RunC.seq (RunC.region (RunO.all rfl ?_))
  refine RunC.seq (RunC.region (RunO.part 1 rfl ?_))
  refine RunO.callD (openLook_ok sl hb hm) rfl rfl rfl ?_
  rintro _ h1 ⟨f1, ⟨g, xb, rfl, lr⟩ | ⟨g, rfl⟩⟩
  · refine RunO.all rfl ?_
    refine RunC.seq (RunC.seq (RunC.region (RunO.all rfl (RunC.cond rfl (fun _ => ?_) (fun g => by cases g)))))
    refine RunC.seq (RunC.region (RunO.all rfl ?_))
    exact RunC.ret ⟨_, rfl, f1, .inl ⟨g, rfl⟩⟩
  · refine RunO.all rfl ?_
    refine RunC.seq (RunC.seq (RunC.region (RunO.all rfl (RunC.cond (t := false) (by show some (Value.bool (decide ((lk L).2 = 0))) = _; rw [decide_eq_false g]) (fun g => by cases g) (fun _ => RunC.skip ?_)))))
    refine RunC.seq (RunC.region (RunO.part 4 (h1 := h1.push ⟨is [(lk L).1, (lk L).2], true⟩) rfl (RunO.all rfl ?_)))
    have hn := f1.next
    exact RunC.ret ⟨_, rfl, f1.same (Fr.push _ _ _), .inr ⟨g, h1.next, hn, rfl, Ow.push h1 _⟩⟩
theorem fsckSound_ok : RunF prog 17 [iv] h fun v h' => v = .bool (decide ((lk L).2 = 0)) ∧ Fr no h h' := by
  refine RunF.walk func17 rfl rfl ?_
  refine RunC.seq (RunC.region (RunO.all rfl ?_))
  refine RunC.seq (RunC.region (RunO.part 1 rfl ?_))
  refine RunO.callD (fsckCheck_ok sl hb hm) rfl rfl rfl ?_
  rintro _ h1 ⟨f1, ⟨g, rfl⟩ | ⟨g, b, _, rfl, _⟩⟩
  · rw [decide_eq_true g]
    exact RunO.all rfl (RunC.ret ⟨_, rfl, rfl, f1⟩)
  · rw [decide_eq_false g]
    exact RunO.all rfl (RunC.ret ⟨_, rfl, rfl, f1⟩)
/-- What is lost. -/
def lostP (L : List Int) (j : Nat) : Bool := (((cntL L).getD j 0 == 0) && !(zerosN (blkI L j) 0 64))
def lostL (L : List Int) : List Int := if (lk L).2 = 0 then idxs (lostP L) (L.length / 64) else []
set_option maxHeartbeats 8000000 in
theorem fsckLost_ok : RunF prog 14 [iv] h fun v h' => Fr no h h' ∧ ∃ ov, v = .tuple #[ov, .int .i64 (lk L).2] ∧ Row h.next h' ov 1 (lostL L).length (is (lostL L)) := by
  refine RunF.walk func14 rfl rfl ?_
  have hdv : (lk L).2 = 0 → L.length % 64 = 0 ∧ 4 ≤ L.length / 64 ∧ L.length / 64 ≤ 4096 := fun g => by
    have hd := (lk_trees g).1
    unfold devOk at hd
    simpa using hd
  obtain ⟨B, hB⟩ : ∃ B, B = L.length / 64 := ⟨_, rfl⟩
  by_cases g0 : (lk L).2 = 0
  case neg =>
    refine RunC.seq (RunC.region (RunO.all rfl ?_))
    refine RunC.seq (RunC.region (RunO.part 1 rfl ?_))
    refine RunO.callD (walkCounts_ok sl hb hm) rfl rfl rfl ?_
    rintro _ h1 ⟨f1, ⟨g, _⟩ | ⟨g, rfl⟩⟩
    · exact absurd g g0
    refine RunO.all rfl ?_
    refine RunC.seq (RunC.seq (RunC.region (RunO.all rfl (RunC.cond (t := true) (by show some (Value.bool (!decide ((lk L).2 = 0))) = _; rw [decide_eq_false g]; rfl) (fun _ => ?_) (fun g => by cases g)))))
    refine RunC.seq (RunC.region (RunO.all rfl ?_))
    refine RunC.ret ⟨_, rfl, f1, _, rfl, ?_⟩
    unfold lostL; rw [if_neg g]; exact Row.nil _ _ _
  obtain ⟨h64, hB4, hB9⟩ := hdv g0
  have hul : lostL L = idxs (lostP L) B := by unfold lostL; rw [if_pos g0, hB]
  rw [hul, g0]
  obtain ⟨ab, ao, c, rfl, hc, rdI⟩ := sl.nz (by omega)
  refine RunC.seq (RunC.region (RunO.all rfl ?_))
  refine RunC.seq (RunC.region (RunO.part 1 rfl ?_))
  refine RunO.callD (walkCounts_ok sl hb hm) rfl rfl rfl ?_
  rintro _ h1 ⟨f1, ⟨g, cb, b, hbn, rfl, ow⟩ | ⟨g, _⟩⟩
  case inr => exact absurd g0 g
  rw [← hB] at cb hB4 hB9 ⊢
  have slc : Sl h1 (.slice (some ⟨b, 0, none⟩) B (exc B)) 1 B (is (cntL L)) := by have := sl_owI ow cb.1 (Cp.exc (Nat.le_refl _)) (by omega); rwa [cb.1] at this
  have hn1 := f1.next
  have hcl : (cntL L).length = B := cb.1
  refine RunO.all rfl ?_
  refine RunC.seq (RunC.seq (RunC.region (RunO.all rfl (RunC.cond rfl (fun g => by cases g) (fun _ => RunC.skip ?_)))))
  refine RunC.seq (RunC.region (RunO.all rfl ?_))
  refine RunC.seq ?_
  refine RunC.seq (RunC.region (RunO.all rfl ?_))
  refine RunC.block ?_
  refine RunC.loop (fun d E h' => ∃ (i : Nat) (ov : Value), i + d = B ∧ Fr no h1 h' ∧ Row h1.next h' ov 1 (idxs (lostP L) i).length (is (idxs (lostP L) i)) ∧ Le ((upd (upd (upd (upd (upd E0 0 (.slice (some ⟨ab, ao, none⟩) L.length c)) 17 (.slice (some ⟨b, 0, none⟩) B (exc B))) 18 (.int .i64 (B : Int))) 6 (ov)) 19 (.int .i64 (i : Int)))) E) ?st1 (k := B) ?ini1
  case ini1 => exact ⟨0, .slice none 0 0, by omega, Fr.refl _ _, Row.nil _ _ _, Le.cons rfl (Le.cons rfl (Le.cons rfl (Le.cons rfl (Le.cons rfl (Le.nil _)))))⟩
  rintro d E g1 ⟨i, ov, hi, fg, row, hE⟩
  refine RunC.le hE ?_
  clear hE
  refine RunC.seq (RunC.region (RunO.all rfl ?_))
  refine RunC.seq (RunC.cond rfl (fun hlt => RunC.skip ?go1) (fun hge => RunC.exit ?ex1))
  case ex1 =>
    have hge := of_decide_eq_false hge
    obtain rfl : i = B := by omega
    refine RunC.seq (RunC.region (RunO.all rfl ?_))
    exact RunC.ret ⟨_, rfl, f1.same fg, _, rfl, Row.lo row hn1⟩
  have hlt := of_decide_eq_true hlt
  have hlt : i < B := by omega
  have hci := cntI_le (lostP L) i
  rw [← idxs_len] at hci
  have haL : (i + 1) * 64 ≤ L.length := by omega
  refine RunC.seq (RunC.block ?_)
  refine RunC.seq (RunC.region (RunO.part 1 rfl ?_))
  refine RunO.at (s := 1) (m := B) (k := i) rfl rfl (slc.fr0 fg) rfl rfl hlt (ig_at (by rw [cb.1]; exact hlt)) rfl rfl rfl (RunO.all rfl ?_)
  refine RunC.seqE (upd ((upd (upd (upd (upd (upd (upd E0 0 (.slice (some ⟨ab, ao, none⟩) L.length c)) 17 (.slice (some ⟨b, 0, none⟩) B (exc B))) 18 (.int .i64 (B : Int))) 6 (ov)) 19 (.int .i64 (i : Int))) 7 (.int .i64 (i : Int)))) 32 (.bool (lostP L i))) ?_ ?_
  · refine RunC.region (RunO.part 2 rfl ?_)
    unfold lostP
    refine RunO.part 1 rfl ?_
    cases hz : ((cntL L).getD i 0 == 0) with
    | false =>
      exact RunO.all rfl ⟨rfl, Le.cons rfl (Le.cons rfl (Le.cons rfl (Le.cons rfl (Le.cons rfl (Le.cons rfl (Le.cons rfl (Le.nil _)))))))⟩
    | true =>
      refine RunO.part 2 rfl ?_
      refine RunO.callDG rfl (devOf_ok (o := ao) haL hm hc) rfl rfl rfl ?_
      rintro _ _ ⟨⟨c', hc', rfl⟩, rfl⟩
      have hbl := blkI_len haL
      have hz0 := leZeros_ok (h := g1) (c := c') (k := 0) (m := 64) (l := blkI L i) (rdBlk ((rdI.fr f1 (fun g => g)).fr fg (fun g => g)) haL) (by rw [hbl]; exact Nat.le_refl _) (by rw [hbl]; decide) (by decide)
      rw [hbl] at hz0
      refine RunO.callDG rfl hz0 rfl rfl rfl ?_
      rintro _ _ ⟨rfl, rfl⟩
      exact RunO.all rfl ⟨rfl, Le.cons rfl (Le.cons rfl (Le.cons rfl (Le.cons rfl (Le.cons rfl (Le.cons rfl (Le.cons rfl (Le.nil _)))))))⟩
  cases hp : lostP L i with
  | true =>
    refine RunC.cond rfl (fun _ => ?_) (fun g => by cases g)
    refine RunC.region (RunO.part 3 (h1 := g1.push ⟨is [(i : Int)], true⟩) rfl ?_)
    have ot := Ow.push g1 (is [(i : Int)])
    have f6 : Fr no g1 (g1.push ⟨is [(i : Int)], true⟩) := Fr.push _ _ _
    have hrx : ∀ b, At ov b → h1.next ≤ b := fun b g => (row.at g).1
    replace row := row.fr f6 (fun _ _ _ g => g)
    have fg6 := fg.same f6
    have hn6 := fg6.next
    generalize g1.push ⟨is [(i : Int)], true⟩ = g6 at *
    refine RunO.appendG (s := 1) (j := 1) rfl rfl rfl rfl rfl rfl rfl rfl (by decide) row.gr ot.all rfl (Nat.le_refl 1) rfl (by show 2 * (_ + 1) * 8 ≤ _; omega) (by omega) ?_
    intro ov2 g7 row f7
    have fg7 : Fr no h1 g7 := fg6.trans f7 (fun b g => .inr (by have := hrx b g; omega))
    have e1 : is (idxs (lostP L) i) ++ is [(i : Int)] = is (idxs (lostP L) (i + 1)) := by
      rw [idxs_yes hp]; exact (List.map_append ..).symm
    have e2 : (idxs (lostP L) i).length + 1 = (idxs (lostP L) (i + 1)).length := by rw [idxs_yes hp, List.length_append]; rfl
    rw [e1, e2] at row
    refine RunO.all rfl ?_
    refine RunC.region (RunO.all rfl ?_)
    exact ⟨d - 1, by omega, i + 1, ov2, by omega, fg7, Row.lo row hn6, Le.cons (inc64 (by omega)) (Le.cons rfl (Le.cons rfl (Le.cons rfl (Le.cons rfl (Le.nil _)))))⟩
  | false =>
    refine RunC.cond rfl (fun g => by cases g) (fun _ => RunC.skip ?_)
    refine RunC.region (RunO.all rfl ?_)
    refine ⟨d - 1, by omega, i + 1, ov, by omega, fg, ?_, Le.cons (inc64 (by omega)) (Le.cons rfl (Le.cons rfl (Le.cons rfl (Le.cons rfl (Le.nil _)))))⟩
    rw [idxs_no hp]; exact row
end
end Go.Proofs.Ytnokcbenpnmnbaa
end
section
set_option linter.unusedVariables false
set_option linter.unusedSectionVars false
set_option maxRecDepth 100000
open Go Go.Am Go.RowKit
namespace Go.Proofs.Ytnokcbenpnmnbaa
open Go.Proofs.Try
/- Which blocks are reached. -/
def Pos (c : List Int) (i : Nat) : Prop := 0 < c.getD i 0
def NN (B : Nat) (c : List Int) : Prop := c.length = B ∧ ∀ x ∈ c, 0 ≤ x
theorem NN.get {B : Nat} {c : List Int} (h : NN B c) (j : Nat) : 0 ≤ c.getD j 0 := by
  rw [List.getD_eq_getElem?_getD]
  cases e : c[j]? with
  | none => exact Int.le_refl _
  | some x => exact h.2 x (List.mem_of_getElem? e)
theorem NN.set {B : Nat} {c : List Int} (h : NN B c) {j : Nat} {v : Int} (hv : 0 ≤ v) : NN B (c.set j v) := by
  refine ⟨by rw [List.length_set]; exact h.1, fun x hx => ?_⟩
  rcases List.mem_or_eq_of_mem_set hx with g | g
  · exact h.2 x g
  · rw [g]; exact hv
theorem NN.bmp {B : Nat} {c : List Int} (h : NN B c) (p : Int) : NN B (bmp c p) := by
  unfold Go.Proofs.Ytnokcbenpnmnbaa.bmp
  split
  · exact h
  · have := h.get p.toNat
    exact h.set (by omega)
def inD (B : Nat) (p : Int) : Prop := p = 0 ∨ (2 ≤ p ∧ p < (B : Int))
theorem bmp_pos {B : Nat} {c : List Int} (h : NN B c) {p : Int} (hp : inD B p) (i : Nat) : Pos (bmp c p) i ↔ Pos c i ∨ (p ≠ 0 ∧ p = (i : Int)) := by
  unfold bmp
  by_cases h0 : p = 0
  · rw [if_pos h0]
    exact ⟨.inl, fun g => g.resolve_right (fun g => g.1 h0)⟩
  rw [if_neg h0]
  have hp := hp.resolve_left h0
  unfold Pos
  rw [getD_set _ _ _ _ (by rw [h.1]; omega)]
  have := h.get p.toNat
  by_cases e : i = p.toNat
  · rw [if_pos e]
    exact ⟨fun _ => .inr ⟨h0, by omega⟩, fun _ => by omega⟩
  · rw [if_neg e]
    exact ⟨.inl, fun g => g.resolve_right (fun g => e (by omega))⟩
theorem bmps_pos {B : Nat} : ∀ (ps : List Int) (c : List Int), NN B c → (∀ p ∈ ps, inD B p) → NN B (ps.foldl bmp c) ∧ ∀ i : Nat, Pos (ps.foldl bmp c) i ↔ Pos c i ∨ ∃ p ∈ ps, p ≠ 0 ∧ p = (i : Int)
  | [], c, h, hp => ⟨h, fun i => ⟨.inl, fun g => g.resolve_right (fun ⟨p, hm, _⟩ => by cases hm)⟩⟩
  | p :: ps, c, h, hp => by
    rw [List.foldl_cons]
    obtain ⟨h1, h2⟩ := bmps_pos ps (bmp c p) (h.bmp p) (fun q hq => hp q (List.mem_cons_of_mem _ hq))
    refine ⟨h1, fun i => ?_⟩
    rw [h2, bmp_pos h (hp p (List.mem_cons_self ..))]
    constructor
    · rintro ((g | g) | ⟨q, hq, g⟩)
      · exact .inl g
      · exact .inr ⟨p, List.mem_cons_self .., g⟩
      · exact .inr ⟨q, List.mem_cons_of_mem _ hq, g⟩
    · rintro (g | ⟨q, hq, g⟩)
      · exact .inl (.inl g)
      · rcases List.mem_cons.1 hq with rfl | hq
        · exact .inl (.inr g)
        · exact .inr ⟨q, hq, g⟩
def Ptd (L : List Int) (a : Int) (i : Nat) : Prop := ∃ p ∈ wPs L a, p ≠ 0 ∧ p = (i : Int)
structure WInv (L : List Int) (B : Nat) (st : List Int × List Bool) (Q : Nat → Prop) : Prop where
  nn : NN B st.1
  len : st.2.length = B
  pos : ∀ i, Pos st.1 i ↔ Q i
  met : ∀ a : Nat, st.2.getD a false = true → ∀ i, Ptd L a i → Q i
theorem WInv.node {L : List Int} {B : Nat} {st : List Int × List Bool} {Q : Nat → Prop} (v : WInv L B st Q) {a : Int} (ha : 2 ≤ a ∧ a < (B : Int)) (hp : ∀ p ∈ wPs L a, inD B p) : WInv L B (nodeB L st a) (fun i => Q i ∨ Ptd L a i) := by
  obtain ⟨y, rfl⟩ := Int.eq_ofNat_of_zero_le (show 0 ≤ a by omega)
  unfold nodeB
  rw [Int.toNat_natCast]
  cases e : st.2.getD y false with
  | true =>
    rw [if_pos rfl]
    refine ⟨v.nn, v.len, fun i => ?_, fun b hb i hi => .inl (v.met b hb i hi)⟩
    rw [v.pos]
    exact ⟨.inl, fun g => g.elim id (v.met y e i)⟩
  | false =>
    rw [if_neg Bool.false_ne_true]
    obtain ⟨h1, h2⟩ := bmps_pos _ _ v.nn hp
    refine ⟨h1, by show (st.2.set y true).length = B; rw [List.length_set]; exact v.len, fun i => ?_, fun b hb i hi => ?_⟩
    · rw [h2, v.pos]; rfl
    · change (st.2.set y true).getD b false = true at hb
      rw [List.getD_eq_getElem?_getD, List.getElem?_set] at hb
      split at hb
      · rename_i g
        subst g
        exact .inr hi
      · exact .inl (v.met b (by rw [List.getD_eq_getElem?_getD]; exact hb) i hi)
theorem WInv.weak {L : List Int} {B : Nat} {st : List Int × List Bool} {Q Q' : Nat → Prop} (v : WInv L B st Q) (h : ∀ i, Q i ↔ Q' i) : WInv L B st Q' :=
  ⟨v.nn, v.len, fun i => (v.pos i).trans (h i), fun a ha i hi => (h i).1 (v.met a ha i hi)⟩
theorem WInv.nodes {L : List Int} {B : Nat} : ∀ (ns : List Int) {st : List Int × List Bool} {Q : Nat → Prop}, WInv L B st Q → (∀ a ∈ ns, (2 ≤ a ∧ a < (B : Int)) ∧ ∀ p ∈ wPs L a, inD B p) → WInv L B (ns.foldl (nodeB L) st) (fun i => Q i ∨ ∃ a ∈ ns, Ptd L a i)
  | [], st, Q, v, h => v.weak (fun i => ⟨.inl, fun g => g.resolve_right (fun ⟨a, hm, _⟩ => by cases hm)⟩)
  | a :: ns, st, Q, v, h => by
    rw [List.foldl_cons]
    have h1 := h a (List.mem_cons_self ..)
    refine (WInv.nodes ns (v.node h1.1 h1.2) (fun b hb => h b (List.mem_cons_of_mem _ hb))).weak (fun i => ?_)
    constructor
    · rintro ((g | g) | ⟨b, hb, g⟩)
      · exact .inl g
      · exact .inr ⟨a, List.mem_cons_self .., g⟩
      · exact .inr ⟨b, List.mem_cons_of_mem _ hb, g⟩
    · rintro (g | ⟨b, hb, g⟩)
      · exact .inl (.inl g)
      · rcases List.mem_cons.1 hb with rfl | hb
        · exact .inl (.inr g)
        · exact .inr ⟨b, hb, g⟩
theorem WInv.tree {L : List Int} {B : Nat} {st : List Int × List Bool} {Q : Nat → Prop} (v : WInv L B st Q) {r : Int} {ns : List Int} (hr : inD B r) (h : ∀ a ∈ ns, (2 ≤ a ∧ a < (B : Int)) ∧ ∀ p ∈ wPs L a, inD B p) : WInv L B (treeB L st (r, ns)) (fun i => Q i ∨ ((r ≠ 0 ∧ r = (i : Int)) ∨ ∃ a ∈ ns, Ptd L a i)) := by
  unfold treeB
  have v1 : WInv L B (bmp st.1 r, st.2) (fun i => Q i ∨ (r ≠ 0 ∧ r = (i : Int))) :=
    ⟨v.nn.bmp r, v.len, fun i => by rw [bmp_pos v.nn hr, v.pos], fun a ha i hi => .inl (v.met a ha i hi)⟩
  exact (WInv.nodes ns v1 h).weak (fun i => or_assoc)
/-- The blocks of a tree: its nodes and its sectors' blocks. -/
def inT (L : List Int) (r : Int) (i : Nat) : Prop := (i : Int) ∈ treeN L r ∨ (i ≠ 0 ∧ (i : Int) ∈ treeM L r)
theorem inT_iff {L : List Int} {r : Int} (hd : devOk L.length = true) (h : treeOk L r = true) (i : Nat) : inT L r i ↔ ((r ≠ 0 ∧ r = (i : Int)) ∨ ∃ a ∈ treeN L r, Ptd L a i) := by
  have hdl : L.length % 64 = 0 ∧ 4 ≤ L.length / 64 ∧ L.length / 64 ≤ 4096 := by
    unfold devOk at hd
    simpa using hd
  obtain ⟨t, tn⟩ := TreeIs.of (by omega) h
  have hrng := (tree_rng hd h).2
  have hlen := t.len
  -- a pointer of a node is a place one deeper
  have up : ∀ d q, d < 3 → q < 8 ^ (d + 1) → look L (L.length / 64) (d + 1) r q ≠ 0 → look L (L.length / 64) d r (q / 8) ∈ treeN L r ∧ look L (L.length / 64) (d + 1) r q ∈ wPs L (look L (L.length / 64) d r (q / 8)) := by
    intro d q hd3 hq h0
    have hl := look_last L (L.length / 64) d r q hq
    have hn0 : look L (L.length / 64) d r (q / 8) ≠ 0 := by
      intro e
      rw [e] at hl
      apply h0
      rw [hl]
      unfold ptrsL
      rw [if_pos rfl]; exact nz_get _
    have hm : look L (L.length / 64) d r (q / 8) ∈ treeN L r := by
      rw [tn]
      exact nodL_mem.2 ⟨hn0, d, q / 8, hd3, by rw [Nat.pow_succ] at hq; omega, rfl⟩
    refine ⟨hm, ?_⟩
    have hr := hrng _ hm
    rw [wPs_ptrs hr.1 hr.2, hl]
    have hpl := ptrsL_len L (L.length / 64) (look L (L.length / 64) d r (q / 8))
    have hq8 : q % 8 < 8 := Nat.mod_lt _ (by decide)
    rw [List.getD_eq_getElem?_getD, List.getElem?_eq_getElem (by omega)]
    exact List.getElem_mem (by omega)
  have dn : ∀ d q, d < 3 → q < 8 ^ d → look L (L.length / 64) d r q ≠ 0 → ∀ i, Ptd L (look L (L.length / 64) d r q) i → ∃ k, k < 8 ∧ look L (L.length / 64) (d + 1) r (q * 8 + k) = (i : Int) ∧ i ≠ 0 := by
    rintro d q hd3 hq h0 i ⟨p, hp, hp0, rfl⟩
    have hm : look L (L.length / 64) d r q ∈ treeN L r := by
      rw [tn]
      exact nodL_mem.2 ⟨h0, d, q, hd3, hq, rfl⟩
    have hr := hrng _ hm
    rw [wPs_ptrs hr.1 hr.2] at hp
    obtain ⟨k, hk, e⟩ := List.mem_iff_getElem.1 hp
    have hpl := ptrsL_len L (L.length / 64) (look L (L.length / 64) d r q)
    refine ⟨k, by omega, ?_, by omega⟩
    have hl := look_last L (L.length / 64) d r (q * 8 + k) (by rw [Nat.pow_succ]; omega)
    rw [hl, show (q * 8 + k) / 8 = q by omega, show (q * 8 + k) % 8 = k by omega, List.getD_eq_getElem?_getD, List.getElem?_eq_getElem hk]
    exact e
  constructor
  · rintro (g | ⟨g0, g⟩)
    · rw [tn] at g
      obtain ⟨h0, d, q, hd3, hq, e⟩ := nodL_mem.1 g
      cases d with
      | zero => exact .inl ⟨by rw [show r = (i : Int) from e]; exact h0, e⟩
      | succ d =>
        obtain ⟨u1, u2⟩ := up d q (by omega) hq (by rw [e]; exact h0)
        rw [e] at u2
        exact .inr ⟨_, u1, _, u2, h0, rfl⟩
    · obtain ⟨q, hq, e⟩ := List.mem_iff_getElem.1 g
      have e3 : look L (L.length / 64) 3 r q = (i : Int) := by
        rw [t.map q (by omega), List.getD_eq_getElem?_getD, List.getElem?_eq_getElem hq]; exact e
      obtain ⟨u1, u2⟩ := up 2 q (by decide) (by rw [show (8 : Nat) ^ (2 + 1) = 512 from rfl]; omega) (by rw [e3]; omega)
      rw [e3] at u2
      exact .inr ⟨_, u1, _, u2, by omega, rfl⟩
  · rintro (⟨h0, e⟩ | ⟨a, ha, hpt⟩)
    · left
      rw [tn, ← e]
      exact nodL_mem.2 ⟨h0, 0, 0, by decide, by decide, rfl⟩
    · rw [tn] at ha
      obtain ⟨h0, d, q, hd3, hq, rfl⟩ := nodL_mem.1 ha
      obtain ⟨k, hk, e, hi0⟩ := dn d q hd3 hq h0 i hpt
      by_cases h2 : d + 1 < 3
      · left
        rw [tn]
        exact nodL_mem.2 ⟨by omega, d + 1, q * 8 + k, h2, by rw [Nat.pow_succ]; omega, e⟩
      · right
        refine ⟨hi0, ?_⟩
        have hd2 : d = 2 := by omega
        subst hd2
        have hq5 : q * 8 + k < 512 := by
          have : (8 : Nat) ^ 2 = 64 := rfl
          omega
        rw [t.map _ hq5] at e
        rw [← e, List.getD_eq_getElem?_getD, List.getElem?_eq_getElem (by omega)]
        exact List.getElem_mem (by omega)
theorem c0_pos {B : Nat} : ∀ (bl : List Int) (c : List Int), NN B c → (∀ x ∈ bl, 2 ≤ x ∧ x < (B : Int)) → NN B (bl.foldl (fun c a => c.set a.toNat 1) c) ∧ ∀ i : Nat, Pos (bl.foldl (fun c a => c.set a.toNat 1) c) i ↔ Pos c i ∨ (i : Int) ∈ bl
  | [], c, h, hb => ⟨h, fun i => ⟨.inl, fun g => g.resolve_right (fun g => by cases g)⟩⟩
  | a :: bl, c, h, hb => by
    rw [List.foldl_cons]
    have ha := hb a (List.mem_cons_self ..)
    obtain ⟨h1, h2⟩ := c0_pos bl (c.set a.toNat 1) (h.set (by decide)) (fun x hx => hb x (List.mem_cons_of_mem _ hx))
    refine ⟨h1, fun i => ?_⟩
    rw [h2, List.mem_cons]
    have : Pos (c.set a.toNat 1) i ↔ Pos c i ∨ (i : Int) = a := by
      unfold Pos
      rw [getD_set _ _ _ _ (by rw [h.1]; omega)]
      by_cases e : i = a.toNat
      · rw [if_pos e]; exact ⟨fun _ => .inr (by omega), fun _ => by decide⟩
      · rw [if_neg e]; exact ⟨.inl, fun g => g.resolve_right (fun g => e (by omega))⟩
    rw [this, or_assoc]
/-- What is reached. -/
def rch (L : List Int) (i : Nat) : Prop := i < 2 ∨ (i : Int) ∈ (lkF L).2.1 ∨ ∃ p ∈ lkR L, inT L p.1 i
theorem lk_dev {L : List Int} (h : (lk L).2 = 0) : L.length % 64 = 0 ∧ 4 ≤ L.length / 64 ∧ L.length / 64 ≤ 4096 := by
  have hd := (lk_trees h).1
  unfold devOk at hd
  simpa using hd
theorem lk_bl (L : List Int) : ∀ x ∈ (lkF L).2.1, 2 ≤ x ∧ x < (L.length / 64 : Nat) :=
  (fol_ok (L := L) (B := L.length / 64) (L.length / 64) (lkS L).2.2.2.2 [] [] 0 (fun r h => absurd h List.not_mem_nil) (fun x h => absurd h List.not_mem_nil) rfl).2.1
theorem cnt_inv {L : List Int} (h : (lk L).2 = 0) : NN (L.length / 64) (cntL L) ∧ ∀ i, Pos (cntL L) i ↔ rch L i := by
  obtain ⟨hd, _, _, htr, _, _⟩ := lk_trees h
  have hdl := lk_dev h
  have hbl := lk_bl L
  obtain ⟨B, hB⟩ : ∃ B, B = L.length / 64 := ⟨_, rfl⟩
  have key : ∀ (l : List (Int × Int)) (st : List Int × List Bool) (Q : Nat → Prop), WInv L B st Q → (∀ p ∈ l, treeOk L p.1 = true) → WInv L B ((l.map fun p => (p.1, treeN L p.1)).foldl (treeB L) st) (fun i => Q i ∨ ∃ p ∈ l, inT L p.1 i) := by
    intro l
    induction l with
    | nil => intro st Q v _; exact v.weak (fun i => ⟨.inl, fun g => g.resolve_right (fun ⟨a, hm, _⟩ => by cases hm)⟩)
    | cons p l ih =>
      intro st Q v hl
      have hp := hl p (List.mem_cons_self ..)
      rw [List.map_cons, List.foldl_cons]
      have hrr : inD B p.1 := by rw [hB]; exact root_rng hd hp
      have v1 := v.tree (r := p.1) (ns := treeN L p.1) hrr (fun a ha => ⟨by rw [hB]; exact (tree_rng hd hp).2 a ha, fun q hq => by rw [hB]; exact tree_ptr hd hp ha q hq⟩)
      have v2 := v1.weak (Q' := fun i => Q i ∨ inT L p.1 i) (fun i => by rw [inT_iff hd hp])
      refine (ih _ _ v2 (fun q hq => hl q (List.mem_cons_of_mem _ hq))).weak (fun i => ?_)
      constructor
      · rintro ((g | g) | ⟨b, hb, g⟩)
        · exact .inl g
        · exact .inr ⟨p, List.mem_cons_self .., g⟩
        · exact .inr ⟨b, List.mem_cons_of_mem _ hb, g⟩
      · rintro (g | ⟨b, hb, g⟩)
        · exact .inl (.inl g)
        · rcases List.mem_cons.1 hb with rfl | hb
          · exact .inl (.inr g)
          · exact .inr ⟨b, hb, g⟩
  have hn0 : NN B (((List.replicate B (0 : Int)).set 0 1).set 1 1) := NN.set (NN.set ⟨List.length_replicate, fun x hx => by rw [List.eq_of_mem_replicate hx]; decide⟩ (by decide)) (by decide)
  have hp0 : ∀ i, Pos (((List.replicate B (0 : Int)).set 0 1).set 1 1) i ↔ i < 2 := by
    intro i
    unfold Pos
    rw [List.getD_eq_getElem?_getD, List.getElem?_set, List.getElem?_set, List.getElem?_replicate, List.length_set, List.length_replicate]
    have hc : i = 0 ∨ i = 1 ∨ 2 ≤ i := by omega
    rcases hc with rfl | rfl | g
    · rw [if_neg (by decide), if_pos rfl, if_pos (by omega)]; exact ⟨fun _ => by decide, fun _ => by decide⟩
    · rw [if_pos rfl, if_pos (by omega)]; exact ⟨fun _ => by decide, fun _ => by decide⟩
    · rw [if_neg (by omega), if_neg (by omega)]
      refine ⟨fun h => ?_, fun h => by omega⟩
      split at h <;> exact absurd h (by decide)
  obtain ⟨h1, h2⟩ := c0_pos (lkF L).2.1 _ hn0 (by rw [hB]; exact hbl)
  have v0 : WInv L B (c0L B (lkF L).2.1, List.replicate B false) (fun i => i < 2 ∨ (i : Int) ∈ (lkF L).2.1) := ⟨h1, List.length_replicate, fun i => by
    have := h2 i
    rw [hp0] at this
    exact this, fun a ha => by
    rw [List.getD_eq_getElem?_getD, List.getElem?_replicate] at ha
    split at ha <;> cases ha⟩
  have v := key (lkR L) _ _ v0 htr
  rw [hB] at v
  exact ⟨v.nn, fun i => (v.pos i).trans or_assoc⟩
end Go.Proofs.Ytnokcbenpnmnbaa
end
section
set_option linter.unusedVariables false
set_option linter.unusedSectionVars false
set_option maxRecDepth 100000
open Go Go.Am Go.RowKit
namespace Go.Proofs.Ytnokcbenpnmnbaa
open Go.Proofs.Try
/- A row of marks, and what is marked. -/
structure OnI (B : Nat) (o : List Bool) (Q : Nat → Prop) : Prop where
  len : o.length = B
  iff : ∀ j, o.getD j false = true ↔ Q j
/-- What the first m rounds mark. -/
def mkd (L : List Int) (m : Nat) (j : Nat) : Prop := j < 2 ∨ (j : Int) ∈ (lkF L).2.1.take (m - 1) ∨ ∃ p ∈ (lkR L).take m, inT L p.1 j
def lsT (L : List Int) (r : Int) : List Int := treeN L r ++ treeM L r
end Go.Proofs.Ytnokcbenpnmnbaa
end
section
set_option linter.unusedVariables false
set_option linter.unusedSectionVars false
set_option maxRecDepth 100000
open Go Go.Am Go.RowKit
namespace Go.Proofs.Ytnokcbenpnmnbaa
open Go.Proofs.Try
theorem newI_zero {B i : Nat} (h1 : 1 ≤ i) (hi : i < B) : blkI (newI B) i = List.replicate 64 0 := by
  have hl := superBlock_len 1 (B : Int) 0 0 0
  unfold blkI newI
  rw [List.drop_append, List.drop_of_length_le (by omega), List.nil_append, hl, List.drop_replicate, List.take_replicate, Nat.min_eq_left (by omega)]
theorem c0_nil_get {B : Nat} (h : 2 ≤ B) (j : Nat) : (c0L B []).getD j 0 = if j < 2 then 1 else 0 := by
  show (((List.replicate B (0 : Int)).set 0 1).set 1 1).getD j 0 = _
  rw [List.getD_eq_getElem?_getD, List.getElem?_set, List.getElem?_set, List.getElem?_replicate, List.length_set, List.length_replicate]
  have hc : j = 0 ∨ j = 1 ∨ 2 ≤ j := by omega
  rcases hc with rfl | rfl | g
  · rw [if_neg (by decide), if_pos rfl, if_pos (by omega), if_pos (by decide)]; rfl
  · rw [if_pos rfl, if_pos (by omega), if_pos (by decide)]; rfl
  · rw [if_neg (by omega), if_neg (by omega), show (if j < 2 then (1 : Int) else 0) = 0 from if_neg (by omega)]; split <;> rfl
theorem zeros64 : zerosN (List.replicate 64 0) 0 64 = true := by decide
theorem lost_new {B : Nat} (h4 : 4 ≤ B) (hB : B ≤ 4096) : lostL (newI B) = [] := by
  obtain ⟨k1, _, _⟩ := lk_new h4 hB
  unfold lostL
  rw [k1, if_pos rfl, newI_len (by omega), Nat.mul_div_cancel _ (by decide)]
  refine List.eq_nil_iff_forall_not_mem.2 (fun x hx => ?_)
  obtain ⟨j, hj, hp, _⟩ := idxs_mem.1 hx
  unfold lostP at hp
  rw [cnt_new h4 hB, c0_nil_get (by omega), Bool.and_eq_true, beq_iff_eq] at hp
  obtain ⟨h1, h2⟩ := hp
  by_cases g : j < 2
  · rw [if_pos g] at h1; cases h1
  · rw [newI_zero (by omega) hj, zeros64] at h2; cases h2
set_option maxHeartbeats 8000000 in
theorem wakes16_ok {h : Heap} : RunF prog 19 [] h fun v h' => v = .bool true ∧ Fr no h h' := by
  refine RunF.walk func19 rfl rfl ?_
  have h4 : 4 ≤ 8 := by decide
  have hB : 8 ≤ 4096 := by decide
  refine RunC.seq (RunC.region (RunO.all rfl ?_))
  refine RunC.seq (RunC.region ?_)
  refine RunO.callD (openNew_ok (B := 8) h4 hB) rfl rfl rfl ?_
  rintro _ h1 ⟨f1, ib, hib, rfl, oi⟩
  obtain ⟨k1, k2, k3⟩ := lk_new h4 hB
  have hl := newI_len (B := 8) (by decide)
  have hby := newI_byt 8
  have hlo := lost_new h4 hB
  generalize newI 8 = L at *
  have k0 : (lk L).2 = 0 := by rw [k1]
  have sli := sl_own oi hl (Cp.exc (Nat.le_refl _)) (by decide)
  refine RunO.all rfl ?_
  refine RunC.seq (RunC.region ?_)
  refine RunO.make (m := 512) rfl rfl rfl rfl rfl rfl (Nat.le_of_ble_eq_true rfl) (by decide) rfl ?_
  rw [reps_us]
  have oz := Ow.push h1 (us (List.replicate 512 0))
  have f2 : Fr no h1 (h1.push ⟨us (List.replicate 512 0), true⟩) := Fr.push _ _ _
  generalize h1.push ⟨us (List.replicate 512 0), true⟩ = h2 at *
  generalize h1.next = zb at *
  have hz : lk (List.replicate 512 0) = (0, 8) := lk_zeros (by decide)
  have hzl : (List.replicate 512 (0 : Int)).length = 512 := List.length_replicate
  have hzb := byt_zeros 512
  generalize List.replicate 512 (0 : Int) = Z at *
  have slz := sl_own oz hzl (Cp.exc (Nat.le_refl _)) (by decide)
  refine RunO.callD (fsckCheck_ok slz hzb (by omega)) rfl rfl rfl ?_
  rintro _ h3 ⟨f3, ⟨g, _⟩ | ⟨_, fb, _, rfl, of⟩⟩
  · rw [hz] at g; cases g
  rw [hz] at of
  refine RunO.all rfl ?_
  have sli3 := (sli.fr0 f2).fr0 f3
  refine RunC.seq (RunC.region (RunO.part 1 rfl ?_))
  refine RunO.callD (fsckLost_ok sli3 hby (by omega)) rfl rfl rfl ?_
  rintro _ h5 ⟨f5, ov, rfl, row⟩
  rw [hlo] at row
  rw [k0]
  obtain ⟨sA, sc_, rfl, _, _⟩ := (row.sl (by decide)).form
  refine RunO.all rfl ?_
  have sli5 := sli3.fr0 f5
  have of5 := of.fr f5 (fun g => g)
  have F5 := ((f1.same f2).same f3).same f5
  refine RunC.seq (RunC.region (RunO.part 4 rfl ?_))
  refine RunO.callDG rfl (fsckCheck_ok sli5 hby (by omega)) rfl rfl rfl ?_
  rintro _ h6 ⟨f6, ⟨_, rfl⟩ | ⟨g, _⟩⟩
  case inr => exact absurd k0 g
  have sli6 := sli5.fr0 f6
  have of6 := of5.fr f6 (fun g => g)
  have F6 := F5.same f6
  refine RunO.part 5 rfl ?_
  refine RunO.callDG rfl (fsckSound_ok sli6 hby (by omega)) rfl rfl rfl ?_
  rintro _ h7 ⟨rfl, f7⟩
  rw [decide_eq_true k0]
  have of7 := of6.fr f7 (fun g => g)
  have F7 := F6.same f7
  refine RunO.part 5 (h1 := h7.push ⟨ftc [(0, 8)], true⟩) rfl ?_
  have on := Ow.push h7 (ftc [(0, 8)])
  have f8 : Fr no h7 (h7.push ⟨ftc [(0, 8)], true⟩) := Fr.push _ _ _
  have of8 := of7.fr f8 (fun g => g)
  have F8 := F7.same f8
  generalize h7.push ⟨ftc [(0, 8)], true⟩ = h8 at *
  generalize h7.next = nb at *
  have sf : ∀ (q : Nat), Ow h8 q (ftc [(0, 8)]) → Sl h8 (.slice (some ⟨q, 0, none⟩) 1 (exc 1)) 2 1 (ftc [(0, 8)]) := fun q ow => ow.all.sl rfl (by decide) (Cp.exc (Nat.le_refl _))
  refine RunO.callDG rfl (keepFaults_ok (l := [(0, 8)]) (m := [(0, 8)]) (sf _ of8) (sf _ on) (by decide)) rfl rfl rfl ?_
  rintro _ _ ⟨rfl, rfl⟩
  refine RunO.part 2 rfl ?_
  have hnil : (lk ([] : List Int)).2 = 2 := rfl
  refine RunO.callDG rfl (fsckSound_ok (L := []) (Sl.nil h8 1) (fun x hx => by cases hx) (by decide)) rfl rfl rfl ?_
  rintro _ h9 ⟨rfl, f9⟩
  rw [hnil]
  exact RunO.all rfl (RunC.ret ⟨_, rfl, rfl, F8.same f9⟩)
end Go.Proofs.Ytnokcbenpnmnbaa
end
section
set_option linter.unusedVariables false
set_option linter.unusedSectionVars false
set_option maxRecDepth 100000
open Go Go.Am Go.RowKit
namespace Go.Proofs.Ytnokcbenpnmnbaa
open Go.Proofs.Try

theorem lost_free {L : List Int} (hg : (lk L).2 = 0) : ((idxs (frP (cntL L)) (L.length / 64)).filter fun x => !zerosN (blkI L x.toNat) 0 64) = lostL L := by
  obtain ⟨hn, hp⟩ := cnt_inv hg
  have hl : lostL L = idxs (lostP L) (L.length / 64) := by unfold lostL; rw [if_pos hg]
  rw [hl]
  unfold idxs
  rw [List.filter_map, List.filter_filter]
  refine congrArg (List.map _) (List.filter_congr (fun j hj => ?_))
  show (!zerosN (blkI L ((j : Nat) : Int).toNat) 0 64 && frP (cntL L) j) = lostP L j
  rw [Int.toNat_natCast]
  unfold lostP frP
  by_cases h2 : (j : Int) ≥ 2
  · rw [decide_eq_true h2, Bool.true_and, Bool.and_comm]
  · have hpos : 0 < (cntL L).getD j 0 := (hp j).2 (.inl (by omega))
    rw [decide_eq_false h2, Bool.false_and, Bool.and_false, show ((cntL L).getD j 0 == 0) = false from beq_eq_false_iff_ne.2 (by omega), Bool.false_and]
def lpL (L : List Int) (x : Int) : Bool := !zerosN (blkI L x.toNat) 0 64
set_option maxHeartbeats 32000000 in
theorem fsckExact_true : ∀ h xs avs, ArgsK [.slice (.int .u8)] h xs avs → RunF prog 3 avs h fun v _ => v = .bool true := by
  intro h xs avs ha
  obtain ⟨L, _, iv, _, rfl, sl, hwf, ha⟩ := argInts ha
  obtain rfl := argNil ha
  have hb : Byt L := fun x hx => wf_u8 (hwf x hx)
  refine RunF.walk func3 rfl rfl ?_
  refine RunC.seq (RunC.region (RunO.all rfl ?_))
  refine RunC.seq (RunC.seq (RunC.region (RunO.part 1 rfl ?_)))
  refine RunO.callD (heavy_ok sl) rfl rfl rfl ?_
  rintro _ _ ⟨rfl, rfl⟩
  refine RunO.all rfl ?_
  by_cases hL : (L.length : Int) > 19200
  · rw [decide_eq_true hL]
    refine RunC.cond rfl (fun _ => ?_) (fun g => by cases g)
    exact RunC.seq (RunC.region (RunO.all rfl (RunC.ret ⟨_, rfl, rfl⟩)))
  rw [decide_eq_false hL]
  refine RunC.cond rfl (fun g => by cases g) (fun _ => RunC.skip ?_)
  have hm : L.length ≤ 4611686018427387904 := by omega
  have sl0 : Sl h iv 1 L.length (us L) := sl
  obtain ⟨A, c, rfl, _, _⟩ := sl.form
  refine RunC.seq (RunC.region (RunO.part 1 rfl ?_))
  refine RunO.callD (twin_ok sl0 (by omega)) rfl rfl rfl ?_
  rintro w h1 ⟨row, f1⟩
  have sw := row.sl (by omega)
  obtain ⟨wA, wc, rfl, _, _⟩ := sw.form
  refine RunO.all rfl ?_
  -- check
  refine RunC.seq (RunC.region (RunO.part 1 rfl ?_))
  refine RunO.callD (fsckCheck_ok sw hb hm) rfl rfl rfl ?_
  rintro v1 h2 ⟨f2, hv⟩
  obtain ⟨cA, cn, cc, rfl, hg0, hg1⟩ : ∃ cA cn cc, v1 = .slice cA cn cc ∧ ((lk L).2 = 0 → cA = none ∧ cn = 0 ∧ cc = 0) ∧ ((lk L).2 ≠ 0 → Sl h2 (.slice cA cn cc) 2 [lk L].length (ftc [lk L])) := by
    rcases hv with ⟨g, rfl⟩ | ⟨g, b, hbn, rfl, ow⟩
    · exact ⟨none, 0, 0, rfl, fun _ => ⟨rfl, rfl, rfl⟩, fun e => absurd g e⟩
    · exact ⟨_, _, _, rfl, fun e => absurd e g, fun _ => ow.all.sl (s := 2) rfl (by decide) (Cp.exc (Nat.le_refl _))⟩
  clear hv
  refine RunO.all rfl ?_
  refine RunC.seq (RunC.region (RunO.part 1 rfl ?_))
  refine RunO.callD (fsckLost_ok (sw.fr0 f2) hb hm) rfl rfl rfl ?_
  rintro _ h3 ⟨f3, sv, rfl, rows⟩
  have hshl : (lostL L).length ≤ L.length / 64 := by
    unfold lostL
    split
    · rw [idxs_len]; exact cntI_le _ _
    · exact Nat.zero_le _
  have ss := rows.sl (by omega)
  obtain ⟨sA, sc_, rfl, _, _⟩ := ss.form
  refine RunO.all rfl ?_
  have F3 := f2.same f3
  have FA := f1.same F3
  have sl4 := sl0.fr0 FA
  have sw4 := sw.fr0 F3
  -- the page
  refine RunC.seq (RunC.region (RunO.part 1 rfl ?_))
  refine RunO.callD (refOpen10_u sl4 hb hm) rfl rfl rfl ?_
  rintro _ ho ⟨fo1, S, slot, rv, bv, mv, nv, fb, rfl, orr⟩
  refine RunO.part 4 (h1 := ho.push ⟨(imx (0, 0, 0, 0, 0) 0 (.slice none 0 0) (.slice none 0 0) (.slice none 0 0) (.slice none 0 0)), true⟩) rfl ?_
  have ox := Ow.push ho (imx (0, 0, 0, 0, 0) 0 (.slice none 0 0) (.slice none 0 0) (.slice none 0 0) (.slice none 0 0))
  have fo2 : Fr no ho (ho.push ⟨(imx (0, 0, 0, 0, 0) 0 (.slice none 0 0) (.slice none 0 0) (.slice none 0 0) (.slice none 0 0)), true⟩) := Fr.push _ _ _
  generalize ho.push ⟨(imx (0, 0, 0, 0, 0) 0 (.slice none 0 0) (.slice none 0 0) (.slice none 0 0) (.slice none 0 0)), true⟩ = ho1 at *
  obtain ⟨qx, hqx⟩ : ∃ q, q = ho.next := ⟨_, rfl⟩
  rw [← hqx] at ox ⊢
  refine RunO.part 1 (h1 := ho1.push ⟨[.int .i64 0, .int .i64 0], true⟩) rfl ?_
  have of := Ow.push ho1 [.int .i64 0, .int .i64 0]
  have fo3 : Fr no ho1 (ho1.push ⟨[.int .i64 0, .int .i64 0], true⟩) := Fr.push _ _ _
  have hxl := ox.1
  replace ox := ox.fr fo3 (fun g => g)
  generalize ho1.push ⟨[.int .i64 0, .int .i64 0], true⟩ = ho2 at *
  obtain ⟨qf, hqf⟩ : ∃ q, q = ho1.next := ⟨_, rfl⟩
  rw [← hqf] at of ⊢
  refine RunO.store rfl rfl (store_ow (s := 10) ox rfl rfl orr.cells (Nat.le_refl 10)) ?_
  rw [imx_store]
  have fo4 : Fr (· = qx) ho2 (ho2.put qx (some ⟨imx S slot rv bv mv nv, true⟩)) := Fr.put _ (.inl rfl)
  have ox' : Ow (ho2.put qx (some ⟨imx S slot rv bv mv nv, true⟩)) qx (imx S slot rv bv mv nv) := Ow.put _ ox.1
  have of' := of.fr fo4 (fun e => by have e : qf = qx := e; omega)
  generalize ho2.put qx (some ⟨imx S slot rv bv mv nv, true⟩) = ho3 at *
  refine RunO.store rfl rfl (store_ow (s := 2) of' rfl rfl rfl (Nat.le_refl 2)) (RunO.all rfl ?_)
  have fo5 : Fr (· = qf) ho3 (ho3.put qf (some ⟨[.int .i64 fb, .int .i64 (lk L).2], true⟩)) := Fr.put _ (.inl rfl)
  have of'' : Ow (ho3.put qf (some ⟨[.int .i64 fb, .int .i64 (lk L).2], true⟩)) qf [.int .i64 fb, .int .i64 (lk L).2] := Ow.put _ of'.1
  replace ox' := ox'.fr fo5 (fun e => by have e : qx = qf := e; omega)
  show RunC prog _ _ _ (ho3.put qf (some ⟨[.int .i64 fb, .int .i64 (lk L).2], true⟩)) _ _ _
  have foo : Fr no ho (ho3.put qf (some ⟨[.int .i64 fb, .int .i64 (lk L).2], true⟩)) := ((fo2.same fo3).trans fo4 (fun b e => .inr (by have e : b = qx := e; omega))).trans fo5 (fun b e => .inr (by have e : b = qf := e; have := fo2.next; omega))
  have fo : Fr no h3 (ho3.put qf (some ⟨[.int .i64 fb, .int .i64 (lk L).2], true⟩)) := fo1.same foo
  replace orr := orr.fr0 foo
  generalize ho3.put qf (some ⟨[.int .i64 fb, .int .i64 (lk L).2], true⟩) = h5 at *
  clear fo1 fo2 fo3 fo4 fo5 foo ox of of' hxl

  have sw5 := sw4.fr0 fo
  have sl5 := sl4.fr0 fo
  refine RunC.seqc (fun E' h' => Fr no h5 h' ∧ Le ((upd (upd (upd (upd (upd (upd E0 0 (.slice A L.length c)) 4 (.slice cA cn cc)) 5 (.slice sA (lostL L).length sc_)) 6 (.int .i64 (lk L).2)) 7 (.pointer (some ⟨qx, 0, none⟩))) 8 (.pointer (some ⟨qf, 0, none⟩)))) E') ?so ?nx
  case so =>
    refine RunC.seq (RunC.drawQ rfl ?_)
    (repeat (first | refine RunQ.step rfl ?_ | refine RunQ.load rfl rfl (Ow.ld (by assumption) (by rfl)) rfl ?_ | refine RunQ.nil ?_))
    refine RunQ.call rfl (keepBytesS_ok (h := h5.lo h5.next) (v := .slice wA L.length wc) (w := .slice A L.length c) sw5 sl5 hm) (fun v h1 q => q.2 ▸ Fr.refl _ _) rfl rfl rfl ?_
    rintro _ _ ⟨rfl, rfl⟩
    rw [beq_self_eq_true L]
    (repeat (first | refine RunQ.step rfl ?_ | refine RunQ.load rfl rfl (Ow.ld (by assumption) (by rfl)) rfl ?_ | refine RunQ.nil ?_))
    refine RunQ.call rfl (fsckSound_ok (h := Heap.lo _ _) sw5 hb hm) (fun v h1 q => q.2) rfl rfl rfl ?_
    rintro _ hs1 ⟨rfl, fs1⟩
    have of2 := Ow.fr (h := Heap.lo h5 h5.next) of'' fs1 (fun g => g)
    (repeat (first | refine RunQ.step rfl ?_ | refine RunQ.load rfl rfl (Ow.ld (by assumption) (by rfl)) rfl ?_ | refine RunQ.nil ?_))
    intro lw Fd
    have e0 : (decide ((lk L).2 = 0) != ((lk L).2 == 0)) = false := by by_cases g : (lk L).2 = 0 <;> simp [g]
    refine RunC.cond (t := false) (by show some (Value.bool (decide ((lk L).2 = 0) != ((lk L).2 == 0))) = _; rw [e0]) (fun g => by cases g) (fun _ => RunC.skip ⟨Fd, Le.cons rfl (Le.cons rfl (Le.cons rfl (Le.cons rfl (Le.cons rfl (Le.cons rfl (Le.nil _))))))⟩)
  rintro E' h6 ⟨f6, hE⟩
  refine RunC.le hE ?_
  clear hE
  replace of'' := of''.fr f6 (fun g => g)
  replace ox' := ox'.fr f6 (fun g => g)
  replace orr := orr.fr0 f6
  have sl6 := sl5.fr0 f6
  have hlost : (lk L).2 ≠ 0 → lostL L = [] := fun g => by unfold lostL; rw [if_neg g]
  by_cases hg : (lk L).2 = 0
  case neg =>
    have hfb := (orr.bad hg).2.2.1
    subst hfb
    have slc := (hg1 hg).fr0 (f3.same (fo.same f6))
    rw [hlost hg]
    refine RunC.seq (RunC.seq (RunC.region (RunO.part 1 rfl ?_)))
    refine RunO.load (v := .int .i64 (lk L).2) rfl (of''.ld rfl) rfl ?_
    refine RunO.part 1 rfl ?_
    rw [show ((lk L).2 != 0) = true from bne_iff_ne.2 hg]
    refine RunO.all rfl (RunC.cond rfl (fun _ => ?_) (fun g => by cases g))
    refine RunC.seq (RunC.region (RunO.part 1 rfl ?_))
    refine RunO.load (v := .agg ⟨is [(lk L).1, (lk L).2]⟩) rfl (of''.ld rfl) rfl ?_
    refine RunO.part 1 (h1 := h6.push ⟨is [(lk L).1, (lk L).2], true⟩) rfl ?_
    have ol := Ow.push h6 (is [(lk L).1, (lk L).2])
    have f7 : Fr no h6 (h6.push ⟨is [(lk L).1, (lk L).2], true⟩) := Fr.push _ _ _
    generalize h6.push ⟨is [(lk L).1, (lk L).2], true⟩ = h7 at *
    replace of'' := of''.fr f7 (fun g => g)
    replace slc := slc.fr0 f7
    have sm : Sl h7 (.slice (some ⟨h6.next, 0, none⟩) 1 (exc 1)) 2 [lk L].length (ftc [lk L]) := ol.all.sl (s := 2) rfl (by decide) (Cp.exc (Nat.le_refl _))
    obtain rfl : cn = 1 := by have := slc.form; obtain ⟨_, _, e, _, _⟩ := this; cases e; rfl
    refine RunO.callD (keepFaults_ok slc sm (by show 1 ≤ _; decide)) rfl rfl rfl ?_
    rintro _ _ ⟨rfl, rfl⟩
    rw [beq_self_eq_true [lk L]]
    refine RunO.part 3 rfl ?_
    refine RunO.loadG (v := .int .i64 (lk L).2) rfl rfl (of''.ld rfl) rfl ?_
    refine RunO.part 1 rfl ?_
    rw [beq_self_eq_true (lk L).2]
    refine RunO.part 7 rfl ?_
    refine RunO.callDG rfl wakes16_ok rfl rfl rfl ?_
    rintro _ h9 ⟨rfl, f9⟩
    exact RunO.all rfl (RunC.ret ⟨_, rfl, rfl⟩)
  obtain ⟨rfl, rfl, rfl⟩ := hg0 hg
  obtain ⟨o1, o2, o3, srl, sbl, cm, cn_, smv, jm, snv, jn⟩ := orr.good hg
  have hdl : L.length % 64 = 0 ∧ 4 ≤ L.length / 64 ∧ L.length / 64 ≤ 4096 := by
    have hd := (lk_trees hg).1
    unfold devOk at hd
    simpa using hd
  rw [hg]
  rw [hg] at of''
  refine RunC.seq (RunC.seq (RunC.region (RunO.part 1 rfl ?_)))
  refine RunO.load (v := .int .i64 0) rfl (of''.ld rfl) rfl ?_
  refine RunO.all rfl (RunC.cond rfl (fun g => by cases g) (fun _ => RunC.skip ?_))
  obtain ⟨rA_, rc1, e1, _, _⟩ := srl.form
  obtain ⟨bA_, bc1, e2, _, _⟩ := sbl.form
  obtain ⟨mA_, mc1, e3, _, _⟩ := smv.form
  obtain ⟨nA_, nc1, e4, _, _⟩ := snv.form
  have hmvc := sl_cell smv
  subst o1
  refine RunC.seq (RunC.region (RunO.all rfl ?_))
  refine RunC.seq (RunC.region (RunO.part 1 rfl ?_))
  refine RunO.load (v := .agg ⟨imx (lkS L) slot rv bv mv nv⟩) rfl (ox'.ld (by rw [e1, e2, e3, e4]; rfl)) rfl ?_
  refine RunO.callD (refCounts10_ok sl6 hb hm hg srl sbl snv jn hmvc) rfl rfl rfl ?_
  rintro _ h7 ⟨f7, ob, hob, rfl, oo, hcb2⟩
  obtain ⟨B, hB⟩ : ∃ B, B = L.length / 64 := ⟨_, rfl⟩
  have hfree := lost_free hg
  rw [← hB] at hdl hcb2 hshl hfree ⊢
  have sl7 := sl6.fr0 f7
  have slo : Sl h7 (.slice (some ⟨ob, 0, none⟩) B (exc B)) 1 (cntL L).length (is (cntL L)) := by have := sl_owI oo hcb2.1 (Cp.exc (Nat.le_refl _)) (by omega); exact this
  refine RunO.callD (refFree_ok slo (by rw [hcb2.1]; omega) (by rw [hcb2.1]; omega)) rfl rfl rfl ?_
  rintro fv h8 ⟨rowf, f8⟩
  rw [hcb2.1] at rowf
  have hfl := idxs_len (frP (cntL L)) B
  have hfc := cntI_le (frP (cntL L)) B
  have hmem : ∀ x ∈ idxs (frP (cntL L)) B, 0 ≤ x ∧ x < (B : Int) := fun x hx => by
    obtain ⟨j, a1, _, rfl⟩ := idxs_mem.1 hx
    omega
  have sfr := rowf.sl (by omega)
  generalize idxs (frP (cntL L)) B = F at *
  obtain ⟨fA, fc, rfl, _, _⟩ := sfr.form
  have slw := ((ss.fr0 (fo.same f6)).fr0 f7).fr0 f8
  refine RunO.all rfl ?_
  have sl8 := sl7.fr0 f8
  refine RunC.seq (RunC.seq (RunC.region (RunO.all rfl ?_)))
  refine RunC.block ?_
  refine RunC.loop (fun d E h' => ∃ (i : Nat) (av : Value), i + d = F.length ∧ Fr no h8 h' ∧ Row h8.next h' av 1 ((F.take i).filter (lpL L)).length (is ((F.take i).filter (lpL L))) ∧ Le ((upd (upd (upd (upd (upd (upd (upd E0 0 (.slice A L.length c)) 4 (.slice none 0 0)) 5 (.slice sA (lostL L).length sc_)) 6 (.int .i64 0)) 9 (av)) 10 (.slice fA F.length fc)) 11 (.int .i64 (i : Int)))) E) ?st (k := F.length) ?ini
  case ini => exact ⟨0, .slice none 0 0, by omega, Fr.refl _ _, Row.nil _ _ _, Le.cons rfl (Le.cons rfl (Le.cons rfl (Le.cons rfl (Le.cons rfl (Le.cons rfl (Le.cons rfl (Le.nil _)))))))⟩
  rintro d E h9 ⟨i, av, hi, f9, rowa, hE⟩
  refine RunC.le hE ?_
  clear hE
  have hcut : ((F.take i).filter (lpL L)).length ≤ F.length := Nat.le_trans (List.length_filter_le _ _) (by rw [List.length_take]; omega)
  refine RunC.seq (RunC.seq (RunC.region (RunO.all rfl ?_)))
  refine RunC.cond rfl (fun hlt => RunC.skip ?go) (fun hge => RunC.exit ?ex)
  case ex =>
    have hge := of_decide_eq_false hge
    obtain rfl : i = F.length := by omega
    have hfree2 : F.filter (lpL L) = lostL L := hfree
    rw [List.take_length, hfree2] at rowa
    have sa := rowa.sl (by omega)
    refine RunC.seq (RunC.region (RunO.part 10 rfl ?_))
    refine RunO.callDG rfl (keepInts_ok (slw.fr0 f9) sa (by omega)) rfl rfl rfl ?_
    rintro _ _ ⟨rfl, rfl⟩
    rw [beq_self_eq_true (lostL L)]
    refine RunO.part 2 rfl ?_
    refine RunO.callDG rfl wakes16_ok rfl rfl rfl ?_
    rintro _ h10 ⟨rfl, f10⟩
    exact RunO.all rfl (RunC.ret ⟨_, rfl, rfl⟩)
  have hlt := of_decide_eq_true hlt
  have hlt : i < F.length := by omega
  have hpt := ig_at (l := F) (i := i) hlt
  have hx := hmem _ (List.getElem_mem hlt)
  have hgd : F.getD i 0 = F[i] := by rw [List.getD_eq_getElem?_getD, List.getElem?_eq_getElem hlt]; rfl
  rw [hgd] at hpt
  obtain ⟨x, hxe⟩ : ∃ x : Nat, F[i] = (x : Int) := ⟨F[i].toNat, by omega⟩
  have hstep : (F.take (i + 1)).filter (lpL L) = (F.take i).filter (lpL L) ++ [F[i]].filter (lpL L) := by rw [List.take_succ_eq_append_getElem hlt, List.filter_append]
  rw [hxe] at hpt hx hstep
  have hlp : [(x : Int)].filter (lpL L) = if (lpL L) (x : Int) = true then [(x : Int)] else [] := by cases e : (lpL L) (x : Int) <;> simp [e]
  rw [hlp] at hstep
  have hlpx : (lpL L) (x : Int) = !zerosN (blkI L x) 0 64 := by show (!zerosN (blkI L ((x : Nat) : Int).toNat) 0 64) = _; rw [Int.toNat_natCast]
  have sl9 := sl8.fr0 f9
  have hbx : (x + 1) * 64 ≤ L.length := by omega
  refine RunC.seq (RunC.block ?_)
  refine RunC.seq (RunC.region (RunO.part 3 rfl ?_))
  refine RunO.at (s := 1) (k := i) rfl rfl (sfr.fr0 f9) rfl rfl hlt hpt rfl rfl rfl ?_
  refine RunO.callD (refBlock_ok sl9 hbx hm) rfl rfl rfl ?_
  rintro bb _ ⟨sb, rfl⟩
  have hbl : (blkI L x).length = 64 := blkI_len hbx
  have hbl2 : 64 = (blkI L x).length := hbl.symm
  have sb0 : Sl h9 bb 1 (blkI L x).length (us (blkI L x)) := by rw [hbl]; exact sb
  refine RunO.callD (refZeros_ok (k := 0) (m := 64) sb0 (by omega) (by omega) (by omega)) rfl rfl rfl ?_
  rintro _ _ ⟨rfl, rfl⟩
  refine RunO.part 1 rfl ?_
  rw [← hlpx]
  cases hp : (lpL L) (x : Int) with
  | true =>
    rw [hp, if_pos rfl] at hstep
    refine RunO.all rfl (RunC.cond rfl (fun _ => ?_) (fun g => by cases g))
    refine RunC.region (RunO.part 3 rfl ?_)
    refine RunO.at (s := 1) (k := i) rfl rfl (sfr.fr0 f9) rfl rfl hlt hpt rfl rfl rfl ?_
    refine RunO.part 1 (h1 := h9.push ⟨[.int .i64 (x : Int)], true⟩) rfl ?_
    have ol := Ow.push h9 [.int .i64 (x : Int)]
    have e3 : Fr no h9 (h9.push ⟨[.int .i64 (x : Int)], true⟩) := Fr.push _ _ _
    have row3 := rowa.gr.fr0 e3
    generalize h9.push ⟨[.int .i64 (x : Int)], true⟩ = g3 at *
    refine RunO.appendG (s := 1) (j := 1) rfl rfl rfl rfl rfl rfl rfl rfl (by decide) row3 ol.all rfl (Nat.le_refl 1) rfl (by show 2 * (_ + 1) * 8 ≤ _; omega) (by omega) ?_
    intro av2 g4 row4 e4
    refine RunO.all rfl ?_
    refine RunC.region (RunO.all rfl ?_)
    refine ⟨d - 1, by omega, i + 1, av2, by omega, (f9.same e3).trans e4 (fun b a => .inr (row3.at a).1), ?_, Le.cons (inc64 (by omega)) (Le.cons rfl (Le.cons rfl (Le.cons rfl (Le.cons rfl (Le.cons rfl (Le.cons rfl (Le.nil _)))))))⟩
    rw [hstep, List.length_append, show is ((F.take i).filter (lpL L) ++ [(x : Int)]) = is ((F.take i).filter (lpL L)) ++ [.int .i64 (x : Int)] from List.map_append]
    exact Row.lo row4 (f9.same e3).next
  | false =>
    rw [hp, if_neg (by decide)] at hstep
    refine RunO.all rfl (RunC.cond rfl (fun g => by cases g) (fun _ => RunC.skip ?_))
    refine RunC.region (RunO.all rfl ?_)
    refine ⟨d - 1, by omega, i + 1, av, by omega, f9, ?_, Le.cons (inc64 (by omega)) (Le.cons rfl (Le.cons rfl (Le.cons rfl (Le.cons rfl (Le.cons rfl (Le.cons rfl (Le.nil _)))))))⟩
    rw [hstep, List.append_nil]
    exact rowa
end Go.Proofs.Ytnokcbenpnmnbaa
end
