/- WalkChain: a calculus over an abstract machine that stands beside the model, and contracts of functions by it (part 7).
Conditions: what each theorem says of its arguments. -/
import Derived.Test.YtbinkbdfoalbcaaGWalkChain6
section
set_option linter.unusedVariables false
set_option linter.unusedSectionVars false
set_option maxRecDepth 100000
open Go Go.Am Go.RowKit
namespace Go.Proofs.Ytbinkbdfoalbcaa
open Go.Proofs.Try
theorem is_set (l : List Int) (i : Nat) (x : Int) : (is l).set (0 + i * 1) (.int .i64 x) = is (l.set i x) := by unfold is; rw [List.map_set, Nat.zero_add, Nat.mul_one]
theorem ig_at {l : List Int} {i : Nat} (h : i < l.length) : apart prog 3 (is l) (i * 1) = some (.int .i64 (l.getD i 0)) := by
  rw [is_part h, List.getD_eq_getElem?_getD, List.getElem?_eq_getElem h]; rfl
theorem ig_at0 {l : List Int} {i : Nat} (h : i < l.length) : apart prog 3 (is l) (0 + i * 1) = some (.int .i64 (l.getD i 0)) := by rw [Nat.zero_add]; exact ig_at h
theorem bo_at0 {l : List Bool} {i : Nat} (h : i < l.length) : apart prog 4 (bo l) (0 + i * 1) = some (.bool (l.getD i false)) := by rw [Nat.zero_add]; exact bo_part h
theorem bmp_nat {c : List Int} {q : Nat} (h : (q : Int) ≠ 0) : bmp c (q : Int) = c.set q (c.getD q 0 + 1) := by
  unfold bmp; rw [if_neg h, Int.toNat_natCast]
theorem bmps_CB {B : Nat} : ∀ (l : List Int) (c : List Int) (k : Int), 0 ≤ k → CB B k c → CB B (k + l.length) (l.foldl bmp c)
  | [], c, k, h0, h => by simpa using h
  | p :: l, c, k, h0, h => by
    rw [List.foldl_cons, List.length_cons]
    exact (bmps_CB l _ (k + 1) (by omega) (h.bmp h0 p)).le (by omega)
theorem fold_snoc {α β : Type} (f : β → α → β) (b : β) {l : List α} {i : Nat} (h : i < l.length) : (l.take (i + 1)).foldl f b = f ((l.take i).foldl f b) l[i] := by
  rw [List.take_succ_eq_append_getElem h, List.foldl_append]; rfl
theorem c0_len (B : Nat) : ∀ (bl : List Int) (c : List Int), (bl.foldl (fun c a => c.set a.toNat 1) c).length = c.length
  | [], c => rfl
  | a :: bl, c => by rw [List.foldl_cons, c0_len B bl, List.length_set]
theorem c0_CB {B : Nat} : ∀ (bl : List Int) (c : List Int), CB B 1 c → CB B 1 (bl.foldl (fun c a => c.set a.toNat 1) c)
  | [], c, h => h
  | a :: bl, c, h => by rw [List.foldl_cons]; exact c0_CB bl _ (h.set (by decide))
set_option maxHeartbeats 64000000 in
theorem walkOf_ok {h : Heap} {iv : Value} {L : List Int} {xb lo : Nat} (sl : Sl h iv 1 L.length (us L)) (hb : Byt L) (hz : (lk L).2 = 0) (lr_ : LkR lo h xb L) :
    RunF prog 61 [iv, .pointer (some ⟨xb, 0, none⟩)] h fun v h' => Fr no h h' ∧ CB (L.length / 64) 5000000000 (cntL L) ∧ ∃ b, h.next ≤ b ∧ v = .slice (some ⟨b, 0, none⟩) (L.length / 64) (exc (L.length / 64)) ∧ Ow h' b (is (cntL L)) := by
  obtain ⟨hd, hp, hbad, htr, _, _⟩ := lk_trees hz
  have hdl : L.length % 64 = 0 ∧ 4 ≤ L.length / 64 ∧ L.length / 64 ≤ 4096 := by
    unfold devOk at hd
    simpa using hd
  have hm : L.length ≤ 4611686018427387904 := by omega
  obtain ⟨rv, bv, tv, TL, hxb, ox, rl, rb, st', hTm, hTok⟩ := lr_
  have hrr := fun p (hp : p ∈ lkR L) => root_rng hd (htr p hp)
  have htp := fun p (hp : p ∈ lkR L) x (hx : x ∈ treeN L p.1) => tree_ptr hd (htr p hp) hx
  have htn := fun p (hp : p ∈ lkR L) => (tree_rng hd (htr p hp)).2
  have hff := fol_ok (L := L) (B := L.length / 64) (L.length / 64) (lkS L).2.2.2.2 [] [] 0 (fun r h => absurd h List.not_mem_nil) (fun x h => absurd h List.not_mem_nil) rfl
  have hff : (∀ x ∈ (lkF L).2.1, 2 ≤ x ∧ x < (L.length / 64 : Nat)) ∧ (lkF L).1.length = (lkF L).2.1.length ∧ (lkF L).2.1.length ≤ L.length / 64 := by
    refine ⟨hff.2.1, hff.2.2.1, ?_⟩
    have := hff.2.2.2
    unfold lkF folOf
    simpa using this
  obtain ⟨hlbr, hlrl, hlbl⟩ := hff
  have hR : lkR L = ((lkS L).2.2.1, (lkS L).2.2.2.1) :: (lkF L).1.map fun r => (r.ro, r.sz) := rfl
  have hcnt : cntL L = ((wRs L).foldl (treeB L) (c0L (L.length / 64) (lkF L).2.1, List.replicate (L.length / 64) false)).1 := rfl
  have hwR : wRs L = (lkR L).map fun p => (p.1, treeN L p.1) := rfl
  have hTn : TL.map (fun t => t.2.2) = (lkR L).map fun p => treeN L p.1 := by
    have := congrArg (List.map Prod.snd) hTm
    rw [List.map_map] at this
    unfold lkT at this
    rw [List.map_map] at this
    exact this
  have hTl : TL.length = (lkR L).length := by
    have := congrArg List.length hTn
    rwa [List.length_map, List.length_map] at this
  generalize (pickS L).2.1 = slot at *
  generalize lkS L = s at *
  generalize hlr : (lkF L).1 = lr at *
  generalize hlb : (lkF L).2.1 = lb at *
  obtain ⟨RS, hRS⟩ : ∃ RS, RS = lkR L := ⟨_, rfl⟩
  rw [← hRS] at hR hwR hTn hTl hrr htp htn
  have hRl : RS.length = lr.length + 1 := by rw [hR, List.length_cons, List.length_map]
  refine RunF.walk func61 rfl rfl ?_
  have sl0 := sl
  obtain ⟨ab, ao, c, rfl, hc, rdI⟩ := sl.nz (by omega)
  obtain ⟨bA, bc, rfl, _, _⟩ := (rb.sl (by omega)).form
  obtain ⟨lA, lc, rfl, _, _⟩ := (rl.sl (by omega)).form
  have slb := rb.sl (by omega)
  have slr := rl.sl (by omega)
  obtain ⟨tA, tc, rfl, _, _⟩ := st'.form
  obtain ⟨B, hB⟩ : ∃ B, B = L.length / 64 := ⟨_, rfl⟩
  rw [← hB] at hdl hlbr hlbl hrr htp htn hTok hcnt ⊢
  refine RunC.seq (RunC.region (RunO.all rfl ?_))
  refine RunC.seq (RunC.region (RunO.part 1 rfl ?_))
  refine RunO.callD (devCheck_ok hm) rfl rfl rfl ?_
  rintro _ _ ⟨rfl, rfl⟩
  rw [hd, if_pos rfl, if_pos rfl, ← hB]
  refine RunO.all rfl ?_
  refine RunC.seq (RunC.region (RunO.part 1 rfl ?_))
  refine RunO.make (m := B) rfl rfl rfl rfl rfl rfl (show 8 * B ≤ _ by omega) (by omega) rfl ?_
  rw [reps_is]
  have oo := Ow.push h (is (List.replicate B 0))
  have f1 : Fr no h (h.push ⟨is (List.replicate B 0), true⟩) := Fr.push _ _ _
  generalize h.push ⟨is (List.replicate B 0), true⟩ = h1 at *
  obtain ⟨ob, hob⟩ : ∃ q, q = h.next := ⟨_, rfl⟩
  rw [← hob] at oo ⊢
  refine RunO.all rfl ?_
  -- the slots
  refine RunC.seq ?_
  refine RunC.seq (RunC.region (RunO.all rfl ?_))
  refine RunC.block ?_
  refine RunC.loop (fun d E h' => ∃ i : Nat, i + d = 2 ∧ Ow h' ob (is ((List.range i).foldl (fun c j => c.set j 1) (List.replicate B 0))) ∧ Fr (· = ob) h1 h' ∧ Le ((upd (upd (upd (upd (upd E0 0 (.slice (some ⟨ab, ao, none⟩) L.length c)) 1 (.pointer (some ⟨xb, 0, none⟩))) 5 (.int .i64 (B : Int))) 7 (.slice (some ⟨ob, 0, none⟩) B (exc B))) 30 (.int .i64 (i : Int)))) E) ?st1 (k := 2) ?ini1
  case ini1 => exact ⟨0, rfl, oo, Fr.refl _ _, Le.cons rfl (Le.cons rfl (Le.cons rfl (Le.cons rfl (Le.cons rfl (Le.nil _)))))⟩
  rintro d E g1 ⟨i, hi, oo, fg, hE⟩
  refine RunC.le hE ?_
  clear hE
  have hcl : ((List.range i).foldl (fun c j => c.set j 1) (List.replicate B (0 : Int))).length = B := by
    have key : ∀ (l : List Nat) (c : List Int), (l.foldl (fun c j => c.set j 1) c).length = c.length := by
      intro l
      induction l with
      | nil => intro c; rfl
      | cons x l ih => intro c; rw [List.foldl_cons, ih, List.length_set]
    rw [key, List.length_replicate]
  refine RunC.seq (RunC.region (RunO.all rfl ?_))
  refine RunC.seq (RunC.cond rfl (fun hlt => RunC.skip ?go1) (fun hge => RunC.exit ?ex1))
  case go1 =>
    have hlt := of_decide_eq_true hlt
    have hsucc : (List.range (i + 1)).foldl (fun c j => c.set j 1) (List.replicate B (0 : Int)) = ((List.range i).foldl (fun c j => c.set j 1) (List.replicate B 0)).set i 1 := by
      rw [List.range_succ, List.foldl_append]; rfl
    refine RunC.seq (RunC.block ?_)
    refine RunC.seq (RunC.region (RunO.all rfl ?_))
    refine RunC.region (RunO.part 2 rfl ?_)
    refine RunO.index (s := 1) (k := i) rfl rfl rfl rfl (by omega) rfl ?_
    refine RunO.store rfl rfl (store1_ow oo rfl rfl rfl (by rw [is_len, hcl]; omega)) (RunO.nil ?_)
    rw [is_set, ← hsucc]
    refine RunC.region (RunO.all rfl ?_)
    exact ⟨d - 1, by omega, i + 1, by omega, Ow.put _ oo.1, fg.trans (Fr.put (m := (· = ob)) _ (.inl rfl)) (fun _ g => .inl g), Le.cons (inc64 (by omega)) (Le.cons rfl (Le.cons rfl (Le.cons rfl (Le.cons rfl (Le.nil _)))))⟩
  have hge1 := of_decide_eq_false hge
  obtain rfl : i = 2 := by omega
  change Ow g1 ob (is (((List.replicate B 0).set 0 1).set 1 1)) at oo
  have hc0 : CB B 1 (((List.replicate B (0 : Int)).set 0 1).set 1 1) := CB.set (CB.set ⟨List.length_replicate, fun x hx => by rw [List.eq_of_mem_replicate hx]; decide⟩ (by decide)) (by decide)
  have F1 : Fr no h g1 := f1.trans fg (fun b e => .inr (by have e : b = ob := e; omega))
  -- the records
  refine RunC.seq ?_
  refine RunC.seq (RunC.region (RunO.part 3 rfl ?_))
  refine RunO.load (v := .slice bA lb.length bc) rfl ((ox.fr F1 (fun g => g)).ld rfl) rfl (RunO.all rfl ?_)
  refine RunC.block ?_
  refine RunC.loop (fun d E h' => ∃ i : Nat, i + d = lb.length ∧ Ow h' ob (is ((lb.take i).foldl (fun c a => c.set a.toNat 1) (((List.replicate B (0 : Int)).set 0 1).set 1 1))) ∧ Fr no h h' ∧ Le ((upd (upd (upd (upd (upd (upd (upd E0 0 (.slice (some ⟨ab, ao, none⟩) L.length c)) 1 (.pointer (some ⟨xb, 0, none⟩))) 5 (.int .i64 (B : Int))) 7 (.slice (some ⟨ob, 0, none⟩) B (exc B))) 40 (.slice bA lb.length bc)) 41 (.int .i64 (lb.length : Int))) 42 (.int .i64 (i : Int)))) E) ?st2 (k := lb.length) ?ini2
  case ini2 => exact ⟨0, by omega, oo, F1, Le.cons rfl (Le.cons rfl (Le.cons rfl (Le.cons rfl (Le.cons rfl (Le.cons rfl (Le.cons rfl (Le.nil _)))))))⟩
  rintro d E g2 ⟨i, hi, oo, fg2, hE⟩
  refine RunC.le hE ?_
  clear hE
  refine RunC.seq (RunC.region (RunO.all rfl ?_))
  refine RunC.seq (RunC.cond rfl (fun hlt => RunC.skip ?go2) (fun hge => RunC.exit ?ex2))
  case go2 =>
    have hlt := of_decide_eq_true hlt
    have hlt : i < lb.length := by omega
    obtain ⟨x2, xB⟩ := hlbr lb[i] (List.getElem_mem hlt)
    have hsn := fold_snoc (fun (c : List Int) a => c.set a.toNat 1) (((List.replicate B (0 : Int)).set 0 1).set 1 1) hlt
    have hpt := is_part hlt
    obtain ⟨q, hq⟩ := Int.eq_ofNat_of_zero_le (show 0 ≤ lb[i] by omega)
    rw [hq] at hsn hpt
    rw [Int.toNat_natCast] at hsn
    have hqB : q < B := by omega
    have hcl := c0_len B (lb.take i) (((List.replicate B (0 : Int)).set 0 1).set 1 1)
    rw [hc0.1] at hcl
    refine RunC.seq (RunC.block ?_)
    refine RunC.seq (RunC.region ?_)
    refine RunO.at (s := 1) (k := i) rfl rfl (slb.fr0 fg2) rfl rfl hlt hpt rfl rfl rfl (RunO.all rfl ?_)
    refine RunC.region (RunO.part 2 rfl ?_)
    refine RunO.index (s := 1) (k := q) rfl rfl rfl rfl hqB rfl ?_
    refine RunO.store rfl rfl (store1_ow oo rfl rfl rfl (by rw [is_len, hcl]; omega)) (RunO.nil ?_)
    rw [is_set, ← hsn]
    refine RunC.region (RunO.all rfl ?_)
    exact ⟨d - 1, by omega, i + 1, by omega, Ow.put _ oo.1, fg2.trans (Fr.put (m := (· = ob)) _ (.inl rfl)) (fun b e => .inr (by have e : b = ob := e; omega)), Le.cons (inc64 (by omega)) (Le.cons rfl (Le.cons rfl (Le.cons rfl (Le.cons rfl (Le.cons rfl (Le.cons rfl (Le.nil _)))))))⟩
  have hge2 := of_decide_eq_false hge
  obtain rfl : i = lb.length := by omega
  rw [List.take_length] at oo
  change Ow g2 ob (is (c0L B lb)) at oo
  have hc1 : CB B 1 (c0L B lb) := c0_CB lb _ hc0
  have hog := oo.1
  -- the roots
  refine RunC.seq (RunC.region (RunO.part 5 rfl ?_))
  refine RunO.load (v := .int .i64 s.2.2.1) rfl ((ox.fr fg2 (fun g => g)).ld rfl) rfl ?_
  refine RunO.part 1 (h1 := g2.push ⟨is [s.2.2.1], true⟩) rfl ?_
  have or := Ow.push g2 (is [s.2.2.1])
  have f3 : Fr no g2 (g2.push ⟨is [s.2.2.1], true⟩) := Fr.push _ _ _
  generalize g2.push ⟨is [s.2.2.1], true⟩ = g3 at *
  obtain ⟨rq, hrq⟩ : ∃ q, q = g2.next := ⟨_, rfl⟩
  rw [← hrq] at or ⊢
  have hR1 : (RS.take 1).map (·.1) = [s.2.2.1] := by rw [hR]; rfl
  refine RunO.all rfl ?_
  refine RunC.seq ?_
  refine RunC.seq (RunC.region (RunO.part 4 rfl ?_))
  refine RunO.load (v := .slice lA lr.length lc) rfl (((ox.fr fg2 (fun g => g)).fr f3 (fun g => g)).ld rfl) rfl (RunO.all rfl ?_)
  refine RunC.block ?_
  refine RunC.loop (fun d E h' => ∃ (i : Nat) (rov : Value), i + d = lr.length ∧ Gr rq h' rov 1 (i + 1) (is ((RS.take (i + 1)).map (·.1))) ∧ Fr no g2 h' ∧ rq < h'.next ∧ Le ((upd (upd (upd (upd (upd (upd (upd (upd E0 0 (.slice (some ⟨ab, ao, none⟩) L.length c)) 1 (.pointer (some ⟨xb, 0, none⟩))) 5 (.int .i64 (B : Int))) 7 (.slice (some ⟨ob, 0, none⟩) B (exc B))) 61 (.slice lA lr.length lc)) 62 (.int .i64 (lr.length : Int))) 11 (rov)) 63 (.int .i64 (i : Int)))) E) ?st3 (k := lr.length) ?ini3
  case ini3 =>
    refine ⟨0, .slice (some ⟨rq, 0, none⟩) 1 (exc 1), by omega, ?_, f3, or.1, Le.cons rfl (Le.cons rfl (Le.cons rfl (Le.cons rfl (Le.cons rfl (Le.cons rfl (Le.cons rfl (Le.cons rfl (Le.nil _))))))))⟩
    rw [hR1]; exact Gr.full or rfl (Nat.le_refl _)
  rintro d E g4 ⟨i, rov, hi, gr, fg4, hrg, hE⟩
  refine RunC.le hE ?_
  clear hE
  refine RunC.seq (RunC.region (RunO.all rfl ?_))
  refine RunC.seq (RunC.cond rfl (fun hlt => RunC.skip ?go3) (fun hge => RunC.exit ?ex3))
  case go3 =>
    have hlt := of_decide_eq_true hlt
    have hlt : i < lr.length := by omega
    have hRg : RS.take (i + 1 + 1) = RS.take (i + 1) ++ [(lr[i].ro, lr[i].sz)] := by
      rw [List.take_succ_eq_append_getElem (by omega)]
      congr 2
      simp [hR]
    have hpt := recCs_part hlt
    generalize lr[i] = r at *
    refine RunC.seq (RunC.block ?_)
    refine RunC.seq (RunC.region ?_)
    refine RunO.at (s := 8) (k := i) rfl rfl ((slr.fr0 fg2).fr0 fg4) rfl rfl hlt hpt rfl rfl rfl ?_
    refine RunO.part 1 (h1 := g4.push ⟨rc8 ⟨0, 0, 0, 0, 0, 0, 0, 0⟩, true⟩) rfl ?_
    refine RunO.store rfl rfl (store_ow (s := 8) (Ow.push g4 (rc8 ⟨0, 0, 0, 0, 0, 0, 0, 0⟩)) rfl rfl rfl (Nat.le_refl 8)) (RunO.nil ?_)
    have e8 : (rc8 ⟨0, 0, 0, 0, 0, 0, 0, 0⟩).take 0 ++ cellsOf (.agg ⟨rc8 r⟩) ++ (rc8 ⟨0, 0, 0, 0, 0, 0, 0, 0⟩).drop (0 + 8) = rc8 r := rfl
    rw [e8]
    have on : Ow ((g4.push ⟨rc8 ⟨0, 0, 0, 0, 0, 0, 0, 0⟩, true⟩).put g4.next (some ⟨rc8 r, true⟩)) g4.next (rc8 r) := Ow.put _ (Nat.lt_succ_self _)
    have f5 : Fr no g4 ((g4.push ⟨rc8 ⟨0, 0, 0, 0, 0, 0, 0, 0⟩, true⟩).put g4.next (some ⟨rc8 r, true⟩)) := (Fr.push _ _ _).trans (Fr.put (m := (· = g4.next)) _ (.inl rfl)) (fun j hj => .inr (by omega))
    have hrx : ∀ b, At rov b → rq ≤ b := fun b g => (gr.at g).1
    replace gr := gr.fr0 f5
    have fg5 := fg4.same f5
    have hn5 := f5.next
    generalize (g4.push ⟨rc8 ⟨0, 0, 0, 0, 0, 0, 0, 0⟩, true⟩).put g4.next (some ⟨rc8 r, true⟩) = g5 at *
    generalize g4.next = pb at *
    refine RunC.region (RunO.part 2 rfl ?_)
    refine RunO.load (v := .int .i64 r.ro) rfl (on.ld rfl) rfl ?_
    refine RunO.part 1 (h1 := g5.push ⟨is [r.ro], true⟩) rfl ?_
    have ot := Ow.push g5 (is [r.ro])
    have f6 : Fr no g5 (g5.push ⟨is [r.ro], true⟩) := Fr.push _ _ _
    replace gr := gr.fr0 f6
    have fg6 := fg5.same f6
    have hn56 := f6.next
    generalize g5.push ⟨is [r.ro], true⟩ = g6 at *
    refine RunO.appendG (s := 1) (j := 1) rfl rfl rfl rfl rfl rfl rfl rfl (by decide) gr ot.all rfl (Nat.le_refl 1) rfl (by show 2 * (_ + 1) * 8 ≤ _; omega) (by omega) ?_
    intro rov2 g7 row f7
    have fg7 : Fr no g2 g7 := fg6.trans f7 (fun b g => .inr (by have := hrx b g; omega))
    have hn6 := fg6.next
    have hn7 := f7.next
    have e1 : is ((RS.take (i + 1)).map (·.1)) ++ is [r.ro] = is ((RS.take (i + 1 + 1)).map (·.1)) := by
      rw [hRg, List.map_append]; exact (List.map_append ..).symm
    rw [e1] at row
    have hrow : rq < g7.next := by have := ot.1; omega
    refine RunO.all rfl ?_
    refine RunC.region (RunO.all rfl ?_)
    exact ⟨d - 1, by omega, i + 1, rov2, by omega, row.gr.lo (by omega), fg7, hrow, Le.cons (inc64 (by omega)) (Le.cons rfl (Le.cons rfl (Le.cons rfl (Le.cons rfl (Le.cons rfl (Le.cons rfl (Le.cons rfl (Le.nil _))))))))⟩
  have hge3 := of_decide_eq_false hge
  obtain rfl : i = lr.length := by omega
  rw [show RS.take (lr.length + 1) = RS from List.take_of_length_le (by omega), ← hRl] at gr
  have oo4 := oo.fr fg4 (fun g => g)
  have F4 : Fr no h g4 := fg2.same fg4
  have slro := gr.sl (by omega)
  have grge := Gr.ge gr
  obtain ⟨rA, rc_, rfl, _, _⟩ := slro.form
  -- met
  refine RunC.seq (RunC.region (RunO.part 1 rfl ?_))
  refine RunO.make (m := B) rfl rfl rfl rfl rfl rfl (show 1 * B ≤ _ by omega) (by omega) rfl ?_
  rw [reps_bo]
  have om := Ow.push g4 (bo (List.replicate B false))
  have f5 : Fr no g4 (g4.push ⟨bo (List.replicate B false), true⟩) := Fr.push _ _ _
  replace oo4 := oo4.fr f5 (fun g => g)
  replace slro := slro.fr0 f5
  have F5 := F4.same f5
  have hnx4 : ob < g4.next := by have := fg4.next; omega
  have hnr4 : ∀ b o c, Value.slice rA RS.length rc_ = .slice (some ⟨b, o, none⟩) RS.length c → b < g4.next := fun b o c e => by
    have := gr.sl (by omega)
    exact this.lt b o c e
  generalize g4.push ⟨bo (List.replicate B false), true⟩ = g5 at *
  obtain ⟨mb, hmb⟩ : ∃ q, q = g4.next := ⟨_, rfl⟩
  rw [← hmb] at om ⊢
  refine RunO.all rfl ?_
  have hst0 : ((wRs L).take 0).foldl (treeB L) (c0L B lb, List.replicate B false) = (c0L B lb, List.replicate B false) := rfl
  have hwl : (wRs L).length = RS.length := by rw [hwR, List.length_map]
  have hRB : RS.length ≤ 4097 := by omega
  have hob4 : ob ≠ mb := by omega
  have hobm : ∀ b, b = ob ∨ b = mb → no b ∨ h.next ≤ b := by
    rintro b (rfl | rfl)
    · exact .inr (by omega)
    · exact .inr (by have := F4.next; omega)
  have hnr : ∀ b o c, Value.slice rA RS.length rc_ = .slice (some ⟨b, o, none⟩) RS.length c → ¬ (b = ob ∨ b = mb) := by
    intro b o c e
    have h1 := hnr4 b o c e
    have h2 := grge b o _ c e
    omega
  refine RunC.seq ?_
  refine RunC.seq (RunC.region (RunO.all rfl ?_))
  refine RunC.block ?_
  refine RunC.loop (fun d E h' => ∃ (i : Nat) (st : List Int × List Bool), i + d = RS.length ∧ st = ((wRs L).take i).foldl (treeB L) (c0L B lb, List.replicate B false) ∧ Ow h' ob (is st.1) ∧ Ow h' mb (bo st.2) ∧ CB B (1 + 900000 * (i : Nat)) st.1 ∧ st.2.length = B ∧ Fr (fun b => b = ob ∨ b = mb) g5 h' ∧ Le ((upd (upd (upd (upd (upd (upd (upd (upd E0 0 (.slice (some ⟨ab, ao, none⟩) L.length c)) 1 (.pointer (some ⟨xb, 0, none⟩))) 5 (.int .i64 (B : Int))) 7 (.slice (some ⟨ob, 0, none⟩) B (exc B))) 14 (.slice (some ⟨mb, 0, none⟩) B (exc B))) 75 (.slice rA RS.length rc_)) 76 (.int .i64 (RS.length : Int))) 77 (.int .i64 (i : Int)))) E) ?st4 (k := RS.length) ?ini4
  case ini4 => exact ⟨0, _, by omega, rfl, oo4, om, hc1, List.length_replicate, Fr.refl _ _, Le.cons rfl (Le.cons rfl (Le.cons rfl (Le.cons rfl (Le.cons rfl (Le.cons rfl (Le.cons rfl (Le.cons rfl (Le.nil _))))))))⟩
  rintro d E g6 ⟨i, st, hi, hst, oo, om, hcb, hml, fg6, hE⟩
  refine RunC.le hE ?_
  clear hE
  refine RunC.seq (RunC.region (RunO.all rfl ?_))
  refine RunC.seq (RunC.cond rfl (fun hlt => RunC.skip ?go4) (fun hge => RunC.exit ?ex4))
  case go4 =>
    have hlt := of_decide_eq_true hlt
    have hlt : i < RS.length := by omega
    have hsn := fold_snoc (treeB L) (c0L B lb, List.replicate B false) (l := wRs L) (i := i) (by omega)
    rw [← hst] at hsn
    have hri := hrr RS[i] (List.getElem_mem hlt)
    have hpi := htp RS[i] (List.getElem_mem hlt)
    have hni := htn RS[i] (List.getElem_mem hlt)
    have hpt := is_part (l := RS.map (·.1)) (i := i) (by rw [List.length_map]; exact hlt)
    rw [List.getElem_map] at hpt
    have hTi : i < TL.length := by omega
    have htl : TL[i].2.2 = treeN L RS[i].1 := by
      have e : (TL.map fun t => t.2.2)[i]? = (RS.map fun p => treeN L p.1)[i]? := by rw [hTn]
      rw [List.getElem?_map, List.getElem?_map, List.getElem?_eq_getElem hTi, List.getElem?_eq_getElem hlt] at e
      exact Option.some.inj e
    obtain ⟨iv', mv, nv, owt, _, sln, _, hnl, _, _⟩ := hTok TL[i] (List.getElem_mem hTi)
    rw [htl] at sln hnl
    have hwi : (wRs L)[i]'(by omega) = (RS[i].1, treeN L RS[i].1) := by
      have e : (wRs L)[i]? = (RS.map fun p => (p.1, treeN L p.1))[i]? := by rw [hwR]
      rw [List.getElem?_map, List.getElem?_eq_getElem hlt, List.getElem?_eq_getElem (by omega)] at e
      exact Option.some.inj e
    rw [hwi] at hsn
    have htps := tps_part hTi
    obtain ⟨wb, hwb⟩ : ∃ q, q = TL[i].1 := ⟨_, rfl⟩
    rw [← hwb] at owt htps
    generalize RS[i].1 = r0 at *
    generalize treeN L r0 = tn at *
    obtain ⟨q, rfl⟩ := Int.eq_ofNat_of_zero_le (show 0 ≤ r0 by omega)
    have hqB : q < B := by omega
    have hF6 : Fr no h g6 := F5.trans fg6 hobm
    have slr6 := slro.frm hnr fg6
    refine RunC.seq (RunC.block ?_)
    refine RunC.seq (RunC.region (RunO.part 1 rfl ?_))
    refine RunO.at (s := 1) (k := i) rfl rfl slr6 rfl rfl hlt hpt rfl rfl rfl (RunO.all rfl ?_)
    refine RunC.seqc (fun E' h' => Ow h' ob (is (bmp st.1 (q : Int))) ∧ Ow h' mb (bo st.2) ∧ Fr (fun b => b = ob ∨ b = mb) g5 h' ∧ Le ((upd (upd (upd (upd (upd (upd (upd (upd (upd E0 0 (.slice (some ⟨ab, ao, none⟩) L.length c)) 1 (.pointer (some ⟨xb, 0, none⟩))) 5 (.int .i64 (B : Int))) 7 (.slice (some ⟨ob, 0, none⟩) B (exc B))) 14 (.slice (some ⟨mb, 0, none⟩) B (exc B))) 75 (.slice rA RS.length rc_)) 76 (.int .i64 (RS.length : Int))) 77 (.int .i64 (i : Int))) 15 (.int .i64 (i : Int)))) E') ?_ ?_
    · refine RunC.seq (RunC.region (RunO.all rfl ?_))
      by_cases hq0 : (q : Int) = 0
      · refine RunC.cond (t := false) (by show some (Value.bool (!decide ((q : Int) = 0))) = _; rw [decide_eq_true hq0]; rfl) (fun g => by cases g) (fun _ => RunC.skip ?_)
        refine ⟨?_, om, fg6, Le.cons rfl (Le.cons rfl (Le.cons rfl (Le.cons rfl (Le.cons rfl (Le.cons rfl (Le.cons rfl (Le.cons rfl (Le.cons rfl (Le.nil _)))))))))⟩
        unfold bmp; rw [if_pos hq0]; exact oo
      · refine RunC.cond (t := true) (by show some (Value.bool (!decide ((q : Int) = 0))) = _; rw [decide_eq_false hq0]; rfl) (fun _ => ?_) (fun g => by cases g)
        have hgq := hcb.get (by omega) q
        refine RunC.region (RunO.part 2 rfl ?_)
        refine RunO.index (s := 1) (k := q) rfl rfl rfl rfl hqB rfl ?_
        refine RunO.load (v := .int .i64 (st.1.getD q 0)) rfl (oo.ld (ig_at0 (by rw [hcb.1]; exact hqB))) rfl ?_
        refine RunO.part 1 rfl ?_
        rw [fw64 (by omega) (by omega)]
        refine RunO.index (s := 1) (k := q) rfl rfl rfl rfl hqB rfl ?_
        refine RunO.store rfl rfl (store1_ow oo rfl rfl rfl (by rw [is_len, hcb.1]; omega)) (RunO.nil ?_)
        rw [is_set, ← bmp_nat hq0]
        refine ⟨Ow.put _ oo.1, om.fr (Fr.put (m := (· = ob)) _ (.inl rfl)) (fun e => hob4 e.symm), fg6.trans (Fr.put (m := (· = ob)) _ (.inl rfl)) (fun b e => .inl (.inl e)), Le.cons rfl (Le.cons rfl (Le.cons rfl (Le.cons rfl (Le.cons rfl (Le.cons rfl (Le.cons rfl (Le.cons rfl (Le.cons rfl (Le.nil _)))))))))⟩
    rintro E g7 ⟨oo7, om7, fg7, hE⟩
    refine RunC.le hE ?_
    clear hE
    have hF7 : Fr no h g7 := F5.trans fg7 hobm
    obtain ⟨nA, nc_, rfl, _, _⟩ := sln.form
    refine RunC.seq (RunC.region (RunO.part 3 rfl ?_))
    refine RunO.load (v := .slice tA TL.length tc) rfl ((ox.fr hF7 (fun g => g)).ld rfl) rfl ?_
    refine RunO.part 1 rfl ?_
    refine RunO.at (s := 1) (k := i) rfl rfl (st'.fr0 hF7) rfl rfl hTi htps rfl rfl rfl ?_
    refine RunO.part 2 rfl ?_
    refine RunO.load (v := .slice nA tn.length nc_) rfl ((owt.fr hF7 (fun g => g)).ld rfl) rfl (RunO.all rfl ?_)
    have hcb7 : CB B (1 + 900000 * (i : Nat) + 1) (bmp st.1 (q : Int)) := hcb.bmp (by omega) _
    clear oo om fg6
    refine RunC.block ?_
    refine RunC.loop (fun d E h' => ∃ (j : Nat) (su : List Int × List Bool), j + d = tn.length ∧ su = (tn.take j).foldl (nodeB L) (bmp st.1 (q : Int), st.2) ∧ Ow h' ob (is su.1) ∧ Ow h' mb (bo su.2) ∧ CB B (1 + 900000 * (i : Nat) + 1 + 8 * (j : Nat)) su.1 ∧ su.2.length = B ∧ Fr (fun b => b = ob ∨ b = mb) g5 h' ∧ Le ((upd (upd (upd (upd (upd (upd (upd (upd (upd (upd (upd E0 0 (.slice (some ⟨ab, ao, none⟩) L.length c)) 1 (.pointer (some ⟨xb, 0, none⟩))) 5 (.int .i64 (B : Int))) 7 (.slice (some ⟨ob, 0, none⟩) B (exc B))) 14 (.slice (some ⟨mb, 0, none⟩) B (exc B))) 75 (.slice rA RS.length rc_)) 76 (.int .i64 (RS.length : Int))) 77 (.int .i64 (i : Int))) 99 (.slice nA tn.length nc_)) 100 (.int .i64 (tn.length : Int))) 101 (.int .i64 (j : Int)))) E) ?st5 (k := tn.length) ?ini5
    case ini5 => exact ⟨0, _, by omega, rfl, oo7, om7, hcb7, hml, fg7, Le.cons rfl (Le.cons rfl (Le.cons rfl (Le.cons rfl (Le.cons rfl (Le.cons rfl (Le.cons rfl (Le.cons rfl (Le.cons rfl (Le.cons rfl (Le.cons rfl (Le.nil _)))))))))))⟩
    rintro d2 E g8 ⟨j, su, hj, hsu, oo, om, hcb8, hml8, fg8, hE⟩
    refine RunC.le hE ?_
    clear hE
    refine RunC.seq (RunC.region (RunO.all rfl ?_))
    refine RunC.seq (RunC.cond rfl (fun hlt => RunC.skip ?go5) (fun hge => RunC.exit ?ex5))
    case ex5 =>
      have hge := of_decide_eq_false hge
      obtain rfl : j = tn.length := by omega
      rw [List.take_length] at hsu
      refine RunC.region (RunO.all rfl ?_)
      refine ⟨d - 1, by omega, i + 1, su, by omega, ?_, oo, om, hcb8.le (by omega), hml8, fg8, Le.cons (inc64 (by omega)) (Le.cons rfl (Le.cons rfl (Le.cons rfl (Le.cons rfl (Le.cons rfl (Le.cons rfl (Le.cons rfl (Le.nil _))))))))⟩
      rw [hsn]; exact hsu
    have hjl := of_decide_eq_true hlt
    have hjl : j < tn.length := by omega
    have hsn2 := fold_snoc (nodeB L) (bmp st.1 (q : Int), st.2) (l := tn) hjl
    rw [← hsu] at hsn2
    have hpx := hpi tn[j] (List.getElem_mem hjl)
    have hxB := hni tn[j] (List.getElem_mem hjl)
    have hpt2 := is_part hjl
    generalize tn[j] = x at *
    obtain ⟨y, rfl⟩ := Int.eq_ofNat_of_zero_le (show 0 ≤ x by omega)
    have hyB : y < B := by omega
    have hF8 : Fr no h g8 := F5.trans fg8 hobm
    refine RunC.seq (RunC.block ?_)
    refine RunC.seq (RunC.region ?_)
    refine RunO.at (s := 1) (k := j) rfl rfl (sln.fr0 hF8) rfl rfl hjl hpt2 rfl rfl rfl (RunO.all rfl ?_)
    refine RunC.seq (RunC.seq (RunC.region (RunO.part 2 rfl ?_)))
    refine RunO.index (s := 1) (k := y) rfl rfl rfl rfl hyB rfl ?_
    refine RunO.load (v := .bool (su.2.getD y false)) rfl (om.ld (bo_at0 (by rw [hml8]; exact hyB))) rfl (RunO.all rfl ?_)
    cases hmt : su.2.getD y false with
    | true =>
      refine RunC.cond rfl (fun _ => RunC.exit ?_) (fun g => by cases g)
      refine RunC.region (RunO.all rfl ?_)
      refine ⟨d2 - 1, by omega, j + 1, su, by omega, ?_, oo, om, hcb8.le (by omega), hml8, fg8, Le.cons (inc64 (by omega)) (Le.cons rfl (Le.cons rfl (Le.cons rfl (Le.cons rfl (Le.cons rfl (Le.cons rfl (Le.cons rfl (Le.cons rfl (Le.cons rfl (Le.cons rfl (Le.nil _)))))))))))⟩
      rw [hsn2]; unfold nodeB; rw [Int.toNat_natCast, hmt]; rfl
    | false =>
    refine RunC.cond rfl (fun g => by cases g) (fun _ => RunC.skip ?_)
    have hnb : nodeB L su (y : Int) = ((wPs L (y : Int)).foldl bmp su.1, su.2.set y true) := by
      unfold nodeB; rw [Int.toNat_natCast, hmt]; rfl
    rw [hnb] at hsn2
    refine RunC.seq (RunC.region (RunO.part 2 rfl ?_))
    refine RunO.index (s := 1) (k := y) rfl rfl rfl rfl hyB rfl ?_
    refine RunO.store rfl rfl (store1_ow om rfl rfl rfl (by rw [bo_len, hml8]; omega)) (RunO.nil ?_)
    rw [bo_set]
    have om9 : Ow (g8.put mb (some ⟨bo (su.2.set y true), true⟩)) mb (bo (su.2.set y true)) := Ow.put _ om.1
    have fm : Fr (· = mb) g8 (g8.put mb (some ⟨bo (su.2.set y true), true⟩)) := Fr.put (m := (· = mb)) _ (.inl rfl)
    have oo9 := oo.fr fm hob4
    have fg9 : Fr (fun b => b = ob ∨ b = mb) g5 (g8.put mb (some ⟨bo (su.2.set y true), true⟩)) := fg8.trans fm (fun b e => .inl (.inr e))
    generalize g8.put mb (some ⟨bo (su.2.set y true), true⟩) = g9 at *
    have hF9 : Fr no h g9 := F5.trans fg9 hobm
    clear oo om fg8 fm
    have haL : (y + 1) * 64 ≤ L.length := by
      have : y + 1 ≤ B := by omega
      omega
    refine RunC.seq (RunC.region (RunO.part 2 rfl ?_))
    refine RunO.callD (devOf_ok (o := ao) haL hm hc) rfl rfl rfl ?_
    rintro _ _ ⟨⟨c', hc', rfl⟩, rfl⟩
    have hbl := blkI_len haL
    have hparse := nodParse_ok (h := g9) (A := some ⟨ab, ao + y * 64, none⟩) (c := c') (l := blkI L y) (fun _ => ⟨_, rfl, rdBlk (rdI.fr hF9 (fun g => g)) haL⟩) (byt_blk hb y) (by rw [hbl]; exact hc')
    rw [hbl, nodV_cells] at hparse
    refine RunO.callD hparse rfl rfl rfl ?_
    rintro v h2 ⟨rfl, f2⟩
    have hps : (nodV (blkI L y)).2 = wPs L (y : Int) := by unfold wPs; rw [Int.toNat_natCast]
    rw [hps]
    have hlen := wPs_len L (y : Int)
    generalize (nodV (blkI L y)).1 = nl at *
    have hpw : (wPs L (y : Int)).foldl bmp su.1 = ((wPs L (y : Int)).take 8).foldl bmp su.1 := by rw [List.take_of_length_le (by omega)]
    generalize wPs L (y : Int) = ps at *
    refine RunO.part 4 (h1 := h2.push ⟨nc 0 nZero, true⟩) rfl ?_
    have hcl : (cellsOf (.agg ⟨nc nl ps⟩)).length = 9 := by show (nc nl ps).length = 9; simp [nc, is_len, hlen]
    have hac : allCells (cellsOf (.agg ⟨nc nl ps⟩)) = true := by show allCells (.int .i64 nl :: is ps) = true; exact allCells_map (f := Value.int .i64) (fun _ => rfl) ps
    refine RunO.store rfl rfl (store_ow (s := 9) (Ow.push h2 (nc 0 nZero)) rfl hcl hac (Nat.le_refl 9)) (RunO.all rfl ?_)
    have e9 : (nc 0 nZero).take 0 ++ cellsOf (.agg ⟨nc nl ps⟩) ++ (nc 0 nZero).drop (0 + 9) = nc nl ps := by
      show [] ++ nc nl ps ++ [] = _; simp
    rw [e9]
    have on : Ow ((h2.push ⟨nc 0 nZero, true⟩).put h2.next (some ⟨nc nl ps, true⟩)) h2.next (nc nl ps) := Ow.put _ (Nat.lt_succ_self _)
    have f4 : Fr no h2 ((h2.push ⟨nc 0 nZero, true⟩).put h2.next (some ⟨nc nl ps, true⟩)) := (Fr.push _ _ _).trans (Fr.put (m := (· = h2.next)) _ (.inl rfl)) (fun j hj => .inr (by omega))
    have oo10 := (oo9.fr f2 (fun g => g)).fr f4 (fun g => g)
    have om10 := (om9.fr f2 (fun g => g)).fr f4 (fun g => g)
    have fg10 := (fg9.quiet f2).quiet f4
    generalize (h2.push ⟨nc 0 nZero, true⟩).put h2.next (some ⟨nc nl ps, true⟩) = ga at *
    generalize h2.next = nb at *
    refine RunC.seq (RunC.region (RunO.part 1 rfl ?_))
    refine RunO.load (v := .agg ⟨is ps⟩) rfl (nc_ptrs hlen on) rfl (RunO.all rfl ?_)
    clear on oo9 om9 fg9
    refine RunC.block ?_
    refine RunC.loop (fun d E h' => ∃ k : Nat, k + d = 8 ∧ Ow h' ob (is ((ps.take k).foldl bmp su.1)) ∧ Ow h' mb (bo (su.2.set y true)) ∧ CB B (1 + 900000 * (i : Nat) + 1 + 8 * (j : Nat) + k) ((ps.take k).foldl bmp su.1) ∧ Fr (fun b => b = ob ∨ b = mb) g5 h' ∧ Le ((upd (upd (upd (upd (upd (upd (upd (upd (upd (upd (upd (upd (upd E0 0 (.slice (some ⟨ab, ao, none⟩) L.length c)) 1 (.pointer (some ⟨xb, 0, none⟩))) 5 (.int .i64 (B : Int))) 7 (.slice (some ⟨ob, 0, none⟩) B (exc B))) 14 (.slice (some ⟨mb, 0, none⟩) B (exc B))) 75 (.slice rA RS.length rc_)) 76 (.int .i64 (RS.length : Int))) 77 (.int .i64 (i : Int))) 99 (.slice nA tn.length nc_)) 100 (.int .i64 (tn.length : Int))) 101 (.int .i64 (j : Int))) 120 (.agg ⟨is ps⟩)) 121 (.int .i64 (k : Int)))) E) ?st6 (k := 8) ?ini6
    case ini6 => exact ⟨0, by omega, oo10, om10, hcb8.le (by omega), fg10, Le.cons rfl (Le.cons rfl (Le.cons rfl (Le.cons rfl (Le.cons rfl (Le.cons rfl (Le.cons rfl (Le.cons rfl (Le.cons rfl (Le.cons rfl (Le.cons rfl (Le.cons rfl (Le.cons rfl (Le.nil _)))))))))))))⟩
    rintro d3 E gb ⟨k, hk, oo, om, hcbk, fgb, hE⟩
    refine RunC.le hE ?_
    clear hE
    refine RunC.seq (RunC.region (RunO.all rfl ?_))
    refine RunC.seq (RunC.cond rfl (fun hlt => RunC.skip ?go6) (fun hge => RunC.exit ?ex6))
    case ex6 =>
      have hge := of_decide_eq_false hge
      obtain rfl : k = 8 := by omega
      rw [← hpw] at oo hcbk
      refine RunC.region (RunO.all rfl ?_)
      refine ⟨d2 - 1, by omega, j + 1, _, by omega, hsn2.symm, oo, om, hcbk.le (by omega), by show (su.2.set y true).length = B; rw [List.length_set]; exact hml8, fgb, Le.cons (inc64 (by omega)) (Le.cons rfl (Le.cons rfl (Le.cons rfl (Le.cons rfl (Le.cons rfl (Le.cons rfl (Le.cons rfl (Le.cons rfl (Le.cons rfl (Le.cons rfl (Le.nil _)))))))))))⟩
    have hkl := of_decide_eq_true hlt
    have hk8 : k < 8 := by omega
    have hkl : k < ps.length := by omega
    have hsn3 := fold_snoc bmp su.1 (l := ps) hkl
    have hpp := hpx ps[k] (List.getElem_mem hkl)
    have hpt3 := is_part hkl
    generalize ps[k] = p at *
    obtain ⟨z, rfl⟩ := Int.eq_ofNat_of_zero_le (show 0 ≤ p by omega)
    have hzB : z < B := by omega
    refine RunC.seq (RunC.block ?_)
    refine RunC.seq (RunC.region ?_)
    refine RunO.indexV (s := 1) (k := k) rfl rfl rfl rfl hk8 hpt3 rfl (RunO.all rfl ?_)
    refine RunC.seq (RunC.region (RunO.all rfl ?_))
    have hcbn : CB B (1 + 900000 * (i : Nat) + 1 + 8 * (j : Nat) + (k + 1 : Nat)) ((ps.take (k + 1)).foldl bmp su.1) := by
      rw [hsn3]; exact (hcbk.bmp (by omega) _).le (by omega)
    by_cases hz0 : (z : Int) = 0
    · refine RunC.cond (t := false) (by show some (Value.bool (!decide ((z : Int) = 0))) = _; rw [decide_eq_true hz0]; rfl) (fun g => by cases g) (fun _ => RunC.skip ?_)
      refine RunC.region (RunO.all rfl ?_)
      refine ⟨d3 - 1, by omega, k + 1, by omega, ?_, om, hcbn, fgb, Le.cons (inc64 (by omega)) (Le.cons rfl (Le.cons rfl (Le.cons rfl (Le.cons rfl (Le.cons rfl (Le.cons rfl (Le.cons rfl (Le.cons rfl (Le.cons rfl (Le.cons rfl (Le.cons rfl (Le.cons rfl (Le.nil _)))))))))))))⟩
      rw [hsn3]; unfold bmp; rw [if_pos hz0]; exact oo
    · refine RunC.cond (t := true) (by show some (Value.bool (!decide ((z : Int) = 0))) = _; rw [decide_eq_false hz0]; rfl) (fun _ => ?_) (fun g => by cases g)
      generalize hcc : (ps.take k).foldl bmp su.1 = cc at *
      have hgz := hcbk.get (by omega) z
      refine RunC.region (RunO.part 2 rfl ?_)
      refine RunO.index (s := 1) (k := z) rfl rfl rfl rfl hzB rfl ?_
      refine RunO.load (v := .int .i64 (cc.getD z 0)) rfl (oo.ld (ig_at0 (by rw [hcbk.1]; exact hzB))) rfl ?_
      refine RunO.part 1 rfl ?_
      rw [fw64 (by omega) (by omega)]
      refine RunO.index (s := 1) (k := z) rfl rfl rfl rfl hzB rfl ?_
      refine RunO.store rfl rfl (store1_ow oo rfl rfl rfl (by rw [is_len, hcbk.1]; omega)) (RunO.nil ?_)
      rw [is_set, ← bmp_nat hz0, ← hsn3]
      refine RunC.region (RunO.all rfl ?_)
      exact ⟨d3 - 1, by omega, k + 1, by omega, Ow.put _ oo.1, om.fr (Fr.put (m := (· = ob)) _ (.inl rfl)) (fun e => hob4 e.symm), hcbn, fgb.trans (Fr.put (m := (· = ob)) _ (.inl rfl)) (fun b e => .inl (.inl e)), Le.cons (inc64 (by omega)) (Le.cons rfl (Le.cons rfl (Le.cons rfl (Le.cons rfl (Le.cons rfl (Le.cons rfl (Le.cons rfl (Le.cons rfl (Le.cons rfl (Le.cons rfl (Le.cons rfl (Le.cons rfl (Le.nil _)))))))))))))⟩
  have hge4 := of_decide_eq_false hge
  obtain rfl : i = RS.length := by omega
  rw [← hwl, List.take_length] at hst
  refine RunC.seq (RunC.region (RunO.all rfl ?_))
  refine RunC.ret ⟨_, rfl, F5.trans fg6 hobm, ?_, ob, by omega, rfl, ?_⟩
  · rw [hcnt, ← hst]; exact hcb.le (by omega)
  · rw [hcnt, ← hst]; exact oo
end Go.Proofs.Ytbinkbdfoalbcaa
end
section
set_option linter.unusedVariables false
set_option linter.unusedSectionVars false
set_option maxRecDepth 100000
open Go Go.Am Go.RowKit
namespace Go.Proofs.Ytbinkbdfoalbcaa
open Go.Proofs.Try
/-- The numbers below n with p, in order. -/
def idxs (p : Nat → Bool) (n : Nat) : List Int := ((List.range n).filter p).map fun (j : Nat) => (j : Int)
def cntI (p : Nat → Bool) (n : Nat) : Nat := ((List.range n).filter p).length
def posP (c : List Int) (j : Nat) : Bool := decide (c.getD j 0 > 0)
def shP (c : List Int) (j : Nat) : Bool := decide ((j : Int) ≥ 2) && decide (c.getD j 0 > 1)
theorem idxs_len (p : Nat → Bool) (n : Nat) : (idxs p n).length = cntI p n := List.length_map _
theorem cntI_le (p : Nat → Bool) (n : Nat) : cntI p n ≤ n := by
  unfold cntI
  have := List.length_filter_le p (List.range n)
  rwa [List.length_range] at this
theorem idxs_yes {p : Nat → Bool} {n : Nat} (h : p n = true) : idxs p (n + 1) = idxs p n ++ [(n : Int)] := by
  unfold idxs
  rw [List.range_succ, List.filter_append, List.map_append, List.filter_cons_of_pos h]; rfl
theorem idxs_no {p : Nat → Bool} {n : Nat} (h : p n = false) : idxs p (n + 1) = idxs p n := by
  unfold idxs
  rw [List.range_succ, List.filter_append, List.map_append, List.filter_cons_of_neg (by rw [h]; decide)]
  exact List.append_nil _
theorem cntI_yes {p : Nat → Bool} {n : Nat} (h : p n = true) : cntI p (n + 1) = cntI p n + 1 := by
  rw [← idxs_len, ← idxs_len, idxs_yes h, List.length_append]; rfl
theorem cntI_no {p : Nat → Bool} {n : Nat} (h : p n = false) : cntI p (n + 1) = cntI p n := by
  rw [← idxs_len, ← idxs_len, idxs_no h]
theorem idxs_mem {p : Nat → Bool} {n : Nat} {x : Int} : x ∈ idxs p n ↔ ∃ j : Nat, j < n ∧ p j = true ∧ x = (j : Int) := by
  unfold idxs
  rw [List.mem_map]
  constructor
  · rintro ⟨j, hj, rfl⟩
    rw [List.mem_filter, List.mem_range] at hj
    exact ⟨j, hj.1, hj.2, rfl⟩
  · rintro ⟨j, h1, h2, rfl⟩
    exact ⟨j, List.mem_filter.2 ⟨List.mem_range.2 h1, h2⟩, rfl⟩
theorem lk_nn (L : List Int) (h : (lk L).2 ≠ 0) : (decide ((lk L).2 = 0)) = false := decide_eq_false h
section
variable {h : Heap} {iv : Value} {L : List Int} (sl : Sl h iv 1 L.length (us L)) (hb : Byt L) (hm : L.length ≤ 4611686018427387904)
include sl hb hm
set_option maxHeartbeats 4000000 in
theorem walkCounts_ok : RunF prog 31 [iv] h fun v h' => Fr no h h' ∧ (((lk L).2 = 0 ∧ CB (L.length / 64) 5000000000 (cntL L) ∧ ∃ b, h.next ≤ b ∧ v = .tuple #[.slice (some ⟨b, 0, none⟩) (L.length / 64) (exc (L.length / 64)), .int .i64 0] ∧ Ow h' b (is (cntL L))) ∨ ((lk L).2 ≠ 0 ∧ v = .tuple #[.slice none 0 0, .int .i64 (lk L).2])) := by
  refine RunF.walk func31 rfl rfl ?_
  refine RunC.seq (RunC.region (RunO.all rfl ?_))
  refine RunC.seq (RunC.region (RunO.part 1 rfl ?_))
  refine RunO.callD (openLook_ok sl hb hm) rfl rfl rfl ?_
  rintro _ h1 ⟨f1, ⟨g, xb, rfl, lr⟩ | ⟨g, rfl⟩⟩
  · refine RunO.all rfl ?_
    refine RunC.seq (RunC.seq (RunC.region (RunO.all rfl (RunC.cond rfl (fun g => by cases g) (fun _ => RunC.skip ?_)))))
    refine RunC.seq (RunC.region (RunO.part 2 rfl ?_))
    refine RunO.callD (walkOf_ok (sl.fr0 f1) hb g lr) rfl rfl rfl ?_
    rintro _ h2 ⟨f2, cb, b, hbn, rfl, ow⟩
    refine RunO.all rfl ?_
    exact RunC.ret ⟨_, rfl, f1.same f2, .inl ⟨g, cb, b, by have := f1.next; omega, rfl, ow⟩⟩
  · refine RunO.all rfl ?_
    refine RunC.seq (RunC.seq (RunC.region (RunO.all rfl (RunC.cond (t := true) (by show some (Value.bool (!decide ((lk L).2 = 0))) = _; rw [decide_eq_false g]; rfl) (fun _ => ?_) (fun g => by cases g)))))
    refine RunC.seq (RunC.region (RunO.all rfl ?_))
    exact RunC.ret ⟨_, rfl, f1, .inr ⟨g, rfl⟩⟩
/-- How many are reached. -/
def usedL (L : List Int) : Nat := if (lk L).2 = 0 then cntI (posP (cntL L)) (L.length / 64) else 0
def sharedL (L : List Int) : List Int := if (lk L).2 = 0 then idxs (shP (cntL L)) (L.length / 64) else []
set_option maxHeartbeats 4000000 in
theorem walkUsed_ok : RunF prog 32 [iv] h fun v h' => v = .tuple #[.int .i64 ((usedL L : Nat) : Int), .int .i64 (lk L).2] ∧ Fr no h h' := by
  refine RunF.walk func32 rfl rfl ?_
  have hdv : (lk L).2 = 0 → L.length % 64 = 0 ∧ 4 ≤ L.length / 64 ∧ L.length / 64 ≤ 4096 := fun g => by
    have hd := (lk_trees g).1
    unfold devOk at hd
    simpa using hd
  obtain ⟨B, hB⟩ : ∃ B, B = L.length / 64 := ⟨_, rfl⟩
  refine RunC.seq (RunC.region (RunO.all rfl ?_))
  refine RunC.seq (RunC.region (RunO.part 1 rfl ?_))
  refine RunO.callD (walkCounts_ok sl hb hm) rfl rfl rfl ?_
  rintro _ h1 ⟨f1, ⟨g, cb, b, hbn, rfl, ow⟩ | ⟨g, rfl⟩⟩
  case inr =>
    refine RunO.all rfl ?_
    refine RunC.seq (RunC.seq (RunC.region (RunO.all rfl (RunC.cond (t := true) (by show some (Value.bool (!decide ((lk L).2 = 0))) = _; rw [decide_eq_false g]; rfl) (fun _ => ?_) (fun g => by cases g)))))
    refine RunC.seq (RunC.region (RunO.all rfl ?_))
    refine RunC.ret ⟨_, rfl, ?_, f1⟩
    unfold usedL; rw [if_neg g]; rfl
  obtain ⟨h64, hB4, hB9⟩ := hdv g
  have hul : usedL L = cntI (posP (cntL L)) B := by unfold usedL; rw [if_pos g, hB]
  rw [hul, g]
  rw [← hB] at cb hB4 hB9 ⊢
  have slc : Sl h1 (.slice (some ⟨b, 0, none⟩) B (exc B)) 1 B (is (cntL L)) := by have := sl_owI ow cb.1 (Cp.exc (Nat.le_refl _)) (by omega); rwa [cb.1] at this
  refine RunO.all rfl ?_
  refine RunC.seq (RunC.seq (RunC.region (RunO.all rfl (RunC.cond rfl (fun g => by cases g) (fun _ => RunC.skip ?_)))))
  refine RunC.seq (RunC.region (RunO.all rfl ?_))
  refine RunC.seq ?_
  refine RunC.seq (RunC.region (RunO.all rfl ?_))
  refine RunC.block ?_
  refine RunC.loop (fun d E h' => ∃ i : Nat, i + d = B ∧ h' = h1 ∧ Le ((upd (upd (upd (upd E0 17 (.slice (some ⟨b, 0, none⟩) B (exc B))) 18 (.int .i64 (B : Int))) 6 (.int .i64 ((cntI (posP (cntL L)) i : Nat) : Int))) 19 (.int .i64 (i : Int)))) E) ?st1 (k := B) ?ini1
  case ini1 => exact ⟨0, by omega, rfl, Le.cons rfl (Le.cons rfl (Le.cons rfl (Le.cons rfl (Le.nil _))))⟩
  rintro d E g1 ⟨i, hi, hgg, hE⟩
  subst hgg
  refine RunC.le hE ?_
  clear hE
  refine RunC.seq (RunC.region (RunO.all rfl ?_))
  refine RunC.seq (RunC.cond rfl (fun hlt => RunC.skip ?go1) (fun hge => RunC.exit ?ex1))
  case ex1 =>
    have hge := of_decide_eq_false hge
    obtain rfl : i = B := by omega
    refine RunC.seq (RunC.region (RunO.all rfl ?_))
    exact RunC.ret ⟨_, rfl, rfl, f1⟩
  have hlt := of_decide_eq_true hlt
  have hlt : i < B := by omega
  have hci := cntI_le (posP (cntL L)) i
  refine RunC.seq (RunC.block ?_)
  refine RunC.seq (RunC.region ?_)
  refine RunO.at (s := 1) (m := B) (k := i) rfl rfl slc rfl rfl hlt (ig_at (by rw [cb.1]; exact hlt)) rfl rfl rfl (RunO.all rfl ?_)
  refine RunC.seq (RunC.region (RunO.all rfl ?_))
  cases hp : posP (cntL L) i with
  | true =>
    refine RunC.cond (t := true) (congrArg (fun x => some (Value.bool x)) hp) (fun _ => ?_) (fun g => by cases g)
    refine RunC.region (RunO.all rfl ?_)
    refine RunC.region (RunO.all rfl ?_)
    refine ⟨d - 1, by omega, i + 1, by omega, rfl, Le.cons (inc64 (by omega)) (Le.cons ?_ (Le.cons rfl (Le.cons rfl (Le.nil _))))⟩
    rw [cntI_yes hp]; exact inc64 (by omega)
  | false =>
    refine RunC.cond (t := false) (congrArg (fun x => some (Value.bool x)) hp) (fun g => by cases g) (fun _ => RunC.skip ?_)
    refine RunC.region (RunO.all rfl ?_)
    refine ⟨d - 1, by omega, i + 1, by omega, rfl, Le.cons (inc64 (by omega)) (Le.cons ?_ (Le.cons rfl (Le.cons rfl (Le.nil _))))⟩
    rw [cntI_no hp]; rfl
set_option maxHeartbeats 4000000 in
theorem walkShared_ok : RunF prog 33 [iv] h fun v h' => Fr no h h' ∧ ∃ ov, v = .tuple #[ov, .int .i64 (lk L).2] ∧ Row h.next h' ov 1 (sharedL L).length (is (sharedL L)) := by
  refine RunF.walk func33 rfl rfl ?_
  have hdv : (lk L).2 = 0 → L.length % 64 = 0 ∧ 4 ≤ L.length / 64 ∧ L.length / 64 ≤ 4096 := fun g => by
    have hd := (lk_trees g).1
    unfold devOk at hd
    simpa using hd
  obtain ⟨B, hB⟩ : ∃ B, B = L.length / 64 := ⟨_, rfl⟩
  refine RunC.seq (RunC.region (RunO.all rfl ?_))
  refine RunC.seq (RunC.region (RunO.part 1 rfl ?_))
  refine RunO.callD (walkCounts_ok sl hb hm) rfl rfl rfl ?_
  rintro _ h1 ⟨f1, ⟨g, cb, b, hbn, rfl, ow⟩ | ⟨g, rfl⟩⟩
  case inr =>
    refine RunO.all rfl ?_
    refine RunC.seq (RunC.seq (RunC.region (RunO.all rfl (RunC.cond (t := true) (by show some (Value.bool (!decide ((lk L).2 = 0))) = _; rw [decide_eq_false g]; rfl) (fun _ => ?_) (fun g => by cases g)))))
    refine RunC.seq (RunC.region (RunO.all rfl ?_))
    refine RunC.ret ⟨_, rfl, f1, _, rfl, ?_⟩
    unfold sharedL; rw [if_neg g]; exact Row.nil _ _ _
  obtain ⟨h64, hB4, hB9⟩ := hdv g
  have hul : sharedL L = idxs (shP (cntL L)) B := by unfold sharedL; rw [if_pos g, hB]
  rw [hul, g]
  rw [← hB] at cb hB4 hB9 ⊢
  have slc : Sl h1 (.slice (some ⟨b, 0, none⟩) B (exc B)) 1 B (is (cntL L)) := by have := sl_owI ow cb.1 (Cp.exc (Nat.le_refl _)) (by omega); rwa [cb.1] at this
  have hn1 := f1.next
  refine RunO.all rfl ?_
  refine RunC.seq (RunC.seq (RunC.region (RunO.all rfl (RunC.cond rfl (fun g => by cases g) (fun _ => RunC.skip ?_)))))
  refine RunC.seq (RunC.region (RunO.all rfl ?_))
  refine RunC.seq ?_
  refine RunC.seq (RunC.region (RunO.all rfl ?_))
  refine RunC.block ?_
  refine RunC.loop (fun d E h' => ∃ (i : Nat) (ov : Value), i + d = B ∧ Fr no h1 h' ∧ Row h1.next h' ov 1 (idxs (shP (cntL L)) i).length (is (idxs (shP (cntL L)) i)) ∧ Le ((upd (upd (upd (upd E0 17 (.slice (some ⟨b, 0, none⟩) B (exc B))) 18 (.int .i64 (B : Int))) 6 (ov)) 19 (.int .i64 (i : Int)))) E) ?st1 (k := B) ?ini1
  case ini1 => exact ⟨0, .slice none 0 0, by omega, Fr.refl _ _, Row.nil _ _ _, Le.cons rfl (Le.cons rfl (Le.cons rfl (Le.cons rfl (Le.nil _))))⟩
  rintro d E g1 ⟨i, ov, hi, fg, row, hE⟩
  refine RunC.le hE ?_
  clear hE
  refine RunC.seq (RunC.region (RunO.all rfl ?_))
  refine RunC.seq (RunC.cond rfl (fun hlt => RunC.skip ?go1) (fun hge => RunC.exit ?ex1))
  case ex1 =>
    have hge := of_decide_eq_false hge
    obtain rfl : i = B := by omega
    refine RunC.seq (RunC.region (RunO.all rfl ?_))
    exact RunC.ret ⟨_, rfl, f1.same fg, _, rfl, Row.lo row hn1⟩
  have hlt := of_decide_eq_true hlt
  have hlt : i < B := by omega
  have hci := cntI_le (shP (cntL L)) i
  rw [← idxs_len] at hci
  refine RunC.seq (RunC.block ?_)
  refine RunC.seq (RunC.region (RunO.part 1 rfl ?_))
  refine RunO.at (s := 1) (m := B) (k := i) rfl rfl (slc.fr0 fg) rfl rfl hlt (ig_at (by rw [cb.1]; exact hlt)) rfl rfl rfl (RunO.all rfl ?_)
  refine RunC.seqE (upd ((upd (upd (upd (upd (upd E0 17 (.slice (some ⟨b, 0, none⟩) B (exc B))) 18 (.int .i64 (B : Int))) 6 (ov)) 19 (.int .i64 (i : Int))) 7 (.int .i64 (i : Int)))) 29 (.bool (shP (cntL L) i))) ?_ ?_
  · refine RunC.region (RunO.part 3 rfl ?_)
    unfold shP
    cases decide ((i : Int) ≥ 2) with
    | true => exact RunO.all rfl ⟨rfl, Le.cons rfl (Le.cons rfl (Le.cons rfl (Le.cons rfl (Le.cons rfl (Le.cons rfl (Le.nil _))))))⟩
    | false => exact RunO.all rfl ⟨rfl, Le.cons rfl (Le.cons rfl (Le.cons rfl (Le.cons rfl (Le.cons rfl (Le.cons rfl (Le.nil _))))))⟩
  cases hp : shP (cntL L) i with
  | true =>
    refine RunC.cond rfl (fun _ => ?_) (fun g => by cases g)
    refine RunC.region (RunO.part 3 (h1 := g1.push ⟨is [(i : Int)], true⟩) rfl ?_)
    have ot := Ow.push g1 (is [(i : Int)])
    have f6 : Fr no g1 (g1.push ⟨is [(i : Int)], true⟩) := Fr.push _ _ _
    have hrx : ∀ b, At ov b → h1.next ≤ b := fun b g => (row.at g).1
    replace row := row.fr f6 (fun _ _ _ g => g)
    have fg6 := fg.same f6
    have hn6 := fg6.next
    generalize g1.push ⟨is [(i : Int)], true⟩ = g6 at *
    refine RunO.appendG (s := 1) (j := 1) rfl rfl rfl rfl rfl rfl rfl rfl (by decide) row.gr ot.all rfl (Nat.le_refl 1) rfl (by show 2 * (_ + 1) * 8 ≤ _; omega) (by omega) ?_
    intro ov2 g7 row f7
    have fg7 : Fr no h1 g7 := fg6.trans f7 (fun b g => .inr (by have := hrx b g; omega))
    have e1 : is (idxs (shP (cntL L)) i) ++ is [(i : Int)] = is (idxs (shP (cntL L)) (i + 1)) := by
      rw [idxs_yes hp]; exact (List.map_append ..).symm
    have e2 : (idxs (shP (cntL L)) i).length + 1 = (idxs (shP (cntL L)) (i + 1)).length := by rw [idxs_yes hp, List.length_append]; rfl
    rw [e1, e2] at row
    refine RunO.all rfl ?_
    refine RunC.region (RunO.all rfl ?_)
    exact ⟨d - 1, by omega, i + 1, ov2, by omega, fg7, Row.lo row hn6, Le.cons (inc64 (by omega)) (Le.cons rfl (Le.cons rfl (Le.cons rfl (Le.nil _))))⟩
  | false =>
    refine RunC.cond rfl (fun g => by cases g) (fun _ => RunC.skip ?_)
    refine RunC.region (RunO.all rfl ?_)
    refine ⟨d - 1, by omega, i + 1, ov, by omega, fg, ?_, Le.cons (inc64 (by omega)) (Le.cons rfl (Le.cons rfl (Le.cons rfl (Le.nil _))))⟩
    rw [idxs_no hp]; exact row
end
end Go.Proofs.Ytbinkbdfoalbcaa
end
section
set_option linter.unusedVariables false
set_option linter.unusedSectionVars false
set_option maxRecDepth 100000
open Go Go.Am Go.RowKit
namespace Go.Proofs.Ytbinkbdfoalbcaa
open Go.Proofs.Try
/- With no trees only the slots and the records are reached. -/
theorem treeN_zero (L : List Int) : treeN L 0 = [] := rfl
theorem cnt_zeros (L : List Int) : ∀ (l : List (Int × Int)) (st : List Int × List Bool), (∀ p ∈ l, p.1 = 0) → (l.map fun p => (p.1, treeN L p.1)).foldl (treeB L) st = st
  | [], st, h => rfl
  | p :: l, st, h => by
    have h0 := h p (List.mem_cons_self ..)
    rw [List.map_cons, List.foldl_cons, h0]
    have : treeB L st (0, treeN L 0) = st := rfl
    rw [this]
    exact cnt_zeros L l st (fun q hq => h q (List.mem_cons_of_mem _ hq))
theorem cnt_zero {L : List Int} (h : ∀ p ∈ lkR L, p.1 = 0) : cntL L = c0L (L.length / 64) (lkF L).2.1 := by
  unfold cntL wRs
  rw [cnt_zeros L _ _ h]
theorem cnt_one {L : List Int} {root size : Int} (h : lkR L = [(root, size)]) : cntL L = ((treeN L root).foldl (nodeB L) (bmp (c0L (L.length / 64) (lkF L).2.1) root, List.replicate (L.length / 64) false)).1 := by
  unfold cntL wRs
  rw [h]; rfl
theorem cnt_new {B : Nat} (h4 : 4 ≤ B) (hB : B ≤ 4096) : cntL (newI B) = c0L B [] := by
  obtain ⟨_, hF, hS⟩ := lk_new h4 hB
  rw [cnt_zero, hF, newI_len (by omega), Nat.mul_div_cancel _ (by decide)]
  intro p hp
  unfold lkR at hp
  rw [hF, hS] at hp
  have hp : p ∈ [((0 : Int), (0 : Int))] := hp
  rw [List.mem_singleton] at hp
  rw [hp]
set_option maxHeartbeats 8000000 in
theorem wakes12_ok {h : Heap} : RunF prog 34 [] h fun v h' => v = .bool true ∧ Fr no h h' := by
  refine RunF.walk func34 rfl rfl ?_
  have h4 : 4 ≤ 8 := by decide
  have hB : 8 ≤ 4096 := by decide
  refine RunC.seq (RunC.region (RunO.all rfl ?_))
  refine RunC.seq (RunC.region ?_)
  refine RunO.callD (openNew_ok (B := 8) h4 hB) rfl rfl rfl ?_
  rintro _ h1 ⟨f1, ib, hib, rfl, oi⟩
  obtain ⟨k1, k2, k3⟩ := lk_new h4 hB
  have hl := newI_len (B := 8) (by decide)
  have hby := newI_byt 8
  have hcn := cnt_new h4 hB
  generalize newI 8 = L at *
  have hus : usedL L = 2 := by unfold usedL; rw [k1, hcn, hl]; rfl
  have hsh : sharedL L = [] := by unfold sharedL; rw [k1, hcn, hl]; rfl
  have k0 : (lk L).2 = 0 := by rw [k1]
  have sli := sl_own oi hl (Cp.exc (Nat.le_refl _)) (by decide)
  refine RunO.all rfl ?_
  refine RunC.seq (RunC.region (RunO.part 1 rfl ?_))
  refine RunO.callD (walkCounts_ok sli hby (by omega)) rfl rfl rfl ?_
  rintro _ h2 ⟨f2, ⟨_, cb, q, hq, rfl, ow⟩ | ⟨g, _⟩⟩
  case inr => exact absurd k0 g
  rw [hcn] at ow
  rw [hl]
  refine RunO.all rfl ?_
  refine RunC.seq (RunC.region (RunO.part 1 rfl ?_))
  refine RunO.callD (walkUsed_ok (sli.fr0 f2) hby (by omega)) rfl rfl rfl ?_
  rintro _ h3 ⟨rfl, f3⟩
  rw [hus, k0]
  refine RunO.all rfl ?_
  refine RunC.seq (RunC.region (RunO.part 1 rfl ?_))
  refine RunO.callD (walkShared_ok ((sli.fr0 f2).fr0 f3) hby (by omega)) rfl rfl rfl ?_
  rintro _ h4_ ⟨f4, ov, rfl, row⟩
  rw [hsh] at row
  rw [k0]
  obtain ⟨sA, sc_, rfl, _, _⟩ := (row.sl (by decide)).form
  refine RunO.all rfl ?_
  have ow4 := (ow.fr f3 (fun g => g)).fr f4 (fun g => g)
  have F4 := ((f1.same f2).same f3).same f4
  refine RunC.seq (RunC.region (RunO.part 9 (h1 := h4_.push ⟨is [1, 1, 0, 0, 0, 0, 0, 0], true⟩) rfl ?_))
  have on := Ow.push h4_ (is [1, 1, 0, 0, 0, 0, 0, 0])
  have f5 : Fr no h4_ (h4_.push ⟨is [1, 1, 0, 0, 0, 0, 0, 0], true⟩) := Fr.push _ _ _
  have ow5 := ow4.fr f5 (fun g => g)
  have F5 := F4.same f5
  generalize h4_.push ⟨is [1, 1, 0, 0, 0, 0, 0, 0], true⟩ = h5 at *
  generalize h4_.next = nb at *
  refine RunO.callDG rfl (keepInts_ok (l := [1, 1, 0, 0, 0, 0, 0, 0]) (m := [1, 1, 0, 0, 0, 0, 0, 0]) (sl_owI ow5 rfl (Cp.exc (Nat.le_refl _)) (by decide)) (sl_owI on rfl (Cp.exc (Nat.le_refl _)) (by decide)) (by decide)) rfl rfl rfl ?_
  rintro _ _ ⟨rfl, rfl⟩
  exact RunO.all rfl (RunC.ret ⟨_, rfl, rfl, F5⟩)
end Go.Proofs.Ytbinkbdfoalbcaa
end
section
set_option linter.unusedVariables false
set_option linter.unusedSectionVars false
set_option maxRecDepth 100000
open Go Go.Am Go.RowKit
namespace Go.Proofs.Ytbinkbdfoalbcaa
open Go.Proofs.Try
theorem chainG_walk {L : List Int} {B at_ sec : Nat} {data : Int} (hl : L.length = B * 64) (b2 : blkI L (at_ + 2) = nodBlock ((2 : Nat) : Int) (oneP (sec / 8 ^ 2 % 8) ((at_ + 1 : Nat) : Int))) (b1 : blkI L (at_ + 1) = nodBlock ((1 : Nat) : Int) (oneP (sec / 8 ^ 1 % 8) ((at_ : Nat) : Int))) (b0 : blkI L at_ = nodBlock ((0 : Nat) : Int) (oneP (sec / 8 ^ 0 % 8) data)) (h2 : 2 ≤ at_) (h : at_ + 3 ≤ B) (hB : B ≤ 4096) (hs : sec < 512) (hd : 2 ≤ data) (hd2 : data < 4096) :
    tgo L B 2 ((at_ + 2 : Nat) : Int) 0 (List.replicate 512 0, [], false) =
      if data < B then ((List.replicate 512 0).set sec data, [((at_ + 2 : Nat) : Int), ((at_ + 1 : Nat) : Int), (at_ : Int)], false) else (List.replicate 512 0, [((at_ + 2 : Nat) : Int), ((at_ + 1 : Nat) : Int), (at_ : Int)], true) := by
  have hk : ∀ i, sec / 8 ^ i % 8 < 8 := fun i => Nat.mod_lt _ (by decide)
  have hparts := sec_parts hs
  have hn : ∀ (x : Nat) (w : TS) t, x < B → 1 ≤ x → w.2.2 = false → ∀ lv, lv ≠ 0 → tstep (trec L B lv) B (lv == 0) w (x : Int) t = trec L B lv (x : Int) t w := by
    intro x w t hx hx1 hw lv hl
    unfold tstep
    rw [if_neg (by rw [hw]; exact Bool.false_ne_true), if_neg (by rw [decide_eq_true_eq]; omega), show ((x : Int) != 0) = true from bne_iff_ne.2 (by omega), show (lv == 0) = false from beq_eq_false_iff_ne.2 hl]
    rfl
  rw [tgo_one (by decide) (by omega) (by omega) (by omega) (hk 2) (by omega) (by omega) b2 rfl, hn _ _ _ (by omega) (by omega) rfl 2 (by decide)]
  show tgo L B 1 _ _ _ = _
  rw [tgo_one (by decide) (by omega) (by omega) (by omega) (hk 1) (by omega) (by omega) b1 (by simp <;> omega), hn _ _ _ (by omega) (by omega) rfl 1 (by decide)]
  show tgo L B 0 _ _ _ = _
  rw [tgo_one (by decide) (by omega) (by omega) (by omega) (hk 0) hd hd2 b0 (by simp <;> omega)]
  rw [show 0 + sec / 8 ^ 2 % 8 * 8 ^ 2 + sec / 8 ^ 1 % 8 * 8 ^ 1 + sec / 8 ^ 0 % 8 * 8 ^ 0 = sec by omega]
  unfold tstep
  rw [if_neg Bool.false_ne_true]
  by_cases c : data < B
  · rw [if_pos c, if_neg (by rw [decide_eq_true_eq]; omega), show (data != 0) = true from bne_iff_ne.2 (by omega)]
    rfl
  · rw [if_neg c, if_pos (by rw [decide_eq_true_eq]; omega)]
    rfl
theorem chainG_tree {L : List Int} {B at_ sec : Nat} {data : Int} (hl : L.length = B * 64) (b2 : blkI L (at_ + 2) = nodBlock ((2 : Nat) : Int) (oneP (sec / 8 ^ 2 % 8) ((at_ + 1 : Nat) : Int))) (b1 : blkI L (at_ + 1) = nodBlock ((1 : Nat) : Int) (oneP (sec / 8 ^ 1 % 8) ((at_ : Nat) : Int))) (b0 : blkI L at_ = nodBlock ((0 : Nat) : Int) (oneP (sec / 8 ^ 0 % 8) data)) (h2 : 2 ≤ at_) (h : at_ + 3 ≤ B) (hB : B ≤ 4096) (hs : sec < 512) (hd : 2 ≤ data) (hd2 : data < 4096) :
    treeE L ((at_ + 2 : Nat) : Int) = (if data < B ∧ ¬ ((at_ : Int) ≤ data ∧ data < at_ + 3) then 0 else 6) ∧
    (treeE L ((at_ + 2 : Nat) : Int) = 0 → treeM L ((at_ + 2 : Nat) : Int) = (List.replicate 512 0).set sec data ∧ treeN L ((at_ + 2 : Nat) : Int) = [((at_ + 2 : Nat) : Int), ((at_ + 1 : Nat) : Int), (at_ : Int)]) := by
  have hw : treeW L ((at_ + 2 : Nat) : Int) = if data < B then ((List.replicate 512 0).set sec data, [((at_ + 2 : Nat) : Int), ((at_ + 1 : Nat) : Int), (at_ : Int)], false) else (List.replicate 512 0, [((at_ + 2 : Nat) : Int), ((at_ + 1 : Nat) : Int), (at_ : Int)], true) := by
    unfold treeW
    rw [hl, Nat.mul_div_cancel _ (by decide)]
    exact chainG_walk hl b2 b1 b0 h2 h hB hs hd hd2
  have hr : (((at_ + 2 : Nat) : Int) == 0) = false := beq_eq_false_iff_ne.2 (by omega)
  have hdv : devOk L.length = true := by rw [hl]; exact devOk_mul (by omega) hB
  have hE : treeE L ((at_ + 2 : Nat) : Int) = if treeOk L ((at_ + 2 : Nat) : Int) then 0 else 6 := by unfold treeE; rw [hdv, if_pos rfl]
  have hok : treeOk L ((at_ + 2 : Nat) : Int) = decide (data < B ∧ ¬ ((at_ : Int) ≤ data ∧ data < at_ + 3)) := by
    unfold treeOk
    rw [hr, hw]
    by_cases c : data < B
    · rw [if_pos c]
      dsimp only
      rw [any_set hs (by simp <;> omega)]
      by_cases c2 : (at_ : Int) ≤ data ∧ data < at_ + 3
      · rw [decide_eq_false (fun g => g.2 c2)]
        have : [((at_ + 2 : Nat) : Int), ((at_ + 1 : Nat) : Int), (at_ : Int)].contains data = true := by
          simp only [List.contains_eq_mem, List.mem_cons, List.not_mem_nil, or_false, decide_eq_true_eq]
          omega
        rw [this]; rfl
      · rw [decide_eq_true ⟨c, c2⟩]
        have : [((at_ + 2 : Nat) : Int), ((at_ + 1 : Nat) : Int), (at_ : Int)].contains data = false := by
          simp only [List.contains_eq_mem, List.mem_cons, List.not_mem_nil, or_false, decide_eq_false_iff_not]
          omega
        rw [this]; rfl
    · rw [if_neg c, decide_eq_false (fun g => c g.1)]; rfl
  constructor
  · rw [hE, hok]
    by_cases c : data < B ∧ ¬ ((at_ : Int) ≤ data ∧ data < at_ + 3)
    · rw [decide_eq_true c, if_pos c]; rfl
    · rw [decide_eq_false c, if_neg c]; rfl
  · intro h0
    have c : data < B ∧ ¬ ((at_ : Int) ≤ data ∧ data < at_ + 3) := by
      rw [hE, hok] at h0
      by_cases c : data < B ∧ ¬ ((at_ : Int) ≤ data ∧ data < at_ + 3)
      · exact c
      · rw [decide_eq_false c, if_neg Bool.false_ne_true] at h0; cases h0
    unfold treeM treeN
    rw [hr, hw, if_pos c.1]
    exact ⟨rfl, rfl⟩
/-- Such a device with a superblock in slot 1. -/
def chainS (B at_ sec : Nat) (data gen size : Int) : List Int := setBlk (chain B at_ sec data) 1 (superBlock gen (B : Int) ((at_ + 2 : Nat) : Int) size 0)
section
variable {B at_ sec : Nat} {data gen size : Int} (h2 : 2 ≤ at_) (h : at_ + 3 ≤ B) (hB : B ≤ 4096) (hs : sec < 512) (hd : 2 ≤ data) (hd2 : data < 4096) (hg : 1 ≤ gen ∧ gen ≤ 1099511627776) (hz : 0 ≤ size ∧ size ≤ 512)
include h2 h hB hs hd hd2 hg hz
theorem chainS_len : (chainS B at_ sec data gen size).length = B * 64 := by
  have hl := chain_len (sec := sec) (data := data) h
  unfold chainS
  rw [setBlk_len (by omega) (superBlock_len ..), hl]
theorem chainS_byt : Byt (chainS B at_ sec data gen size) := setBlk_byt (chain_byt _ _ _ _) (superBlock_byt _ _ _ _ _)
theorem chainS_ok : superOk gen (B : Int) ((at_ + 2 : Nat) : Int) size 0 = true := (superOk_iff _ _ _ _ _).2 ⟨hg, by omega, hz, .inr (by omega), .inl rfl⟩
theorem chainS_blk1 : blkI (chainS B at_ sec data gen size) 1 = superBlock gen (B : Int) ((at_ + 2 : Nat) : Int) size 0 := by
  have hl := chain_len (sec := sec) (data := data) h
  exact blk_set_same (by omega) (superBlock_len ..)
theorem chainS_blk {i : Nat} (hi : i ≠ 1) : blkI (chainS B at_ sec data gen size) i = blkI (chain B at_ sec data) i := by
  have hl := chain_len (sec := sec) (data := data) h
  exact blk_set_ne (by omega) (superBlock_len ..) hi
theorem chainS_pick : pickS (chainS B at_ sec data gen size) = ((gen, (B : Int), ((at_ + 2 : Nat) : Int), size, 0), 1, true) := by
  refine pick_one1 (chainS_blk1 h2 h hB hs hd hd2 hg hz) (chainS_ok h2 h hB hs hd hd2 hg hz) ?_ ?_
  · rw [chainS_len h2 h hB hs hd hd2 hg hz, Nat.mul_div_cancel _ (by decide)]
  · rw [chainS_blk h2 h hB hs hd hd2 hg hz (by decide), chain_other h (.inl (by omega)), rep_blk _ _ (by omega), sCode_zeros]; decide
theorem chainS_tree : treeE (chainS B at_ sec data gen size) ((at_ + 2 : Nat) : Int) = (if data < B ∧ ¬ ((at_ : Int) ≤ data ∧ data < at_ + 3) then 0 else 6) ∧
    (treeE (chainS B at_ sec data gen size) ((at_ + 2 : Nat) : Int) = 0 → treeM (chainS B at_ sec data gen size) ((at_ + 2 : Nat) : Int) = (List.replicate 512 0).set sec data ∧ treeN (chainS B at_ sec data gen size) ((at_ + 2 : Nat) : Int) = [((at_ + 2 : Nat) : Int), ((at_ + 1 : Nat) : Int), (at_ : Int)]) := by
  have b2 := chain_blk (data := data) (sec := sec) h 2 (by omega)
  have b1 := chain_blk (data := data) (sec := sec) h 1 (by omega)
  have b0 := chain_blk (data := data) (sec := sec) h 0 (by omega)
  rw [if_neg (by omega), show at_ + 2 - 1 = at_ + 1 by omega] at b2
  rw [if_neg (by omega), show at_ + 1 - 1 = at_ by omega] at b1
  rw [if_pos rfl, Nat.add_zero] at b0
  exact chainG_tree (chainS_len h2 h hB hs hd hd2 hg hz) ((chainS_blk h2 h hB hs hd hd2 hg hz (by omega)).trans b2) ((chainS_blk h2 h hB hs hd hd2 hg hz (by omega)).trans b1) ((chainS_blk h2 h hB hs hd hd2 hg hz (by omega)).trans b0) h2 h hB hs hd hd2
theorem chainS_dev : devOk (chainS B at_ sec data gen size).length = true := by
  rw [chainS_len h2 h hB hs hd hd2 hg hz]; exact devOk_mul (by omega) hB
/-- Whether it opens. -/
theorem chainS_lk : lk (chainS B at_ sec data gen size) = (if (data < B ∧ ¬ ((at_ : Int) ≤ data ∧ data < at_ + 3)) ∧ (sec : Int) < size then (0, 0) else (((at_ + 2 : Nat) : Int), 6)) ∧ lkF (chainS B at_ sec data gen size) = ([], [], 0, 0) ∧ lkS (chainS B at_ sec data gen size) = (gen, (B : Int), ((at_ + 2 : Nat) : Int), size, 0) := by
  have hdv := chainS_dev h2 h hB hs hd hd2 hg hz
  have hp := chainS_pick h2 h hB hs hd hd2 hg hz
  obtain ⟨hE, hT⟩ := chainS_tree h2 h hB hs hd hd2 hg hz
  generalize chainS B at_ sec data gen size = L at *
  have hS : lkS L = (gen, (B : Int), ((at_ + 2 : Nat) : Int), size, 0) := by unfold lkS; rw [hp]
  have hF : lkF L = ([], [], 0, 0) := by unfold lkF; rw [hS]; exact fol_none L
  have hR : lkR L = [(((at_ + 2 : Nat) : Int), size)] := by unfold lkR; rw [hF, hS]; rfl
  refine ⟨?_, hF, hS⟩
  have hlk : lk L = lkM L := by
    unfold lk
    rw [hdv, hp, hF, if_pos rfl, if_pos rfl, if_pos rfl]
  have hok : treeOk L ((at_ + 2 : Nat) : Int) = decide (data < B ∧ ¬ ((at_ : Int) ≤ data ∧ data < at_ + 3)) := by
    unfold treeE at hE
    rw [hdv, if_pos rfl] at hE
    by_cases c : data < B ∧ ¬ ((at_ : Int) ≤ data ∧ data < at_ + 3)
    · rw [if_pos c] at hE
      rw [decide_eq_true c]
      cases ht : treeOk L ((at_ + 2 : Nat) : Int) with
      | true => rfl
      | false => rw [ht, if_neg Bool.false_ne_true] at hE; cases hE
    · rw [if_neg c] at hE
      rw [decide_eq_false c]
      cases ht : treeOk L ((at_ + 2 : Nat) : Int) with
      | false => rfl
      | true => rw [ht, if_pos rfl] at hE; cases hE
  rw [hlk]
  by_cases c : data < B ∧ ¬ ((at_ : Int) ≤ data ∧ data < at_ + 3)
  case neg =>
    rw [if_neg (fun g => c g.1)]
    have hX : lkX L (((at_ + 2 : Nat) : Int), size) = true := by
      unfold lkX
      rw [hok, decide_eq_false c]; rfl
    unfold lkM
    rw [hR, List.find?_cons_of_pos hX]
  rw [if_pos c] at hE
  obtain ⟨hM, hN⟩ := hT hE
  have hbey : bey ((List.replicate 512 (0 : Int)).set sec data) size = decide (size ≤ (sec : Int)) := by
    obtain ⟨k, rfl⟩ := Int.eq_ofNat_of_zero_le hz.1
    unfold bey
    rw [Int.toNat_natCast, Bool.eq_iff_iff, List.any_eq_true, decide_eq_true_eq]
    constructor
    · rintro ⟨y, hy, hy0⟩
      obtain ⟨j, hj, rfl⟩ := List.mem_iff_getElem.1 hy
      rw [List.getElem_drop, List.getElem_set] at hy0
      split at hy0
      · omega
      · rw [List.getElem_replicate] at hy0; simp at hy0
    · intro hle
      refine ⟨data, List.mem_of_getElem? (i := sec - k) ?_, bne_iff_ne.2 (by omega)⟩
      rw [List.getElem?_drop, show k + (sec - k) = sec by omega, List.getElem?_set_self (by rw [List.length_replicate]; exact hs)]
  have hX : lkX L (((at_ + 2 : Nat) : Int), size) = decide (size ≤ (sec : Int)) := by
    unfold lkX
    rw [hok, decide_eq_true c, hM, hbey]; rfl
  by_cases c2 : (sec : Int) < size
  case neg =>
    rw [if_neg (fun g => c2 g.2)]
    unfold lkM
    rw [hR, List.find?_cons_of_pos (by rw [hX]; exact decide_eq_true (by omega))]
  rw [if_pos ⟨c, c2⟩]
  unfold lkM
  rw [hR, List.find?_cons_of_neg (by rw [hX]; simp; omega)]
  have hC : lkC L = 0 := by
    unfold lkC
    refine clV_no (fun j hj => ?_)
    unfold lkT
    rw [hR, hF]
    show clP [] [(0, treeM L ((at_ + 2 : Nat) : Int), treeN L ((at_ + 2 : Nat) : Int))] j = false
    rw [hM, hN]
    unfold clP isN isS
    simp only [List.any_cons, List.any_nil, Bool.or_false]
    have h3 : ([] : List Int).contains (j : Int) = false := rfl
    rw [h3, Bool.or_false, Bool.and_false, Bool.or_false]
    cases hn : [((at_ + 2 : Nat) : Int), ((at_ + 1 : Nat) : Int), (at_ : Int)].contains (j : Int) with
    | false => rw [Bool.and_false]
    | true =>
      have hn := List.contains_iff_mem.1 hn
      simp only [List.mem_cons, List.not_mem_nil, or_false] at hn
      have : ((List.replicate 512 (0 : Int)).set sec data).contains (j : Int) = false := Bool.eq_false_iff.2 (fun g => by
        rcases List.mem_or_eq_of_mem_set (List.contains_iff_mem.1 g) with e | e
        · have := List.eq_of_mem_replicate e; omega
        · omega)
      rw [this, Bool.and_false, Bool.false_and]
  show (lkC L, if lkC L = 0 then (0 : Int) else 6) = _
  rw [hC, if_pos rfl]
end
end Go.Proofs.Ytbinkbdfoalbcaa
end
section
set_option linter.unusedVariables false
set_option linter.unusedSectionVars false
set_option maxRecDepth 100000
open Go Go.Am Go.RowKit
namespace Go.Proofs.Ytbinkbdfoalbcaa
open Go.Proofs.Try
/- An image whose head's tree is a chain of three nodes. -/
theorem oneP_bmp {k : Nat} (hk : k < 8) (p : Int) (c : List Int) : (oneP k p).foldl bmp c = bmp c p := by
  have hc : k = 0 ∨ k = 1 ∨ k = 2 ∨ k = 3 ∨ k = 4 ∨ k = 5 ∨ k = 6 ∨ k = 7 := by omega
  rcases hc with rfl | rfl | rfl | rfl | rfl | rfl | rfl | rfl <;> rfl
section
variable {L : List Int} {B at_ sec : Nat} {D : Int} (hl : L.length = B * 64) (b2 : blkI L (at_ + 2) = nodBlock ((2 : Nat) : Int) (oneP (sec / 8 ^ 2 % 8) ((at_ + 1 : Nat) : Int))) (b1 : blkI L (at_ + 1) = nodBlock ((1 : Nat) : Int) (oneP (sec / 8 ^ 1 % 8) ((at_ : Nat) : Int))) (b0 : blkI L at_ = nodBlock ((0 : Nat) : Int) (oneP (sec / 8 ^ 0 % 8) D)) (h2 : 2 ≤ at_) (h : at_ + 3 ≤ B) (hB : B ≤ 4096) (hs : sec < 512) (hd : 2 ≤ D) (hd2 : D < 4096)
include hl b2 b1 b0 h2 h hB hs hd hd2
theorem chG_ok : treeOk L ((at_ + 2 : Nat) : Int) = decide (D < B ∧ ¬ ((at_ : Int) ≤ D ∧ D < at_ + 3)) ∧ ((D < B ∧ ¬ ((at_ : Int) ≤ D ∧ D < at_ + 3)) → treeM L ((at_ + 2 : Nat) : Int) = (List.replicate 512 0).set sec D ∧ treeN L ((at_ + 2 : Nat) : Int) = [((at_ + 2 : Nat) : Int), ((at_ + 1 : Nat) : Int), (at_ : Int)]) := by
  obtain ⟨hE, hT⟩ := chainG_tree hl b2 b1 b0 h2 h hB hs hd hd2
  have hdv : devOk L.length = true := by rw [hl]; exact devOk_mul (by omega) hB
  refine ⟨?_, fun c => hT (by rw [hE, if_pos c])⟩
  unfold treeE at hE
  rw [hdv, if_pos rfl] at hE
  by_cases c : D < B ∧ ¬ ((at_ : Int) ≤ D ∧ D < at_ + 3)
  · rw [if_pos c] at hE
    rw [decide_eq_true c]
    cases ht : treeOk L ((at_ + 2 : Nat) : Int) with
    | true => rfl
    | false => rw [ht, if_neg Bool.false_ne_true] at hE; cases hE
  · rw [if_neg c] at hE
    rw [decide_eq_false c]
    cases ht : treeOk L ((at_ + 2 : Nat) : Int) with
    | false => rfl
    | true => rw [ht, if_pos rfl] at hE; cases hE
omit hl b2 b1 b0 h2 h hB hd hd2 in
theorem chG_bey (hd0 : D ≠ 0) {size : Int} (hz : 0 ≤ size) : bey ((List.replicate 512 (0 : Int)).set sec D) size = decide (size ≤ (sec : Int)) := by
  obtain ⟨k, rfl⟩ := Int.eq_ofNat_of_zero_le hz
  unfold bey
  rw [Int.toNat_natCast, Bool.eq_iff_iff, List.any_eq_true, decide_eq_true_eq]
  constructor
  · rintro ⟨y, hy, hy0⟩
    obtain ⟨j, hj, rfl⟩ := List.mem_iff_getElem.1 hy
    rw [List.getElem_drop, List.getElem_set] at hy0
    split at hy0
    · omega
    · rw [List.getElem_replicate] at hy0; simp at hy0
  · intro hle
    refine ⟨D, List.mem_of_getElem? (i := sec - k) ?_, bne_iff_ne.2 hd0⟩
    rw [List.getElem?_drop, show k + (sec - k) = sec by omega, List.getElem?_set_self (by rw [List.length_replicate]; exact hs)]
theorem chG_lk {gen size first slot : Int} {rs : List R8} {bl : List Int} {w : Nat} (hp : pickS L = ((gen, (B : Int), ((at_ + 2 : Nat) : Int), size, first), slot, true)) (hF : folOf L first = (rs, bl, w, 0)) (hz : 0 ≤ size) (hrs : ∀ r ∈ rs, r.ro = 0 ∨ (r.ro = ((at_ + 2 : Nat) : Int) ∧ (sec : Int) < r.sz)) :
    lkF L = (rs, bl, w, 0) ∧ lkS L = (gen, (B : Int), ((at_ + 2 : Nat) : Int), size, first) ∧
    (¬ (D < B ∧ ¬ ((at_ : Int) ≤ D ∧ D < at_ + 3)) ∨ size ≤ (sec : Int) → lk L = (((at_ + 2 : Nat) : Int), 6)) ∧
    ((D < B ∧ ¬ ((at_ : Int) ≤ D ∧ D < at_ + 3)) → (sec : Int) < size → (∀ x ∈ bl, x ≠ D ∧ ¬ ((at_ : Int) ≤ x ∧ x < at_ + 3)) → lk L = (0, 0)) ∧
    ((D < B ∧ ¬ ((at_ : Int) ≤ D ∧ D < at_ + 3)) → (sec : Int) < size → D ∈ bl → (∀ x ∈ bl, ¬ ((at_ : Int) ≤ x ∧ x < at_ + 3)) → lk L = (D, 6)) := by
  have hdv : devOk L.length = true := by rw [hl]; exact devOk_mul (by omega) hB
  obtain ⟨hok, hT⟩ := chG_ok hl b2 b1 b0 h2 h hB hs hd hd2
  have hS : lkS L = (gen, (B : Int), ((at_ + 2 : Nat) : Int), size, first) := by unfold lkS; rw [hp]
  have hF2 : lkF L = (rs, bl, w, 0) := by unfold lkF; rw [hS]; exact hF
  have hR : lkR L = (((at_ + 2 : Nat) : Int), size) :: rs.map fun r => (r.ro, r.sz) := by unfold lkR; rw [hF2, hS]
  have hlk : lk L = lkM L := by
    unfold lk
    rw [hdv, hp, hF2, if_pos rfl, if_pos rfl, if_pos rfl]
  refine ⟨hF2, hS, ?_, ?_⟩
  · intro c
    have hX : lkX L (((at_ + 2 : Nat) : Int), size) = true := by
      unfold lkX
      rw [hok]
      by_cases c1 : D < B ∧ ¬ ((at_ : Int) ≤ D ∧ D < at_ + 3)
      · rw [(hT c1).1, chG_bey hs (by omega) hz, decide_eq_true (c.resolve_left (fun g => g c1)), Bool.or_true]
      · rw [decide_eq_false c1]; rfl
    rw [hlk]
    unfold lkM
    rw [hR, List.find?_cons_of_pos hX]
  -- all trees are ones
  have hok2 : (D < B ∧ ¬ ((at_ : Int) ≤ D ∧ D < at_ + 3)) → (sec : Int) < size → (lkR L).find? (lkX L) = none := by
    intro c c2
    obtain ⟨hM, hN⟩ := hT c
    rw [hR, List.find?_eq_none]
    intro p hpm
    have key : ∀ z : Int, (sec : Int) < z → 0 ≤ z → lkX L (((at_ + 2 : Nat) : Int), z) = false := fun z hz1 hz0 => by
      unfold lkX
      rw [hok, hM, chG_bey hs (by omega) hz0, decide_eq_true c, decide_eq_false (by omega)]; rfl
    rcases List.mem_cons.1 hpm with rfl | hpm
    · rw [key size c2 hz]; decide
    · obtain ⟨r, hr, rfl⟩ := List.mem_map.1 hpm
      rcases hrs r hr with g | ⟨g1, g2⟩
      · have : lkX L (r.ro, r.sz) = false := by
          rw [g]
          unfold lkX
          rw [(tree0 L).1, (tree0 L).2.1, bey_zero]; rfl
        rw [this]; decide
      · rw [g1, key r.sz g2 (by omega)]; decide
  have hSm : ∀ j : Nat, (D < B ∧ ¬ ((at_ : Int) ≤ D ∧ D < at_ + 3)) → isS ((lkT L).map fun t => (0, t)) j = true → (j : Int) = D := by
    intro j c hj
    obtain ⟨hM, hN⟩ := hT c
    unfold isS at hj
    rw [List.any_map, List.any_eq_true] at hj
    obtain ⟨t, ht, hj⟩ := hj
    rw [Function.comp, Bool.and_eq_true, decide_eq_true_eq] at hj
    obtain ⟨p, hpm, rfl⟩ := List.mem_map.1 ht
    have hc := List.contains_iff_mem.1 hj.2
    have hz2 : ∀ q : Int × Int, q.1 = 0 ∨ q.1 = ((at_ + 2 : Nat) : Int) → (j : Int) ∈ treeM L q.1 → (j : Int) = D := by
      rintro q (e | e) hm
      · rw [e, (tree0 L).2.1] at hm
        have := List.eq_of_mem_replicate hm
        omega
      · rw [e, hM] at hm
        rcases List.mem_or_eq_of_mem_set hm with g | g
        · have := List.eq_of_mem_replicate g
          omega
        · exact g
    refine hz2 p ?_ hc
    rw [hR] at hpm
    rcases List.mem_cons.1 hpm with rfl | hpm
    · exact .inr rfl
    · obtain ⟨r, hr, rfl⟩ := List.mem_map.1 hpm
      exact (hrs r hr).imp id (·.1)
  have hNm : ∀ j : Nat, (D < B ∧ ¬ ((at_ : Int) ≤ D ∧ D < at_ + 3)) → isN ((lkT L).map fun t => (0, t)) j = true → (at_ : Int) ≤ j ∧ (j : Int) < at_ + 3 := by
    intro j c hj
    obtain ⟨hM, hN⟩ := hT c
    unfold isN at hj
    rw [List.any_map, List.any_eq_true] at hj
    obtain ⟨t, ht, hj⟩ := hj
    obtain ⟨p, hpm, rfl⟩ := List.mem_map.1 ht
    have hc : (j : Int) ∈ treeN L p.1 := List.contains_iff_mem.1 hj
    have hz2 : ∀ q : Int × Int, q.1 = 0 ∨ q.1 = ((at_ + 2 : Nat) : Int) → (j : Int) ∈ treeN L q.1 → (at_ : Int) ≤ j ∧ (j : Int) < at_ + 3 := by
      rintro q (e | e) hm
      · rw [e] at hm; exact absurd hm List.not_mem_nil
      · rw [e, hN] at hm
        simp only [List.mem_cons, List.not_mem_nil, or_false] at hm
        omega
    refine hz2 p ?_ hc
    rw [hR] at hpm
    rcases List.mem_cons.1 hpm with rfl | hpm
    · exact .inr rfl
    · obtain ⟨r, hr, rfl⟩ := List.mem_map.1 hpm
      exact (hrs r hr).imp id (·.1)
  constructor
  · intro c c2 hbl
    have hC : lkC L = 0 := by
      unfold lkC
      refine clV_no (fun j hj => ?_)
      rw [hF2]
      show clP bl ((lkT L).map fun t => (0, t)) j = false
      cases e : clP bl ((lkT L).map fun t => (0, t)) j with
      | false => rfl
      | true =>
        exfalso
        unfold clP at e
        rw [Bool.or_eq_true, Bool.and_eq_true, Bool.and_eq_true, Bool.or_eq_true] at e
        rcases e with ⟨e1, e2 | e2⟩ | ⟨e1, e2⟩
        · have g1 := hSm j c e1
          have g2 := hNm j c e2
          omega
        · exact (hbl _ (List.contains_iff_mem.1 e2)).1 (hSm j c e1)
        · exact (hbl _ (List.contains_iff_mem.1 e2)).2 (hNm j c e1)
    rw [hlk]
    unfold lkM
    rw [hok2 c c2]
    show (lkC L, if lkC L = 0 then (0 : Int) else 6) = _
    rw [hC, if_pos rfl]
  · intro c c2 hDb hbl
    obtain ⟨hM, hN⟩ := hT c
    obtain ⟨q, rfl⟩ := Int.eq_ofNat_of_zero_le (show 0 ≤ D by omega)
    have hC : lkC L = (q : Int) := by
      unfold lkC
      rw [hF2]
      have hmid : ∀ T : List (List Int × List Int), T = (T.map fun t => ((0 : Nat), t)).map (·.2) := fun T => by
        rw [List.map_map]; exact (List.map_id T).symm
      rw [hmid (lkT L)]
      refine clV_some (by rw [hl, Nat.mul_div_cancel _ (by decide)]; omega) ?_ (fun j hj => ?_)
      · unfold clP
        have e1 : isS ((lkT L).map fun t => ((0 : Nat), t)) q = true := by
          unfold isS
          rw [List.any_map, List.any_eq_true]
          refine ⟨(treeM L ((at_ + 2 : Nat) : Int), treeN L ((at_ + 2 : Nat) : Int)), ?_, ?_⟩
          · unfold lkT
            rw [hR]; exact List.mem_cons_self ..
          · rw [Function.comp, Bool.and_eq_true, decide_eq_true_eq]
            refine ⟨by omega, List.contains_iff_mem.2 ?_⟩
            show (q : Int) ∈ treeM L ((at_ + 2 : Nat) : Int)
            rw [hM]
            exact List.mem_of_getElem? (i := sec) (List.getElem?_set_self (by rw [List.length_replicate]; exact hs))
        rw [e1, List.contains_iff_mem.2 hDb, Bool.or_true]; rfl
      · cases e : clP bl ((lkT L).map fun t => ((0 : Nat), t)) j with
        | false => rfl
        | true =>
          exfalso
          unfold clP at e
          rw [Bool.or_eq_true, Bool.and_eq_true, Bool.and_eq_true, Bool.or_eq_true] at e
          rcases e with ⟨e1, e2⟩ | ⟨e1, e2⟩
          · have := hSm j c e1
            omega
          · exact hbl _ (List.contains_iff_mem.1 e2) (hNm j c e1)
    rw [hlk]
    unfold lkM
    rw [hok2 c c2]
    show (lkC L, if lkC L = 0 then (0 : Int) else 6) = _
    rw [hC, if_neg (by omega)]
theorem chG_wPs : wPs L ((at_ + 2 : Nat) : Int) = oneP (sec / 8 ^ 2 % 8) ((at_ + 1 : Nat) : Int) ∧ wPs L ((at_ + 1 : Nat) : Int) = oneP (sec / 8 ^ 1 % 8) ((at_ : Nat) : Int) ∧ wPs L ((at_ : Nat) : Int) = oneP (sec / 8 ^ 0 % 8) D := by
  have hk : ∀ i, sec / 8 ^ i % 8 < 8 := fun i => Nat.mod_lt _ (by decide)
  refine ⟨?_, ?_, ?_⟩
  · unfold wPs
    rw [Int.toNat_natCast, b2, (nodV_block (by decide) (hk 2) (by omega) (by omega)).2]
  · unfold wPs
    rw [Int.toNat_natCast, b1, (nodV_block (by decide) (hk 1) (by omega) (by omega)).2]
  · unfold wPs
    rw [Int.toNat_natCast, b0, (nodV_block (by decide) (hk 0) hd hd2).2]
theorem chG_cnt {size : Int} (hR : lkR L = [(((at_ + 2 : Nat) : Int), size)]) (c : D < B ∧ ¬ ((at_ : Int) ≤ D ∧ D < at_ + 3)) : cntL L = bmp (bmp (bmp (bmp (c0L B (lkF L).2.1) ((at_ + 2 : Nat) : Int)) ((at_ + 1 : Nat) : Int)) (at_ : Int)) D := by
  have hk : ∀ i, sec / 8 ^ i % 8 < 8 := fun i => Nat.mod_lt _ (by decide)
  obtain ⟨w2, w1, w0⟩ := chG_wPs hl b2 b1 b0 h2 h hB hs hd hd2
  rw [cnt_one hR, ((chG_ok hl b2 b1 b0 h2 h hB hs hd hd2).2 c).2, hl, Nat.mul_div_cancel _ (by decide)]
  generalize c0L B (lkF L).2.1 = c0
  have g : ∀ (l : List Bool) (i : Nat), l.length = B → (l.set i true).length = B := fun l i e => by rw [List.length_set]; exact e
  have e1 : nodeB L (bmp c0 ((at_ + 2 : Nat) : Int), List.replicate B false) ((at_ + 2 : Nat) : Int) = (bmp (bmp c0 ((at_ + 2 : Nat) : Int)) ((at_ + 1 : Nat) : Int), (List.replicate B false).set (at_ + 2) true) := by
    unfold nodeB
    rw [Int.toNat_natCast, w2, oneP_bmp (hk 2)]
    rw [if_neg]
    rw [List.getD_eq_getElem?_getD, List.getElem?_replicate]; split <;> simp
  rw [List.foldl_cons, e1]
  generalize bmp (bmp c0 ((at_ + 2 : Nat) : Int)) ((at_ + 1 : Nat) : Int) = c1
  have e2 : nodeB L (c1, (List.replicate B false).set (at_ + 2) true) ((at_ + 1 : Nat) : Int) = (bmp c1 (at_ : Int), ((List.replicate B false).set (at_ + 2) true).set (at_ + 1) true) := by
    unfold nodeB
    rw [Int.toNat_natCast, w1, oneP_bmp (hk 1)]
    rw [if_neg]
    rw [List.getD_eq_getElem?_getD, List.getElem?_set_ne (by omega), List.getElem?_replicate]; split <;> simp
  rw [List.foldl_cons, e2]
  generalize bmp c1 (at_ : Int) = c2
  have e3 : nodeB L (c2, ((List.replicate B false).set (at_ + 2) true).set (at_ + 1) true) (at_ : Int) = (bmp c2 D, (((List.replicate B false).set (at_ + 2) true).set (at_ + 1) true).set at_ true) := by
    unfold nodeB
    rw [Int.toNat_natCast, w0, oneP_bmp (hk 0)]
    rw [if_neg]
    rw [List.getD_eq_getElem?_getD, List.getElem?_set_ne (by omega), List.getElem?_set_ne (by omega), List.getElem?_replicate]; split <;> simp
  rw [List.foldl_cons, e3]; rfl
end
end Go.Proofs.Ytbinkbdfoalbcaa
end
section
set_option linter.unusedVariables false
set_option linter.unusedSectionVars false
set_option maxRecDepth 100000
open Go Go.Am Go.RowKit
namespace Go.Proofs.Ytbinkbdfoalbcaa
open Go.Proofs.Try
/- The image of a chain on which whole blocks are written. -/
section
variable {A s : Nat} {D : Int} {l : List IoT} (h2 : 2 ≤ A) (h6 : A ≤ 6) (hw : ∀ x ∈ l, wrG 1280 x) (hp : List.Pairwise (fun x y : IoT => x.2.1 ≠ y.2.1) l) (hn : ∀ x ∈ l, x.2.1 < A ∨ (A : Int) + 3 ≤ x.2.1)
include h2 h6 hw hp hn
theorem chX_len : (applyL (chain 20 A s D) l).length = 1280 := (apL_w _ _ hw (chain_len (B := 20) (by omega)) (chain_byt _ _ _ _)).1
theorem chX_byt : Byt (applyL (chain 20 A s D) l) := (apL_w _ _ hw (chain_len (B := 20) (by omega)) (chain_byt _ _ _ _)).2.1
theorem chX_at {x : IoT} (hx : x ∈ l) : blkI (applyL (chain 20 A s D) l) x.2.1.toNat = x.2.2.1 := apL_at _ _ hw (chain_len (B := 20) (by omega)) (chain_byt _ _ _ _) hp _ hx
theorem chX_oth {c : Nat} (hc : ∀ x ∈ l, x.2.1 ≠ (c : Int)) : blkI (applyL (chain 20 A s D) l) c = blkI (chain 20 A s D) c := (apL_w _ _ hw (chain_len (B := 20) (by omega)) (chain_byt _ _ _ _)).2.2 c hc
theorem chX_b2 : blkI (applyL (chain 20 A s D) l) (A + 2) = nodBlock ((2 : Nat) : Int) (oneP (s / 8 ^ 2 % 8) ((A + 1 : Nat) : Int)) := by
  have b2 := chain_blk (B := 20) (at_ := A) (data := D) (sec := s) (by omega) 2 (by omega)
  rw [if_neg (by omega), show A + 2 - 1 = A + 1 by omega] at b2
  exact (chX_oth h2 h6 hw hp hn (fun x hx => by have := hn x hx; omega)).trans b2
theorem chX_b1 : blkI (applyL (chain 20 A s D) l) (A + 1) = nodBlock ((1 : Nat) : Int) (oneP (s / 8 ^ 1 % 8) ((A : Nat) : Int)) := by
  have b1 := chain_blk (B := 20) (at_ := A) (data := D) (sec := s) (by omega) 1 (by omega)
  rw [if_neg (by omega), show A + 1 - 1 = A by omega] at b1
  exact (chX_oth h2 h6 hw hp hn (fun x hx => by have := hn x hx; omega)).trans b1
theorem chX_b0 : blkI (applyL (chain 20 A s D) l) A = nodBlock ((0 : Nat) : Int) (oneP (s / 8 ^ 0 % 8) D) := by
  have b0 := chain_blk (B := 20) (at_ := A) (data := D) (sec := s) (by omega) 0 (by omega)
  rw [if_pos rfl, Nat.add_zero] at b0
  exact (chX_oth h2 h6 hw hp hn (fun x hx => by have := hn x hx; omega)).trans b0
theorem chX_one (h1 : ∀ x ∈ l, x.2.1 ≠ 1) : sCode (blkI (applyL (chain 20 A s D) l) 1) ≠ 0 := by
  rw [chX_oth h2 h6 hw hp hn h1, chain_other (B := 20) (at_ := A) (j := 1) (by omega) (.inl (by omega)), rep_blk _ _ (by omega), sCode_zeros]; decide
theorem chX_pick {g rt sz fi : Int} (ok : superOk g 20 rt sz fi = true) (h0 : (1, 0, superBlock g 20 rt sz fi, ()) ∈ l) (h1 : ∀ x ∈ l, x.2.1 ≠ 1) : pickS (applyL (chain 20 A s D) l) = ((g, 20, rt, sz, fi), 0, true) := by
  have e := chX_at (s := s) (D := D) h2 h6 hw hp hn h0
  have e : blkI (applyL (chain 20 A s D) l) 0 = superBlock g 20 rt sz fi := e
  exact pick_one0 e ok (by rw [chX_len h2 h6 hw hp hn]; rfl) (chX_one h2 h6 hw hp hn h1)
end
theorem wr_one {a : Nat} {d : List Int} (ha : a < 20) (hl : d.length = 64) (hb : Byt d) : wrG 1280 ((1 : Int), (a : Int), d, ()) := ⟨rfl, ⟨a, rfl, by omega⟩, hl, hb⟩
def wantW (A k : Nat) : Bool := (decide ((k : Int) < 2) || (decide ((k : Int) ≥ A) && decide ((k : Int) < ((A + 3 : Nat) : Int)))) || ((k : Int) == 15)
theorem want_cnt : ∀ A, A < 7 → 2 ≤ A → ∀ k, k < 20 → (bmp (bmp (bmp (bmp (c0L 20 []) ((A + 2 : Nat) : Int)) ((A + 1 : Nat) : Int)) (A : Int)) 15).getD k 0 = if wantW A k then 1 else 0 := by decide
theorem used_cnt : ∀ A, A < 7 → 2 ≤ A → cntI (posP (bmp (bmp (bmp (bmp (c0L 20 []) ((A + 2 : Nat) : Int)) ((A + 1 : Nat) : Int)) (A : Int)) 15)) 20 = 6 := by decide
theorem used_rec : ∀ A, A < 7 → 2 ≤ A → ∀ n, n < 5 → cntI (posP (c0L 20 ((List.range n).map fun (i : Nat) => ((A + i : Nat) : Int)))) 20 = 2 + n := by decide
theorem recI_none {at_ id : Nat} (h2 : 2 ≤ at_) (hn : at_ ≤ 20) (hi : 1 ≤ id) (hid : id ≤ 90000) : lk (recI at_ 0 id) = (0, 0) ∧ lkF (recI at_ 0 id) = ([], [], 0, 0) ∧ lkS (recI at_ 0 id) = (1, 20, 0, 0, 0) := by
  have hl := recI_len (at_ := at_) (n := 0) (id := id) h2 (by omega) hi hid
  have hp : pickS (recI at_ 0 id) = ((1, 20, 0, 0, 0), 0, true) := by
    refine pick_one0 (recI_blk0 h2 (by omega) hi hid) (by decide) (by rw [hl]; rfl) ?_
    rw [recI_zero h2 (by omega) hi hid (by decide) (.inl (by omega)) (by decide), sCode_zeros]; decide
  exact lk_empty (by rw [hl]; decide) hp rfl rfl
theorem used_recI {at_ n id : Nat} (h2 : 2 ≤ at_) (h6 : at_ ≤ 6) (hn : n ≤ 4) (hi : 1 ≤ id) (hid : id ≤ 90000) : usedL (recI at_ n id) = 2 + n ∧ (lk (recI at_ n id)).2 = 0 := by
  have hl := recI_len (at_ := at_) (n := n) (id := id) h2 (by omega) hi hid
  have key : (lk (recI at_ n id)).2 = 0 ∧ cntL (recI at_ n id) = c0L 20 ((List.range n).map fun (i : Nat) => ((at_ + i : Nat) : Int)) := by
    by_cases h0 : n = 0
    · subst h0
      obtain ⟨g1, g2, g3⟩ := recI_none h2 (by omega) hi hid
      refine ⟨by rw [g1], ?_⟩
      suffices hz : ∀ p ∈ lkR (recI at_ 0 id), p.1 = 0 by rw [cnt_zero hz, g2, hl]; rfl
      intro p hp
      unfold lkR at hp
      rw [g2, g3] at hp
      have hp : p ∈ [((0 : Int), (0 : Int))] := hp
      rw [List.mem_singleton] at hp
      rw [hp]
    · obtain ⟨⟨w, _, g2⟩, g1, g3, _⟩ := recI_all (at_ := at_) (n := n) (id := id) h2 (by omega) (by omega) hi hid
      refine ⟨by rw [g1], ?_⟩
      suffices hz : ∀ p ∈ lkR (recI at_ n id), p.1 = 0 by rw [cnt_zero hz, g2, hl]
      intro p hp
      unfold lkR at hp
      rw [g2, g3] at hp
      rcases List.mem_cons.1 hp with rfl | hp
      · rfl
      · obtain ⟨r, hr, rfl⟩ := List.mem_map.1 hp
        exact rsX_ro (i := 0) (r := rcR at_ n id 0) h2 (by omega) hi hid (by omega) (rcR_ok (at_ := at_) (n := n) (id := id) (i := 0) h2 hi (by omega) (by omega) (by omega)) rfl r hr
  refine ⟨?_, key.1⟩
  unfold usedL
  rw [if_pos key.1, key.2, hl]
  exact used_rec at_ (by omega) h2 n (by omega)
set_option maxHeartbeats 16000000 in
theorem walkChain_walk {h : Heap} (at_ sector recs : Int) : RunF prog 12 [.int .i64 at_, .int .i64 sector, .int .i64 recs] h fun v _ => v = .bool true := by
  refine RunF.walk func12 rfl rfl ?_
  refine RunC.seq (RunC.region (RunO.all rfl ?_))
  obtain ⟨ha0, ha1⟩ := modU at_ 5 (by decide)
  obtain ⟨a, ha⟩ := Int.eq_ofNat_of_zero_le ha0
  obtain ⟨hs0, hs1⟩ := modU sector 512 (by decide)
  obtain ⟨s, hs⟩ := Int.eq_ofNat_of_zero_le hs0
  obtain ⟨hz0, hz1⟩ := modU recs 5 (by decide)
  obtain ⟨n, hz⟩ := Int.eq_ofNat_of_zero_le hz0
  refine RunC.seq (RunC.region (RunO.part 2 rfl ?_))
  rw [fwu64']
  refine RunO.part 1 rfl ?_
  rw [ha]
  refine RunO.part 1 rfl ?_
  rw [fw64 (x := (a : Int)) (by omega) (by omega)]
  refine RunO.part 1 rfl ?_
  rw [fw64 (x := 2 + (a : Int)) (by omega) (by omega), show 2 + (a : Int) = ((2 + a : Nat) : Int) by omega]
  refine RunO.part 2 rfl ?_
  rw [fwu64']
  refine RunO.part 1 rfl ?_
  rw [hs]
  refine RunO.part 1 rfl ?_
  rw [fw64 (x := (s : Int)) (by omega) (by omega)]
  refine RunO.part 2 rfl ?_
  rw [fwu64']
  refine RunO.part 1 rfl ?_
  rw [hz]
  refine RunO.part 1 rfl ?_
  rw [fw64 (x := (n : Int)) (by omega) (by omega)]
  refine RunO.all rfl ?_
  have hA2 : 2 ≤ 2 + a := by omega
  have hA6 : 2 + a ≤ 6 := by omega
  have hs5 : s < 512 := by omega
  have hn5 : n < 5 := by omega
  generalize 2 + a = A at *
  clear ha0 ha1 hs0 hs1 hz0 hz1 ha hs hz
  refine RunC.seq (RunC.region (RunO.part 2 rfl ?_))
  refine RunO.callD (chain_ok (B := 20) (at_ := A) (sec := s) (data := 15) (by omega) (by omega) (by decide) (by decide) hs5 (by omega) (by omega)) rfl rfl rfl ?_
  rintro _ h1 ⟨f1, ib, ic, hib, rfl, hic, oi⟩
  have hl := chain_len (B := 20) (at_ := A) (sec := s) (data := 15) (by omega)
  have hby := chain_byt 20 A s 15
  have hsok : superOk 1 20 ((A + 2 : Nat) : Int) 512 0 = true := (superOk_iff _ _ _ _ _).2 ⟨by omega, by omega, by omega, .inr (by omega), .inl rfl⟩
  have hsl := superBlock_len 1 20 ((A + 2 : Nat) : Int) 512 0
  have hsbt := superBlock_byt 1 20 ((A + 2 : Nat) : Int) 512 0
  have hw : ∀ x ∈ [((1 : Int), (0 : Int), superBlock 1 20 ((A + 2 : Nat) : Int) 512 0, ())], wrG 1280 x := fun x hx => by
    rw [List.mem_singleton] at hx; rw [hx]; exact wr_one (a := 0) (by decide) hsl hsbt
  have hpw : List.Pairwise (fun x y : IoT => x.2.1 ≠ y.2.1) [((1 : Int), (0 : Int), superBlock 1 20 ((A + 2 : Nat) : Int) 512 0, ())] := List.pairwise_singleton _ _
  have hnn : ∀ x ∈ [((1 : Int), (0 : Int), superBlock 1 20 ((A + 2 : Nat) : Int) 512 0, ())], x.2.1 < (A : Int) ∨ (A : Int) + 3 ≤ x.2.1 := fun x hx => by
    rw [List.mem_singleton] at hx; rw [hx]; exact .inl (by show (0 : Int) < A; omega)
  have hxl := chX_len (s := s) (D := 15) hA2 hA6 hw hpw hnn
  have hxb := chX_byt (s := s) (D := 15) hA2 hA6 hw hpw hnn
  have hxp := chX_pick (s := s) (D := 15) hA2 hA6 hw hpw hnn hsok (List.mem_singleton.2 rfl) (fun x hx => by rw [List.mem_singleton] at hx; rw [hx]; show (0 : Int) ≠ 1; decide)
  have b2 := chX_b2 (s := s) (D := 15) hA2 hA6 hw hpw hnn
  have b1 := chX_b1 (s := s) (D := 15) hA2 hA6 hw hpw hnn
  have b0 := chX_b0 (s := s) (D := 15) hA2 hA6 hw hpw hnn
  have hst := stE_w (n := 1280) (by decide) (Nat.le_of_ble_eq_true rfl) hw
  obtain ⟨X, hX⟩ : ∃ X, X = applyL (chain 20 A s 15) [((1 : Int), (0 : Int), superBlock 1 20 ((A + 2 : Nat) : Int) 512 0, ())] := ⟨_, rfl⟩
  rw [← hX] at hxl hxb hxp b2 b1 b0
  have hD : (15 : Int) < (20 : Nat) ∧ ¬ ((A : Int) ≤ 15 ∧ (15 : Int) < A + 3) := ⟨by decide, by omega⟩
  obtain ⟨gF, gS, _, g4, _⟩ := chG_lk (B := 20) hxl b2 b1 b0 hA2 (by omega) (by decide) hs5 (by decide) (by decide) hxp (fol_none X) (by decide) (fun r hr => by cases hr)
  have hlk := g4 hD (by omega) (fun x hx => by cases hx)
  have hR : lkR X = [(((A + 2 : Nat) : Int), 512)] := by unfold lkR; rw [gF, gS]; rfl
  have hcn := chG_cnt (B := 20) hxl b2 b1 b0 hA2 (by omega) (by decide) hs5 (by decide) (by decide) hR hD
  rw [gF] at hcn
  have hus : usedL X = 6 := by
    unfold usedL
    rw [hlk, if_pos rfl, hcn, hxl]
    exact used_cnt A (by omega) hA2
  have hwn := want_cnt A (by omega) hA2
  rw [← hcn] at hwn
  have hk0 : (lk X).2 = 0 := by rw [hlk]
  clear gF gS g4 hcn hR hxp
  generalize chain 20 A s 15 = L at *
  refine RunO.all rfl ?_
  -- the superblock
  refine RunC.seq (RunC.region (RunO.part 2 rfl ?_))
  refine RunO.callD (superBytes_ok (g := 1) (bl := 20) (rt := ((A + 2 : Nat) : Int)) (sz := 512) (fi := 0)) rfl rfl rfl ?_
  rintro _ h2 ⟨f2, ⟨_, sb, hsb, rfl, os⟩ | ⟨g, _⟩⟩
  case inr => rw [hsok] at g; cases g
  replace oi := oi.fr f2 (fun g => g)
  generalize superBlock 1 20 ((A + 2 : Nat) : Int) 512 0 = SB at *
  refine RunO.all rfl ?_
  refine RunC.seq (RunC.region (RunO.part 4 (h1 := h2.push ⟨[.int .i64 1, .int .i64 0, .slice (some ⟨sb, 0, none⟩) 64 (exc 64)], true⟩) rfl ?_))
  have ol := Ow.push h2 [.int .i64 1, .int .i64 0, .slice (some ⟨sb, 0, none⟩) 64 (exc 64)]
  have f3 : Fr no h2 (h2.push ⟨[.int .i64 1, .int .i64 0, .slice (some ⟨sb, 0, none⟩) 64 (exc 64)], true⟩) := Fr.push _ _ _
  replace oi := oi.fr f3 (fun g => g)
  have os3 := os.fr f3 (fun g => g)
  generalize h2.push ⟨[.int .i64 1, .int .i64 0, .slice (some ⟨sb, 0, none⟩) 64 (exc 64)], true⟩ = h3 at *
  generalize h2.next = lb at *
  have sd : Sl h3 (.slice (some ⟨sb, 0, none⟩) 64 (exc 64)) 1 SB.length (us SB) := by rw [hsl]; exact os3.all.sl (by rw [us_len, hsl]) (by decide) (Cp.exc (Nat.le_refl _))
  have si := sl_own oi hl hic (by decide)
  refine RunO.callD (devApply_ok si (by omega) (ios_one ol sd hsbt) (Nat.le_of_ble_eq_true rfl)) rfl rfl rfl ?_
  rw [hl, show (20 * 64 : Nat) = 1280 from rfl, hst]
  rintro _ h4 ⟨f4, ⟨_, xq, xc, hxq, rfl, hxc, ox⟩ | ⟨hno, _⟩⟩
  case inr => exact absurd rfl hno
  rw [← hX] at ox
  refine RunO.all rfl ?_
  have slx := sl_own ox hxl hxc (by decide)
  refine RunC.seq (RunC.region (RunO.part 1 rfl ?_))
  refine RunO.callD (walkCounts_ok slx hxb (by omega)) rfl rfl rfl ?_
  rintro _ h5 ⟨f5, ⟨_, cb, q, hq, rfl, ow⟩ | ⟨g, _⟩⟩
  case inr => exact absurd hk0 g
  rw [hxl] at cb ⊢
  refine RunO.all rfl ?_
  refine RunC.seq (RunC.region (RunO.part 1 rfl ?_))
  refine RunO.callD (walkUsed_ok (slx.fr0 f5) hxb (by omega)) rfl rfl rfl ?_
  rintro _ h6 ⟨rfl, f6⟩
  rw [hus, hk0]
  refine RunO.all rfl ?_
  replace ow := ow.fr f6 (fun g => g)
  refine RunC.seq (RunC.region (RunO.part 2 rfl ?_))
  refine RunO.callD (lawRecords_ok (at_ := A) (n := n) (id := 1) hA2 (by omega) (by decide) (by decide)) rfl rfl rfl ?_
  rintro _ h7 ⟨f7, rb, rc, hrb, rfl, hrc, or⟩
  obtain ⟨u1, u2⟩ := used_recI (at_ := A) (n := n) (id := 1) hA2 hA6 (by omega) (by decide) (by decide)
  have hrl := recI_len (at_ := A) (n := n) (id := 1) hA2 (by omega) (by decide) (by decide)
  have hrby := recI_byt (at_ := A) (n := n) (id := 1) hA2 (by omega) (by decide) (by decide)
  generalize recI A n 1 = R at *
  refine RunO.callD (walkUsed_ok (sl_own or hrl hrc (by decide)) hrby (by omega)) rfl rfl rfl ?_
  rintro _ h8 ⟨rfl, f8⟩
  rw [u1, u2]
  replace ow := (ow.fr f7 (fun g => g)).fr f8 (fun g => g)
  clear f1 f2 f3 f4 f5 f6 f7 or oi os3 os ol sd si ox slx
  refine RunO.all rfl ?_
  refine RunC.seq (RunC.seq (RunC.region (RunO.part 26 rfl ?_)))
  rw [fw64 (x := 2 + (n : Int)) (by omega) (by omega)]
  refine RunO.part 1 rfl ?_
  rw [show (((2 + n : Nat) : Int) != 2 + (n : Int)) = false by rw [Bool.eq_false_iff, Ne, bne_iff_ne]; omega]
  refine RunO.all rfl (RunC.cond rfl (fun g => by cases g) (fun _ => RunC.skip ?_))
  have slc : Sl h8 (.slice (some ⟨q, 0, none⟩) 20 (exc 20)) 1 20 (is (cntL X)) := by have := sl_owI ow cb.1 (Cp.exc (Nat.le_refl _)) (by omega); rwa [cb.1] at this
  have hcl : (cntL X).length = 20 := cb.1
  refine RunC.seq ?_
  refine RunC.seq (RunC.region (RunO.all rfl ?_))
  refine RunC.block ?_
  refine RunC.loop (fun d E h' => ∃ k : Nat, k + d = 20 ∧ h' = h8 ∧ Le ((upd (upd (upd E0 0 (.int .i64 (A : Int))) 13 (.slice (some ⟨q, 0, none⟩) 20 (exc 20))) 19 (.int .i64 (k : Int)))) E) ?st (k := 20) ?ini
  case ini => exact ⟨0, by omega, rfl, Le.cons rfl (Le.cons rfl (Le.cons rfl (Le.nil _)))⟩
  rintro d E g ⟨k, hk, hgg, hE⟩
  subst hgg
  refine RunC.le hE ?_
  clear hE
  refine RunC.seq (RunC.seq (RunC.region (RunO.all rfl ?_)))
  refine RunC.cond rfl (fun hlt => RunC.skip ?go1) (fun hge => RunC.exit ?ex1)
  case ex1 =>
    refine RunC.seq (RunC.region ?_)
    refine RunO.callD wakes12_ok rfl rfl rfl ?_
    rintro _ h9 ⟨rfl, f9⟩
    exact RunO.all rfl (RunC.ret ⟨_, rfl, rfl⟩)
  have hlt := of_decide_eq_true hlt
  have hlt : k < 20 := by omega
  refine RunC.seq (RunC.block ?_)
  refine RunC.seq (RunC.region (RunO.all rfl ?_))
  refine RunC.seqE (upd (upd (upd (upd E0 0 (.int .i64 (A : Int))) 13 (.slice (some ⟨q, 0, none⟩) 20 (exc 20))) 19 (.int .i64 (k : Int))) 20 (.int .i64 (if wantW A k then 1 else 0))) ?_ ?_
  · refine RunC.seqE (upd (upd (upd (upd (upd E0 0 (.int .i64 (A : Int))) 13 (.slice (some ⟨q, 0, none⟩) 20 (exc 20))) 19 (.int .i64 (k : Int))) 20 (.int .i64 0)) 124 (.bool (wantW A k))) ?_ ?_
    · unfold wantW
      refine RunC.region (RunO.part 3 rfl ?_)
      cases decide ((k : Int) < 2) with
      | true =>
        refine RunO.all rfl ⟨rfl, Le.cons rfl (Le.cons rfl (Le.cons rfl (Le.cons rfl (Le.cons rfl (Le.nil _)))))⟩
      | false =>
        refine RunO.part 3 rfl ?_
        cases decide ((k : Int) ≥ (A : Int)) with
        | false =>
          refine RunO.all rfl ⟨rfl, Le.cons rfl (Le.cons rfl (Le.cons rfl (Le.cons rfl (Le.cons rfl (Le.nil _)))))⟩
        | true =>
          refine RunO.part 4 rfl ?_
          rw [fw64 (x := (A : Int) + 3) (by omega) (by omega)]
          refine RunO.part 1 rfl ?_
          rw [show ((A + 3 : Nat) : Int) = (A : Int) + 3 by omega]
          cases decide ((k : Int) < (A : Int) + 3) with
          | true => refine RunO.all rfl ⟨rfl, Le.cons rfl (Le.cons rfl (Le.cons rfl (Le.cons rfl (Le.cons rfl (Le.nil _)))))⟩
          | false => refine RunO.all rfl ⟨rfl, Le.cons rfl (Le.cons rfl (Le.cons rfl (Le.cons rfl (Le.cons rfl (Le.nil _)))))⟩
    cases wantW A k with
    | true =>
      refine RunC.cond rfl (fun _ => ?_) (fun g => by cases g)
      exact RunC.region (RunO.all rfl ⟨rfl, Le.cons rfl (Le.cons rfl (Le.cons rfl (Le.cons rfl (Le.nil _))))⟩)
    | false =>
      refine RunC.cond rfl (fun g => by cases g) (fun _ => RunC.skip ?_)
      exact ⟨rfl, Le.cons rfl (Le.cons rfl (Le.cons rfl (Le.cons rfl (Le.nil _))))⟩
  refine RunC.seq (RunC.region (RunO.part 2 rfl ?_))
  refine RunO.at (s := 1) (m := 20) (k := k) rfl rfl slc rfl rfl hlt (ig_at (by rw [hcl]; exact hlt)) rfl rfl rfl ?_
  rw [hwn k hlt]
  refine RunO.all rfl ?_
  refine RunC.cond (t := false) (by show some (Value.bool (!decide ((if wantW A k = true then (1 : Int) else 0) = if wantW A k = true then 1 else 0))) = _; rw [decide_eq_true rfl]; rfl) (fun g => by cases g) (fun _ => RunC.skip ?_)
  refine RunC.region (RunO.all rfl ?_)
  exact ⟨d - 1, by omega, k + 1, by omega, rfl, Le.cons (inc64 (by omega)) (Le.cons rfl (Le.cons rfl (Le.nil _)))⟩
theorem walkChain_true : ∀ h xs avs, ArgsK [.int .i64, .int .i64, .int .i64] h xs avs → RunF prog 12 avs h fun v _ => v = .bool true := by
  intro h xs avs ha
  obtain ⟨n, _, _, rfl, _, ha⟩ := argInt ha
  obtain ⟨m, _, _, rfl, _, ha⟩ := argInt ha
  obtain ⟨k, _, _, rfl, _, ha⟩ := argInt ha
  obtain rfl := argNil ha
  exact walkChain_walk n m k
end Go.Proofs.Ytbinkbdfoalbcaa
end
