/- WalkExact: a calculus over an abstract machine that stands beside the model, and contracts of functions by it (part 8).
Conditions: what each theorem says of its arguments. -/
import Derived.Test.YtbinkbdfoalbcaaGWalkExact7
section
set_option linter.unusedVariables false
set_option linter.unusedSectionVars false
set_option maxRecDepth 100000
open Go Go.Am Go.RowKit
namespace Go.Proofs.Ytbinkbdfoalbcaa
open Go.Proofs.Try
theorem getD_set_ne {c : List Int} {i j : Nat} {v : Int} (h : i ≠ j) : (c.set i v).getD j 0 = c.getD j 0 := by
  rw [List.getD_eq_getElem?_getD, List.getD_eq_getElem?_getD, List.getElem?_set_ne h]
theorem bmp_comm (c : List Int) (p q : Int) : bmp (bmp c p) q = bmp (bmp c q) p := by
  unfold bmp
  by_cases hp : p = 0
  · rw [if_pos hp, if_pos hp]
  · by_cases hq : q = 0
    · rw [if_pos hq, if_pos hq]
    · rw [if_neg hp, if_neg hq, if_neg hp, if_neg hq]
      by_cases e : p.toNat = q.toNat
      · rw [e]
      · rw [getD_set_ne e, getD_set_ne (fun g => e g.symm), List.set_comm _ _ e]
theorem bmps_comm : ∀ (l : List Int) (c : List Int) (p : Int), l.foldl bmp (bmp c p) = bmp (l.foldl bmp c) p
  | [], _, _ => rfl
  | x :: l, c, p => by
    rw [List.foldl_cons, List.foldl_cons, bmp_comm c p x]
    exact bmps_comm l (bmp c x) p
theorem node_bmp (L : List Int) (c : List Int) (m : List Bool) (p a : Int) : nodeB L (bmp c p, m) a = (bmp (nodeB L (c, m) a).1 p, (nodeB L (c, m) a).2) := by
  unfold nodeB
  by_cases h : m.getD a.toNat false = true
  · rw [if_pos h, if_pos h]
  · rw [if_neg h, if_neg h]
    show (_, _) = (_, _)
    rw [bmps_comm]
theorem nodes_bmp (L : List Int) : ∀ (ns : List Int) (c : List Int) (m : List Bool) (p : Int), ns.foldl (nodeB L) (bmp c p, m) = (bmp (ns.foldl (nodeB L) (c, m)).1 p, (ns.foldl (nodeB L) (c, m)).2)
  | [], _, _, _ => rfl
  | a :: ns, c, m, p => by
    rw [List.foldl_cons, List.foldl_cons, node_bmp, nodes_bmp L ns]
theorem nodes_bmps (L : List Int) (ns : List Int) : ∀ (l : List Int) (c : List Int) (m : List Bool), ns.foldl (nodeB L) (l.foldl bmp c, m) = (l.foldl bmp (ns.foldl (nodeB L) (c, m)).1, (ns.foldl (nodeB L) (c, m)).2)
  | [], _, _ => rfl
  | p :: l, c, m => by
    rw [List.foldl_cons, nodes_bmps L ns l (bmp c p) m, nodes_bmp, List.foldl_cons]
theorem trees_bmp (L : List Int) : ∀ (t : List (Int × List Int)) (c : List Int) (m : List Bool), t.foldl (treeB L) (c, m) = ((t.map (·.1)).foldl bmp ((t.flatMap (·.2)).foldl (nodeB L) (c, m)).1, ((t.flatMap (·.2)).foldl (nodeB L) (c, m)).2)
  | [], _, _ => rfl
  | x :: t, c, m => by
    have e : treeB L (c, m) x = (bmp (x.2.foldl (nodeB L) (c, m)).1 x.1, (x.2.foldl (nodeB L) (c, m)).2) := nodes_bmp L x.2 c m x.1
    rw [List.foldl_cons, e, trees_bmp L t, List.flatMap_cons, List.foldl_append, List.map_cons, List.foldl_cons, nodes_bmp]
theorem set_bmps : ∀ (bl : List Int) (c : List Int), bl.Nodup → (∀ a ∈ bl, 2 ≤ a ∧ c.getD a.toNat 0 = 0) → bl.foldl (fun c a => c.set a.toNat 1) c = bl.foldl bmp c
  | [], _, _, _ => rfl
  | a :: bl, c, hn, h => by
    obtain ⟨h1, h2⟩ := List.nodup_cons.1 hn
    obtain ⟨h3, h4⟩ := h a (List.mem_cons_self ..)
    have e : bmp c a = c.set a.toNat 1 := by unfold bmp; rw [if_neg (by omega), h4]; rfl
    rw [List.foldl_cons, List.foldl_cons, e]
    refine set_bmps bl _ h2 (fun x hx => ?_)
    obtain ⟨h5, h6⟩ := h x (List.mem_cons_of_mem _ hx)
    have hne : a ≠ x := fun g => h1 (by rw [g]; exact hx)
    exact ⟨h5, by rw [getD_set_ne (by omega)]; exact h6⟩
theorem zip_bmps : ∀ (bl ro : List Int) (c : List Int), bl.length = ro.length → (bl.zip ro).foldl (fun c x => bmp (bmp c x.1) x.2) c = ro.foldl bmp (bl.foldl bmp c)
  | [], [], _, _ => rfl
  | [], _ :: _, _, h => by simp at h
  | _ :: _, [], _, h => by simp at h
  | a :: bl, r :: ro, c, h => by
    rw [List.zip_cons_cons, List.foldl_cons, zip_bmps bl ro _ (by simpa using h), List.foldl_cons, List.foldl_cons, bmps_comm]
def c00 (B : Nat) : List Int := ((List.replicate B 0).set 0 1).set 1 1
/-- Once more, in the page's order. -/
def refC (L : List Int) : List Int := (((lkR L).flatMap fun p => treeN L p.1).foldl (nodeB L) (((lkF L).2.1.zip ((lkF L).1.map (·.ro))).foldl (fun c x => bmp (bmp c x.1) x.2) (bmp (c00 (L.length / 64)) (lkS L).2.2.1), List.replicate (L.length / 64) false)).1
theorem refC_eq {L : List Int} (hl : (lkF L).1.length = (lkF L).2.1.length) (hn : (lkF L).2.1.Nodup) (hr : ∀ a ∈ (lkF L).2.1, 2 ≤ a) : refC L = cntL L := by
  have e1 : cntL L = (((wRs L).map (·.1)).foldl bmp (((wRs L).flatMap (·.2)).foldl (nodeB L) (c0L (L.length / 64) (lkF L).2.1, List.replicate (L.length / 64) false)).1) := by
    unfold cntL
    rw [trees_bmp]
  have e2 : (wRs L).map (·.1) = (lkS L).2.2.1 :: (lkF L).1.map (·.ro) := by
    unfold wRs lkR
    rw [List.map_map, List.map_cons, List.map_map]; rfl
  have e3 : (wRs L).flatMap (·.2) = (lkR L).flatMap fun p => treeN L p.1 := by
    unfold wRs
    rw [List.flatMap_map]
  have e4 : c0L (L.length / 64) (lkF L).2.1 = (lkF L).2.1.foldl bmp (c00 (L.length / 64)) := by
    unfold c0L
    refine set_bmps _ _ hn (fun a ha => ⟨hr a ha, ?_⟩)
    have := hr a ha
    rw [getD_set_ne (by omega), getD_set_ne (by omega), List.getD_eq_getElem?_getD, List.getElem?_replicate]
    split <;> rfl
  rw [e1, e2, e3, e4]
  have e5 : (lkF L).2.1.length = ((lkF L).1.map (·.ro)).length := by rw [List.length_map, hl]
  unfold refC
  rw [zip_bmps _ _ _ e5, bmps_comm, List.foldl_cons]
  have := nodes_bmps L ((lkR L).flatMap fun p => treeN L p.1) ((lkF L).1.map (·.ro)) (bmp ((lkF L).2.1.foldl bmp (c00 (L.length / 64))) (lkS L).2.2.1) (List.replicate (L.length / 64) false)
  rw [this]
  have h2 := nodes_bmp L ((lkR L).flatMap fun p => treeN L p.1) ((lkF L).2.1.foldl bmp (c00 (L.length / 64))) (List.replicate (L.length / 64) false) (lkS L).2.2.1
  rw [h2]
end Go.Proofs.Ytbinkbdfoalbcaa
end
section
set_option linter.unusedVariables false
set_option linter.unusedSectionVars false
set_option maxRecDepth 100000
open Go Go.Am Go.RowKit
namespace Go.Proofs.Ytbinkbdfoalbcaa
open Go.Proofs.Try

theorem bl_nodup {L : List Int} (h : (lkF L).2.2.2 = 0) : (lkF L).2.1.Nodup := by
  have v : FolI L (L.length / 64) (lkS L).2.2.2.2 (lkF L).1 (lkF L).2.1 0 := folOf_inv (a := (lkS L).2.2.2.2) h
  unfold List.Nodup
  rw [List.pairwise_iff_getElem]
  intro i j hi hj hij e
  have hl := v.len
  obtain ⟨_, _, _, _, h1⟩ := v.blk i (by omega)
  obtain ⟨_, _, _, _, h2⟩ := v.blk j (by omega)
  have g1 : (lkF L).2.1.getD i 0 = (lkF L).2.1[i] := by rw [List.getD_eq_getElem?_getD, List.getElem?_eq_getElem hi]; rfl
  have g2 : (lkF L).2.1.getD j 0 = (lkF L).2.1[j] := by rw [List.getD_eq_getElem?_getD, List.getElem?_eq_getElem hj]; rfl
  refine (v.apart j (by omega) i (by omega) hij).1 ?_
  rw [h1, h2, g1, g2, e]
set_option maxHeartbeats 64000000 in
theorem refCounts10_ok {h : Heap} {iv rv bv mv nv : Value} {slot : Int} {L : List Int} {cn : List Value} (sl : Sl h iv 1 L.length (us L)) (hb : Byt L) (hm : L.length ≤ 4611686018427387904) (hz : (lk L).2 = 0) (srl : Sl h rv 8 (lkF L).1.length (recCs (lkF L).1)) (sbl : Sl h bv 1 (lkF L).2.1.length (is (lkF L).2.1)) (snl : Sl h nv 1 (lkR L).length cn) (jn : JEl (fun _ => True) h cn ((lkR L).map fun p => treeN L p.1)) (hmv : isCell mv = true) :
    RunF prog 35 [iv, .agg ⟨imx (lkS L) slot rv bv mv nv⟩] h fun v h' => Fr no h h' ∧ ∃ ob, h.next ≤ ob ∧ v = .slice (some ⟨ob, 0, none⟩) (L.length / 64) (exc (L.length / 64)) ∧ Ow h' ob (is (cntL L)) ∧ CB (L.length / 64) 100000000000 (cntL L) := by
  obtain ⟨hd, hp, hbad, htr, hbey, hC⟩ := lk_trees hz
  have hdl : L.length % 64 = 0 ∧ 4 ≤ L.length / 64 ∧ L.length / 64 ≤ 4096 := by
    unfold devOk at hd
    simpa using hd
  have hfo := fol_ok (L := L) (B := L.length / 64) (L.length / 64) (lkS L).2.2.2.2 [] [] 0 (fun r h => absurd h List.not_mem_nil) (fun x h => absurd h List.not_mem_nil) rfl
  have hFe2 : lkF L = fol L (L.length / 64) (L.length / 64) (lkS L).2.2.2.2 [] [] 0 := rfl
  rw [← hFe2] at hfo
  obtain ⟨hrok, hbr, hrbl, hbn⟩ := hfo
  have hbn : (lkF L).2.1.length ≤ 4096 := by have : ([] : List Int).length = 0 := rfl; omega
  have hcnt := refC_eq hrbl (bl_nodup hbad) (fun a ha => (hbr a ha).1)
  have hRl : (lkR L).length = (lkF L).1.length + 1 := by unfold lkR; rw [List.length_cons, List.length_map]
  have hroot := root_rng hd (htr _ (List.mem_cons_self .. : ((lkS L).2.2.1, (lkS L).2.2.2.1) ∈ lkR L))
  have hro : ∀ r ∈ (lkF L).1, r.ro = 0 ∨ (2 ≤ r.ro ∧ r.ro < (L.length / 64 : Nat)) := fun r hr => root_rng hd (htr (r.ro, r.sz) (List.mem_cons_of_mem _ (List.mem_map.2 ⟨r, hr, rfl⟩)))
  have hptr := fun p hpm x hx => tree_ptr (L := L) hd (htr p hpm) (x := x) hx
  have hrng := fun p hpm => tree_rng (L := L) hd (htr p hpm)
  have hrc : refC L = (((lkR L).flatMap fun p => treeN L p.1).foldl (nodeB L) (((lkF L).2.1.zip ((lkF L).1.map (·.ro))).foldl (fun c x => bmp (bmp c x.1) x.2) (bmp (c00 (L.length / 64)) (lkS L).2.2.1), List.replicate (L.length / 64) false)).1 := rfl
  rw [← hcnt]
  obtain ⟨B, hB⟩ : ∃ B, B = L.length / 64 := ⟨_, rfl⟩
  rw [← hB] at hrc hbr hroot hro hptr hrng hdl ⊢
  obtain ⟨rA, rc_, rfl, _, _⟩ := srl.form
  obtain ⟨bA, bc, rfl, _, _⟩ := sbl.form
  obtain ⟨nA, nc_, rfl, _, _⟩ := snl.form
  refine RunF.walk func35 rfl rfl ?_
  refine RunC.seq (RunC.region (RunO.all (h1 := h.push ⟨(imx (lkS L) slot (.slice rA (lkF L).1.length rc_) (.slice bA (lkF L).2.1.length bc) mv (.slice nA (lkR L).length nc_)), true⟩) rfl ?_))
  have ox := Ow.push h (imx (lkS L) slot (.slice rA (lkF L).1.length rc_) (.slice bA (lkF L).2.1.length bc) mv (.slice nA (lkR L).length nc_))
  have f1 : Fr no h (h.push ⟨(imx (lkS L) slot (.slice rA (lkF L).1.length rc_) (.slice bA (lkF L).2.1.length bc) mv (.slice nA (lkR L).length nc_)), true⟩) := Fr.push _ _ _
  generalize h.push ⟨(imx (lkS L) slot (.slice rA (lkF L).1.length rc_) (.slice bA (lkF L).2.1.length bc) mv (.slice nA (lkR L).length nc_)), true⟩ = h1 at *
  obtain ⟨xb, hxb⟩ : ∃ q, q = h.next := ⟨_, rfl⟩
  rw [← hxb] at ox ⊢
  refine RunC.seq (RunC.region (RunO.part 1 rfl ?_))
  refine RunO.callD (refBlocks_ok (sl.fr0 f1) hm) rfl rfl rfl ?_
  rintro _ _ ⟨rfl, rfl⟩
  rw [← hB]
  refine RunO.all rfl ?_
  -- the counts
  refine RunC.seq (RunC.region (RunO.part 1 rfl ?_))
  refine RunO.make (m := B) rfl rfl rfl rfl rfl rfl (show 8 * B ≤ _ by omega) (by omega) rfl ?_
  rw [reps_is]
  have oo := Ow.push h1 (is (List.replicate B 0))
  have hx1 : xb < h1.next := ox.1
  have f2 : Fr no h1 (h1.push ⟨is (List.replicate B 0), true⟩) := Fr.push _ _ _
  replace ox := ox.fr f2 (fun g => g)
  generalize h1.push ⟨is (List.replicate B 0), true⟩ = h2 at *
  obtain ⟨ob, hob⟩ : ∃ q, q = h1.next := ⟨_, rfl⟩
  rw [← hob] at oo ⊢
  refine RunO.all rfl ?_
  refine RunC.seq (RunC.region (RunO.part 2 rfl ?_))
  refine RunO.index (s := 1) (k := 0) rfl rfl rfl rfl (by omega) rfl ?_
  refine RunO.store rfl rfl (store1_ow oo rfl rfl rfl (by rw [is_len, List.length_replicate]; omega)) ?_
  rw [is_set]
  have oo1 : Ow (h2.put ob (some ⟨is ((List.replicate B 0).set 0 1), true⟩)) ob (is ((List.replicate B 0).set 0 1)) := Ow.put _ oo.1
  have fp1 : Fr (· = ob) h2 (h2.put ob (some ⟨is ((List.replicate B 0).set 0 1), true⟩)) := Fr.put _ (.inl rfl)
  generalize h2.put ob (some ⟨is ((List.replicate B 0).set 0 1), true⟩) = h3 at *
  refine RunO.index (s := 1) (k := 1) rfl rfl rfl rfl (by omega) rfl ?_
  refine RunO.store rfl rfl (store1_ow oo1 rfl rfl rfl (by rw [is_len, List.length_set, List.length_replicate]; omega)) (RunO.nil ?_)
  rw [is_set, show ((List.replicate B (0 : Int)).set 0 1).set 1 1 = c00 B from rfl]
  have oo2 : Ow (h3.put ob (some ⟨is (c00 B), true⟩)) ob (is (c00 B)) := Ow.put _ oo1.1
  have fp2 : Fr (· = ob) h3 (h3.put ob (some ⟨is (c00 B), true⟩)) := Fr.put _ (.inl rfl)
  generalize h3.put ob (some ⟨is (c00 B), true⟩) = h4 at *
  have fp := fp1.same fp2
  have ox4 := ox.fr fp (fun e => by have e : xb = ob := e; omega)
  have F4 : Fr no h h4 := (f1.same f2).trans fp (fun b e => .inr (by have e : b = ob := e; have := f1.next; omega))
  -- the marks
  refine RunC.seq (RunC.region (RunO.part 1 rfl ?_))
  refine RunO.make (m := B) rfl rfl rfl rfl rfl rfl (show 1 * B ≤ _ by omega) (by omega) rfl ?_
  rw [reps_bo]
  have om := Ow.push h4 (bo (List.replicate B false))
  have f5 : Fr no h4 (h4.push ⟨bo (List.replicate B false), true⟩) := Fr.push _ _ _
  have hob4 : ob < h4.next := oo2.1
  replace ox := ox4.fr f5 (fun g => g)
  replace oo := oo2.fr f5 (fun g => g)
  have F5 := F4.same f5
  generalize h4.push ⟨bo (List.replicate B false), true⟩ = h5 at *
  obtain ⟨mb, hmb⟩ : ∃ q, q = h4.next := ⟨_, rfl⟩
  rw [← hmb] at om ⊢
  have hne : xb ≠ ob ∧ xb ≠ mb ∧ ob ≠ mb := ⟨by omega, by omega, by omega⟩
  have hobn : h.next ≤ ob := by have := f1.next; omega
  have hmbn : h.next ≤ mb := by omega
  refine RunO.all rfl ?_
  have hcb0 : CB B 1 (c00 B) := by
    unfold c00
    refine CB.set (CB.set ⟨List.length_replicate, fun x hx => ?_⟩ ⟨by decide, by decide⟩) ⟨by decide, by decide⟩
    rw [List.eq_of_mem_replicate hx]; decide
  obtain ⟨rt, hrt⟩ : ∃ r, r = (lkS L).2.2.1 := ⟨_, rfl⟩
  rw [← hrt] at hrc hroot
  obtain ⟨z, hze⟩ := Int.eq_ofNat_of_zero_le (show 0 ≤ rt by omega)
  have hzB : z < B := by omega
  -- the root
  refine RunC.seqc (fun E' h' => Ow h' ob (is (bmp (c00 B) rt)) ∧ Fr (· = ob) h5 h' ∧ Le ((upd (upd (upd (upd (upd E0 0 (iv)) 3 (.pointer (some ⟨xb, 0, none⟩))) 5 (.int .i64 (B : Int))) 7 (.slice (some ⟨ob, 0, none⟩) B (exc B))) 8 (.slice (some ⟨mb, 0, none⟩) B (exc B)))) E') ?rt ?nx
  case rt =>
    refine RunC.seq (RunC.region (RunO.part 3 rfl ?_))
    refine RunO.load (v := .int .i64 rt) rfl (by rw [hrt]; exact ox.ld rfl) rfl ?_
    subst hze
    refine RunO.all rfl ?_
    by_cases hz0 : (z : Int) = 0
    · refine RunC.cond (t := false) (by show some (Value.bool (!decide ((z : Int) = 0))) = _; rw [decide_eq_true hz0]; rfl) (fun g => by cases g) (fun _ => RunC.skip ?_)
      refine ⟨?_, Fr.refl _ _, Le.cons rfl (Le.cons rfl (Le.cons rfl (Le.cons rfl (Le.cons rfl (Le.nil _)))))⟩
      unfold bmp; rw [if_pos hz0]; exact oo
    · refine RunC.cond (t := true) (by show some (Value.bool (!decide ((z : Int) = 0))) = _; rw [decide_eq_false hz0]; rfl) (fun _ => ?_) (fun g => by cases g)
      have hgq := hcb0.get (by omega) z
      refine RunC.region (RunO.part 4 rfl ?_)
      refine RunO.load (v := .int .i64 (z : Int)) rfl (by rw [hrt]; exact ox.ld rfl) rfl ?_
      refine RunO.index (s := 1) (k := z) rfl rfl rfl rfl hzB rfl ?_
      refine RunO.load (v := .int .i64 ((c00 B).getD z 0)) rfl (oo.ld (ig_at0 (by rw [hcb0.1]; exact hzB))) rfl ?_
      refine RunO.part 1 rfl ?_
      rw [fw64 (x := (c00 B).getD z 0 + 1) (by omega) (by omega)]
      refine RunO.index (s := 1) (k := z) rfl rfl rfl rfl hzB rfl ?_
      refine RunO.store rfl rfl (store1_ow oo rfl rfl rfl (by rw [is_len, hcb0.1]; omega)) (RunO.nil ?_)
      rw [is_set, ← bmp_nat hz0]
      exact ⟨Ow.put _ oo.1, Fr.put _ (.inl rfl), Le.cons rfl (Le.cons rfl (Le.cons rfl (Le.cons rfl (Le.cons rfl (Le.nil _)))))⟩
  rintro E' g0 ⟨oo, fg0, hE⟩
  refine RunC.le hE ?_
  clear hE
  clear ox4 oo1 oo2 fp fp1 fp2
  have hcb1 : CB B 2 (bmp (c00 B) rt) := (hcb0.bmp (by decide) rt).le (by decide)
  have om0 := om.fr fg0 (fun e => by have e : mb = ob := e; omega)
  -- the records
  obtain ⟨P, hP⟩ : ∃ P, P = (lkF L).2.1.zip ((lkF L).1.map (·.ro)) := ⟨_, rfl⟩
  rw [← hP] at hrc
  have hPl : P.length = (lkF L).1.length := by rw [hP, List.length_zip, List.length_map]; omega
  have hbm : (bmp (c00 B) rt).length = B := hcb1.1
  generalize bmp (c00 B) rt = c1 at *
  refine RunC.seq (RunC.seq (RunC.region (RunO.all rfl ?_)))
  refine RunC.block ?_
  refine RunC.loop (fun d E h' => ∃ i : Nat, i + d = P.length ∧ Ow h' ob (is ((P.take i).foldl (fun c x => bmp (bmp c x.1) x.2) c1)) ∧ CB B (2 + 2 * (i : Nat)) ((P.take i).foldl (fun c x => bmp (bmp c x.1) x.2) c1) ∧ Fr (· = ob) h5 h' ∧ Le ((upd (upd (upd (upd (upd (upd E0 0 (iv)) 3 (.pointer (some ⟨xb, 0, none⟩))) 5 (.int .i64 (B : Int))) 7 (.slice (some ⟨ob, 0, none⟩) B (exc B))) 8 (.slice (some ⟨mb, 0, none⟩) B (exc B))) 9 (.int .i64 (i : Int)))) E) ?s1 (k := P.length) ?i1
  case i1 => exact ⟨0, by omega, oo, hcb1.le (by omega), fg0, Le.cons rfl (Le.cons rfl (Le.cons rfl (Le.cons rfl (Le.cons rfl (Le.cons rfl (Le.nil _))))))⟩
  clear oo om0 fg0
  rintro d E g1 ⟨i, hi, oo, hcb, fg, hE⟩
  refine RunC.le hE ?_
  clear hE
  have ox1 := ox.fr fg (fun e => by have e : xb = ob := e; omega)
  have F1 : Fr no h g1 := F5.trans fg (fun b e => .inr (by have e : b = ob := e; omega))
  refine RunC.seq (RunC.seq (RunC.region (RunO.part 3 rfl ?_)))
  refine RunO.load (v := .slice rA (lkF L).1.length rc_) rfl (ox1.ld rfl) rfl ?_
  refine RunO.all rfl ?_
  refine RunC.cond rfl (fun hlt => RunC.skip ?go1) (fun hge => RunC.exit ?ex1)
  case go1 =>
    have hlt := of_decide_eq_true hlt
    have hlt : i < P.length := by omega
    have hib : i < (lkF L).2.1.length := by omega
    have hir : i < (lkF L).1.length := by omega
    have hsn := fold_snoc (fun (c : List Int) (x : Int × Int) => bmp (bmp c x.1) x.2) c1 hlt
    have hPi : P[i] = ((lkF L).2.1[i], (lkF L).1[i].ro) := by
      have : P[i] = ((lkF L).2.1.zip ((lkF L).1.map (·.ro)))[i]'(by rw [← hP]; exact hlt) := by congr 1
      rw [this, List.getElem_zip, List.getElem_map]
    rw [hPi] at hsn
    have hr1 := hbr _ (List.getElem_mem hib)
    have hr2 := hro _ (List.getElem_mem hir)
    have hpt := is_part hib
    have hf1 : apart prog 3 (recCs (lkF L).1) (i * 8 + 3) = some (.int .i64 (lkF L).1[i].ro) := by rw [recCs_fld hir (by decide)]; rfl
    obtain ⟨a, ha⟩ := Int.eq_ofNat_of_zero_le (show 0 ≤ (lkF L).2.1[i] by omega)
    obtain ⟨y, hy⟩ := Int.eq_ofNat_of_zero_le (show 0 ≤ (lkF L).1[i].ro by omega)
    rw [ha] at hsn hpt hr1
    rw [hy] at hsn hf1 hr2
    have haB : a < B := by omega
    have hyB : y < B := by omega
    generalize (P.take i).foldl (fun c x => bmp (bmp c x.1) x.2) c1 = c2 at *
    have hga := hcb.get (by omega) a
    have ha0 : (a : Int) ≠ 0 := by omega
    refine RunC.seq (RunC.block ?_)
    refine RunC.seq (RunC.region (RunO.part 2 rfl ?_))
    refine RunO.load (v := .slice bA (lkF L).2.1.length bc) rfl (ox1.ld rfl) rfl ?_
    refine RunO.part 1 rfl ?_
    refine RunO.at (s := 1) (k := i) rfl rfl (sbl.fr0 F1) rfl rfl hib hpt rfl rfl rfl ?_
    refine RunO.index (s := 1) (k := a) rfl rfl rfl rfl haB rfl ?_
    refine RunO.load (v := .int .i64 (c2.getD a 0)) rfl (oo.ld (ig_at0 (by rw [hcb.1]; exact haB))) rfl ?_
    refine RunO.part 1 rfl ?_
    rw [fw64 (x := c2.getD a 0 + 1) (by omega) (by omega)]
    refine RunO.index (s := 1) (k := a) rfl rfl rfl rfl haB rfl ?_
    refine RunO.store rfl rfl (store1_ow oo rfl rfl rfl (by rw [is_len, hcb.1]; omega)) (RunO.nil ?_)
    rw [is_set, ← bmp_nat ha0]
    have hcb2 : CB B (2 + 2 * (i : Nat) + 1) (bmp c2 (a : Int)) := hcb.bmp (by omega) _
    have oo2 : Ow (g1.put ob (some ⟨is (bmp c2 (a : Int)), true⟩)) ob (is (bmp c2 (a : Int))) := Ow.put _ oo.1
    have fg2 : Fr (· = ob) g1 (g1.put ob (some ⟨is (bmp c2 (a : Int)), true⟩)) := Fr.put _ (.inl rfl)
    generalize g1.put ob (some ⟨is (bmp c2 (a : Int)), true⟩) = g2 at *
    have fgg := fg.same fg2
    have ox2 := ox1.fr fg2 (fun e => by have e : xb = ob := e; omega)
    have F2 : Fr no h g2 := F5.trans fgg (fun b e => .inr (by have e : b = ob := e; omega))
    generalize bmp c2 (a : Int) = c3 at *
    refine RunC.seq (RunC.region (RunO.part 2 rfl ?_))
    refine RunO.load (v := .slice rA (lkF L).1.length rc_) rfl (ox2.ld rfl) rfl ?_
    refine RunO.part 1 rfl ?_
    refine RunO.fldG (k := i) (off := 3) rfl (fun _ => rfl) (fun _ _ => rfl) rfl rfl (srl.fr0 F2) rfl rfl hir (fun _ _ => rfl) hf1 rfl rfl rfl rfl rfl ?_
    refine RunO.all rfl ?_
    refine RunC.seq (RunC.region (RunO.all rfl ?_))
    have hcb4 : CB B (2 + 2 * ((i + 1 : Nat) : Int)) (bmp c3 (y : Int)) := (hcb2.bmp (by omega) _).le (by omega)
    by_cases hy0 : (y : Int) = 0
    · refine RunC.cond (t := false) (by show some (Value.bool (!decide ((y : Int) = 0))) = _; rw [decide_eq_true hy0]; rfl) (fun g => by cases g) (fun _ => RunC.skip ?_)
      refine RunC.region (RunO.all rfl ?_)
      have e : bmp c3 (y : Int) = c3 := by unfold bmp; rw [if_pos hy0]
      refine ⟨d - 1, by omega, i + 1, by omega, by rw [hsn, e]; exact oo2, by rw [hsn]; exact hcb4, fgg, Le.cons (inc64 (by omega)) (Le.cons rfl (Le.cons rfl (Le.cons rfl (Le.cons rfl (Le.cons rfl (Le.nil _))))))⟩
    · refine RunC.cond (t := true) (by show some (Value.bool (!decide ((y : Int) = 0))) = _; rw [decide_eq_false hy0]; rfl) (fun _ => ?_) (fun g => by cases g)
      have hgy := hcb2.get (by omega) y
      refine RunC.region (RunO.part 2 rfl ?_)
      refine RunO.index (s := 1) (k := y) rfl rfl rfl rfl hyB rfl ?_
      refine RunO.load (v := .int .i64 (c3.getD y 0)) rfl (oo2.ld (ig_at0 (by rw [hcb2.1]; exact hyB))) rfl ?_
      refine RunO.part 1 rfl ?_
      rw [fw64 (x := c3.getD y 0 + 1) (by omega) (by omega)]
      refine RunO.index (s := 1) (k := y) rfl rfl rfl rfl hyB rfl ?_
      refine RunO.store rfl rfl (store1_ow oo2 rfl rfl rfl (by rw [is_len, hcb2.1]; omega)) (RunO.nil ?_)
      rw [is_set, ← bmp_nat hy0]
      refine RunC.region (RunO.all rfl ?_)
      exact ⟨d - 1, by omega, i + 1, by omega, by rw [hsn]; exact Ow.put _ oo2.1, by rw [hsn]; exact hcb4, fgg.same (Fr.put _ (.inl rfl)), Le.cons (inc64 (by omega)) (Le.cons rfl (Le.cons rfl (Le.cons rfl (Le.cons rfl (Le.cons rfl (Le.nil _))))))⟩
  have hge := of_decide_eq_false hge
  obtain rfl : i = P.length := by omega
  rw [List.take_length] at oo hcb
  generalize P.foldl (fun c x => bmp (bmp c x.1) x.2) c1 = c2 at *
  have ox1 := ox.fr fg (fun e => by have e : xb = ob := e; omega)
  have om1 := om.fr fg (fun e => by have e : mb = ob := e; omega)
  have hwi : ∀ b, b = ob → b = ob ∨ b = mb := fun b e => .inl e
  have fgw : Fr (fun b => b = ob ∨ b = mb) h5 g1 := fg.weak (fun b e => .inl (.inl e))
  have hobm : ∀ b, (b = ob ∨ b = mb) → False ∨ h.next ≤ b := fun b e => .inr (by rcases e with e | e <;> omega)
  have hPn : P.length ≤ 4096 := by omega
  have hcb := hcb.le (show 2 + 2 * ((P.length : Nat) : Int) ≤ 10000 by omega)
  have oxF : ∀ {g : Heap}, Fr (fun b => b = ob ∨ b = mb) h5 g → Ow g xb (imx (lkS L) slot (.slice rA (lkF L).1.length rc_) (.slice bA (lkF L).2.1.length bc) mv (.slice nA (lkR L).length nc_)) := fun f => ox.fr f (fun e => by rcases e with e | e <;> omega)
  have hFF : ∀ {g : Heap}, Fr (fun b => b = ob ∨ b = mb) h5 g → Fr no h g := fun f => F5.trans f (fun b e => .inr (by rcases e with e | e <;> omega))
  clear fg ox1
  refine RunC.seq (RunC.seq (RunC.region (RunO.all rfl ?_)))
  refine RunC.block ?_
  refine RunC.loop (fun d E h' => ∃ (i : Nat) (st : List Int × List Bool), i + d = (lkR L).length ∧ st = (((lkR L).take i).flatMap fun p => treeN L p.1).foldl (nodeB L) (c2, List.replicate B false) ∧ Ow h' ob (is st.1) ∧ Ow h' mb (bo st.2) ∧ CB B (10000 + 1000 * (i : Nat)) st.1 ∧ st.2.length = B ∧ Fr (fun b => b = ob ∨ b = mb) h5 h' ∧ Le ((upd (upd (upd (upd (upd (upd E0 0 (iv)) 3 (.pointer (some ⟨xb, 0, none⟩))) 5 (.int .i64 (B : Int))) 7 (.slice (some ⟨ob, 0, none⟩) B (exc B))) 8 (.slice (some ⟨mb, 0, none⟩) B (exc B))) 11 (.int .i64 (i : Int)))) E) ?s2 (k := (lkR L).length) ?i2
  case i2 => exact ⟨0, _, by omega, rfl, oo, om1, hcb.le (by omega), List.length_replicate, fgw, Le.cons rfl (Le.cons rfl (Le.cons rfl (Le.cons rfl (Le.cons rfl (Le.cons rfl (Le.nil _))))))⟩
  clear oo om1 hcb fgw
  rintro d E g2 ⟨i, st, hi, hst, oo, om, hcb, hml, fg, hE⟩
  refine RunC.le hE ?_
  clear hE
  refine RunC.seq (RunC.seq (RunC.region (RunO.part 2 rfl ?_)))
  refine RunO.load (v := .slice nA (lkR L).length nc_) rfl ((oxF fg).ld rfl) rfl ?_
  refine RunO.all rfl ?_
  refine RunC.cond rfl (fun hlt => RunC.skip ?go2) (fun hge => RunC.exit ?ex2)
  case ex2 =>
    have hge := of_decide_eq_false hge
    obtain rfl : i = (lkR L).length := by omega
    rw [List.take_length] at hst
    rw [← hst] at hrc
    rw [hrc]
    refine RunC.seq (RunC.region (RunO.all rfl (RunC.ret ⟨_, rfl, hFF fg, ob, by omega, rfl, oo, hcb.le (by omega)⟩)))
  have hlt := of_decide_eq_true hlt
  have hlt : i < (lkR L).length := by omega
  obtain ⟨p, hpe⟩ : ∃ p, p = (lkR L)[i] := ⟨_, rfl⟩
  have hpm : p ∈ lkR L := by rw [hpe]; exact List.getElem_mem hlt
  have hrn := (hrng p hpm).2
  have hpx := fun x hx => hptr p hpm x hx
  have hnl := treeN_len L p.1
  have tkN : (((lkR L).take (i + 1)).flatMap fun p => treeN L p.1) = (((lkR L).take i).flatMap fun p => treeN L p.1) ++ treeN L p.1 := by
    rw [List.take_succ_eq_append_getElem hlt, List.flatMap_append, ← hpe]; simp
  obtain ⟨nw, enw, snw, _⟩ := jn.2 i (treeN L p.1) (by rw [List.getElem?_map, List.getElem?_eq_getElem hlt, ← hpe]; rfl)
  obtain ⟨nwA, nwc, rfl, _, _⟩ := snw.form
  have pnw := nth_sl enw
  refine RunC.seq (RunC.block ?_)
  refine RunC.seq (RunC.region (RunO.all rfl ?_))
  refine RunC.block ?_
  refine RunC.loop (fun d E h' => ∃ (j : Nat) (su : List Int × List Bool), j + d = (treeN L p.1).length ∧ su = ((treeN L p.1).take j).foldl (nodeB L) st ∧ Ow h' ob (is su.1) ∧ Ow h' mb (bo su.2) ∧ CB B (10000 + 1000 * (i : Nat) + 8 * (j : Nat)) su.1 ∧ su.2.length = B ∧ Fr (fun b => b = ob ∨ b = mb) h5 h' ∧ Le ((upd (upd (upd (upd (upd (upd (upd E0 0 (iv)) 3 (.pointer (some ⟨xb, 0, none⟩))) 5 (.int .i64 (B : Int))) 7 (.slice (some ⟨ob, 0, none⟩) B (exc B))) 8 (.slice (some ⟨mb, 0, none⟩) B (exc B))) 11 (.int .i64 (i : Int))) 12 (.int .i64 (j : Int)))) E) ?s3 (k := (treeN L p.1).length) ?i3
  case i3 => exact ⟨0, st, by omega, rfl, oo, om, hcb.le (by omega), hml, fg, Le.cons rfl (Le.cons rfl (Le.cons rfl (Le.cons rfl (Le.cons rfl (Le.cons rfl (Le.cons rfl (Le.nil _)))))))⟩
  clear oo om hcb hml fg
  rintro d2 E g3 ⟨j, su, hj, hsu, oo, om, hcb, hml, fg, hE⟩
  refine RunC.le hE ?_
  clear hE
  have F3 := hFF fg
  refine RunC.seq (RunC.seq (RunC.region (RunO.part 2 rfl ?_)))
  refine RunO.load (v := .slice nA (lkR L).length nc_) rfl ((oxF fg).ld rfl) rfl ?_
  refine RunO.part 1 rfl ?_
  refine RunO.at (s := 1) (k := i) rfl rfl (snl.fr0 F3) rfl rfl hlt pnw rfl rfl rfl ?_
  refine RunO.all rfl ?_
  refine RunC.cond rfl (fun hlt3 => RunC.skip ?go3) (fun hge3 => RunC.exit ?ex3)
  case ex3 =>
    have hge3 := of_decide_eq_false hge3
    obtain rfl : j = (treeN L p.1).length := by omega
    rw [List.take_length] at hsu
    refine RunC.region (RunO.all rfl ?_)
    exact ⟨d - 1, by omega, i + 1, su, by omega, by rw [tkN, List.foldl_append, ← hst]; exact hsu, oo, om, hcb.le (by omega), hml, fg, Le.cons (inc64 (by omega)) (Le.cons rfl (Le.cons rfl (Le.cons rfl (Le.cons rfl (Le.cons rfl (Le.nil _))))))⟩
  have hlt3 := of_decide_eq_true hlt3
  have hlt3 : j < (treeN L p.1).length := by omega
  have hpt := is_part hlt3
  have hym := List.getElem_mem hlt3
  have hr := hrn _ hym
  have hpx := hpx _ hym
  have hsn := fold_snoc (nodeB L) st hlt3
  rw [← hsu] at hsn
  obtain ⟨y, hy⟩ := Int.eq_ofNat_of_zero_le (show 0 ≤ (treeN L p.1)[j] by omega)
  rw [hy] at hpt hr hpx hsn
  have hyB : y < B := by omega
  have hnb : nodeB L su (y : Int) = if su.2.getD y false then su else ((wPs L (y : Int)).foldl bmp su.1, su.2.set y true) := rfl
  refine RunC.seqc (fun E' h' => ∃ sv : List Int × List Bool, sv = nodeB L su (y : Int) ∧ Ow h' ob (is sv.1) ∧ Ow h' mb (bo sv.2) ∧ CB B (10000 + 1000 * (i : Nat) + 8 * ((j + 1 : Nat) : Int)) sv.1 ∧ sv.2.length = B ∧ Fr (fun b => b = ob ∨ b = mb) h5 h' ∧ Le ((upd (upd (upd (upd (upd (upd (upd E0 0 (iv)) 3 (.pointer (some ⟨xb, 0, none⟩))) 5 (.int .i64 (B : Int))) 7 (.slice (some ⟨ob, 0, none⟩) B (exc B))) 8 (.slice (some ⟨mb, 0, none⟩) B (exc B))) 11 (.int .i64 (i : Int))) 12 (.int .i64 (j : Int)))) E') ?pt ?nq
  case nq =>
    rintro E' gc ⟨sv, hsv, oo, om, hcb, hml, fg, hE⟩
    refine RunC.le hE ?_
    clear hE
    refine RunC.region (RunO.all rfl ?_)
    exact ⟨d2 - 1, by omega, j + 1, sv, by omega, by rw [hsn]; exact hsv, oo, om, hcb, hml, fg, Le.cons (inc64 (by omega)) (Le.cons rfl (Le.cons rfl (Le.cons rfl (Le.cons rfl (Le.cons rfl (Le.cons rfl (Le.nil _)))))))⟩
  refine RunC.block ?_
  refine RunC.seq (RunC.region (RunO.part 1 rfl ?_))
  refine RunO.load (v := .slice nA (lkR L).length nc_) rfl ((oxF fg).ld rfl) rfl ?_
  refine RunO.part 1 rfl ?_
  refine RunO.at (s := 1) (k := i) rfl rfl (snl.fr0 F3) rfl rfl hlt pnw rfl rfl rfl ?_
  refine RunO.part 1 rfl ?_
  refine RunO.at (s := 1) (k := j) rfl rfl (snw.fr0 F3) rfl rfl hlt3 hpt rfl rfl rfl ?_
  refine RunO.all rfl ?_
  -- met
  refine RunC.seq (RunC.seq (RunC.region (RunO.part 2 rfl ?_)))
  refine RunO.index (s := 1) (k := y) rfl rfl rfl rfl hyB rfl ?_
  refine RunO.load (v := .bool (su.2.getD y false)) rfl (om.ld (bo_at0 (by rw [hml]; exact hyB))) rfl ?_
  refine RunO.all rfl ?_
  cases hmet : su.2.getD y false with
  | true =>
    rw [hmet, if_pos rfl] at hnb
    refine RunC.cond rfl (fun _ => RunC.exit ?_) (fun g => by cases g)
    exact ⟨su, hnb.symm, oo, om, hcb.le (by omega), hml, fg, Le.cons rfl (Le.cons rfl (Le.cons rfl (Le.cons rfl (Le.cons rfl (Le.cons rfl (Le.cons rfl (Le.nil _)))))))⟩
  | false =>
  rw [hmet, if_neg Bool.false_ne_true] at hnb
  refine RunC.cond rfl (fun g => by cases g) (fun _ => RunC.skip ?_)
  refine RunC.seq (RunC.region (RunO.part 2 rfl ?_))
  refine RunO.index (s := 1) (k := y) rfl rfl rfl rfl hyB rfl ?_
  refine RunO.store rfl rfl (store1_ow om rfl rfl rfl (by rw [bo_len, hml]; omega)) (RunO.nil ?_)
  rw [bo_set]
  have om4 : Ow (g3.put mb (some ⟨bo (su.2.set y true), true⟩)) mb (bo (su.2.set y true)) := Ow.put _ om.1
  have fm : Fr (· = mb) g3 (g3.put mb (some ⟨bo (su.2.set y true), true⟩)) := Fr.put _ (.inl rfl)
  have oo4 := oo.fr fm (fun e => hne.2.2 e)
  have fg4 := fg.trans fm (fun b e => .inl (.inr e))
  generalize g3.put mb (some ⟨bo (su.2.set y true), true⟩) = g4 at *
  have F4_ := hFF fg4
  have hyL : (y + 1) * 64 ≤ L.length := by
    have := Nat.mul_le_mul_right 64 (show y + 1 ≤ B by omega)
    omega
  refine RunC.seq (RunC.region (RunO.part 2 rfl ?_))
  refine RunO.callD (refBlock_ok (i := y) (sl.fr0 F4_) hyL hm) rfl rfl rfl ?_
  rintro bv_ _ ⟨slb, rfl⟩
  have hbl := blkI_len hyL
  refine RunO.callD (refParseNode_ok (by rw [hbl]; exact slb) (byt_blk hb y)) rfl rfl rfl ?_
  rintro _ g5 ⟨rfl, f5⟩
  have hvl := nodV_len (blkI L y)
  have hwp : wPs L (y : Int) = (nodV (blkI L y)).2 := rfl
  rw [hwp] at hpx hnb
  generalize nodV (blkI L y) = nd at *
  obtain ⟨lw, ps⟩ := nd
  simp only at hvl hpx hnb
  refine RunO.part 4 (h1 := g5.push ⟨nc 0 nZero, true⟩) rfl ?_
  refine RunO.store rfl rfl (nc_store (lv := lw) (ps := ps) (Ow.push g5 (nc 0 nZero)) rfl hvl rfl) (RunO.all rfl ?_)
  have on : Ow ((g5.push ⟨nc 0 nZero, true⟩).put g5.next (some ⟨nc lw ps, true⟩)) g5.next (nc lw ps) := Ow.put _ (Nat.lt_succ_self _)
  have f6 : Fr no g5 ((g5.push ⟨nc 0 nZero, true⟩).put g5.next (some ⟨nc lw ps, true⟩)) := (Fr.push _ _ _).trans (Fr.put (m := (· = g5.next)) _ (.inl rfl)) (fun j hj => .inr (by omega))
  have f56 := f5.same f6
  have hqn : ob < g5.next ∧ mb < g5.next := ⟨by have := oo4.1; have := f5.next; omega, by have := om4.1; have := f5.next; omega⟩
  replace oo4 := oo4.fr f56 (fun g => g)
  replace om4 := om4.fr f56 (fun g => g)
  replace fg4 := fg4.quiet f56
  generalize (g5.push ⟨nc 0 nZero, true⟩).put g5.next (some ⟨nc lw ps, true⟩) = g6 at *
  obtain ⟨qb, hqb⟩ : ∃ q, q = g5.next := ⟨_, rfl⟩
  rw [← hqb] at on hqn ⊢
  refine RunC.seq (RunC.region (RunO.all rfl ?_))
  refine RunC.block ?_
  refine RunC.loop (fun d E h' => ∃ k : Nat, k + d = 8 ∧ Ow h' ob (is ((ps.take k).foldl bmp su.1)) ∧ Ow h' mb (bo (su.2.set y true)) ∧ Ow h' qb (nc lw ps) ∧ CB B (10000 + 1000 * (i : Nat) + 8 * (j : Nat) + (k : Nat)) ((ps.take k).foldl bmp su.1) ∧ Fr (fun b => b = ob ∨ b = mb) h5 h' ∧ Le ((upd (upd (upd (upd (upd (upd (upd (upd (upd E0 0 (iv)) 3 (.pointer (some ⟨xb, 0, none⟩))) 5 (.int .i64 (B : Int))) 7 (.slice (some ⟨ob, 0, none⟩) B (exc B))) 8 (.slice (some ⟨mb, 0, none⟩) B (exc B))) 11 (.int .i64 (i : Int))) 12 (.int .i64 (j : Int))) 14 (.pointer (some ⟨qb, 0, none⟩))) 16 (.int .i64 (k : Int)))) E) ?s4 (k := 8) ?i4
  case i4 => exact ⟨0, by omega, oo4, om4, on, hcb.le (by omega), fg4, Le.cons rfl (Le.cons rfl (Le.cons rfl (Le.cons rfl (Le.cons rfl (Le.cons rfl (Le.cons rfl (Le.cons rfl (Le.cons rfl (Le.nil _)))))))))⟩
  clear oo4 om4 on fg4
  rintro d3 E g7 ⟨k, hk, oo, om, on, hcbk, fg, hE⟩
  refine RunC.le hE ?_
  clear hE
  refine RunC.seq (RunC.seq (RunC.region (RunO.all rfl ?_)))
  refine RunC.cond rfl (fun hlt4 => RunC.skip ?go4) (fun hge4 => RunC.exit ?ex4)
  case ex4 =>
    have hge4 := of_decide_eq_false hge4
    obtain rfl : k = 8 := by omega
    rw [List.take_of_length_le (by omega)] at oo hcbk
    exact ⟨_, hnb.symm, oo, om, hcbk.le (by omega), by show (su.2.set y true).length = B; rw [List.length_set]; exact hml, fg, Le.cons rfl (Le.cons rfl (Le.cons rfl (Le.cons rfl (Le.cons rfl (Le.cons rfl (Le.cons rfl (Le.nil _)))))))⟩
  have hkl := of_decide_eq_true hlt4
  have hk8 : k < 8 := by omega
  have hkl : k < ps.length := by omega
  have hsn3 := fold_snoc bmp su.1 (l := ps) hkl
  have hpp := hpx ps[k] (List.getElem_mem hkl)
  have hld : apart prog 3 (nc lw ps) (1 + k * 1) = some (.int .i64 ps[k]) := by
    show nth (nc lw ps) (1 + k * 1) = _
    rw [Nat.mul_one, Nat.add_comm]; exact is_nth hkl
  generalize ps[k] = x at *
  obtain ⟨z, rfl⟩ := Int.eq_ofNat_of_zero_le (show 0 ≤ x by omega)
  have hzB : z < B := by omega
  have hcbn : CB B (10000 + 1000 * (i : Nat) + 8 * (j : Nat) + (k + 1 : Nat)) ((ps.take (k + 1)).foldl bmp su.1) := by
    rw [hsn3]; exact (hcbk.bmp (by omega) _).le (by omega)
  refine RunC.seq (RunC.block ?_)
  refine RunC.seq (RunC.region (RunO.part 2 rfl ?_))
  refine RunO.indexA (s := 1) rfl rfl rfl rfl rfl hk8 rfl ?_
  refine RunO.load (v := .int .i64 (z : Int)) rfl (on.ld hld) rfl (RunO.all rfl ?_)
  by_cases hz0 : (z : Int) = 0
  · refine RunC.cond (t := false) (by show some (Value.bool (!decide ((z : Int) = 0))) = _; rw [decide_eq_true hz0]; rfl) (fun g => by cases g) (fun _ => RunC.skip ?_)
    refine RunC.region (RunO.all rfl ?_)
    refine ⟨d3 - 1, by omega, k + 1, by omega, ?_, om, on, hcbn, fg, Le.cons (inc64 (by omega)) (Le.cons rfl (Le.cons rfl (Le.cons rfl (Le.cons rfl (Le.cons rfl (Le.cons rfl (Le.cons rfl (Le.cons rfl (Le.nil _)))))))))⟩
    rw [hsn3]; unfold bmp; rw [if_pos hz0]; exact oo
  · refine RunC.cond (t := true) (by show some (Value.bool (!decide ((z : Int) = 0))) = _; rw [decide_eq_false hz0]; rfl) (fun _ => ?_) (fun g => by cases g)
    generalize hcc : (ps.take k).foldl bmp su.1 = cc at *
    have hgz := hcbk.get (by omega) z
    refine RunC.region (RunO.part 3 rfl ?_)
    refine RunO.indexA (s := 1) rfl rfl rfl rfl rfl hk8 rfl ?_
    refine RunO.load (v := .int .i64 (z : Int)) rfl (on.ld hld) rfl ?_
    refine RunO.index (s := 1) (k := z) rfl rfl rfl rfl hzB rfl ?_
    refine RunO.load (v := .int .i64 (cc.getD z 0)) rfl (oo.ld (ig_at0 (by rw [hcbk.1]; exact hzB))) rfl ?_
    refine RunO.part 1 rfl ?_
    rw [fw64 (x := cc.getD z 0 + 1) (by omega) (by omega)]
    refine RunO.index (s := 1) (k := z) rfl rfl rfl rfl hzB rfl ?_
    refine RunO.store rfl rfl (store1_ow oo rfl rfl rfl (by rw [is_len, hcbk.1]; omega)) (RunO.nil ?_)
    rw [is_set, ← bmp_nat hz0, ← hsn3]
    refine RunC.region (RunO.all rfl ?_)
    have fp : Fr (· = ob) g7 (g7.put ob (some ⟨is ((ps.take (k + 1)).foldl bmp su.1), true⟩)) := Fr.put _ (.inl rfl)
    exact ⟨d3 - 1, by omega, k + 1, by omega, Ow.put _ oo.1, om.fr fp (fun e => hne.2.2 e.symm), on.fr fp (fun e => by have e : qb = ob := e; omega), hcbn, fg.trans fp (fun b e => .inl (.inl e)), Le.cons (inc64 (by omega)) (Le.cons rfl (Le.cons rfl (Le.cons rfl (Le.cons rfl (Le.cons rfl (Le.cons rfl (Le.cons rfl (Le.cons rfl (Le.nil _)))))))))⟩
end Go.Proofs.Ytbinkbdfoalbcaa
end
section
set_option linter.unusedVariables false
set_option linter.unusedSectionVars false
set_option maxRecDepth 100000
open Go Go.Am Go.RowKit
namespace Go.Proofs.Ytbinkbdfoalbcaa
open Go.Proofs.Try
/-- What the page's Open tells. -/
structure OpenR (h : Heap) (L : List Int) (S : S5) (slot : Int) (rv bv mv nv : Value) (fb : Int) : Prop where
  cells : allCells (imx S slot rv bv mv nv) = true
  good : (lk L).2 = 0 → S = lkS L ∧ slot = (pickS L).2.1 ∧ fb = 0 ∧ Sl h rv 8 (lkF L).1.length (recCs (lkF L).1) ∧ Sl h bv 1 (lkF L).2.1.length (is (lkF L).2.1) ∧ ∃ cm cn, Sl h mv 1 (lkR L).length cm ∧ JEl (fun _ => True) h cm ((lkR L).map fun p => treeM L p.1) ∧ Sl h nv 1 (lkR L).length cn ∧ JEl (fun _ => True) h cn ((lkR L).map fun p => treeN L p.1)
  bad : (lk L).2 ≠ 0 → S = (0, 0, 0, 0, 0) ∧ slot = 0 ∧ fb = (lk L).1 ∧ rv = .slice none 0 0 ∧ bv = .slice none 0 0 ∧ mv = .slice none 0 0 ∧ nv = .slice none 0 0
theorem OpenR.fr0 {h h' : Heap} {L : List Int} {S : S5} {slot : Int} {rv bv mv nv : Value} {fb : Int} (r : OpenR h L S slot rv bv mv nv fb) (f : Fr no h h') : OpenR h' L S slot rv bv mv nv fb := by
  refine ⟨r.cells, fun g => ?_, r.bad⟩
  obtain ⟨a1, a2, a3, a4, a5, cm, cn, a6, a7, a8, a9⟩ := r.good g
  exact ⟨a1, a2, a3, a4.fr0 f, a5.fr0 f, cm, cn, a6.fr0 f, a7.fr0 f, a8.fr0 f, a9.fr0 f⟩
theorem sl_cell {h : Heap} {v : Value} {s n : Nat} {cs : List Value} (r : Sl h v s n cs) : isCell v = true := by
  obtain ⟨A, c, rfl, _, _⟩ := r.form
  rfl
theorem imx_cells {S : S5} {slot : Int} {rv bv mv nv : Value} (h1 : isCell rv = true) (h2 : isCell bv = true) (h3 : isCell mv = true) (h4 : isCell nv = true) : allCells (imx S slot rv bv mv nv) = true := by
  show cond (isCell rv) (cond (isCell bv) (cond (isCell mv) (cond (isCell nv) true false) false) false) false = true
  rw [h1, h2, h3, h4]; rfl
theorem refOpen10_u {h : Heap} {iv : Value} {L : List Int} (sl : Sl h iv 1 L.length (us L)) (hb : Byt L) (hm : L.length ≤ 4611686018427387904) :
    RunF prog 27 [iv] h fun v h' => Fr no h h' ∧ ∃ S slot rv bv mv nv fb, v = .tuple #[.agg ⟨imx S slot rv bv mv nv⟩, .agg ⟨[.int .i64 fb, .int .i64 (lk L).2]⟩] ∧ OpenR h' L S slot rv bv mv nv fb := by
  refine (refOpen10_ok sl hb hm).mono ?_
  rintro v h' ⟨f, ⟨g, rv, bv, mv, nv, cm, cn, rfl, a1, a2, a3, a4, a5, a6⟩ | ⟨g, rfl⟩⟩
  · exact ⟨f, _, _, rv, bv, mv, nv, 0, by rw [g], imx_cells (sl_cell a1) (sl_cell a2) (sl_cell a3) (sl_cell a5), fun _ => ⟨rfl, rfl, rfl, a1, a2, cm, cn, a3, a4, a5, a6⟩, fun e => absurd g e⟩
  · exact ⟨f, _, _, _, _, _, _, _, rfl, rfl, fun e => absurd e g, fun _ => ⟨rfl, rfl, rfl, rfl, rfl, rfl, rfl⟩⟩
theorem imx_store (S : S5) (slot : Int) (rv bv mv nv : Value) : (imx (0, 0, 0, 0, 0) 0 (.slice none 0 0) (.slice none 0 0) (.slice none 0 0) (.slice none 0 0)).take 0 ++ cellsOf (.agg ⟨imx S slot rv bv mv nv⟩) ++ (imx (0, 0, 0, 0, 0) 0 (.slice none 0 0) (.slice none 0 0) (.slice none 0 0) (.slice none 0 0)).drop (0 + 10) = imx S slot rv bv mv nv := rfl
end Go.Proofs.Ytbinkbdfoalbcaa
end
section
set_option linter.unusedVariables false
set_option linter.unusedSectionVars false
set_option maxRecDepth 100000
open Go Go.Am Go.RowKit
namespace Go.Proofs.Ytbinkbdfoalbcaa
open Go.Proofs.Try

set_option maxHeartbeats 32000000 in
theorem walkExact_true : ∀ h xs avs, ArgsK [.slice (.int .u8)] h xs avs → RunF prog 6 avs h fun v _ => v = .bool true := by
  intro h xs avs ha
  obtain ⟨L, _, iv, _, rfl, sl, hwf, ha⟩ := argInts ha
  obtain rfl := argNil ha
  have hb : Byt L := fun x hx => wf_u8 (hwf x hx)
  refine RunF.walk func6 rfl rfl ?_
  refine RunC.seq (RunC.region (RunO.all rfl ?_))
  refine RunC.seq (RunC.seq (RunC.region (RunO.part 1 rfl ?_)))
  refine RunO.callD (heavy_ok sl) rfl rfl rfl ?_
  rintro _ _ ⟨rfl, rfl⟩
  refine RunO.all rfl ?_
  by_cases hL : (L.length : Int) > 19200
  · rw [decide_eq_true hL]
    refine RunC.cond rfl (fun _ => ?_) (fun g => by cases g)
    exact RunC.seq (RunC.region (RunO.all rfl (RunC.ret ⟨_, rfl, rfl⟩)))
  rw [decide_eq_false hL]
  refine RunC.cond rfl (fun g => by cases g) (fun _ => RunC.skip ?_)
  have hm : L.length ≤ 4611686018427387904 := by omega
  have sl0 : Sl h iv 1 L.length (us L) := sl
  obtain ⟨A, c, rfl, _, _⟩ := sl.form
  -- the twin
  refine RunC.seq (RunC.region (RunO.part 1 rfl ?_))
  refine RunO.callD (twin_ok sl0 (by omega)) rfl rfl rfl ?_
  rintro w h1 ⟨row, f1⟩
  have sw := row.sl (by omega)
  obtain ⟨wA, wc, rfl, _, _⟩ := sw.form
  refine RunO.all rfl ?_
  -- the counts
  refine RunC.seq (RunC.region (RunO.part 1 rfl ?_))
  refine RunO.callD (walkCounts_ok sw hb hm) rfl rfl rfl ?_
  rintro v1 h2 ⟨f2, hv⟩
  obtain ⟨cA, cn, cc, rfl, hg0, hg1⟩ : ∃ cA cn cc, v1 = .tuple #[.slice cA cn cc, .int .i64 (lk L).2] ∧ ((lk L).2 = 0 → cn = L.length / 64 ∧ Sl h2 (.slice cA cn cc) 1 (cntL L).length (is (cntL L)) ∧ CB (L.length / 64) 5000000000 (cntL L)) ∧ ((lk L).2 ≠ 0 → cn = 0) := by
    rcases hv with ⟨g, cb, b, hbn, rfl, ow⟩ | ⟨g, rfl⟩
    · refine ⟨_, _, _, by rw [g], fun _ => ⟨rfl, ?_, cb⟩, fun e => absurd g e⟩
      have := sl_owI ow rfl (Cp.exc (Nat.le_refl _)) (by rw [cb.1]; omega)
      rw [cb.1] at this ⊢
      exact this
    · exact ⟨none, 0, 0, rfl, fun e => absurd e g, fun _ => rfl⟩
  clear hv
  refine RunO.all rfl ?_
  refine RunC.seq (RunC.region (RunO.part 1 rfl ?_))
  refine RunO.callD (walkUsed_ok (sw.fr0 f2) hb hm) rfl rfl rfl ?_
  rintro _ h3 ⟨rfl, f3⟩
  refine RunO.all rfl ?_
  refine RunC.seq (RunC.region (RunO.part 1 rfl ?_))
  have F3 := f2.same f3
  refine RunO.callD (walkShared_ok (sw.fr0 F3) hb hm) rfl rfl rfl ?_
  rintro _ h4 ⟨f4, sv, rfl, rows⟩
  have hshl : (sharedL L).length ≤ L.length / 64 := by
    unfold sharedL
    split
    · rw [idxs_len]; exact cntI_le _ _
    · exact Nat.zero_le _
  have ss := rows.sl (by omega)
  obtain ⟨sA, sc_, rfl, _, _⟩ := ss.form
  refine RunO.all rfl ?_
  -- the image stays
  have F4 := F3.same f4
  have FA := f1.same F4
  have sl4 := sl0.fr0 FA
  have sw4 := sw.fr0 F4
  refine RunC.seq (RunC.seq (RunC.region (RunO.part 2 rfl ?_)))
  refine RunO.callD (keepBytesS_ok sw4 sl4 hm) rfl rfl rfl ?_
  rintro _ _ ⟨rfl, rfl⟩
  rw [beq_self_eq_true L]
  refine RunO.all rfl (RunC.cond rfl (fun g => by cases g) (fun _ => RunC.skip ?_))
  -- the page
  refine RunC.seq (RunC.region (RunO.part 1 rfl ?_))
  refine RunO.callD (refOpen10_u sl4 hb hm) rfl rfl rfl ?_
  rintro _ ho ⟨fo1, S, slot, rv, bv, mv, nv, fb, rfl, orr⟩
  refine RunO.part 4 (h1 := ho.push ⟨(imx (0, 0, 0, 0, 0) 0 (.slice none 0 0) (.slice none 0 0) (.slice none 0 0) (.slice none 0 0)), true⟩) rfl ?_
  have ox := Ow.push ho (imx (0, 0, 0, 0, 0) 0 (.slice none 0 0) (.slice none 0 0) (.slice none 0 0) (.slice none 0 0))
  have fo2 : Fr no ho (ho.push ⟨(imx (0, 0, 0, 0, 0) 0 (.slice none 0 0) (.slice none 0 0) (.slice none 0 0) (.slice none 0 0)), true⟩) := Fr.push _ _ _
  generalize ho.push ⟨(imx (0, 0, 0, 0, 0) 0 (.slice none 0 0) (.slice none 0 0) (.slice none 0 0) (.slice none 0 0)), true⟩ = ho1 at *
  obtain ⟨qx, hqx⟩ : ∃ q, q = ho.next := ⟨_, rfl⟩
  rw [← hqx] at ox ⊢
  refine RunO.part 1 (h1 := ho1.push ⟨[.int .i64 0, .int .i64 0], true⟩) rfl ?_
  have of := Ow.push ho1 [.int .i64 0, .int .i64 0]
  have fo3 : Fr no ho1 (ho1.push ⟨[.int .i64 0, .int .i64 0], true⟩) := Fr.push _ _ _
  have hxl := ox.1
  replace ox := ox.fr fo3 (fun g => g)
  generalize ho1.push ⟨[.int .i64 0, .int .i64 0], true⟩ = ho2 at *
  obtain ⟨qf, hqf⟩ : ∃ q, q = ho1.next := ⟨_, rfl⟩
  rw [← hqf] at of ⊢
  refine RunO.store rfl rfl (store_ow (s := 10) ox rfl rfl orr.cells (Nat.le_refl 10)) ?_
  rw [imx_store]
  have fo4 : Fr (· = qx) ho2 (ho2.put qx (some ⟨imx S slot rv bv mv nv, true⟩)) := Fr.put _ (.inl rfl)
  have ox' : Ow (ho2.put qx (some ⟨imx S slot rv bv mv nv, true⟩)) qx (imx S slot rv bv mv nv) := Ow.put _ ox.1
  have of' := of.fr fo4 (fun e => by have e : qf = qx := e; omega)
  generalize ho2.put qx (some ⟨imx S slot rv bv mv nv, true⟩) = ho3 at *
  refine RunO.store rfl rfl (store_ow (s := 2) of' rfl rfl rfl (Nat.le_refl 2)) (RunO.all rfl ?_)
  have fo5 : Fr (· = qf) ho3 (ho3.put qf (some ⟨[.int .i64 fb, .int .i64 (lk L).2], true⟩)) := Fr.put _ (.inl rfl)
  have of'' : Ow (ho3.put qf (some ⟨[.int .i64 fb, .int .i64 (lk L).2], true⟩)) qf [.int .i64 fb, .int .i64 (lk L).2] := Ow.put _ of'.1
  replace ox' := ox'.fr fo5 (fun e => by have e : qx = qf := e; omega)
  show RunC prog _ _ _ (ho3.put qf (some ⟨[.int .i64 fb, .int .i64 (lk L).2], true⟩)) _ _ _
  have foo : Fr no ho (ho3.put qf (some ⟨[.int .i64 fb, .int .i64 (lk L).2], true⟩)) := ((fo2.same fo3).trans fo4 (fun b e => .inr (by have e : b = qx := e; omega))).trans fo5 (fun b e => .inr (by have e : b = qf := e; have := fo2.next; omega))
  have fo : Fr no h4 (ho3.put qf (some ⟨[.int .i64 fb, .int .i64 (lk L).2], true⟩)) := fo1.same foo
  replace orr := orr.fr0 foo
  generalize ho3.put qf (some ⟨[.int .i64 fb, .int .i64 (lk L).2], true⟩) = h5 at *
  clear fo1 fo2 fo3 fo4 fo5 foo ox of of' hxl

  have sw5 := sw4.fr0 fo
  by_cases hg : (lk L).2 = 0
  case neg =>
    have hcn := hg1 hg
    subst hcn
    have hu : usedL L = 0 := by unfold usedL; rw [if_neg hg]
    have hs : sharedL L = [] := by unfold sharedL; rw [if_neg hg]
    rw [hu, hs]
    refine RunC.seq (RunC.seq (RunC.region (RunO.part 1 rfl ?_)))
    refine RunO.load (v := .int .i64 (lk L).2) rfl (of''.ld rfl) rfl ?_
    refine RunO.part 1 rfl ?_
    rw [show ((lk L).2 != 0) = true from bne_iff_ne.2 hg]
    refine RunO.all rfl (RunC.cond rfl (fun _ => ?_) (fun g => by cases g))
    refine RunC.seq (RunC.region (RunO.part 2 rfl ?_))
    refine RunO.load (v := .int .i64 (lk L).2) rfl (of''.ld rfl) rfl ?_
    refine RunO.part 1 rfl ?_
    rw [beq_self_eq_true (lk L).2]
    refine RunO.part 3 rfl ?_
    refine RunO.loadG (v := .int .i64 (lk L).2) rfl rfl (of''.ld rfl) rfl ?_
    refine RunO.part 1 rfl ?_
    rw [beq_self_eq_true (lk L).2]
    refine RunO.part 4 rfl ?_
    refine RunO.loadG (v := .int .i64 (lk L).2) rfl rfl (of''.ld rfl) rfl ?_
    refine RunO.part 1 rfl ?_
    rw [beq_self_eq_true (lk L).2]
    refine RunO.part 12 rfl ?_
    refine RunO.callDG rfl wakes12_ok rfl rfl rfl ?_
    rintro _ h9 ⟨rfl, f9⟩
    exact RunO.all rfl (RunC.ret ⟨_, rfl, rfl⟩)
  obtain ⟨hcn, slc, hcb⟩ := hg0 hg
  have hu : usedL L = cntI (posP (cntL L)) (L.length / 64) := by unfold usedL; rw [if_pos hg]
  have hs : sharedL L = idxs (shP (cntL L)) (L.length / 64) := by unfold sharedL; rw [if_pos hg]
  obtain ⟨o1, o2, o3, srl, sbl, cm, cn_, smv, jm, snv, jn⟩ := orr.good hg
  have hdl : L.length % 64 = 0 ∧ 4 ≤ L.length / 64 ∧ L.length / 64 ≤ 4096 := by
    have hd := (lk_trees hg).1
    unfold devOk at hd
    simpa using hd
  rw [hg]
  rw [hg] at of''
  refine RunC.seq (RunC.seq (RunC.region (RunO.part 1 rfl ?_)))
  refine RunO.load (v := .int .i64 0) rfl (of''.ld rfl) rfl ?_
  refine RunO.all rfl (RunC.cond rfl (fun g => by cases g) (fun _ => RunC.skip ?_))
  -- the page's counts
  have F5 := FA.same fo
  have sl5 := sl0.fr0 F5
  obtain ⟨rA_, rc1, e1, _, _⟩ := srl.form
  obtain ⟨bA_, bc1, e2, _, _⟩ := sbl.form
  obtain ⟨mA_, mc1, e3, _, _⟩ := smv.form
  obtain ⟨nA_, nc1, e4, _, _⟩ := snv.form
  have hmvc := sl_cell smv
  subst o1
  refine RunC.seq (RunC.region (RunO.part 1 rfl ?_))
  refine RunO.load (v := .agg ⟨imx (lkS L) slot rv bv mv nv⟩) rfl (ox'.ld (by rw [e1, e2, e3, e4]; rfl)) rfl ?_
  refine RunO.callD (refCounts10_ok sl5 hb hm hg srl sbl snv jn hmvc) rfl rfl rfl ?_
  rintro _ h6 ⟨f6, ob, hob, rfl, oo, hcb2⟩
  refine RunO.all rfl ?_
  obtain ⟨B, hB⟩ : ∃ B, B = L.length / 64 := ⟨_, rfl⟩
  rw [← hB] at hcn hdl hu hs hcb hcb2 hshl ⊢
  replace hcn := hcn.symm
  subst hcn
  have slo : Sl h6 (.slice (some ⟨ob, 0, none⟩) B (exc B)) 1 B (is (cntL L)) := by have := sl_owI oo hcb2.1 (Cp.exc (Nat.le_refl _)) (by omega); rwa [hcb2.1] at this
  refine RunC.seq (RunC.region (RunO.all rfl ?_))
  refine RunC.seq (RunC.region (RunO.all rfl ?_))
  refine RunC.seq (RunC.seq (RunC.region (RunO.all rfl ?_)))
  refine RunC.block ?_
  refine RunC.loop (fun d E h' => ∃ (i : Nat) (av : Value), i + d = B ∧ Fr no h6 h' ∧ Row h6.next h' av 1 (idxs (shP (cntL L)) i).length (is (idxs (shP (cntL L)) i)) ∧ Le ((upd (upd (upd (upd (upd (upd (upd (upd (upd (upd E0 4 (.slice cA B cc)) 5 (.int .i64 0)) 6 (.int .i64 (usedL L : Int))) 7 (.int .i64 0)) 8 (.slice sA (sharedL L).length sc_)) 9 (.int .i64 0)) 12 (.slice (some ⟨ob, 0, none⟩) B (exc B))) 13 (.int .i64 (cntI (posP (cntL L)) i : Int))) 14 (av)) 15 (.int .i64 (i : Int)))) E) ?st (k := B) ?ini
  case ini => exact ⟨0, .slice none 0 0, by omega, Fr.refl _ _, Row.nil _ _ _, Le.cons rfl (Le.cons rfl (Le.cons rfl (Le.cons rfl (Le.cons rfl (Le.cons rfl (Le.cons rfl (Le.cons rfl (Le.cons rfl (Le.cons rfl (Le.nil _))))))))))⟩
  rintro d E h7 ⟨i, av, hi, f7, rowa, hE⟩
  refine RunC.le hE ?_
  clear hE
  refine RunC.seq (RunC.seq (RunC.region (RunO.all rfl ?_)))
  refine RunC.cond rfl (fun hlt => RunC.skip ?go) (fun hge => RunC.exit ?ex)
  case ex =>
    have hge := of_decide_eq_false hge
    obtain rfl : i = B := by omega
    have hil := idxs_len (shP (cntL L)) i
    have hic := cntI_le (shP (cntL L)) i
    have sa := rowa.sl (by omega)
    have slc7 := ((slc.fr0 (f3.same f4)).fr0 fo).fr0 (f6.same f7)
    rw [hcb.1] at slc7
    have slo7 := slo.fr0 f7
    have ss7 := (ss.fr0 fo).fr0 (f6.same f7)
    have slc7 : Sl h7 (.slice cA i cc) 1 (cntL L).length (is (cntL L)) := by rw [hcb.1]; exact slc7
    have slo7 : Sl h7 (.slice (some ⟨ob, 0, none⟩) i (exc i)) 1 (cntL L).length (is (cntL L)) := by rw [hcb.1]; exact slo7
    refine RunC.seq (RunC.region (RunO.part 5 rfl ?_))
    refine RunO.callDG rfl (keepInts_ok slc7 slo7 (by rw [hcb.1]; omega)) rfl rfl rfl ?_
    rintro _ _ ⟨rfl, rfl⟩
    rw [beq_self_eq_true (cntL L)]
    refine RunO.part 8 rfl ?_
    rw [hu]
    refine RunO.part 1 rfl ?_
    rw [beq_self_eq_true ((cntI (posP (cntL L)) i : Nat) : Int)]
    refine RunO.part 8 rfl ?_
    rw [hs] at ss7
    rw [hs]
    refine RunO.callDG rfl (keepInts_ok ss7 sa (by omega)) rfl rfl rfl ?_
    rintro _ _ ⟨rfl, rfl⟩
    rw [beq_self_eq_true (idxs (shP (cntL L)) i)]
    refine RunO.part 2 rfl ?_
    refine RunO.callDG rfl wakes12_ok rfl rfl rfl ?_
    rintro _ h9 ⟨rfl, f9⟩
    exact RunO.all rfl (RunC.ret ⟨_, rfl, rfl⟩)
  have hlt := of_decide_eq_true hlt
  have hlt : i < B := by omega
  have hci := cntI_le (posP (cntL L)) i
  have hcs := cntI_le (shP (cntL L)) i
  have hpt := ig_at (l := cntL L) (i := i) (by rw [hcb.1]; exact hlt)
  have slo7 := slo.fr0 f7
  have hil := idxs_len (shP (cntL L)) i
  refine RunC.seq (RunC.block ?_)
  -- one more is reached
  refine RunC.seqc (fun E' h' => h7 = h' ∧ Le ((upd (upd (upd (upd (upd (upd (upd (upd (upd (upd E0 4 (.slice cA B cc)) 5 (.int .i64 0)) 6 (.int .i64 (usedL L : Int))) 7 (.int .i64 0)) 8 (.slice sA (sharedL L).length sc_)) 9 (.int .i64 0)) 12 (.slice (some ⟨ob, 0, none⟩) B (exc B))) 13 (.int .i64 (cntI (posP (cntL L)) (i + 1) : Int))) 14 (av)) 15 (.int .i64 (i : Int)))) E') ?us ?sh
  case us =>
    refine RunC.seq (RunC.region (RunO.part 2 rfl ?_))
    refine RunO.at (s := 1) (k := i) rfl rfl slo7 rfl rfl hlt hpt rfl rfl rfl ?_
    refine RunO.all rfl ?_
    cases hp : posP (cntL L) i with
    | true =>
      refine RunC.cond (t := true) (congrArg (fun x => some (Value.bool x)) hp) (fun _ => ?_) (fun g => by cases g)
      refine RunC.region (RunO.part 2 rfl ?_)
      rw [fw64 (x := ((cntI (posP (cntL L)) i : Nat) : Int) + 1) (by omega) (by omega), show ((cntI (posP (cntL L)) i : Nat) : Int) + 1 = ((cntI (posP (cntL L)) (i + 1) : Nat) : Int) by rw [cntI_yes hp]; omega]
      exact RunO.all rfl ⟨rfl, Le.cons rfl (Le.cons rfl (Le.cons rfl (Le.cons rfl (Le.cons rfl (Le.cons rfl (Le.cons rfl (Le.cons rfl (Le.cons rfl (Le.cons rfl (Le.nil _))))))))))⟩
    | false =>
      refine RunC.cond (t := false) (congrArg (fun x => some (Value.bool x)) hp) (fun g => by cases g) (fun _ => RunC.skip ⟨rfl, ?_⟩)
      rw [cntI_no hp]
      exact Le.cons rfl (Le.cons rfl (Le.cons rfl (Le.cons rfl (Le.cons rfl (Le.cons rfl (Le.cons rfl (Le.cons rfl (Le.cons rfl (Le.cons rfl (Le.nil _))))))))))
  rintro E' _ ⟨rfl, hE⟩
  refine RunC.le hE ?_
  clear hE
  refine RunC.seqc (fun E' h' => h7 = h' ∧ Le ((upd (upd (upd (upd (upd (upd (upd (upd (upd (upd (upd E0 4 (.slice cA B cc)) 5 (.int .i64 0)) 6 (.int .i64 (usedL L : Int))) 7 (.int .i64 0)) 8 (.slice sA (sharedL L).length sc_)) 9 (.int .i64 0)) 12 (.slice (some ⟨ob, 0, none⟩) B (exc B))) 13 (.int .i64 (cntI (posP (cntL L)) (i + 1) : Int))) 14 (av)) 15 (.int .i64 (i : Int))) 100 (.bool (shP (cntL L) i)))) E') ?ts ?ap
  case ts =>
    refine RunC.region (RunO.part 3 rfl ?_)
    by_cases h2 : (i : Int) ≥ 2
    · have e : shP (cntL L) i = decide ((cntL L).getD i 0 > 1) := by unfold shP; rw [decide_eq_true h2, Bool.true_and]
      rw [decide_eq_true h2, e]
      refine RunO.part 2 rfl ?_
      refine RunO.atG (s := 1) (k := i) rfl (fun _ => rfl) rfl rfl slo7 rfl rfl hlt hpt rfl rfl rfl ?_
      exact RunO.all rfl ⟨rfl, Le.cons rfl (Le.cons rfl (Le.cons rfl (Le.cons rfl (Le.cons rfl (Le.cons rfl (Le.cons rfl (Le.cons rfl (Le.cons rfl (Le.cons rfl (Le.cons rfl (Le.nil _)))))))))))⟩
    · have e : shP (cntL L) i = false := by unfold shP; rw [decide_eq_false h2, Bool.false_and]
      rw [decide_eq_false h2, e]
      exact RunO.all rfl ⟨rfl, Le.cons rfl (Le.cons rfl (Le.cons rfl (Le.cons rfl (Le.cons rfl (Le.cons rfl (Le.cons rfl (Le.cons rfl (Le.cons rfl (Le.cons rfl (Le.cons rfl (Le.nil _)))))))))))⟩
  rintro E' _ ⟨rfl, hE⟩
  refine RunC.le hE ?_
  clear hE
  cases hp : shP (cntL L) i with
  | true =>
    refine RunC.cond rfl (fun _ => ?_) (fun g => by cases g)
    refine RunC.region (RunO.part 2 rfl ?_)
    refine RunO.part 1 (h1 := h7.push ⟨[.int .i64 (i : Int)], true⟩) rfl ?_
    have ol := Ow.push h7 [.int .i64 (i : Int)]
    have e3 : Fr no h7 (h7.push ⟨[.int .i64 (i : Int)], true⟩) := Fr.push _ _ _
    have row3 := rowa.gr.fr0 e3
    generalize h7.push ⟨[.int .i64 (i : Int)], true⟩ = g3 at *
    refine RunO.appendG (s := 1) (j := 1) rfl rfl rfl rfl rfl rfl rfl rfl (by decide) row3 ol.all rfl (Nat.le_refl 1) rfl (by show 2 * (_ + 1) * 8 ≤ _; omega) (by omega) ?_
    intro av2 g4 row4 e4
    refine RunO.all rfl ?_
    refine RunC.region (RunO.all rfl ?_)
    refine ⟨d - 1, by omega, i + 1, av2, by omega, (f7.same e3).trans e4 (fun b a => .inr (row3.at a).1), ?_, Le.cons (inc64 (by omega)) (Le.cons rfl (Le.cons rfl (Le.cons rfl (Le.cons rfl (Le.cons rfl (Le.cons rfl (Le.cons rfl (Le.cons rfl (Le.cons rfl (Le.nil _))))))))))⟩
    rw [idxs_yes hp, List.length_append, show is (idxs (shP (cntL L)) i ++ [(i : Int)]) = is (idxs (shP (cntL L)) i) ++ [.int .i64 (i : Int)] from List.map_append]
    exact Row.lo row4 (f7.same e3).next
  | false =>
    refine RunC.cond rfl (fun g => by cases g) (fun _ => RunC.skip ?_)
    refine RunC.region (RunO.all rfl ?_)
    refine ⟨d - 1, by omega, i + 1, av, by omega, f7, ?_, Le.cons (inc64 (by omega)) (Le.cons rfl (Le.cons rfl (Le.cons rfl (Le.cons rfl (Le.cons rfl (Le.cons rfl (Le.cons rfl (Le.cons rfl (Le.cons rfl (Le.nil _))))))))))⟩
    rw [idxs_no hp]
    exact rowa
end Go.Proofs.Ytbinkbdfoalbcaa
end
