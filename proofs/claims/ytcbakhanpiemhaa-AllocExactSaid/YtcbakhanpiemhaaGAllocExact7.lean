/- AllocExact: a calculus over an abstract machine that stands beside the model, and contracts of functions by it (part 7).
Conditions: what each theorem says of its arguments. -/
import Derived.Test.YtcbakhanpiemhaaGAllocExact6
section
set_option linter.unusedVariables false
set_option linter.unusedSectionVars false
set_option maxRecDepth 100000
open Go Go.Am Go.RowKit
namespace Go.Proofs.Ytcbakhanpiemhaa
open Go.Proofs.Try

theorem bl_nodup {L : List Int} (h : (lkF L).2.2.2 = 0) : (lkF L).2.1.Nodup := by
  have v : FolI L (L.length / 64) (lkS L).2.2.2.2 (lkF L).1 (lkF L).2.1 0 := folOf_inv (a := (lkS L).2.2.2.2) h
  unfold List.Nodup
  rw [List.pairwise_iff_getElem]
  intro i j hi hj hij e
  have hl := v.len
  obtain ⟨_, _, _, _, h1⟩ := v.blk i (by omega)
  obtain ⟨_, _, _, _, h2⟩ := v.blk j (by omega)
  have g1 : (lkF L).2.1.getD i 0 = (lkF L).2.1[i] := by rw [List.getD_eq_getElem?_getD, List.getElem?_eq_getElem hi]; rfl
  have g2 : (lkF L).2.1.getD j 0 = (lkF L).2.1[j] := by rw [List.getD_eq_getElem?_getD, List.getElem?_eq_getElem hj]; rfl
  refine (v.apart j (by omega) i (by omega) hij).1 ?_
  rw [h1, h2, g1, g2, e]
set_option maxHeartbeats 64000000 in
theorem refCounts10_ok {h : Heap} {iv rv bv mv nv : Value} {slot : Int} {L : List Int} {cn : List Value} (sl : Sl h iv 1 L.length (us L)) (hb : Byt L) (hm : L.length ≤ 4611686018427387904) (hz : (lk L).2 = 0) (srl : Sl h rv 8 (lkF L).1.length (recCs (lkF L).1)) (sbl : Sl h bv 1 (lkF L).2.1.length (is (lkF L).2.1)) (snl : Sl h nv 1 (lkR L).length cn) (jn : JEl (fun _ => True) h cn ((lkR L).map fun p => treeN L p.1)) (hmv : isCell mv = true) :
    RunF prog 21 [iv, .agg ⟨imx (lkS L) slot rv bv mv nv⟩] h fun v h' => Fr no h h' ∧ ∃ ob, h.next ≤ ob ∧ v = .slice (some ⟨ob, 0, none⟩) (L.length / 64) (exc (L.length / 64)) ∧ Ow h' ob (is (cntL L)) ∧ CB (L.length / 64) 100000000000 (cntL L) := by
  obtain ⟨hd, hp, hbad, htr, hbey, hC⟩ := lk_trees hz
  have hdl : L.length % 64 = 0 ∧ 4 ≤ L.length / 64 ∧ L.length / 64 ≤ 4096 := by
    unfold devOk at hd
    simpa using hd
  have hfo := fol_ok (L := L) (B := L.length / 64) (L.length / 64) (lkS L).2.2.2.2 [] [] 0 (fun r h => absurd h List.not_mem_nil) (fun x h => absurd h List.not_mem_nil) rfl
  have hFe2 : lkF L = fol L (L.length / 64) (L.length / 64) (lkS L).2.2.2.2 [] [] 0 := rfl
  rw [← hFe2] at hfo
  obtain ⟨hrok, hbr, hrbl, hbn⟩ := hfo
  have hbn : (lkF L).2.1.length ≤ 4096 := by have : ([] : List Int).length = 0 := rfl; omega
  have hcnt := refC_eq hrbl (bl_nodup hbad) (fun a ha => (hbr a ha).1)
  have hRl : (lkR L).length = (lkF L).1.length + 1 := by unfold lkR; rw [List.length_cons, List.length_map]
  have hroot := root_rng hd (htr _ (List.mem_cons_self .. : ((lkS L).2.2.1, (lkS L).2.2.2.1) ∈ lkR L))
  have hro : ∀ r ∈ (lkF L).1, r.ro = 0 ∨ (2 ≤ r.ro ∧ r.ro < (L.length / 64 : Nat)) := fun r hr => root_rng hd (htr (r.ro, r.sz) (List.mem_cons_of_mem _ (List.mem_map.2 ⟨r, hr, rfl⟩)))
  have hptr := fun p hpm x hx => tree_ptr (L := L) hd (htr p hpm) (x := x) hx
  have hrng := fun p hpm => tree_rng (L := L) hd (htr p hpm)
  have hrc : refC L = (((lkR L).flatMap fun p => treeN L p.1).foldl (nodeB L) (((lkF L).2.1.zip ((lkF L).1.map (·.ro))).foldl (fun c x => bmp (bmp c x.1) x.2) (bmp (c00 (L.length / 64)) (lkS L).2.2.1), List.replicate (L.length / 64) false)).1 := rfl
  rw [← hcnt]
  obtain ⟨B, hB⟩ : ∃ B, B = L.length / 64 := ⟨_, rfl⟩
  rw [← hB] at hrc hbr hroot hro hptr hrng hdl ⊢
  obtain ⟨rA, rc_, rfl, _, _⟩ := srl.form
  obtain ⟨bA, bc, rfl, _, _⟩ := sbl.form
  obtain ⟨nA, nc_, rfl, _, _⟩ := snl.form
  refine RunF.walk func21 rfl rfl ?_
  refine RunC.seq (RunC.region (RunO.all (h1 := h.push ⟨(imx (lkS L) slot (.slice rA (lkF L).1.length rc_) (.slice bA (lkF L).2.1.length bc) mv (.slice nA (lkR L).length nc_)), true⟩) rfl ?_))
  have ox := Ow.push h (imx (lkS L) slot (.slice rA (lkF L).1.length rc_) (.slice bA (lkF L).2.1.length bc) mv (.slice nA (lkR L).length nc_))
  have f1 : Fr no h (h.push ⟨(imx (lkS L) slot (.slice rA (lkF L).1.length rc_) (.slice bA (lkF L).2.1.length bc) mv (.slice nA (lkR L).length nc_)), true⟩) := Fr.push _ _ _
  generalize h.push ⟨(imx (lkS L) slot (.slice rA (lkF L).1.length rc_) (.slice bA (lkF L).2.1.length bc) mv (.slice nA (lkR L).length nc_)), true⟩ = h1 at *
  obtain ⟨xb, hxb⟩ : ∃ q, q = h.next := ⟨_, rfl⟩
  rw [← hxb] at ox ⊢
  refine RunC.seq (RunC.region (RunO.part 1 rfl ?_))
  refine RunO.callD (refBlocks_ok (sl.fr0 f1) hm) rfl rfl rfl ?_
  rintro _ _ ⟨rfl, rfl⟩
  rw [← hB]
  refine RunO.all rfl ?_
  -- the counts
  refine RunC.seq (RunC.region (RunO.part 1 rfl ?_))
  refine RunO.make (m := B) rfl rfl rfl rfl rfl rfl (show 8 * B ≤ _ by omega) (by omega) rfl ?_
  rw [reps_is]
  have oo := Ow.push h1 (is (List.replicate B 0))
  have hx1 : xb < h1.next := ox.1
  have f2 : Fr no h1 (h1.push ⟨is (List.replicate B 0), true⟩) := Fr.push _ _ _
  replace ox := ox.fr f2 (fun g => g)
  generalize h1.push ⟨is (List.replicate B 0), true⟩ = h2 at *
  obtain ⟨ob, hob⟩ : ∃ q, q = h1.next := ⟨_, rfl⟩
  rw [← hob] at oo ⊢
  refine RunO.all rfl ?_
  refine RunC.seq (RunC.region (RunO.part 2 rfl ?_))
  refine RunO.index (s := 1) (k := 0) rfl rfl rfl rfl (by omega) rfl ?_
  refine RunO.store rfl rfl (store1_ow oo rfl rfl rfl (by rw [is_len, List.length_replicate]; omega)) ?_
  rw [is_set]
  have oo1 : Ow (h2.put ob (some ⟨is ((List.replicate B 0).set 0 1), true⟩)) ob (is ((List.replicate B 0).set 0 1)) := Ow.put _ oo.1
  have fp1 : Fr (· = ob) h2 (h2.put ob (some ⟨is ((List.replicate B 0).set 0 1), true⟩)) := Fr.put _ (.inl rfl)
  generalize h2.put ob (some ⟨is ((List.replicate B 0).set 0 1), true⟩) = h3 at *
  refine RunO.index (s := 1) (k := 1) rfl rfl rfl rfl (by omega) rfl ?_
  refine RunO.store rfl rfl (store1_ow oo1 rfl rfl rfl (by rw [is_len, List.length_set, List.length_replicate]; omega)) (RunO.nil ?_)
  rw [is_set, show ((List.replicate B (0 : Int)).set 0 1).set 1 1 = c00 B from rfl]
  have oo2 : Ow (h3.put ob (some ⟨is (c00 B), true⟩)) ob (is (c00 B)) := Ow.put _ oo1.1
  have fp2 : Fr (· = ob) h3 (h3.put ob (some ⟨is (c00 B), true⟩)) := Fr.put _ (.inl rfl)
  generalize h3.put ob (some ⟨is (c00 B), true⟩) = h4 at *
  have fp := fp1.same fp2
  have ox4 := ox.fr fp (fun e => by have e : xb = ob := e; omega)
  have F4 : Fr no h h4 := (f1.same f2).trans fp (fun b e => .inr (by have e : b = ob := e; have := f1.next; omega))
  -- the marks
  refine RunC.seq (RunC.region (RunO.part 1 rfl ?_))
  refine RunO.make (m := B) rfl rfl rfl rfl rfl rfl (show 1 * B ≤ _ by omega) (by omega) rfl ?_
  rw [reps_bo]
  have om := Ow.push h4 (bo (List.replicate B false))
  have f5 : Fr no h4 (h4.push ⟨bo (List.replicate B false), true⟩) := Fr.push _ _ _
  have hob4 : ob < h4.next := oo2.1
  replace ox := ox4.fr f5 (fun g => g)
  replace oo := oo2.fr f5 (fun g => g)
  have F5 := F4.same f5
  generalize h4.push ⟨bo (List.replicate B false), true⟩ = h5 at *
  obtain ⟨mb, hmb⟩ : ∃ q, q = h4.next := ⟨_, rfl⟩
  rw [← hmb] at om ⊢
  have hne : xb ≠ ob ∧ xb ≠ mb ∧ ob ≠ mb := ⟨by omega, by omega, by omega⟩
  have hobn : h.next ≤ ob := by have := f1.next; omega
  have hmbn : h.next ≤ mb := by omega
  refine RunO.all rfl ?_
  have hcb0 : CB B 1 (c00 B) := by
    unfold c00
    refine CB.set (CB.set ⟨List.length_replicate, fun x hx => ?_⟩ ⟨by decide, by decide⟩) ⟨by decide, by decide⟩
    rw [List.eq_of_mem_replicate hx]; decide
  obtain ⟨rt, hrt⟩ : ∃ r, r = (lkS L).2.2.1 := ⟨_, rfl⟩
  rw [← hrt] at hrc hroot
  obtain ⟨z, hze⟩ := Int.eq_ofNat_of_zero_le (show 0 ≤ rt by omega)
  have hzB : z < B := by omega
  -- the root
  refine RunC.seqc (fun E' h' => Ow h' ob (is (bmp (c00 B) rt)) ∧ Fr (· = ob) h5 h' ∧ Le ((upd (upd (upd (upd (upd E0 0 (iv)) 3 (.pointer (some ⟨xb, 0, none⟩))) 5 (.int .i64 (B : Int))) 7 (.slice (some ⟨ob, 0, none⟩) B (exc B))) 8 (.slice (some ⟨mb, 0, none⟩) B (exc B)))) E') ?rt ?nx
  case rt =>
    refine RunC.seq (RunC.region (RunO.part 3 rfl ?_))
    refine RunO.load (v := .int .i64 rt) rfl (by rw [hrt]; exact ox.ld rfl) rfl ?_
    subst hze
    refine RunO.all rfl ?_
    by_cases hz0 : (z : Int) = 0
    · refine RunC.cond (t := false) (by show some (Value.bool (!decide ((z : Int) = 0))) = _; rw [decide_eq_true hz0]; rfl) (fun g => by cases g) (fun _ => RunC.skip ?_)
      refine ⟨?_, Fr.refl _ _, Le.cons rfl (Le.cons rfl (Le.cons rfl (Le.cons rfl (Le.cons rfl (Le.nil _)))))⟩
      unfold bmp; rw [if_pos hz0]; exact oo
    · refine RunC.cond (t := true) (by show some (Value.bool (!decide ((z : Int) = 0))) = _; rw [decide_eq_false hz0]; rfl) (fun _ => ?_) (fun g => by cases g)
      have hgq := hcb0.get (by omega) z
      refine RunC.region (RunO.part 4 rfl ?_)
      refine RunO.load (v := .int .i64 (z : Int)) rfl (by rw [hrt]; exact ox.ld rfl) rfl ?_
      refine RunO.index (s := 1) (k := z) rfl rfl rfl rfl hzB rfl ?_
      refine RunO.load (v := .int .i64 ((c00 B).getD z 0)) rfl (oo.ld (ig_at0 (by rw [hcb0.1]; exact hzB))) rfl ?_
      refine RunO.part 1 rfl ?_
      rw [fw64 (x := (c00 B).getD z 0 + 1) (by omega) (by omega)]
      refine RunO.index (s := 1) (k := z) rfl rfl rfl rfl hzB rfl ?_
      refine RunO.store rfl rfl (store1_ow oo rfl rfl rfl (by rw [is_len, hcb0.1]; omega)) (RunO.nil ?_)
      rw [is_set, ← bmp_nat hz0]
      exact ⟨Ow.put _ oo.1, Fr.put _ (.inl rfl), Le.cons rfl (Le.cons rfl (Le.cons rfl (Le.cons rfl (Le.cons rfl (Le.nil _)))))⟩
  rintro E' g0 ⟨oo, fg0, hE⟩
  refine RunC.le hE ?_
  clear hE
  clear ox4 oo1 oo2 fp fp1 fp2
  have hcb1 : CB B 2 (bmp (c00 B) rt) := (hcb0.bmp (by decide) rt).le (by decide)
  have om0 := om.fr fg0 (fun e => by have e : mb = ob := e; omega)
  -- the records
  obtain ⟨P, hP⟩ : ∃ P, P = (lkF L).2.1.zip ((lkF L).1.map (·.ro)) := ⟨_, rfl⟩
  rw [← hP] at hrc
  have hPl : P.length = (lkF L).1.length := by rw [hP, List.length_zip, List.length_map]; omega
  have hbm : (bmp (c00 B) rt).length = B := hcb1.1
  generalize bmp (c00 B) rt = c1 at *
  refine RunC.seq (RunC.seq (RunC.region (RunO.all rfl ?_)))
  refine RunC.block ?_
  refine RunC.loop (fun d E h' => ∃ i : Nat, i + d = P.length ∧ Ow h' ob (is ((P.take i).foldl (fun c x => bmp (bmp c x.1) x.2) c1)) ∧ CB B (2 + 2 * (i : Nat)) ((P.take i).foldl (fun c x => bmp (bmp c x.1) x.2) c1) ∧ Fr (· = ob) h5 h' ∧ Le ((upd (upd (upd (upd (upd (upd E0 0 (iv)) 3 (.pointer (some ⟨xb, 0, none⟩))) 5 (.int .i64 (B : Int))) 7 (.slice (some ⟨ob, 0, none⟩) B (exc B))) 8 (.slice (some ⟨mb, 0, none⟩) B (exc B))) 9 (.int .i64 (i : Int)))) E) ?s1 (k := P.length) ?i1
  case i1 => exact ⟨0, by omega, oo, hcb1.le (by omega), fg0, Le.cons rfl (Le.cons rfl (Le.cons rfl (Le.cons rfl (Le.cons rfl (Le.cons rfl (Le.nil _))))))⟩
  clear oo om0 fg0
  rintro d E g1 ⟨i, hi, oo, hcb, fg, hE⟩
  refine RunC.le hE ?_
  clear hE
  have ox1 := ox.fr fg (fun e => by have e : xb = ob := e; omega)
  have F1 : Fr no h g1 := F5.trans fg (fun b e => .inr (by have e : b = ob := e; omega))
  refine RunC.seq (RunC.seq (RunC.region (RunO.part 3 rfl ?_)))
  refine RunO.load (v := .slice rA (lkF L).1.length rc_) rfl (ox1.ld rfl) rfl ?_
  refine RunO.all rfl ?_
  refine RunC.cond rfl (fun hlt => RunC.skip ?go1) (fun hge => RunC.exit ?ex1)
  case go1 =>
    have hlt := of_decide_eq_true hlt
    have hlt : i < P.length := by omega
    have hib : i < (lkF L).2.1.length := by omega
    have hir : i < (lkF L).1.length := by omega
    have hsn := fold_snoc (fun (c : List Int) (x : Int × Int) => bmp (bmp c x.1) x.2) c1 hlt
    have hPi : P[i] = ((lkF L).2.1[i], (lkF L).1[i].ro) := by
      have : P[i] = ((lkF L).2.1.zip ((lkF L).1.map (·.ro)))[i]'(by rw [← hP]; exact hlt) := by congr 1
      rw [this, List.getElem_zip, List.getElem_map]
    rw [hPi] at hsn
    have hr1 := hbr _ (List.getElem_mem hib)
    have hr2 := hro _ (List.getElem_mem hir)
    have hpt := is_part hib
    have hf1 : apart prog 3 (recCs (lkF L).1) (i * 8 + 3) = some (.int .i64 (lkF L).1[i].ro) := by rw [recCs_fld hir (by decide)]; rfl
    obtain ⟨a, ha⟩ := Int.eq_ofNat_of_zero_le (show 0 ≤ (lkF L).2.1[i] by omega)
    obtain ⟨y, hy⟩ := Int.eq_ofNat_of_zero_le (show 0 ≤ (lkF L).1[i].ro by omega)
    rw [ha] at hsn hpt hr1
    rw [hy] at hsn hf1 hr2
    have haB : a < B := by omega
    have hyB : y < B := by omega
    generalize (P.take i).foldl (fun c x => bmp (bmp c x.1) x.2) c1 = c2 at *
    have hga := hcb.get (by omega) a
    have ha0 : (a : Int) ≠ 0 := by omega
    refine RunC.seq (RunC.block ?_)
    refine RunC.seq (RunC.region (RunO.part 2 rfl ?_))
    refine RunO.load (v := .slice bA (lkF L).2.1.length bc) rfl (ox1.ld rfl) rfl ?_
    refine RunO.part 1 rfl ?_
    refine RunO.at (s := 1) (k := i) rfl rfl (sbl.fr0 F1) rfl rfl hib hpt rfl rfl rfl ?_
    refine RunO.index (s := 1) (k := a) rfl rfl rfl rfl haB rfl ?_
    refine RunO.load (v := .int .i64 (c2.getD a 0)) rfl (oo.ld (ig_at0 (by rw [hcb.1]; exact haB))) rfl ?_
    refine RunO.part 1 rfl ?_
    rw [fw64 (x := c2.getD a 0 + 1) (by omega) (by omega)]
    refine RunO.index (s := 1) (k := a) rfl rfl rfl rfl haB rfl ?_
    refine RunO.store rfl rfl (store1_ow oo rfl rfl rfl (by rw [is_len, hcb.1]; omega)) (RunO.nil ?_)
    rw [is_set, ← bmp_nat ha0]
    have hcb2 : CB B (2 + 2 * (i : Nat) + 1) (bmp c2 (a : Int)) := hcb.bmp (by omega) _
    have oo2 : Ow (g1.put ob (some ⟨is (bmp c2 (a : Int)), true⟩)) ob (is (bmp c2 (a : Int))) := Ow.put _ oo.1
    have fg2 : Fr (· = ob) g1 (g1.put ob (some ⟨is (bmp c2 (a : Int)), true⟩)) := Fr.put _ (.inl rfl)
    generalize g1.put ob (some ⟨is (bmp c2 (a : Int)), true⟩) = g2 at *
    have fgg := fg.same fg2
    have ox2 := ox1.fr fg2 (fun e => by have e : xb = ob := e; omega)
    have F2 : Fr no h g2 := F5.trans fgg (fun b e => .inr (by have e : b = ob := e; omega))
    generalize bmp c2 (a : Int) = c3 at *
    refine RunC.seq (RunC.region (RunO.part 2 rfl ?_))
    refine RunO.load (v := .slice rA (lkF L).1.length rc_) rfl (ox2.ld rfl) rfl ?_
    refine RunO.part 1 rfl ?_
    refine RunO.fldG (k := i) (off := 3) rfl (fun _ => rfl) (fun _ _ => rfl) rfl rfl (srl.fr0 F2) rfl rfl hir (fun _ _ => rfl) hf1 rfl rfl rfl rfl rfl ?_
    refine RunO.all rfl ?_
    refine RunC.seq (RunC.region (RunO.all rfl ?_))
    have hcb4 : CB B (2 + 2 * ((i + 1 : Nat) : Int)) (bmp c3 (y : Int)) := (hcb2.bmp (by omega) _).le (by omega)
    by_cases hy0 : (y : Int) = 0
    · refine RunC.cond (t := false) (by show some (Value.bool (!decide ((y : Int) = 0))) = _; rw [decide_eq_true hy0]; rfl) (fun g => by cases g) (fun _ => RunC.skip ?_)
      refine RunC.region (RunO.all rfl ?_)
      have e : bmp c3 (y : Int) = c3 := by unfold bmp; rw [if_pos hy0]
      refine ⟨d - 1, by omega, i + 1, by omega, by rw [hsn, e]; exact oo2, by rw [hsn]; exact hcb4, fgg, Le.cons (inc64 (by omega)) (Le.cons rfl (Le.cons rfl (Le.cons rfl (Le.cons rfl (Le.cons rfl (Le.nil _))))))⟩
    · refine RunC.cond (t := true) (by show some (Value.bool (!decide ((y : Int) = 0))) = _; rw [decide_eq_false hy0]; rfl) (fun _ => ?_) (fun g => by cases g)
      have hgy := hcb2.get (by omega) y
      refine RunC.region (RunO.part 2 rfl ?_)
      refine RunO.index (s := 1) (k := y) rfl rfl rfl rfl hyB rfl ?_
      refine RunO.load (v := .int .i64 (c3.getD y 0)) rfl (oo2.ld (ig_at0 (by rw [hcb2.1]; exact hyB))) rfl ?_
      refine RunO.part 1 rfl ?_
      rw [fw64 (x := c3.getD y 0 + 1) (by omega) (by omega)]
      refine RunO.index (s := 1) (k := y) rfl rfl rfl rfl hyB rfl ?_
      refine RunO.store rfl rfl (store1_ow oo2 rfl rfl rfl (by rw [is_len, hcb2.1]; omega)) (RunO.nil ?_)
      rw [is_set, ← bmp_nat hy0]
      refine RunC.region (RunO.all rfl ?_)
      exact ⟨d - 1, by omega, i + 1, by omega, by rw [hsn]; exact Ow.put _ oo2.1, by rw [hsn]; exact hcb4, fgg.same (Fr.put _ (.inl rfl)), Le.cons (inc64 (by omega)) (Le.cons rfl (Le.cons rfl (Le.cons rfl (Le.cons rfl (Le.cons rfl (Le.nil _))))))⟩
  have hge := of_decide_eq_false hge
  obtain rfl : i = P.length := by omega
  rw [List.take_length] at oo hcb
  generalize P.foldl (fun c x => bmp (bmp c x.1) x.2) c1 = c2 at *
  have ox1 := ox.fr fg (fun e => by have e : xb = ob := e; omega)
  have om1 := om.fr fg (fun e => by have e : mb = ob := e; omega)
  have hwi : ∀ b, b = ob → b = ob ∨ b = mb := fun b e => .inl e
  have fgw : Fr (fun b => b = ob ∨ b = mb) h5 g1 := fg.weak (fun b e => .inl (.inl e))
  have hobm : ∀ b, (b = ob ∨ b = mb) → False ∨ h.next ≤ b := fun b e => .inr (by rcases e with e | e <;> omega)
  have hPn : P.length ≤ 4096 := by omega
  have hcb := hcb.le (show 2 + 2 * ((P.length : Nat) : Int) ≤ 10000 by omega)
  have oxF : ∀ {g : Heap}, Fr (fun b => b = ob ∨ b = mb) h5 g → Ow g xb (imx (lkS L) slot (.slice rA (lkF L).1.length rc_) (.slice bA (lkF L).2.1.length bc) mv (.slice nA (lkR L).length nc_)) := fun f => ox.fr f (fun e => by rcases e with e | e <;> omega)
  have hFF : ∀ {g : Heap}, Fr (fun b => b = ob ∨ b = mb) h5 g → Fr no h g := fun f => F5.trans f (fun b e => .inr (by rcases e with e | e <;> omega))
  clear fg ox1
  refine RunC.seq (RunC.seq (RunC.region (RunO.all rfl ?_)))
  refine RunC.block ?_
  refine RunC.loop (fun d E h' => ∃ (i : Nat) (st : List Int × List Bool), i + d = (lkR L).length ∧ st = (((lkR L).take i).flatMap fun p => treeN L p.1).foldl (nodeB L) (c2, List.replicate B false) ∧ Ow h' ob (is st.1) ∧ Ow h' mb (bo st.2) ∧ CB B (10000 + 1000 * (i : Nat)) st.1 ∧ st.2.length = B ∧ Fr (fun b => b = ob ∨ b = mb) h5 h' ∧ Le ((upd (upd (upd (upd (upd (upd E0 0 (iv)) 3 (.pointer (some ⟨xb, 0, none⟩))) 5 (.int .i64 (B : Int))) 7 (.slice (some ⟨ob, 0, none⟩) B (exc B))) 8 (.slice (some ⟨mb, 0, none⟩) B (exc B))) 11 (.int .i64 (i : Int)))) E) ?s2 (k := (lkR L).length) ?i2
  case i2 => exact ⟨0, _, by omega, rfl, oo, om1, hcb.le (by omega), List.length_replicate, fgw, Le.cons rfl (Le.cons rfl (Le.cons rfl (Le.cons rfl (Le.cons rfl (Le.cons rfl (Le.nil _))))))⟩
  clear oo om1 hcb fgw
  rintro d E g2 ⟨i, st, hi, hst, oo, om, hcb, hml, fg, hE⟩
  refine RunC.le hE ?_
  clear hE
  refine RunC.seq (RunC.seq (RunC.region (RunO.part 2 rfl ?_)))
  refine RunO.load (v := .slice nA (lkR L).length nc_) rfl ((oxF fg).ld rfl) rfl ?_
  refine RunO.all rfl ?_
  refine RunC.cond rfl (fun hlt => RunC.skip ?go2) (fun hge => RunC.exit ?ex2)
  case ex2 =>
    have hge := of_decide_eq_false hge
    obtain rfl : i = (lkR L).length := by omega
    rw [List.take_length] at hst
    rw [← hst] at hrc
    rw [hrc]
    refine RunC.seq (RunC.region (RunO.all rfl (RunC.ret ⟨_, rfl, hFF fg, ob, by omega, rfl, oo, hcb.le (by omega)⟩)))
  have hlt := of_decide_eq_true hlt
  have hlt : i < (lkR L).length := by omega
  obtain ⟨p, hpe⟩ : ∃ p, p = (lkR L)[i] := ⟨_, rfl⟩
  have hpm : p ∈ lkR L := by rw [hpe]; exact List.getElem_mem hlt
  have hrn := (hrng p hpm).2
  have hpx := fun x hx => hptr p hpm x hx
  have hnl := treeN_len L p.1
  have tkN : (((lkR L).take (i + 1)).flatMap fun p => treeN L p.1) = (((lkR L).take i).flatMap fun p => treeN L p.1) ++ treeN L p.1 := by
    rw [List.take_succ_eq_append_getElem hlt, List.flatMap_append, ← hpe]; simp
  obtain ⟨nw, enw, snw, _⟩ := jn.2 i (treeN L p.1) (by rw [List.getElem?_map, List.getElem?_eq_getElem hlt, ← hpe]; rfl)
  obtain ⟨nwA, nwc, rfl, _, _⟩ := snw.form
  have pnw := nth_sl enw
  refine RunC.seq (RunC.block ?_)
  refine RunC.seq (RunC.region (RunO.all rfl ?_))
  refine RunC.block ?_
  refine RunC.loop (fun d E h' => ∃ (j : Nat) (su : List Int × List Bool), j + d = (treeN L p.1).length ∧ su = ((treeN L p.1).take j).foldl (nodeB L) st ∧ Ow h' ob (is su.1) ∧ Ow h' mb (bo su.2) ∧ CB B (10000 + 1000 * (i : Nat) + 8 * (j : Nat)) su.1 ∧ su.2.length = B ∧ Fr (fun b => b = ob ∨ b = mb) h5 h' ∧ Le ((upd (upd (upd (upd (upd (upd (upd E0 0 (iv)) 3 (.pointer (some ⟨xb, 0, none⟩))) 5 (.int .i64 (B : Int))) 7 (.slice (some ⟨ob, 0, none⟩) B (exc B))) 8 (.slice (some ⟨mb, 0, none⟩) B (exc B))) 11 (.int .i64 (i : Int))) 12 (.int .i64 (j : Int)))) E) ?s3 (k := (treeN L p.1).length) ?i3
  case i3 => exact ⟨0, st, by omega, rfl, oo, om, hcb.le (by omega), hml, fg, Le.cons rfl (Le.cons rfl (Le.cons rfl (Le.cons rfl (Le.cons rfl (Le.cons rfl (Le.cons rfl (Le.nil _)))))))⟩
  clear oo om hcb hml fg
  rintro d2 E g3 ⟨j, su, hj, hsu, oo, om, hcb, hml, fg, hE⟩
  refine RunC.le hE ?_
  clear hE
  have F3 := hFF fg
  refine RunC.seq (RunC.seq (RunC.region (RunO.part 2 rfl ?_)))
  refine RunO.load (v := .slice nA (lkR L).length nc_) rfl ((oxF fg).ld rfl) rfl ?_
  refine RunO.part 1 rfl ?_
  refine RunO.at (s := 1) (k := i) rfl rfl (snl.fr0 F3) rfl rfl hlt pnw rfl rfl rfl ?_
  refine RunO.all rfl ?_
  refine RunC.cond rfl (fun hlt3 => RunC.skip ?go3) (fun hge3 => RunC.exit ?ex3)
  case ex3 =>
    have hge3 := of_decide_eq_false hge3
    obtain rfl : j = (treeN L p.1).length := by omega
    rw [List.take_length] at hsu
    refine RunC.region (RunO.all rfl ?_)
    exact ⟨d - 1, by omega, i + 1, su, by omega, by rw [tkN, List.foldl_append, ← hst]; exact hsu, oo, om, hcb.le (by omega), hml, fg, Le.cons (inc64 (by omega)) (Le.cons rfl (Le.cons rfl (Le.cons rfl (Le.cons rfl (Le.cons rfl (Le.nil _))))))⟩
  have hlt3 := of_decide_eq_true hlt3
  have hlt3 : j < (treeN L p.1).length := by omega
  have hpt := is_part hlt3
  have hym := List.getElem_mem hlt3
  have hr := hrn _ hym
  have hpx := hpx _ hym
  have hsn := fold_snoc (nodeB L) st hlt3
  rw [← hsu] at hsn
  obtain ⟨y, hy⟩ := Int.eq_ofNat_of_zero_le (show 0 ≤ (treeN L p.1)[j] by omega)
  rw [hy] at hpt hr hpx hsn
  have hyB : y < B := by omega
  have hnb : nodeB L su (y : Int) = if su.2.getD y false then su else ((wPs L (y : Int)).foldl bmp su.1, su.2.set y true) := rfl
  refine RunC.seqc (fun E' h' => ∃ sv : List Int × List Bool, sv = nodeB L su (y : Int) ∧ Ow h' ob (is sv.1) ∧ Ow h' mb (bo sv.2) ∧ CB B (10000 + 1000 * (i : Nat) + 8 * ((j + 1 : Nat) : Int)) sv.1 ∧ sv.2.length = B ∧ Fr (fun b => b = ob ∨ b = mb) h5 h' ∧ Le ((upd (upd (upd (upd (upd (upd (upd E0 0 (iv)) 3 (.pointer (some ⟨xb, 0, none⟩))) 5 (.int .i64 (B : Int))) 7 (.slice (some ⟨ob, 0, none⟩) B (exc B))) 8 (.slice (some ⟨mb, 0, none⟩) B (exc B))) 11 (.int .i64 (i : Int))) 12 (.int .i64 (j : Int)))) E') ?pt ?nq
  case nq =>
    rintro E' gc ⟨sv, hsv, oo, om, hcb, hml, fg, hE⟩
    refine RunC.le hE ?_
    clear hE
    refine RunC.region (RunO.all rfl ?_)
    exact ⟨d2 - 1, by omega, j + 1, sv, by omega, by rw [hsn]; exact hsv, oo, om, hcb, hml, fg, Le.cons (inc64 (by omega)) (Le.cons rfl (Le.cons rfl (Le.cons rfl (Le.cons rfl (Le.cons rfl (Le.cons rfl (Le.nil _)))))))⟩
  refine RunC.block ?_
  refine RunC.seq (RunC.region (RunO.part 1 rfl ?_))
  refine RunO.load (v := .slice nA (lkR L).length nc_) rfl ((oxF fg).ld rfl) rfl ?_
  refine RunO.part 1 rfl ?_
  refine RunO.at (s := 1) (k := i) rfl rfl (snl.fr0 F3) rfl rfl hlt pnw rfl rfl rfl ?_
  refine RunO.part 1 rfl ?_
  refine RunO.at (s := 1) (k := j) rfl rfl (snw.fr0 F3) rfl rfl hlt3 hpt rfl rfl rfl ?_
  refine RunO.all rfl ?_
  -- met
  refine RunC.seq (RunC.seq (RunC.region (RunO.part 2 rfl ?_)))
  refine RunO.index (s := 1) (k := y) rfl rfl rfl rfl hyB rfl ?_
  refine RunO.load (v := .bool (su.2.getD y false)) rfl (om.ld (bo_at0 (by rw [hml]; exact hyB))) rfl ?_
  refine RunO.all rfl ?_
  cases hmet : su.2.getD y false with
  | true =>
    rw [hmet, if_pos rfl] at hnb
    refine RunC.cond rfl (fun _ => RunC.exit ?_) (fun g => by cases g)
    exact ⟨su, hnb.symm, oo, om, hcb.le (by omega), hml, fg, Le.cons rfl (Le.cons rfl (Le.cons rfl (Le.cons rfl (Le.cons rfl (Le.cons rfl (Le.cons rfl (Le.nil _)))))))⟩
  | false =>
  rw [hmet, if_neg Bool.false_ne_true] at hnb
  refine RunC.cond rfl (fun g => by cases g) (fun _ => RunC.skip ?_)
  refine RunC.seq (RunC.region (RunO.part 2 rfl ?_))
  refine RunO.index (s := 1) (k := y) rfl rfl rfl rfl hyB rfl ?_
  refine RunO.store rfl rfl (store1_ow om rfl rfl rfl (by rw [bo_len, hml]; omega)) (RunO.nil ?_)
  rw [bo_set]
  have om4 : Ow (g3.put mb (some ⟨bo (su.2.set y true), true⟩)) mb (bo (su.2.set y true)) := Ow.put _ om.1
  have fm : Fr (· = mb) g3 (g3.put mb (some ⟨bo (su.2.set y true), true⟩)) := Fr.put _ (.inl rfl)
  have oo4 := oo.fr fm (fun e => hne.2.2 e)
  have fg4 := fg.trans fm (fun b e => .inl (.inr e))
  generalize g3.put mb (some ⟨bo (su.2.set y true), true⟩) = g4 at *
  have F4_ := hFF fg4
  have hyL : (y + 1) * 64 ≤ L.length := by
    have := Nat.mul_le_mul_right 64 (show y + 1 ≤ B by omega)
    omega
  refine RunC.seq (RunC.region (RunO.part 2 rfl ?_))
  refine RunO.callD (refBlock_ok (i := y) (sl.fr0 F4_) hyL hm) rfl rfl rfl ?_
  rintro bv_ _ ⟨slb, rfl⟩
  have hbl := blkI_len hyL
  refine RunO.callD (refParseNode_ok (by rw [hbl]; exact slb) (byt_blk hb y)) rfl rfl rfl ?_
  rintro _ g5 ⟨rfl, f5⟩
  have hvl := nodV_len (blkI L y)
  have hwp : wPs L (y : Int) = (nodV (blkI L y)).2 := rfl
  rw [hwp] at hpx hnb
  generalize nodV (blkI L y) = nd at *
  obtain ⟨lw, ps⟩ := nd
  simp only at hvl hpx hnb
  refine RunO.part 4 (h1 := g5.push ⟨nc 0 nZero, true⟩) rfl ?_
  refine RunO.store rfl rfl (nc_store (lv := lw) (ps := ps) (Ow.push g5 (nc 0 nZero)) rfl hvl rfl) (RunO.all rfl ?_)
  have on : Ow ((g5.push ⟨nc 0 nZero, true⟩).put g5.next (some ⟨nc lw ps, true⟩)) g5.next (nc lw ps) := Ow.put _ (Nat.lt_succ_self _)
  have f6 : Fr no g5 ((g5.push ⟨nc 0 nZero, true⟩).put g5.next (some ⟨nc lw ps, true⟩)) := (Fr.push _ _ _).trans (Fr.put (m := (· = g5.next)) _ (.inl rfl)) (fun j hj => .inr (by omega))
  have f56 := f5.same f6
  have hqn : ob < g5.next ∧ mb < g5.next := ⟨by have := oo4.1; have := f5.next; omega, by have := om4.1; have := f5.next; omega⟩
  replace oo4 := oo4.fr f56 (fun g => g)
  replace om4 := om4.fr f56 (fun g => g)
  replace fg4 := fg4.quiet f56
  generalize (g5.push ⟨nc 0 nZero, true⟩).put g5.next (some ⟨nc lw ps, true⟩) = g6 at *
  obtain ⟨qb, hqb⟩ : ∃ q, q = g5.next := ⟨_, rfl⟩
  rw [← hqb] at on hqn ⊢
  refine RunC.seq (RunC.region (RunO.all rfl ?_))
  refine RunC.block ?_
  refine RunC.loop (fun d E h' => ∃ k : Nat, k + d = 8 ∧ Ow h' ob (is ((ps.take k).foldl bmp su.1)) ∧ Ow h' mb (bo (su.2.set y true)) ∧ Ow h' qb (nc lw ps) ∧ CB B (10000 + 1000 * (i : Nat) + 8 * (j : Nat) + (k : Nat)) ((ps.take k).foldl bmp su.1) ∧ Fr (fun b => b = ob ∨ b = mb) h5 h' ∧ Le ((upd (upd (upd (upd (upd (upd (upd (upd (upd E0 0 (iv)) 3 (.pointer (some ⟨xb, 0, none⟩))) 5 (.int .i64 (B : Int))) 7 (.slice (some ⟨ob, 0, none⟩) B (exc B))) 8 (.slice (some ⟨mb, 0, none⟩) B (exc B))) 11 (.int .i64 (i : Int))) 12 (.int .i64 (j : Int))) 14 (.pointer (some ⟨qb, 0, none⟩))) 16 (.int .i64 (k : Int)))) E) ?s4 (k := 8) ?i4
  case i4 => exact ⟨0, by omega, oo4, om4, on, hcb.le (by omega), fg4, Le.cons rfl (Le.cons rfl (Le.cons rfl (Le.cons rfl (Le.cons rfl (Le.cons rfl (Le.cons rfl (Le.cons rfl (Le.cons rfl (Le.nil _)))))))))⟩
  clear oo4 om4 on fg4
  rintro d3 E g7 ⟨k, hk, oo, om, on, hcbk, fg, hE⟩
  refine RunC.le hE ?_
  clear hE
  refine RunC.seq (RunC.seq (RunC.region (RunO.all rfl ?_)))
  refine RunC.cond rfl (fun hlt4 => RunC.skip ?go4) (fun hge4 => RunC.exit ?ex4)
  case ex4 =>
    have hge4 := of_decide_eq_false hge4
    obtain rfl : k = 8 := by omega
    rw [List.take_of_length_le (by omega)] at oo hcbk
    exact ⟨_, hnb.symm, oo, om, hcbk.le (by omega), by show (su.2.set y true).length = B; rw [List.length_set]; exact hml, fg, Le.cons rfl (Le.cons rfl (Le.cons rfl (Le.cons rfl (Le.cons rfl (Le.cons rfl (Le.cons rfl (Le.nil _)))))))⟩
  have hkl := of_decide_eq_true hlt4
  have hk8 : k < 8 := by omega
  have hkl : k < ps.length := by omega
  have hsn3 := fold_snoc bmp su.1 (l := ps) hkl
  have hpp := hpx ps[k] (List.getElem_mem hkl)
  have hld : apart prog 3 (nc lw ps) (1 + k * 1) = some (.int .i64 ps[k]) := by
    show nth (nc lw ps) (1 + k * 1) = _
    rw [Nat.mul_one, Nat.add_comm]; exact is_nth hkl
  generalize ps[k] = x at *
  obtain ⟨z, rfl⟩ := Int.eq_ofNat_of_zero_le (show 0 ≤ x by omega)
  have hzB : z < B := by omega
  have hcbn : CB B (10000 + 1000 * (i : Nat) + 8 * (j : Nat) + (k + 1 : Nat)) ((ps.take (k + 1)).foldl bmp su.1) := by
    rw [hsn3]; exact (hcbk.bmp (by omega) _).le (by omega)
  refine RunC.seq (RunC.block ?_)
  refine RunC.seq (RunC.region (RunO.part 2 rfl ?_))
  refine RunO.indexA (s := 1) rfl rfl rfl rfl rfl hk8 rfl ?_
  refine RunO.load (v := .int .i64 (z : Int)) rfl (on.ld hld) rfl (RunO.all rfl ?_)
  by_cases hz0 : (z : Int) = 0
  · refine RunC.cond (t := false) (by show some (Value.bool (!decide ((z : Int) = 0))) = _; rw [decide_eq_true hz0]; rfl) (fun g => by cases g) (fun _ => RunC.skip ?_)
    refine RunC.region (RunO.all rfl ?_)
    refine ⟨d3 - 1, by omega, k + 1, by omega, ?_, om, on, hcbn, fg, Le.cons (inc64 (by omega)) (Le.cons rfl (Le.cons rfl (Le.cons rfl (Le.cons rfl (Le.cons rfl (Le.cons rfl (Le.cons rfl (Le.cons rfl (Le.nil _)))))))))⟩
    rw [hsn3]; unfold bmp; rw [if_pos hz0]; exact oo
  · refine RunC.cond (t := true) (by show some (Value.bool (!decide ((z : Int) = 0))) = _; rw [decide_eq_false hz0]; rfl) (fun _ => ?_) (fun g => by cases g)
    generalize hcc : (ps.take k).foldl bmp su.1 = cc at *
    have hgz := hcbk.get (by omega) z
    refine RunC.region (RunO.part 3 rfl ?_)
    refine RunO.indexA (s := 1) rfl rfl rfl rfl rfl hk8 rfl ?_
    refine RunO.load (v := .int .i64 (z : Int)) rfl (on.ld hld) rfl ?_
    refine RunO.index (s := 1) (k := z) rfl rfl rfl rfl hzB rfl ?_
    refine RunO.load (v := .int .i64 (cc.getD z 0)) rfl (oo.ld (ig_at0 (by rw [hcbk.1]; exact hzB))) rfl ?_
    refine RunO.part 1 rfl ?_
    rw [fw64 (x := cc.getD z 0 + 1) (by omega) (by omega)]
    refine RunO.index (s := 1) (k := z) rfl rfl rfl rfl hzB rfl ?_
    refine RunO.store rfl rfl (store1_ow oo rfl rfl rfl (by rw [is_len, hcbk.1]; omega)) (RunO.nil ?_)
    rw [is_set, ← bmp_nat hz0, ← hsn3]
    refine RunC.region (RunO.all rfl ?_)
    have fp : Fr (· = ob) g7 (g7.put ob (some ⟨is ((ps.take (k + 1)).foldl bmp su.1), true⟩)) := Fr.put _ (.inl rfl)
    exact ⟨d3 - 1, by omega, k + 1, by omega, Ow.put _ oo.1, om.fr fp (fun e => hne.2.2 e.symm), on.fr fp (fun e => by have e : qb = ob := e; omega), hcbn, fg.trans fp (fun b e => .inl (.inl e)), Le.cons (inc64 (by omega)) (Le.cons rfl (Le.cons rfl (Le.cons rfl (Le.cons rfl (Le.cons rfl (Le.cons rfl (Le.cons rfl (Le.cons rfl (Le.nil _)))))))))⟩
end Go.Proofs.Ytcbakhanpiemhaa
end
section
set_option linter.unusedVariables false
set_option linter.unusedSectionVars false
set_option maxRecDepth 100000
open Go Go.Am Go.RowKit
namespace Go.Proofs.Ytcbakhanpiemhaa
open Go.Proofs.Try
/-- What the page's Open tells. -/
structure OpenR (h : Heap) (L : List Int) (S : S5) (slot : Int) (rv bv mv nv : Value) (fb : Int) : Prop where
  cells : allCells (imx S slot rv bv mv nv) = true
  good : (lk L).2 = 0 → S = lkS L ∧ slot = (pickS L).2.1 ∧ fb = 0 ∧ Sl h rv 8 (lkF L).1.length (recCs (lkF L).1) ∧ Sl h bv 1 (lkF L).2.1.length (is (lkF L).2.1) ∧ ∃ cm cn, Sl h mv 1 (lkR L).length cm ∧ JEl (fun _ => True) h cm ((lkR L).map fun p => treeM L p.1) ∧ Sl h nv 1 (lkR L).length cn ∧ JEl (fun _ => True) h cn ((lkR L).map fun p => treeN L p.1)
  bad : (lk L).2 ≠ 0 → S = (0, 0, 0, 0, 0) ∧ slot = 0 ∧ fb = (lk L).1 ∧ rv = .slice none 0 0 ∧ bv = .slice none 0 0 ∧ mv = .slice none 0 0 ∧ nv = .slice none 0 0
theorem OpenR.fr0 {h h' : Heap} {L : List Int} {S : S5} {slot : Int} {rv bv mv nv : Value} {fb : Int} (r : OpenR h L S slot rv bv mv nv fb) (f : Fr no h h') : OpenR h' L S slot rv bv mv nv fb := by
  refine ⟨r.cells, fun g => ?_, r.bad⟩
  obtain ⟨a1, a2, a3, a4, a5, cm, cn, a6, a7, a8, a9⟩ := r.good g
  exact ⟨a1, a2, a3, a4.fr0 f, a5.fr0 f, cm, cn, a6.fr0 f, a7.fr0 f, a8.fr0 f, a9.fr0 f⟩
theorem sl_cell {h : Heap} {v : Value} {s n : Nat} {cs : List Value} (r : Sl h v s n cs) : isCell v = true := by
  obtain ⟨A, c, rfl, _, _⟩ := r.form
  rfl
theorem imx_cells {S : S5} {slot : Int} {rv bv mv nv : Value} (h1 : isCell rv = true) (h2 : isCell bv = true) (h3 : isCell mv = true) (h4 : isCell nv = true) : allCells (imx S slot rv bv mv nv) = true := by
  show cond (isCell rv) (cond (isCell bv) (cond (isCell mv) (cond (isCell nv) true false) false) false) false = true
  rw [h1, h2, h3, h4]; rfl
theorem refOpen10_u {h : Heap} {iv : Value} {L : List Int} (sl : Sl h iv 1 L.length (us L)) (hb : Byt L) (hm : L.length ≤ 4611686018427387904) :
    RunF prog 19 [iv] h fun v h' => Fr no h h' ∧ ∃ S slot rv bv mv nv fb, v = .tuple #[.agg ⟨imx S slot rv bv mv nv⟩, .agg ⟨[.int .i64 fb, .int .i64 (lk L).2]⟩] ∧ OpenR h' L S slot rv bv mv nv fb := by
  refine (refOpen10_ok sl hb hm).mono ?_
  rintro v h' ⟨f, ⟨g, rv, bv, mv, nv, cm, cn, rfl, a1, a2, a3, a4, a5, a6⟩ | ⟨g, rfl⟩⟩
  · exact ⟨f, _, _, rv, bv, mv, nv, 0, by rw [g], imx_cells (sl_cell a1) (sl_cell a2) (sl_cell a3) (sl_cell a5), fun _ => ⟨rfl, rfl, rfl, a1, a2, cm, cn, a3, a4, a5, a6⟩, fun e => absurd g e⟩
  · exact ⟨f, _, _, _, _, _, _, _, rfl, rfl, fun e => absurd e g, fun _ => ⟨rfl, rfl, rfl, rfl, rfl, rfl, rfl⟩⟩
theorem imx_store (S : S5) (slot : Int) (rv bv mv nv : Value) : (imx (0, 0, 0, 0, 0) 0 (.slice none 0 0) (.slice none 0 0) (.slice none 0 0) (.slice none 0 0)).take 0 ++ cellsOf (.agg ⟨imx S slot rv bv mv nv⟩) ++ (imx (0, 0, 0, 0, 0) 0 (.slice none 0 0) (.slice none 0 0) (.slice none 0 0) (.slice none 0 0)).drop (0 + 10) = imx S slot rv bv mv nv := rfl
end Go.Proofs.Ytcbakhanpiemhaa
end
section
set_option linter.unusedVariables false
set_option linter.unusedSectionVars false
set_option maxRecDepth 100000
open Go Go.Am Go.RowKit
namespace Go.Proofs.Ytcbakhanpiemhaa
open Go.Proofs.Try
/-- The numbers below n with p, in order. -/
def idxs (p : Nat → Bool) (n : Nat) : List Int := ((List.range n).filter p).map fun (j : Nat) => (j : Int)
def cntI (p : Nat → Bool) (n : Nat) : Nat := ((List.range n).filter p).length
def posP (c : List Int) (j : Nat) : Bool := decide (c.getD j 0 > 0)
def shP (c : List Int) (j : Nat) : Bool := decide ((j : Int) ≥ 2) && decide (c.getD j 0 > 1)
theorem idxs_len (p : Nat → Bool) (n : Nat) : (idxs p n).length = cntI p n := List.length_map _
theorem cntI_le (p : Nat → Bool) (n : Nat) : cntI p n ≤ n := by
  unfold cntI
  have := List.length_filter_le p (List.range n)
  rwa [List.length_range] at this
theorem idxs_yes {p : Nat → Bool} {n : Nat} (h : p n = true) : idxs p (n + 1) = idxs p n ++ [(n : Int)] := by
  unfold idxs
  rw [List.range_succ, List.filter_append, List.map_append, List.filter_cons_of_pos h]; rfl
theorem idxs_no {p : Nat → Bool} {n : Nat} (h : p n = false) : idxs p (n + 1) = idxs p n := by
  unfold idxs
  rw [List.range_succ, List.filter_append, List.map_append, List.filter_cons_of_neg (by rw [h]; decide)]
  exact List.append_nil _
section
variable {h : Heap} {iv : Value} {L : List Int} (sl : Sl h iv 1 L.length (us L)) (hb : Byt L) (hm : L.length ≤ 4611686018427387904)
include sl hb hm
set_option maxHeartbeats 4000000 in
theorem walkCounts_ok : RunF prog 47 [iv] h fun v h' => Fr no h h' ∧ (((lk L).2 = 0 ∧ CB (L.length / 64) 5000000000 (cntL L) ∧ ∃ b, h.next ≤ b ∧ v = .tuple #[.slice (some ⟨b, 0, none⟩) (L.length / 64) (exc (L.length / 64)), .int .i64 0] ∧ Ow h' b (is (cntL L))) ∨ ((lk L).2 ≠ 0 ∧ v = .tuple #[.slice none 0 0, .int .i64 (lk L).2])) := by
  refine RunF.walk func47 rfl rfl ?_
  refine RunC.seq (RunC.region (RunO.all rfl ?_))
  refine RunC.seq (RunC.region (RunO.part 1 rfl ?_))
  refine RunO.callD (openLook_ok sl hb hm) rfl rfl rfl ?_
  rintro _ h1 ⟨f1, ⟨g, xb, rfl, lr⟩ | ⟨g, rfl⟩⟩
  · refine RunO.all rfl ?_
    refine RunC.seq (RunC.seq (RunC.region (RunO.all rfl (RunC.cond rfl (fun g => by cases g) (fun _ => RunC.skip ?_)))))
    refine RunC.seq (RunC.region (RunO.part 2 rfl ?_))
    refine RunO.callD (walkOf_ok (sl.fr0 f1) hb g lr) rfl rfl rfl ?_
    rintro _ h2 ⟨f2, cb, b, hbn, rfl, ow⟩
    refine RunO.all rfl ?_
    exact RunC.ret ⟨_, rfl, f1.same f2, .inl ⟨g, cb, b, by have := f1.next; omega, rfl, ow⟩⟩
  · refine RunO.all rfl ?_
    refine RunC.seq (RunC.seq (RunC.region (RunO.all rfl (RunC.cond (t := true) (by show some (Value.bool (!decide ((lk L).2 = 0))) = _; rw [decide_eq_false g]; rfl) (fun _ => ?_) (fun g => by cases g)))))
    refine RunC.seq (RunC.region (RunO.all rfl ?_))
    exact RunC.ret ⟨_, rfl, f1, .inr ⟨g, rfl⟩⟩
/-- How many are reached. -/
def usedL (L : List Int) : Nat := if (lk L).2 = 0 then cntI (posP (cntL L)) (L.length / 64) else 0
def sharedL (L : List Int) : List Int := if (lk L).2 = 0 then idxs (shP (cntL L)) (L.length / 64) else []
end
end Go.Proofs.Ytcbakhanpiemhaa
end
section
set_option linter.unusedVariables false
set_option linter.unusedSectionVars false
set_option maxRecDepth 100000
open Go Go.Am Go.RowKit
namespace Go.Proofs.Ytcbakhanpiemhaa
open Go.Proofs.Try

/-- What is free, by the page. -/
def frP (c : List Int) (j : Nat) : Bool := decide ((j : Int) ≥ 2) && (c.getD j 0 == 0)
set_option maxHeartbeats 8000000 in
theorem refFree_ok {h : Heap} {v : Value} {l : List Int} (sl : Sl h v 1 l.length (is l)) (hm : 2 ≤ l.length) (hm2 : l.length ≤ 1000000) : RunF prog 20 [v] h fun r h' => Row h.next h' r 1 (idxs (frP l) l.length).length (is (idxs (frP l) l.length)) ∧ Fr no h h' := by
  have sl0 := sl
  obtain ⟨A, c, rfl, _, _⟩ := sl.form
  refine RunF.walk func20 rfl rfl ?_
  refine RunC.seq (RunC.region (RunO.all rfl ?_))
  refine RunC.seq (RunC.region (RunO.all rfl ?_))
  refine RunC.seq (RunC.seq (RunC.region (RunO.all rfl ?_)))
  refine RunC.block ?_
  have h2 : idxs (frP l) 2 = [] := by
    have e0 : frP l 0 = false := rfl
    have e1 : frP l 1 = false := rfl
    rw [show 2 = 0 + 1 + 1 from rfl, idxs_no e1, idxs_no e0]; rfl
  refine RunC.loop (fun d E h' => ∃ (i : Nat) (av : Value), i + d = l.length ∧ 2 ≤ i ∧ Fr no h h' ∧ Row h.next h' av 1 (idxs (frP l) i).length (is (idxs (frP l) i)) ∧ Le ((upd (upd (upd E0 0 (.slice A l.length c)) 3 (av)) 4 (.int .i64 (i : Int)))) E) ?st (k := l.length - 2) ?ini
  case ini => exact ⟨2, .slice none 0 0, by omega, Nat.le_refl _, Fr.refl _ _, by rw [h2]; exact Row.nil _ _ _, Le.cons rfl (Le.cons rfl (Le.cons rfl (Le.nil _)))⟩
  rintro d E h7 ⟨i, av, hi, hi2, f7, rowa, hE⟩
  refine RunC.le hE ?_
  clear hE
  refine RunC.seq (RunC.seq (RunC.region (RunO.all rfl ?_)))
  refine RunC.cond rfl (fun hlt => RunC.skip ?go) (fun hge => RunC.exit ?ex)
  case ex =>
    have hge := of_decide_eq_false hge
    obtain rfl : i = l.length := by omega
    exact RunC.seq (RunC.region (RunO.all rfl (RunC.ret ⟨_, rfl, rowa, f7⟩)))
  have hlt := of_decide_eq_true hlt
  have hlt : i < l.length := by omega
  have hcs := cntI_le (frP l) i
  have hil := idxs_len (frP l) i
  have hpt := ig_at (l := l) (i := i) hlt
  have e : frP l i = (l.getD i 0 == 0) := by unfold frP; rw [decide_eq_true (by omega), Bool.true_and]
  refine RunC.seq (RunC.block ?_)
  refine RunC.seq (RunC.region (RunO.part 2 rfl ?_))
  refine RunO.at (s := 1) (k := i) rfl rfl (sl0.fr0 f7) rfl rfl hlt hpt rfl rfl rfl ?_
  refine RunO.part 1 rfl ?_
  rw [← e]
  cases hp : frP l i with
  | true =>
    refine RunO.all rfl (RunC.cond rfl (fun _ => ?_) (fun g => by cases g))
    refine RunC.region (RunO.part 2 rfl ?_)
    refine RunO.part 1 (h1 := h7.push ⟨[.int .i64 (i : Int)], true⟩) rfl ?_
    have ol := Ow.push h7 [.int .i64 (i : Int)]
    have e3 : Fr no h7 (h7.push ⟨[.int .i64 (i : Int)], true⟩) := Fr.push _ _ _
    have row3 := rowa.gr.fr0 e3
    generalize h7.push ⟨[.int .i64 (i : Int)], true⟩ = g3 at *
    refine RunO.appendG (s := 1) (j := 1) rfl rfl rfl rfl rfl rfl rfl rfl (by decide) row3 ol.all rfl (Nat.le_refl 1) rfl (by show 2 * (_ + 1) * 8 ≤ _; omega) (by omega) ?_
    intro av2 g4 row4 e4
    refine RunO.all rfl ?_
    refine RunC.region (RunO.all rfl ?_)
    refine ⟨d - 1, by omega, i + 1, av2, by omega, by omega, (f7.same e3).trans e4 (fun b a => .inr (row3.at a).1), ?_, Le.cons (inc64 (by omega)) (Le.cons rfl (Le.cons rfl (Le.nil _)))⟩
    rw [idxs_yes hp, List.length_append, show is (idxs (frP l) i ++ [(i : Int)]) = is (idxs (frP l) i) ++ [.int .i64 (i : Int)] from List.map_append]
    exact Row.lo row4 (f7.same e3).next
  | false =>
    refine RunO.all rfl (RunC.cond rfl (fun g => by cases g) (fun _ => RunC.skip ?_))
    refine RunC.region (RunO.all rfl ?_)
    refine ⟨d - 1, by omega, i + 1, av, by omega, by omega, f7, ?_, Le.cons (inc64 (by omega)) (Le.cons rfl (Le.cons rfl (Le.nil _)))⟩
    rw [idxs_no hp]
    exact rowa
end Go.Proofs.Ytcbakhanpiemhaa
end
section
set_option linter.unusedVariables false
set_option maxRecDepth 100000
open Go Go.Am Go.RowKit
namespace Go.Proofs.Ytcbakhanpiemhaa
open Go.Proofs.Try
theorem cloneI_ok {h : Heap} {v : Value} {l : List Int} (sl : Sl h v 1 l.length (is l)) (hb : 2 * l.length * 8 ≤ 281474976710656) :
    RunF prog 45 [v] h fun r h' => Osl h.next h' r 1 l.length (is l) ∧ Fr no h h' ∧ (l.length = 0 → h.next ≤ h'.next) := by
  refine RunF.walk func45 rfl rfl ?_
  refine RunC.seq (RunC.region (RunO.all rfl ?_))
  obtain ⟨hl, hm, ⟨rfl, h0⟩ | ⟨b, o, c, rfl, hc, rd⟩⟩ := sl
  · refine RunC.seq (RunC.seq (RunC.region (RunO.all rfl ?_)))
    refine RunC.cond rfl (fun _ => ?_) (fun g => by cases g)
    exact RunC.seq (RunC.region (RunO.all rfl (RunC.ret ⟨_, rfl, ⟨hl, hm, .inl ⟨rfl, h0⟩⟩, Fr.refl _ _, fun _ => Nat.le_refl _⟩)))
  · refine RunC.seq (RunC.seq (RunC.region (RunO.all rfl ?_)))
    refine RunC.cond rfl (fun g => by cases g) (fun _ => RunC.skip ?_)
    refine RunC.seq (RunC.region (RunO.part 2 (h1 := h.push ⟨[], true⟩) rfl ?_))
    have f1 : Fr no h (h.push ⟨[], true⟩) := Fr.push _ _ _
    have ow : Ow (h.push ⟨[], true⟩) h.next [] := Ow.push _ _
    by_cases hz : l.length = 0
    · have hn : l = [] := List.eq_nil_of_length_eq_zero hz
      subst hn
      have key : aappend prog (h.push ⟨[], true⟩) 22 22 (.slice (some ⟨h.next, 0, none⟩) 0 (exc 0)) (.slice (some ⟨b, o, none⟩) 0 c) = some (.slice (some ⟨h.next, 0, none⟩) 0 (exc 0), h.push ⟨[], true⟩) := by
        have hs : asrc (h.push ⟨[], true⟩) 1 (.slice (some ⟨b, o, none⟩) 0 c) = some (0, []) := ((rd.fr f1 (fun g => g)).sl (s := 1) (n := 0) rfl (Nat.zero_le _) hc).src0
        show (match asrc (h.push ⟨[], true⟩) 1 (.slice (some ⟨b, o, none⟩) 0 c) with
          | some (0, _) => some (Value.slice (some ⟨h.next, 0, none⟩) 0 (exc 0), h.push ⟨[], true⟩)
          | some (m + 1, news) => _
          | none => none) = _
        rw [hs]
      refine RunO.one rfl (v := .slice (some ⟨h.next, 0, none⟩) 0 (exc 0)) (h1 := h.push ⟨[], true⟩) (abuiltin_app key) rfl ?_
      exact RunO.all rfl (RunC.ret ⟨_, rfl, ⟨rfl, hm, .inr ⟨h.next, exc 0, Nat.le_refl _, rfl, Cp.exc (Nat.le_refl _), ow⟩⟩, f1, fun _ => Nat.le_succ _⟩)
    · have key := append_full (P := prog) (t := 22) (e := 3) (s := 1) (k := 0) (m := l.length) (c := exc 0) (c' := c) (olds := []) (news := is l) (b := ⟨h.next, 0, none⟩) (a := ⟨b, o, none⟩) rfl rfl rfl rfl rfl (Nat.le_refl 1) ow.all rfl rfl (by show 0 < 0 + l.length; omega) (rd.fr f1 (fun g => g)) (by rw [is_len, Nat.mul_one]) (by omega)
        (by show 2 * (0 + l.length) * 8 ≤ _; omega) (by omega)
      rw [Nat.zero_add, List.nil_append] at key
      refine RunO.one rfl (abuiltin_app key) rfl ?_
      refine RunO.all rfl (RunC.ret ⟨_, rfl, ⟨hl, hm, .inr ⟨_, _, Nat.le_succ _, rfl, Cp.unkc _ _, Ow.push _ _⟩⟩, f1.same (Fr.push _ _ _), fun _ => Nat.le_succ_of_le (Nat.le_succ _)⟩)
end Go.Proofs.Ytcbakhanpiemhaa
end
section
set_option linter.unusedVariables false
namespace Go.Am
open Go.RowKit
section
variable {P : Program} {n : Nat} {ops rest : List Oper} {E E1 : Env} {h h1 : Heap} {Q : Env → Heap → Prop}
end
end Go.Am
end
section
set_option linter.unusedVariables false
set_option linter.unusedSectionVars false
set_option maxRecDepth 100000
open Go Go.Am Go.RowKit
namespace Go.Proofs.Ytcbakhanpiemhaa
open Go.Proofs.Try
/- What is free. -/
def badC (n : Int) : Bool := decide (n < 0) || decide (n > 2147483647)
def rightL (c : List Int) : Bool := decide ((c.length : Int) ≤ 4096) && !(c.any badC)
def freeP (c : List Int) (j : Nat) : Bool := decide ((j : Int) ≥ 2) && (c.getD j 0 == 0)
def freeL (c : List Int) : List Int := idxs (freeP c) c.length
theorem rightC_ok {h : Heap} {b : Int} : RunF prog 84 [.int .i64 b] h fun v h' => v = .bool (badC b) ∧ Fr no h h' := by
  refine RunF.walk func84 rfl rfl ?_
  refine RunC.seq (RunC.region (RunO.all rfl ?_))
  unfold badC
  refine RunC.seq (RunC.region (RunO.part 3 rfl ?_))
  cases decide (b < 0) with
  | true => exact RunO.all rfl (RunC.ret ⟨_, rfl, rfl, Fr.refl _ _⟩)
  | false => exact RunO.all rfl (RunC.ret ⟨_, rfl, rfl, Fr.refl _ _⟩)
section
variable {h : Heap} {v : Value} {c : List Int} (sl : Sl h v 1 c.length (is c)) (hc : c.length ≤ 100000)
include sl hc
theorem allocRight_ok : RunF prog 43 [v] h fun r h' => r = .bool (rightL c) ∧ Fr no h h' := by
  refine RunF.walk func43 rfl rfl ?_
  have sl0 := sl
  obtain ⟨A, cc, rfl, _, _⟩ := sl.form
  refine RunC.seq (RunC.region (RunO.all rfl ?_))
  unfold rightL
  refine RunC.seq (RunC.region (RunO.part 4 rfl ?_))
  cases decide ((c.length : Int) ≤ 4096) with
  | false => exact RunO.all rfl (RunC.ret ⟨_, rfl, rfl, Fr.refl _ _⟩)
  | true =>
    refine RunO.part 1 rfl ?_
    refine RunO.callDG rfl (containsI_ok sl0 (u := fun j => .int .i64 (c.getD j 0)) (cap := []) (fun j hj => ig_at hj) (p := fun j => badC (c.getD j 0)) (fun j hj h5 f5 => rightC_ok) (by omega)) rfl rfl rfl ?_
    rintro _ h2 ⟨rfl, f2⟩
    rw [anyI_list (l := c) (q := badC) (fun j x hx => by rw [List.getD_eq_getElem?_getD, hx]; rfl)]
    cases c.any badC with
    | true => exact RunO.all rfl (RunC.ret ⟨_, rfl, rfl, f2⟩)
    | false => exact RunO.all rfl (RunC.ret ⟨_, rfl, rfl, f2⟩)
theorem allocFree0_ok : RunF prog 44 [v] h fun r h' => Fr no h h' ∧ Row h.next h' r 1 (freeL c).length (is (freeL c)) := by
  refine RunF.walk func44 rfl rfl ?_
  have sl0 := sl
  obtain ⟨A, cc, rfl, _, _⟩ := sl.form
  refine RunC.seq (RunC.region (RunO.all rfl ?_))
  refine RunC.seq (RunC.region (RunO.all rfl ?_))
  refine RunC.seq ?_
  refine RunC.seq (RunC.region (RunO.all rfl ?_))
  refine RunC.block ?_
  refine RunC.loop (fun d E h' => ∃ (i : Nat) (ov : Value), i + d = c.length ∧ Fr no h h' ∧ Row h.next h' ov 1 (idxs (freeP c) i).length (is (idxs (freeP c) i)) ∧ Le ((upd (upd (upd (upd E0 6 (.slice A c.length cc)) 7 (.int .i64 (c.length : Int))) 3 (ov)) 8 (.int .i64 (i : Int)))) E) ?st1 (k := c.length) ?ini1
  case ini1 => exact ⟨0, .slice none 0 0, by omega, Fr.refl _ _, Row.nil _ _ _, Le.cons rfl (Le.cons rfl (Le.cons rfl (Le.cons rfl (Le.nil _))))⟩
  rintro d E g1 ⟨i, ov, hi, fg, row, hE⟩
  refine RunC.le hE ?_
  clear hE
  refine RunC.seq (RunC.region (RunO.all rfl ?_))
  refine RunC.seq (RunC.cond rfl (fun hlt => RunC.skip ?go1) (fun hge => RunC.exit ?ex1))
  case ex1 =>
    have hge := of_decide_eq_false hge
    obtain rfl : i = c.length := by omega
    refine RunC.seq (RunC.region (RunO.all rfl ?_))
    exact RunC.ret ⟨_, rfl, fg, row⟩
  have hlt := of_decide_eq_true hlt
  have hlt : i < c.length := by omega
  have hci := cntI_le (freeP c) i
  rw [← idxs_len] at hci
  refine RunC.seq (RunC.block ?_)
  refine RunC.seq (RunC.region (RunO.part 1 rfl ?_))
  refine RunO.at (s := 1) (m := c.length) (k := i) rfl rfl (sl0.fr0 fg) rfl rfl hlt (ig_at hlt) rfl rfl rfl (RunO.all rfl ?_)
  refine RunC.seqE (upd ((upd (upd (upd (upd (upd E0 6 (.slice A c.length cc)) 7 (.int .i64 (c.length : Int))) 3 (ov)) 8 (.int .i64 (i : Int))) 4 (.int .i64 (i : Int)))) 18 (.bool (freeP c i))) ?_ ?_
  · refine RunC.region (RunO.part 3 rfl ?_)
    unfold freeP
    cases decide ((i : Int) ≥ 2) with
    | true => exact RunO.all rfl ⟨rfl, Le.cons rfl (Le.cons rfl (Le.cons rfl (Le.cons rfl (Le.cons rfl (Le.cons rfl (Le.nil _))))))⟩
    | false => exact RunO.all rfl ⟨rfl, Le.cons rfl (Le.cons rfl (Le.cons rfl (Le.cons rfl (Le.cons rfl (Le.cons rfl (Le.nil _))))))⟩
  cases hp : freeP c i with
  | true =>
    refine RunC.cond rfl (fun _ => ?_) (fun g => by cases g)
    refine RunC.region (RunO.part 3 (h1 := g1.push ⟨is [(i : Int)], true⟩) rfl ?_)
    have ot := Ow.push g1 (is [(i : Int)])
    have f6 : Fr no g1 (g1.push ⟨is [(i : Int)], true⟩) := Fr.push _ _ _
    have hrx : ∀ b, At ov b → h.next ≤ b := fun b g => (row.at g).1
    replace row := row.fr f6 (fun _ _ _ g => g)
    have fg6 := fg.same f6
    have hn6 := fg6.next
    generalize g1.push ⟨is [(i : Int)], true⟩ = g6 at *
    refine RunO.appendG (s := 1) (j := 1) rfl rfl rfl rfl rfl rfl rfl rfl (by decide) row.gr ot.all rfl (Nat.le_refl 1) rfl (by show 2 * (_ + 1) * 8 ≤ _; omega) (by omega) ?_
    intro ov2 g7 row f7
    have fg7 : Fr no h g7 := fg6.trans f7 (fun b g => .inr (by have := hrx b g; omega))
    have e1 : is (idxs (freeP c) i) ++ is [(i : Int)] = is (idxs (freeP c) (i + 1)) := by
      rw [idxs_yes hp]; exact (List.map_append ..).symm
    have e2 : (idxs (freeP c) i).length + 1 = (idxs (freeP c) (i + 1)).length := by rw [idxs_yes hp, List.length_append]; rfl
    rw [e1, e2] at row
    refine RunO.all rfl ?_
    refine RunC.region (RunO.all rfl ?_)
    exact ⟨d - 1, by omega, i + 1, ov2, by omega, fg7, Row.lo row hn6, Le.cons (inc64 (by omega)) (Le.cons rfl (Le.cons rfl (Le.cons rfl (Le.nil _))))⟩
  | false =>
    refine RunC.cond rfl (fun g => by cases g) (fun _ => RunC.skip ?_)
    refine RunC.region (RunO.all rfl ?_)
    refine ⟨d - 1, by omega, i + 1, ov, by omega, fg, ?_, Le.cons (inc64 (by omega)) (Le.cons rfl (Le.cons rfl (Le.cons rfl (Le.nil _))))⟩
    rw [idxs_no hp]; exact row
theorem allocFree_ok : RunF prog 14 [v] h fun r h' => Fr no h h' ∧ ((rightL c = true ∧ ∃ ov, r = .tuple #[ov, .int .i64 0] ∧ Row h.next h' ov 1 (freeL c).length (is (freeL c))) ∨ (rightL c = false ∧ r = .tuple #[.slice none 0 0, .int .i64 1])) := by
  refine RunF.walk func14 rfl rfl ?_
  have sl0 := sl
  obtain ⟨A, cc, rfl, _, _⟩ := sl.form
  refine RunC.seq (RunC.region (RunO.all rfl ?_))
  refine RunC.seq (RunC.seq (RunC.region (RunO.part 1 rfl ?_)))
  refine RunO.callD (allocRight_ok sl0 hc) rfl rfl rfl ?_
  rintro _ h1 ⟨rfl, f1⟩
  refine RunO.all rfl ?_
  cases hr : rightL c with
  | false =>
    refine RunC.cond rfl (fun _ => ?_) (fun g => by cases g)
    refine RunC.seq (RunC.region (RunO.all rfl ?_))
    exact RunC.ret ⟨_, rfl, f1, .inr ⟨rfl, rfl⟩⟩
  | true =>
    refine RunC.cond rfl (fun g => by cases g) (fun _ => RunC.skip ?_)
    refine RunC.seq (RunC.region (RunO.part 1 rfl ?_))
    refine RunO.callD (allocFree0_ok (sl0.fr0 f1) hc) rfl rfl rfl ?_
    rintro _ h2 ⟨f2, row⟩
    refine RunO.all rfl ?_
    exact RunC.ret ⟨_, rfl, f1.same f2, .inl ⟨rfl, _, rfl, Row.lo row f1.next⟩⟩
omit sl hc in
theorem is_take (l : List Int) (k : Nat) : (is l).take k = is (l.take k) := by unfold is; rw [List.map_take]
omit sl hc in
theorem is_drop (l : List Int) (k : Nat) : (is l).drop k = is (l.drop k) := by unfold is; rw [List.map_drop]
set_option maxHeartbeats 4000000 in
theorem allocTake_ok {n : Int} : RunF prog 15 [v, .int .i64 n] h fun r h' => Fr no h h' ∧ (∃ E : Int, E ≠ 0 ∧ E = (if n < 0 then 1 else 9) ∧ (n < 0 ∨ n > c.length) ∧ r = .tuple #[.slice none 0 0, .slice none 0 0, .int .i64 E]) ∨ (Fr no h h' ∧ 0 ≤ n ∧ n ≤ c.length ∧ ∃ av bv, r = .tuple #[av, bv, .int .i64 0] ∧ Osl h.next h' av 1 (c.take n.toNat).length (is (c.take n.toNat)) ∧ Osl h.next h' bv 1 (c.drop n.toNat).length (is (c.drop n.toNat))) := by
  refine RunF.walk func15 rfl rfl ?_
  have sl0 := sl
  obtain ⟨A, cc, rfl, _, _⟩ := sl.form
  refine RunC.seq (RunC.region (RunO.all rfl ?_))
  refine RunC.seq (RunC.block ?_)
  refine RunC.seq (RunC.region (RunO.all rfl ?_))
  by_cases h0 : n < 0
  · rw [decide_eq_true h0]
    refine RunC.cond rfl (fun _ => ?_) (fun g => by cases g)
    refine RunC.seq (RunC.region (RunO.all rfl ?_))
    exact RunC.ret ⟨_, rfl, .inl ⟨Fr.refl _ _, 1, by decide, (if_pos h0).symm, .inl h0, rfl⟩⟩
  rw [decide_eq_false h0]
  refine RunC.cond rfl (fun g => by cases g) (fun _ => ?_)
  refine RunC.seq (RunC.region (RunO.all rfl ?_))
  by_cases h1 : n > (c.length : Int)
  · rw [decide_eq_true h1]
    refine RunC.cond rfl (fun _ => ?_) (fun g => by cases g)
    refine RunC.seq (RunC.region (RunO.all rfl ?_))
    exact RunC.ret ⟨_, rfl, .inl ⟨Fr.refl _ _, 9, by decide, (if_neg h0).symm, .inr h1, rfl⟩⟩
  rw [decide_eq_false h1]
  refine RunC.cond rfl (fun g => by cases g) (fun _ => RunC.skip ?_)
  obtain ⟨k, rfl⟩ := Int.eq_ofNat_of_zero_le (show 0 ≤ n by omega)
  have hk : k ≤ c.length := by omega
  rw [Int.toNat_natCast]
  refine RunC.seq (RunC.draw0 rfl (RunO.part 2 rfl ?_))
  refine RunO.sliceSl (s := 1) (len := c.length) (k := 0) (m := k) rfl rfl rfl rfl rfl sl0 (.none _) (.some _ _ _) (Nat.zero_le _) hk rfl ?_
  intro tv st
  have st : Sl h tv 1 (c.take k).length (is (c.take k)) := by
    have hl : (c.take k).length = k := by rw [List.length_take]; omega
    rw [Nat.zero_mul, List.drop_zero, Nat.sub_zero, Nat.mul_one, is_take c k] at st
    rw [hl]; exact st
  refine RunO.callD (cloneI_ok st (by rw [List.length_take]; omega)) rfl rfl rfl ?_
  rintro av h2 ⟨oa, f2, _⟩
  refine RunO.part 2 rfl ?_
  refine RunO.sliceSl (s := 1) (len := c.length) (k := k) (m := c.length) rfl rfl rfl rfl rfl (sl0.fr0 f2) (.some _ _ _) (.none _) hk (Nat.le_refl _) rfl ?_
  intro uv su
  have su : Sl h2 uv 1 (c.drop k).length (is (c.drop k)) := by
    have hl : (c.drop k).length = c.length - k := by rw [List.length_drop]
    rw [Nat.mul_one, Nat.mul_one, is_drop c k, List.take_of_length_le (by rw [is_len]; omega)] at su
    rw [hl]; exact su
  refine RunO.callD (cloneI_ok su (by rw [List.length_drop]; omega)) rfl rfl rfl ?_
  rintro bv h3 ⟨ob, f3, _⟩
  refine RunO.all rfl ?_
  exact RunC.ret ⟨_, rfl, .inr ⟨f2.same f3, by omega, by omega, av, bv, rfl, oa.fr0 f3, ob.lo f2.next⟩⟩
/-- One more, one less. -/
def withE (c : List Int) (a bound : Int) : Int := if rightL c = true then (if decide (a < 0) || decide (a ≥ (c.length : Int)) then 3 else if c.getD a.toNat 0 = bound then 1 else 0) else 1
def withL (c : List Int) (a more : Int) : List Int := c.set a.toNat (c.getD a.toNat 0 + more)
omit sl hc in
theorem right_get {c : List Int} (h : rightL c = true) (j : Nat) : 0 ≤ c.getD j 0 ∧ c.getD j 0 ≤ 2147483647 := by
  unfold rightL at h
  rw [Bool.and_eq_true, Bool.not_eq_true', List.any_eq_false] at h
  rw [List.getD_eq_getElem?_getD]
  cases e : c[j]? with
  | none => decide
  | some x =>
    have := h.2 x (List.mem_of_getElem? e)
    unfold badC at this
    rw [Bool.or_eq_true, decide_eq_true_eq, decide_eq_true_eq] at this
    show 0 ≤ x ∧ x ≤ 2147483647
    omega
set_option maxHeartbeats 4000000 in
theorem allocWith_ok {a more bound : Int} (hmo : -1 ≤ more ∧ more ≤ 1) : RunF prog 46 [v, .int .i64 a, .int .i64 more, .int .i64 bound] h fun r h' => Fr no h h' ∧ ((withE c a bound = 0 ∧ ∃ ov, r = .tuple #[ov, .int .i64 0] ∧ Osl h.next h' ov 1 (withL c a more).length (is (withL c a more))) ∨ (withE c a bound ≠ 0 ∧ r = .tuple #[.slice none 0 0, .int .i64 (withE c a bound)])) := by
  refine RunF.walk func46 rfl rfl ?_
  have sl0 := sl
  obtain ⟨A, cc, rfl, _, _⟩ := sl.form
  refine RunC.seq (RunC.region (RunO.all rfl ?_))
  refine RunC.seq (RunC.block ?_)
  refine RunC.seq (RunC.region (RunO.part 1 rfl ?_))
  refine RunO.callD (allocRight_ok sl0 hc) rfl rfl rfl ?_
  rintro _ h1 ⟨rfl, f1⟩
  refine RunO.all rfl ?_
  unfold withE
  cases hr : rightL c with
  | false =>
    rw [if_neg Bool.false_ne_true]
    refine RunC.cond rfl (fun _ => ?_) (fun g => by cases g)
    refine RunC.seq (RunC.region (RunO.all rfl ?_))
    exact RunC.ret ⟨_, rfl, f1, .inr ⟨by decide, rfl⟩⟩
  | true =>
  rw [if_pos rfl]
  refine RunC.cond rfl (fun g => by cases g) (fun _ => ?_)
  refine RunC.seqE (upd (upd (upd (upd (upd E0 0 (.slice A c.length cc)) 1 (.int .i64 a)) 2 (.int .i64 more)) 3 (.int .i64 bound)) 15 (.bool (decide (a < 0) || decide (a ≥ (c.length : Int))))) ?_ ?_
  · refine RunC.region (RunO.part 3 rfl ?_)
    cases decide (a < 0) with
    | true => exact RunO.all rfl ⟨rfl, Le.cons rfl (Le.cons rfl (Le.cons rfl (Le.cons rfl (Le.cons rfl (Le.nil _)))))⟩
    | false => exact RunO.all rfl ⟨rfl, Le.cons rfl (Le.cons rfl (Le.cons rfl (Le.cons rfl (Le.cons rfl (Le.nil _)))))⟩
  cases hb : (decide (a < 0) || decide (a ≥ (c.length : Int))) with
  | true =>
    rw [if_pos rfl]
    refine RunC.cond rfl (fun _ => ?_) (fun g => by cases g)
    refine RunC.seq (RunC.region (RunO.all rfl ?_))
    exact RunC.ret ⟨_, rfl, f1, .inr ⟨by decide, rfl⟩⟩
  | false =>
  rw [if_neg Bool.false_ne_true]
  rw [Bool.or_eq_false_iff, decide_eq_false_iff_not, decide_eq_false_iff_not] at hb
  obtain ⟨k, rfl⟩ := Int.eq_ofNat_of_zero_le (show 0 ≤ a by omega)
  have hk : k < c.length := by omega
  have hg := right_get hr k
  unfold withL
  rw [Int.toNat_natCast]
  refine RunC.cond rfl (fun g => by cases g) (fun _ => ?_)
  refine RunC.seq (RunC.region (RunO.part 2 rfl ?_))
  refine RunO.at (s := 1) (m := c.length) (k := k) rfl rfl (sl0.fr0 f1) rfl rfl hk (ig_at hk) rfl rfl rfl (RunO.part 2 rfl ?_)
  by_cases he : c.getD k 0 = bound
  · rw [if_pos he, show (c.getD k 0 == bound) = true from beq_iff_eq.2 he]
    refine RunO.all rfl (RunC.cond rfl (fun _ => ?_) (fun g => by cases g))
    refine RunC.seq (RunC.region (RunO.all rfl ?_))
    exact RunC.ret ⟨_, rfl, f1, .inr ⟨by decide, rfl⟩⟩
  rw [if_neg he, show (c.getD k 0 == bound) = false from beq_eq_false_iff_ne.2 he]
  refine RunO.all rfl (RunC.cond rfl (fun g => by cases g) (fun _ => RunC.skip ?_))
  refine RunC.seq (RunC.region (RunO.part 1 rfl ?_))
  refine RunO.callD (cloneI_ok (sl0.fr0 f1) (by omega)) rfl rfl rfl ?_
  rintro cv h2 ⟨⟨_, hm, ⟨_, e0⟩ | ⟨b, c2, hb2, rfl, hcp, ow⟩⟩, f2, _⟩
  · omega
  refine RunO.all rfl ?_
  refine RunC.seq (RunC.region (RunO.part 2 rfl ?_))
  refine RunO.index (s := 1) (k := k) rfl rfl rfl rfl hk rfl ?_
  refine RunO.load (v := .int .i64 (c.getD k 0)) rfl (ow.ld (ig_at0 hk)) rfl ?_
  refine RunO.part 2 rfl ?_
  rw [fw64 (by omega) (by omega)]
  refine RunO.index (s := 1) (k := k) rfl rfl rfl rfl hk rfl ?_
  refine RunO.store rfl rfl (store1_ow ow rfl rfl rfl (by rw [is_len]; omega)) (RunO.nil ?_)
  rw [is_set]
  refine RunC.seq (RunC.region (RunO.all rfl ?_))
  have hn1 := f1.next
  refine RunC.ret ⟨_, rfl, (f1.same f2).trans (Fr.put (m := (· = b)) _ (.inl rfl)) (fun q e => .inr (by have e : q = b := e; omega)), .inl ⟨rfl, _, rfl, ?_⟩⟩
  rw [List.length_set]
  exact ⟨by rw [is_len, List.length_set, Nat.mul_one], hm, .inr ⟨b, c2, by omega, rfl, hcp, Ow.put _ ow.1⟩⟩
theorem allocMore_ok {a : Int} : RunF prog 16 [v, .int .i64 a] h fun r h' => Fr no h h' ∧ ((withE c a 2147483647 = 0 ∧ ∃ ov, r = .tuple #[ov, .int .i64 0] ∧ Osl h.next h' ov 1 (withL c a 1).length (is (withL c a 1))) ∨ (withE c a 2147483647 ≠ 0 ∧ r = .tuple #[.slice none 0 0, .int .i64 (withE c a 2147483647)])) := by
  refine RunF.walk func16 rfl rfl ?_
  refine RunC.seq (RunC.region (RunO.all rfl ?_))
  refine RunC.seq (RunC.region (RunO.part 2 rfl ?_))
  refine RunO.callD (allocWith_ok sl hc (a := a) (more := 1) (bound := 2147483647) (by decide)) rfl rfl rfl ?_
  rintro _ h1 ⟨f1, ⟨g, ov, rfl, os⟩ | ⟨g, rfl⟩⟩
  · exact RunO.all rfl (RunC.ret ⟨_, rfl, f1, .inl ⟨g, ov, rfl, os⟩⟩)
  · exact RunO.all rfl (RunC.ret ⟨_, rfl, f1, .inr ⟨g, rfl⟩⟩)
theorem allocLess_ok {a : Int} : RunF prog 17 [v, .int .i64 a] h fun r h' => Fr no h h' ∧ ((withE c a 0 = 0 ∧ ∃ ov, r = .tuple #[ov, .int .i64 0] ∧ Osl h.next h' ov 1 (withL c a (-1)).length (is (withL c a (-1)))) ∨ (withE c a 0 ≠ 0 ∧ r = .tuple #[.slice none 0 0, .int .i64 (withE c a 0)])) := by
  refine RunF.walk func17 rfl rfl ?_
  refine RunC.seq (RunC.region (RunO.all rfl ?_))
  refine RunC.seq (RunC.region (RunO.part 2 rfl ?_))
  refine RunO.callD (allocWith_ok sl hc (a := a) (more := -1) (bound := 0) (by decide)) rfl rfl rfl ?_
  rintro _ h1 ⟨f1, ⟨g, ov, rfl, os⟩ | ⟨g, rfl⟩⟩
  · exact RunO.all rfl (RunC.ret ⟨_, rfl, f1, .inl ⟨g, ov, rfl, os⟩⟩)
  · exact RunO.all rfl (RunC.ret ⟨_, rfl, f1, .inr ⟨g, rfl⟩⟩)
end
/-- How many blocks are left. -/
def leftL (L : List Int) : Nat := if (lk L).2 = 0 then (freeL (cntL L)).length else 0
theorem allocLeft_ok {h : Heap} {iv : Value} {L : List Int} (sl : Sl h iv 1 L.length (us L)) (hb : Byt L) (hm : L.length ≤ 4611686018427387904) : RunF prog 18 [iv] h fun v h' => v = .tuple #[.int .i64 ((leftL L : Nat) : Int), .int .i64 (lk L).2] ∧ Fr no h h' := by
  refine RunF.walk func18 rfl rfl ?_
  refine RunC.seq (RunC.region (RunO.all rfl ?_))
  refine RunC.seq (RunC.region (RunO.part 1 rfl ?_))
  refine RunO.callD (walkCounts_ok sl hb hm) rfl rfl rfl ?_
  unfold leftL
  rintro _ h1 ⟨f1, ⟨g, cb, b, hbn, rfl, ow⟩ | ⟨g, rfl⟩⟩
  · have hdl : L.length % 64 = 0 ∧ 4 ≤ L.length / 64 ∧ L.length / 64 ≤ 4096 := by
      have hd := (lk_trees g).1
      unfold devOk at hd
      simpa using hd
    generalize L.length / 64 = B at *
    have slc : Sl h1 (.slice (some ⟨b, 0, none⟩) B (exc B)) 1 (cntL L).length (is (cntL L)) := sl_owI ow cb.1 (Cp.exc (Nat.le_refl _)) (by omega)
    rw [g, if_pos rfl]
    refine RunO.all rfl ?_
    refine RunC.seq (RunC.seq (RunC.region (RunO.all rfl (RunC.cond rfl (fun g => by cases g) (fun _ => RunC.skip ?_)))))
    refine RunC.seq (RunC.region (RunO.part 1 rfl ?_))
    refine RunO.callD (allocFree0_ok slc (by rw [cb.1]; omega)) rfl rfl rfl ?_
    rintro _ h2 ⟨f2, row⟩
    have hle := cntI_le (freeP (cntL L)) (cntL L).length
    obtain ⟨fA, fc, rfl, _, _⟩ := (row.sl (by unfold freeL; rw [idxs_len, ← cb.1] at *; omega)).form
    exact RunO.all rfl (RunC.ret ⟨_, rfl, rfl, f1.same f2⟩)
  · rw [if_neg g]
    refine RunO.all rfl ?_
    refine RunC.seq (RunC.seq (RunC.region (RunO.all rfl (RunC.cond (t := true) (by show some (Value.bool (!decide ((lk L).2 = 0))) = _; rw [decide_eq_false g]; rfl) (fun _ => ?_) (fun g => by cases g)))))
    refine RunC.seq (RunC.region (RunO.all rfl ?_))
    exact RunC.ret ⟨_, rfl, rfl, f1⟩
end Go.Proofs.Ytcbakhanpiemhaa
end
section
set_option linter.unusedVariables false
set_option linter.unusedSectionVars false
set_option maxRecDepth 100000
open Go Go.Am Go.RowKit
namespace Go.Proofs.Ytcbakhanpiemhaa
open Go.Proofs.Try
/- With no trees only the slots and the records are reached. -/
theorem cnt_zeros (L : List Int) : ∀ (l : List (Int × Int)) (st : List Int × List Bool), (∀ p ∈ l, p.1 = 0) → (l.map fun p => (p.1, treeN L p.1)).foldl (treeB L) st = st
  | [], st, h => rfl
  | p :: l, st, h => by
    have h0 := h p (List.mem_cons_self ..)
    rw [List.map_cons, List.foldl_cons, h0]
    have : treeB L st (0, treeN L 0) = st := rfl
    rw [this]
    exact cnt_zeros L l st (fun q hq => h q (List.mem_cons_of_mem _ hq))
theorem cnt_zero {L : List Int} (h : ∀ p ∈ lkR L, p.1 = 0) : cntL L = c0L (L.length / 64) (lkF L).2.1 := by
  unfold cntL wRs
  rw [cnt_zeros L _ _ h]
theorem cnt_new {B : Nat} (h4 : 4 ≤ B) (hB : B ≤ 4096) : cntL (newI B) = c0L B [] := by
  obtain ⟨_, hF, hS⟩ := lk_new h4 hB
  rw [cnt_zero, hF, newI_len (by omega), Nat.mul_div_cancel _ (by decide)]
  intro p hp
  unfold lkR at hp
  rw [hF, hS] at hp
  have hp : p ∈ [((0 : Int), (0 : Int))] := hp
  rw [List.mem_singleton] at hp
  rw [hp]
end Go.Proofs.Ytcbakhanpiemhaa
end
section
set_option linter.unusedVariables false
set_option linter.unusedSectionVars false
set_option maxRecDepth 100000
open Go Go.Am Go.RowKit
namespace Go.Proofs.Ytcbakhanpiemhaa
open Go.Proofs.Try
/-- A literal of numbers. -/
theorem lit_sl {h : Heap} {b : Nat} {l : List Int} (ow : Ow h b (is l)) (hm : l.length ≤ 9223372036854775807) : Sl h (.slice (some ⟨b, 0, none⟩) l.length (exc l.length)) 1 l.length (is l) := sl_owI ow rfl (Cp.exc (Nat.le_refl _)) hm
set_option maxHeartbeats 16000000 in
theorem wakes13_ok {h : Heap} : RunF prog 24 [] h fun v h' => v = .bool true ∧ Fr no h h' := by
  refine RunF.walk func24 rfl rfl ?_
  have hB4 : 4 ≤ 8 := by decide
  have hB : 8 ≤ 4096 := by decide
  refine RunC.seq (RunC.region (RunO.all rfl ?_))
  refine RunC.seq (RunC.region (RunO.part 1 (h1 := h.push ⟨is [1, 1, 0, 2, 0], true⟩) rfl ?_))
  have o1 := Ow.push h (is [1, 1, 0, 2, 0])
  have F1 : Fr no h (h.push ⟨is [1, 1, 0, 2, 0], true⟩) := Fr.push _ _ _
  generalize h.push ⟨is [1, 1, 0, 2, 0], true⟩ = h1 at *
  generalize h.next = b1 at *
  refine RunO.callD (allocFree_ok (c := [1, 1, 0, 2, 0]) (lit_sl o1 (by decide)) (by decide)) rfl rfl rfl ?_
  rintro _ h2 ⟨f2, ⟨_, ov, rfl, r2⟩ | ⟨g, _⟩⟩
  case inr => exact absurd g (by decide)
  have s2 : Sl h2 ov 1 [(2 : Int), 4].length (is [2, 4]) := r2.sl (by decide)
  have F2 := F1.same f2
  clear o1 r2
  refine RunO.all rfl ?_
  refine RunC.seq (RunC.region (RunO.part 1 rfl ?_))
  refine RunO.callD (allocTake_ok (n := 1) s2 (by decide)) rfl rfl rfl ?_
  rintro _ h3 (⟨_, E, _, _, g, _⟩ | ⟨f3, _, _, av, bv, rfl, oa, ob⟩)
  · exact absurd g (by decide)
  have sa : Sl h3 av 1 [(2 : Int)].length (is [2]) := oa.sl
  have sb : Sl h3 bv 1 [(4 : Int)].length (is [4]) := ob.sl
  replace s2 := s2.fr0 f3
  have F3 := F2.same f3
  clear oa ob
  refine RunO.all rfl ?_
  refine RunC.seq (RunC.region (RunO.part 1 (h1 := h3.push ⟨is [1, 0], true⟩) rfl ?_))
  have o4 := Ow.push h3 (is [1, 0])
  have f4 : Fr no h3 (h3.push ⟨is [1, 0], true⟩) := Fr.push _ _ _
  replace s2 := s2.fr0 f4
  replace sa := sa.fr0 f4
  replace sb := sb.fr0 f4
  have F4 := F3.same f4
  generalize h3.push ⟨is [1, 0], true⟩ = h4 at *
  generalize h3.next = b4 at *
  refine RunO.callD (allocMore_ok (c := [1, 0]) (a := 1) (lit_sl o4 (by decide)) (by decide)) rfl rfl rfl ?_
  rintro _ h5 ⟨f5, ⟨_, cv, rfl, oc⟩ | ⟨g, _⟩⟩
  case inr => exact absurd (show withE [1, 0] 1 2147483647 = 0 by decide) g
  have sc_ : Sl h5 cv 1 [(1 : Int), 1].length (is [1, 1]) := oc.sl
  replace s2 := s2.fr0 f5
  replace sa := sa.fr0 f5
  replace sb := sb.fr0 f5
  have F5 := F4.same f5
  clear o4 oc
  refine RunO.all rfl ?_
  refine RunC.seq (RunC.region (RunO.part 1 (h1 := h5.push ⟨is [1, 0], true⟩) rfl ?_))
  have o6 := Ow.push h5 (is [1, 0])
  have f6 : Fr no h5 (h5.push ⟨is [1, 0], true⟩) := Fr.push _ _ _
  replace s2 := s2.fr0 f6
  replace sa := sa.fr0 f6
  replace sb := sb.fr0 f6
  replace sc_ := sc_.fr0 f6
  have F6 := F5.same f6
  generalize h5.push ⟨is [1, 0], true⟩ = h6 at *
  generalize h5.next = b6 at *
  refine RunO.callD (allocLess_ok (c := [1, 0]) (a := 1) (lit_sl o6 (by decide)) (by decide)) rfl rfl rfl ?_
  have hw : withE [1, 0] 1 0 = 1 := by decide
  rw [hw]
  rintro _ h7 ⟨f7, ⟨g, _⟩ | ⟨_, rfl⟩⟩
  · cases g
  replace s2 := s2.fr0 f7
  replace sa := sa.fr0 f7
  replace sb := sb.fr0 f7
  replace sc_ := sc_.fr0 f7
  have F7 := F6.same f7
  clear o6
  refine RunO.all rfl ?_
  refine RunC.seq (RunC.region ?_)
  refine RunO.callD (openNew_ok (B := 8) hB4 hB) rfl rfl rfl ?_
  rintro _ h8 ⟨f8, ib, hib, rfl, oi⟩
  obtain ⟨k1, k2, k3⟩ := lk_new hB4 hB
  have hl := newI_len (B := 8) (by decide)
  have hby := newI_byt 8
  have hcn := cnt_new hB4 hB
  generalize newI 8 = L at *
  have hlf : leftL L = 6 := by unfold leftL; rw [k1, if_pos rfl, hcn]; decide
  have k0 : (lk L).2 = 0 := by rw [k1]
  replace s2 := s2.fr0 f8
  replace sa := sa.fr0 f8
  replace sb := sb.fr0 f8
  replace sc_ := sc_.fr0 f8
  have F8 := F7.same f8
  refine RunO.all rfl ?_
  refine RunC.seq (RunC.region (RunO.part 1 rfl ?_))
  refine RunO.callD (allocLeft_ok (sl_own oi hl (Cp.exc (Nat.le_refl _)) (by decide)) hby (by omega)) rfl rfl rfl ?_
  rintro _ h9 ⟨rfl, f9⟩
  rw [hlf, k0]
  replace s2 := s2.fr0 f9
  replace sa := sa.fr0 f9
  replace sb := sb.fr0 f9
  replace sc_ := sc_.fr0 f9
  have F9 := F8.same f9
  refine RunO.all rfl ?_
  refine RunC.seq (RunC.region (RunO.part 5 (h1 := h9.push ⟨is [2, 4], true⟩) rfl ?_))
  have oa := Ow.push h9 (is [2, 4])
  have fa : Fr no h9 (h9.push ⟨is [2, 4], true⟩) := Fr.push _ _ _
  replace s2 := s2.fr0 fa
  replace sa := sa.fr0 fa
  replace sb := sb.fr0 fa
  replace sc_ := sc_.fr0 fa
  have Fa := F9.same fa
  generalize h9.push ⟨is [2, 4], true⟩ = ha at *
  generalize h9.next = ba at *
  refine RunO.callDG rfl (keepInts_ok s2 (lit_sl oa (by decide)) (by decide)) rfl rfl rfl ?_
  rintro _ _ ⟨rfl, rfl⟩
  refine RunO.part 8 (h1 := ha.push ⟨is [2], true⟩) rfl ?_
  have ob := Ow.push ha (is [2])
  have fb : Fr no ha (ha.push ⟨is [2], true⟩) := Fr.push _ _ _
  replace sa := sa.fr0 fb
  replace sb := sb.fr0 fb
  replace sc_ := sc_.fr0 fb
  have Fb := Fa.same fb
  generalize ha.push ⟨is [2], true⟩ = hb at *
  generalize ha.next = bb at *
  refine RunO.callDG rfl (keepInts_ok sa (lit_sl ob (by decide)) (by decide)) rfl rfl rfl ?_
  rintro _ _ ⟨rfl, rfl⟩
  refine RunO.part 4 (h1 := hb.push ⟨is [4], true⟩) rfl ?_
  have oc := Ow.push hb (is [4])
  have fc : Fr no hb (hb.push ⟨is [4], true⟩) := Fr.push _ _ _
  replace sb := sb.fr0 fc
  replace sc_ := sc_.fr0 fc
  have Fc := Fb.same fc
  generalize hb.push ⟨is [4], true⟩ = hc at *
  generalize hb.next = bc at *
  refine RunO.callDG rfl (keepInts_ok sb (lit_sl oc (by decide)) (by decide)) rfl rfl rfl ?_
  rintro _ _ ⟨rfl, rfl⟩
  refine RunO.part 8 (h1 := hc.push ⟨is [1, 1], true⟩) rfl ?_
  have od := Ow.push hc (is [1, 1])
  have fd : Fr no hc (hc.push ⟨is [1, 1], true⟩) := Fr.push _ _ _
  replace sc_ := sc_.fr0 fd
  have Fd := Fc.same fd
  generalize hc.push ⟨is [1, 1], true⟩ = hd at *
  generalize hc.next = bd at *
  refine RunO.callDG rfl (keepInts_ok sc_ (lit_sl od (by decide)) (by decide)) rfl rfl rfl ?_
  rintro _ _ ⟨rfl, rfl⟩
  exact RunO.all rfl (RunC.ret ⟨_, rfl, rfl, Fd⟩)
end Go.Proofs.Ytcbakhanpiemhaa
end
section
set_option linter.unusedVariables false
set_option linter.unusedSectionVars false
set_option maxRecDepth 100000
open Go Go.Am Go.RowKit
namespace Go.Proofs.Ytcbakhanpiemhaa
open Go.Proofs.Try
/- Which blocks are reached. -/
def Pos (c : List Int) (i : Nat) : Prop := 0 < c.getD i 0
def NN (B : Nat) (c : List Int) : Prop := c.length = B ∧ ∀ x ∈ c, 0 ≤ x
def inD (B : Nat) (p : Int) : Prop := p = 0 ∨ (2 ≤ p ∧ p < (B : Int))
def Ptd (L : List Int) (a : Int) (i : Nat) : Prop := ∃ p ∈ wPs L a, p ≠ 0 ∧ p = (i : Int)
structure WInv (L : List Int) (B : Nat) (st : List Int × List Bool) (Q : Nat → Prop) : Prop where
  nn : NN B st.1
  len : st.2.length = B
  pos : ∀ i, Pos st.1 i ↔ Q i
  met : ∀ a : Nat, st.2.getD a false = true → ∀ i, Ptd L a i → Q i
/-- The blocks of a tree: its nodes and its sectors' blocks. -/
def inT (L : List Int) (r : Int) (i : Nat) : Prop := (i : Int) ∈ treeN L r ∨ (i ≠ 0 ∧ (i : Int) ∈ treeM L r)
/-- What is reached. -/
def rch (L : List Int) (i : Nat) : Prop := i < 2 ∨ (i : Int) ∈ (lkF L).2.1 ∨ ∃ p ∈ lkR L, inT L p.1 i
end Go.Proofs.Ytcbakhanpiemhaa
end
section
set_option linter.unusedVariables false
set_option linter.unusedSectionVars false
set_option maxRecDepth 100000
open Go Go.Am Go.RowKit
namespace Go.Proofs.Ytcbakhanpiemhaa
open Go.Proofs.Try

theorem frP_short {l : List Int} (h : l.length < 2) : idxs (frP l) l.length = [] := by
  have e0 : frP l 0 = false := rfl
  have hc : l.length = 0 ∨ l.length = 1 := by omega
  rcases hc with e | e
  · rw [e]; rfl
  · rw [e, show 1 = 0 + 1 from rfl, idxs_no e0]; rfl
theorem refFreeX_ok {h : Heap} {v : Value} {l : List Int} (sl : Sl h v 1 l.length (is l)) (hm2 : l.length ≤ 1000000) : RunF prog 20 [v] h fun r h' => Row h.next h' r 1 (idxs (frP l) l.length).length (is (idxs (frP l) l.length)) ∧ Fr no h h' := by
  by_cases hm : 2 ≤ l.length
  · exact refFree_ok sl hm hm2
  obtain ⟨A, c, rfl, _, _⟩ := sl.form
  rw [frP_short (by omega)]
  refine RunF.walk func20 rfl rfl ?_
  refine RunC.seq (RunC.region (RunO.all rfl ?_))
  refine RunC.seq (RunC.region (RunO.all rfl ?_))
  refine RunC.seq (RunC.seq (RunC.region (RunO.all rfl ?_)))
  refine RunC.block ?_
  refine RunC.loop (fun d E h' => h = h' ∧ Le ((upd (upd (upd E0 0 (.slice A l.length c)) 3 (.slice none 0 0)) 4 (.int .i64 2))) E) ?st (k := 0) ?ini
  case ini => exact ⟨rfl, Le.cons rfl (Le.cons rfl (Le.cons rfl (Le.nil _)))⟩
  rintro d E _ ⟨rfl, hE⟩
  refine RunC.le hE ?_
  clear hE
  refine RunC.seq (RunC.seq (RunC.region (RunO.all rfl ?_)))
  refine RunC.cond rfl (fun hlt => ?go) (fun hge => RunC.exit ?ex)
  case go =>
    have hlt := of_decide_eq_true hlt
    omega
  exact RunC.seq (RunC.region (RunO.all rfl (RunC.ret ⟨_, rfl, Row.nil _ _ _, Fr.refl _ _⟩)))
theorem inB_badC (x : Int) : inB x 0 2147483647 = !badC x := by
  unfold inB badC
  by_cases g : x < 0
  · rw [decide_eq_true g, decide_eq_false (show ¬ x ≥ 0 by omega)]; rfl
  · rw [decide_eq_false g, decide_eq_true (show x ≥ 0 by omega), Bool.true_and, Bool.false_or]
    by_cases g2 : x ≤ 2147483647
    · rw [decide_eq_true g2, decide_eq_false (by omega)]; rfl
    · rw [decide_eq_false g2, decide_eq_true (by omega)]; rfl
theorem refRight10_ok {h : Heap} {v : Value} {c : List Int} (sl : Sl h v 1 c.length (is c)) (hc : c.length ≤ 100000) : RunF prog 23 [v] h fun r h' => r = .bool (rightL c) ∧ h = h' := by
  have sl0 := sl
  obtain ⟨A, cc, rfl, _, _⟩ := sl.form
  refine RunF.walk func23 rfl rfl ?_
  refine RunC.seq (RunC.region (RunO.all rfl ?_))
  refine RunC.seq (RunC.seq (RunC.region (RunO.all rfl ?_)))
  unfold rightL
  by_cases h4 : (c.length : Int) > 4096
  · rw [decide_eq_true h4, decide_eq_false (show ¬ (c.length : Int) ≤ 4096 by omega)]
    refine RunC.cond rfl (fun _ => ?_) (fun g => by cases g)
    exact RunC.seq (RunC.region (RunO.all rfl (RunC.ret ⟨_, rfl, rfl, rfl⟩)))
  rw [decide_eq_false h4, decide_eq_true (show (c.length : Int) ≤ 4096 by omega), Bool.true_and]
  refine RunC.cond rfl (fun g => by cases g) (fun _ => RunC.skip ?_)
  refine RunC.seq (RunC.seq (RunC.region (RunO.all rfl ?_)))
  refine RunC.block ?_
  refine RunC.loop (fun d E h' => ∃ i : Nat, i + d = c.length ∧ h = h' ∧ (c.take i).any badC = false ∧ Le ((upd (upd E0 0 (.slice A c.length cc)) 3 (.int .i64 (i : Int)))) E) ?st (k := c.length) ?ini
  case ini => exact ⟨0, by omega, rfl, rfl, Le.cons rfl (Le.cons rfl (Le.nil _))⟩
  rintro d E _ ⟨i, hi, rfl, hbad, hE⟩
  refine RunC.le hE ?_
  clear hE
  refine RunC.seq (RunC.seq (RunC.region (RunO.all rfl ?_)))
  refine RunC.cond rfl (fun hlt => RunC.skip ?go) (fun hge => RunC.exit ?ex)
  case ex =>
    have hge := of_decide_eq_false hge
    obtain rfl : i = c.length := by omega
    rw [List.take_length] at hbad
    rw [hbad]
    exact RunC.seq (RunC.region (RunO.all rfl (RunC.ret ⟨_, rfl, rfl, rfl⟩)))
  have hlt := of_decide_eq_true hlt
  have hlt : i < c.length := by omega
  have hgd : c.getD i 0 = c[i] := by rw [List.getD_eq_getElem?_getD, List.getElem?_eq_getElem hlt]; rfl
  have hpt := ig_at (l := c) (i := i) hlt
  rw [hgd] at hpt
  refine RunC.seq (RunC.block ?_)
  refine RunC.seq (RunC.region (RunO.part 2 rfl ?_))
  refine RunO.at (s := 1) (k := i) rfl rfl sl0 rfl rfl hlt hpt rfl rfl rfl ?_
  refine RunO.callD refIn10_ok rfl rfl rfl ?_
  rintro _ _ ⟨rfl, rfl⟩
  rw [inB_badC]
  cases hb : badC c[i] with
  | true =>
    refine RunO.all rfl (RunC.cond rfl (fun _ => ?_) (fun g => by cases g))
    rw [show c.any badC = true from List.any_eq_true.2 ⟨c[i], List.getElem_mem hlt, hb⟩]
    exact RunC.seq (RunC.region (RunO.all rfl (RunC.ret ⟨_, rfl, rfl, rfl⟩)))
  | false =>
    refine RunO.all rfl (RunC.cond rfl (fun g => by cases g) (fun _ => RunC.skip ?_))
    refine RunC.region (RunO.all rfl ?_)
    refine ⟨d - 1, by omega, i + 1, by omega, rfl, ?_, Le.cons (inc64 (by omega)) (Le.cons rfl (Le.nil _))⟩
    rw [List.take_succ_eq_append_getElem hlt, List.any_append, hbad]
    show (false || (badC c[i] || false)) = false
    rw [hb]; rfl
theorem osl_form {lo : Nat} {h : Heap} {v : Value} {s n : Nat} {cs : List Value} (r : Osl lo h v s n cs) : ∃ A c, v = .slice A n c ∧ Sl h (.slice A n c) s n cs := by
  have sl := r.sl
  obtain ⟨A, c, rfl, _, _⟩ := sl.form
  exact ⟨A, c, rfl, sl⟩
theorem with_shape {h h' : Heap} {v : Value} {C : List Int} {a b more : Int} (q : (withE C a b = 0 ∧ ∃ ov, v = .tuple #[ov, .int .i64 0] ∧ Osl h.next h' ov 1 (withL C a more).length (is (withL C a more))) ∨ (withE C a b ≠ 0 ∧ v = .tuple #[.slice none 0 0, .int .i64 (withE C a b)])) :
    ∃ A n c, v = .tuple #[.slice A n c, .int .i64 (withE C a b)] ∧ (withE C a b ≠ 0 → n = 0) ∧ (withE C a b = 0 → n = (withL C a more).length ∧ Sl h' (.slice A n c) 1 (withL C a more).length (is (withL C a more))) := by
  rcases q with ⟨g, ov, rfl, os⟩ | ⟨g, rfl⟩
  · obtain ⟨A, c, rfl, sl⟩ := osl_form os
    exact ⟨A, _, c, by rw [g], fun e => absurd g e, fun _ => ⟨rfl, sl⟩⟩
  · exact ⟨none, 0, 0, rfl, fun _ => rfl, fun e => absurd e g⟩
set_option maxHeartbeats 64000000 in
theorem allocExact_true : ∀ h xs avs, ArgsK [.slice (.int .i64), .int .i64, .int .i64, .slice (.int .u8)] h xs avs → RunF prog 3 avs h fun v _ => v = .bool true := by
  intro h xs avs ha
  obtain ⟨C, _, cv, _, rfl, slc, _, ha⟩ := argInts ha
  obtain ⟨n, _, _, rfl, _, ha⟩ := argInt ha
  obtain ⟨a, _, _, rfl, _, ha⟩ := argInt ha
  obtain ⟨L, _, iv, _, rfl, sl, hwf, ha⟩ := argInts ha
  obtain rfl := argNil ha
  have hb : Byt L := fun x hx => wf_u8 (hwf x hx)
  have slc0 : Sl h cv 1 C.length (is C) := slc
  have sl0 : Sl h iv 1 L.length (us L) := sl
  clear slc sl
  obtain ⟨A, c, rfl, _, _⟩ := slc0.form
  obtain ⟨iA, ic, rfl, _, _⟩ := sl0.form
  refine RunF.walk func3 rfl rfl ?_
  refine RunC.seq (RunC.region (RunO.all rfl ?_))
  refine RunC.seqc (fun E' h' => h = h' ∧ C.length ≤ 4106 ∧ L.length ≤ 19200 ∧ Le ((upd (upd (upd (upd E0 0 (.slice A C.length c)) 1 (.int .i64 n)) 2 (.int .i64 a)) 3 (.slice iA L.length ic))) E') ?hv ?nx
  case hv =>
    refine RunC.seqc (fun E' h' => h = h' ∧ ∃ b : Bool, (b = true ∨ (C.length ≤ 4106 ∧ L.length ≤ 19200)) ∧ Le ((upd (upd (upd (upd (upd E0 0 (.slice A C.length c)) 1 (.int .i64 n)) 2 (.int .i64 a)) 3 (.slice iA L.length ic)) 42 (.bool b))) E') ?hr ?hc
    case hc =>
      rintro E' _ ⟨rfl, b, hb1, hE⟩
      refine RunC.le hE ?_
      clear hE
      cases b with
      | true =>
        refine RunC.cond rfl (fun _ => ?_) (fun g => by cases g)
        exact RunC.seq (RunC.region (RunO.all rfl (RunC.ret ⟨_, rfl, rfl⟩)))
      | false =>
        obtain ⟨q1, q2⟩ := hb1.resolve_left (fun g => by cases g)
        exact RunC.cond rfl (fun g => by cases g) (fun _ => RunC.skip ⟨rfl, q1, q2, Le.cons rfl (Le.cons rfl (Le.cons rfl (Le.cons rfl (Le.nil _))))⟩)
    refine RunC.region ?_
    (repeat (first | refine RunO.step rfl ?_ | refine RunO.loadG rfl rfl (Ow.ld (by assumption) (by rfl)) rfl ?_ | refine RunO.nil ?_))
    by_cases a1 : (C.length : Int) > 400
    · rw [decide_eq_true a1]
      (repeat (first | refine RunO.step rfl ?_ | refine RunO.loadG rfl rfl (Ow.ld (by assumption) (by rfl)) rfl ?_ | refine RunO.nil ?_))
      by_cases a2 : (C.length : Int) ≤ 4096
      · rw [decide_eq_true a2]
        (repeat (first | refine RunO.step rfl ?_ | refine RunO.loadG rfl rfl (Ow.ld (by assumption) (by rfl)) rfl ?_ | refine RunO.nil ?_))
        exact ⟨rfl, true, .inl rfl, Le.cons rfl (Le.cons rfl (Le.cons rfl (Le.cons rfl (Le.cons rfl (Le.nil _)))))⟩
      rw [decide_eq_false a2]
      (repeat (first | refine RunO.step rfl ?_ | refine RunO.loadG rfl rfl (Ow.ld (by assumption) (by rfl)) rfl ?_ | refine RunO.nil ?_))
      by_cases a3 : (C.length : Int) > 4106
      · rw [decide_eq_true a3]
        (repeat (first | refine RunO.step rfl ?_ | refine RunO.loadG rfl rfl (Ow.ld (by assumption) (by rfl)) rfl ?_ | refine RunO.nil ?_))
        exact ⟨rfl, true, .inl rfl, Le.cons rfl (Le.cons rfl (Le.cons rfl (Le.cons rfl (Le.cons rfl (Le.nil _)))))⟩
      rw [decide_eq_false a3]
      (repeat (first | refine RunO.step rfl ?_ | refine RunO.loadG rfl rfl (Ow.ld (by assumption) (by rfl)) rfl ?_ | refine RunO.nil ?_))
      refine RunO.callDG rfl (heavy_ok sl0) rfl rfl rfl ?_
      rintro _ _ ⟨rfl, rfl⟩
      (repeat (first | refine RunO.step rfl ?_ | refine RunO.loadG rfl rfl (Ow.ld (by assumption) (by rfl)) rfl ?_ | refine RunO.nil ?_))
      refine ⟨rfl, _, ?_, Le.cons rfl (Le.cons rfl (Le.cons rfl (Le.cons rfl (Le.cons rfl (Le.nil _)))))⟩
      by_cases a4 : (L.length : Int) > 19200
      · exact .inl (decide_eq_true a4)
      · exact .inr ⟨by omega, by omega⟩
    · rw [decide_eq_false a1]
      (repeat (first | refine RunO.step rfl ?_ | refine RunO.loadG rfl rfl (Ow.ld (by assumption) (by rfl)) rfl ?_ | refine RunO.nil ?_))
      rw [decide_eq_false (show ¬ (C.length : Int) > 4106 by omega)]
      (repeat (first | refine RunO.step rfl ?_ | refine RunO.loadG rfl rfl (Ow.ld (by assumption) (by rfl)) rfl ?_ | refine RunO.nil ?_))
      refine RunO.callDG rfl (heavy_ok sl0) rfl rfl rfl ?_
      rintro _ _ ⟨rfl, rfl⟩
      (repeat (first | refine RunO.step rfl ?_ | refine RunO.loadG rfl rfl (Ow.ld (by assumption) (by rfl)) rfl ?_ | refine RunO.nil ?_))
      refine ⟨rfl, _, ?_, Le.cons rfl (Le.cons rfl (Le.cons rfl (Le.cons rfl (Le.cons rfl (Le.nil _)))))⟩
      by_cases a4 : (L.length : Int) > 19200
      · exact .inl (decide_eq_true a4)
      · exact .inr ⟨by omega, by omega⟩
  rintro E' _ ⟨rfl, hC, hL, hE⟩
  refine RunC.le hE ?_
  clear hE
  have hm : L.length ≤ 4611686018427387904 := by omega
  -- the calls
  refine RunC.seq (RunC.region (RunO.part 1 rfl ?_))
  refine RunO.callD (twinInts_ok slc0 (by omega)) rfl rfl rfl ?_
  rintro w h1 ⟨row, f1⟩
  have sw := row.sl (by omega)
  obtain ⟨wA, wc, rfl, _, _⟩ := sw.form
  refine RunO.all rfl ?_
  refine RunC.seq (RunC.region (RunO.part 1 rfl ?_))
  refine RunO.callD (allocFree_ok sw (by omega)) rfl rfl rfl ?_
  rintro v2 h2 ⟨f2, hv⟩
  obtain ⟨lA, ln, lc, e1, rfl, hF0, hF1⟩ : ∃ lA ln lc e1, v2 = Value.tuple #[.slice lA ln lc, .int .i64 e1] ∧ (rightL C = true → e1 = 0 ∧ ln = (freeL C).length ∧ Sl h2 (.slice lA ln lc) 1 (freeL C).length (is (freeL C))) ∧ (rightL C = false → e1 = 1 ∧ ln = 0) := by
    rcases hv with ⟨g, ov, rfl, ro⟩ | ⟨g, rfl⟩
    · have hlen : (freeL C).length = cntI (freeP C) C.length := idxs_len _ _
      have hcl := cntI_le (freeP C) C.length
      have so := ro.sl (by omega)
      obtain ⟨lA, lc, rfl, _, _⟩ := so.form
      exact ⟨lA, _, lc, 0, rfl, fun _ => ⟨rfl, rfl, so⟩, fun e => (by rw [g] at e; cases e)⟩
    · exact ⟨none, 0, 0, 1, rfl, fun e => (by rw [g] at e; cases e), fun _ => ⟨rfl, rfl⟩⟩
  clear hv
  refine RunO.all rfl ?_
  have sw2 := sw.fr0 f2
  refine RunC.seq (RunC.region (RunO.part 2 rfl ?_))
  refine RunO.callD (allocTake_ok sw2 (by omega)) rfl rfl rfl ?_
  rintro v3 h3 hv
  obtain ⟨aA, an, ac, bA, bn, bc, e3, rfl, f3, hT1, hT2, hT3⟩ : ∃ aA an ac bA bn bc e3, v3 = Value.tuple #[.slice aA an ac, .slice bA bn bc, .int .i64 e3] ∧ Fr no h2 h3 ∧ (n < 0 → e3 = 1 ∧ an = 0 ∧ bn = 0) ∧ (0 ≤ n → n > C.length → e3 = 9 ∧ an = 0 ∧ bn = 0) ∧ (0 ≤ n → n ≤ C.length → e3 = 0 ∧ Sl h3 (.slice aA an ac) 1 (C.take n.toNat).length (is (C.take n.toNat)) ∧ Sl h3 (.slice bA bn bc) 1 (C.drop n.toNat).length (is (C.drop n.toNat))) := by
    rcases hv with ⟨f, E, hE0, hE1, hE2, rfl⟩ | ⟨f, n0, n1, av, bv, rfl, oa, ob⟩
    · refine ⟨none, 0, 0, none, 0, 0, E, rfl, f, fun g => ?_, fun g g2 => ?_, fun g g2 => ?_⟩
      · rw [if_pos g] at hE1; exact ⟨hE1, rfl, rfl⟩
      · rw [if_neg (by omega)] at hE1; exact ⟨hE1, rfl, rfl⟩
      · omega
    · obtain ⟨aA, ac, rfl, sa⟩ := osl_form oa
      obtain ⟨bA, bc, rfl, sb⟩ := osl_form ob
      exact ⟨aA, _, ac, bA, _, bc, 0, rfl, f, fun g => (by omega), fun g g2 => (by omega), fun _ _ => ⟨rfl, sa, sb⟩⟩
  clear hv
  refine RunO.all rfl ?_
  have sw3 := sw2.fr0 f3
  refine RunC.seq (RunC.region (RunO.part 2 rfl ?_))
  refine RunO.callD (allocMore_ok sw3 (by omega)) rfl rfl rfl ?_
  rintro _ h4 ⟨f4, hv⟩
  obtain ⟨mA, mn, mc, rfl, hM1, hM0⟩ := with_shape hv
  clear hv
  refine RunO.all rfl ?_
  have sw4 := sw3.fr0 f4
  refine RunC.seq (RunC.region (RunO.part 2 rfl ?_))
  refine RunO.callD (allocLess_ok sw4 (by omega)) rfl rfl rfl ?_
  rintro _ h5 ⟨f5, hv⟩
  obtain ⟨sA, sn, sc_, rfl, hS1, hS0⟩ := with_shape hv
  clear hv
  refine RunO.all rfl ?_
  have F5 := (((f1.same f2).same f3).same f4).same f5
  have sl5 := sl0.fr0 F5
  refine RunC.seq (RunC.region (RunO.part 1 rfl ?_))
  refine RunO.callD (allocLeft_ok sl5 hb hm) rfl rfl rfl ?_
  rintro _ h6 ⟨rfl, f6⟩
  refine RunO.all rfl ?_
  have sl6 := sl5.fr0 f6
  refine RunC.seq (RunC.region (RunO.part 1 rfl ?_))
  refine RunO.callD (refOpen10_u sl6 hb hm) rfl rfl rfl ?_
  rintro _ ho ⟨fo1, S, slot, rv, bv, mv, nv, fb, rfl, orr⟩
  refine RunO.part 4 (h1 := ho.push ⟨(imx (0, 0, 0, 0, 0) 0 (.slice none 0 0) (.slice none 0 0) (.slice none 0 0) (.slice none 0 0)), true⟩) rfl ?_
  have ox := Ow.push ho (imx (0, 0, 0, 0, 0) 0 (.slice none 0 0) (.slice none 0 0) (.slice none 0 0) (.slice none 0 0))
  have fo2 : Fr no ho (ho.push ⟨(imx (0, 0, 0, 0, 0) 0 (.slice none 0 0) (.slice none 0 0) (.slice none 0 0) (.slice none 0 0)), true⟩) := Fr.push _ _ _
  generalize ho.push ⟨(imx (0, 0, 0, 0, 0) 0 (.slice none 0 0) (.slice none 0 0) (.slice none 0 0) (.slice none 0 0)), true⟩ = ho1 at *
  obtain ⟨qx, hqx⟩ : ∃ q, q = ho.next := ⟨_, rfl⟩
  rw [← hqx] at ox ⊢
  refine RunO.part 1 (h1 := ho1.push ⟨[.int .i64 0, .int .i64 0], true⟩) rfl ?_
  have of := Ow.push ho1 [.int .i64 0, .int .i64 0]
  have fo3 : Fr no ho1 (ho1.push ⟨[.int .i64 0, .int .i64 0], true⟩) := Fr.push _ _ _
  have hxl := ox.1
  replace ox := ox.fr fo3 (fun g => g)
  generalize ho1.push ⟨[.int .i64 0, .int .i64 0], true⟩ = ho2 at *
  obtain ⟨qf, hqf⟩ : ∃ q, q = ho1.next := ⟨_, rfl⟩
  rw [← hqf] at of ⊢
  refine RunO.store rfl rfl (store_ow (s := 10) ox rfl rfl orr.cells (Nat.le_refl 10)) ?_
  rw [imx_store]
  have fo4 : Fr (· = qx) ho2 (ho2.put qx (some ⟨imx S slot rv bv mv nv, true⟩)) := Fr.put _ (.inl rfl)
  have ox' : Ow (ho2.put qx (some ⟨imx S slot rv bv mv nv, true⟩)) qx (imx S slot rv bv mv nv) := Ow.put _ ox.1
  have of' := of.fr fo4 (fun e => by have e : qf = qx := e; omega)
  generalize ho2.put qx (some ⟨imx S slot rv bv mv nv, true⟩) = ho3 at *
  refine RunO.store rfl rfl (store_ow (s := 2) of' rfl rfl rfl (Nat.le_refl 2)) (RunO.all rfl ?_)
  have fo5 : Fr (· = qf) ho3 (ho3.put qf (some ⟨[.int .i64 fb, .int .i64 (lk L).2], true⟩)) := Fr.put _ (.inl rfl)
  have of'' : Ow (ho3.put qf (some ⟨[.int .i64 fb, .int .i64 (lk L).2], true⟩)) qf [.int .i64 fb, .int .i64 (lk L).2] := Ow.put _ of'.1
  replace ox' := ox'.fr fo5 (fun e => by have e : qx = qf := e; omega)
  show RunC prog _ _ _ (ho3.put qf (some ⟨[.int .i64 fb, .int .i64 (lk L).2], true⟩)) _ _ _
  have foo : Fr no ho (ho3.put qf (some ⟨[.int .i64 fb, .int .i64 (lk L).2], true⟩)) := ((fo2.same fo3).trans fo4 (fun b e => .inr (by have e : b = qx := e; omega))).trans fo5 (fun b e => .inr (by have e : b = qf := e; have := fo2.next; omega))
  have fo : Fr no h6 (ho3.put qf (some ⟨[.int .i64 fb, .int .i64 (lk L).2], true⟩)) := fo1.same foo
  replace orr := orr.fr0 foo
  generalize ho3.put qf (some ⟨[.int .i64 fb, .int .i64 (lk L).2], true⟩) = h7 at *
  clear fo1 fo2 fo3 fo4 fo5 foo ox of of' hxl

  refine RunC.seq (RunC.region (RunO.all rfl ?_))
  have sl7 := sl6.fr0 fo
  have slc7 := slc0.fr0 (F5.same (f6.same fo))
  have sw7 := sw4.fr0 (f5.same (f6.same fo))
  -- how many are left
  refine RunC.seqc (fun E' h' => Fr no h7 h' ∧ Le ((upd (upd (upd (upd (upd (upd (upd (upd (upd (upd (upd (upd (upd (upd (upd (upd (upd (upd (upd E0 0 (.slice A C.length c)) 1 (.int .i64 n)) 2 (.int .i64 a)) 3 (.slice iA L.length ic)) 9 (.slice wA C.length wc)) 10 (.slice lA ln lc)) 11 (.int .i64 e1)) 12 (.slice aA an ac)) 13 (.slice bA bn bc)) 14 (.int .i64 e3)) 15 (.slice mA mn mc)) 16 (.int .i64 (withE C a 2147483647))) 17 (.slice sA sn sc_)) 18 (.int .i64 (withE C a 0))) 19 (.int .i64 ((leftL L : Nat) : Int))) 20 (.int .i64 (lk L).2)) 21 (.pointer (some ⟨qx, 0, none⟩))) 22 (.pointer (some ⟨qf, 0, none⟩))) 23 (.int .i64 ((leftL L : Nat) : Int)))) E') ?lf ?nx2
  case lf =>
    refine RunC.seq (RunC.region (RunO.part 1 rfl ?_))
    refine RunO.load (v := .int .i64 (lk L).2) rfl (of''.ld rfl) rfl ?_
    by_cases hg : (lk L).2 = 0
    case neg =>
      have e : leftL L = 0 := by unfold leftL; rw [if_neg hg]
      rw [e]
      refine RunO.part 1 rfl ?_
      rw [show ((lk L).2 == 0) = false from beq_eq_false_iff_ne.2 hg]
      exact RunO.all rfl (RunC.cond rfl (fun g => by cases g) (fun _ => RunC.skip ⟨Fr.refl _ _, Le.cons rfl (Le.cons rfl (Le.cons rfl (Le.cons rfl (Le.cons rfl (Le.cons rfl (Le.cons rfl (Le.cons rfl (Le.cons rfl (Le.cons rfl (Le.cons rfl (Le.cons rfl (Le.cons rfl (Le.cons rfl (Le.cons rfl (Le.cons rfl (Le.cons rfl (Le.cons rfl (Le.cons rfl (Le.nil _)))))))))))))))))))⟩))
    obtain ⟨o1, o2, o3, srl, sbl, cm, cn_, smv, jm, snv, jn⟩ := orr.good hg
    have hdl : L.length % 64 = 0 ∧ 4 ≤ L.length / 64 ∧ L.length / 64 ≤ 4096 := by
      have hd := (lk_trees hg).1
      unfold devOk at hd
      simpa using hd
    obtain ⟨rA_, rc1, q1, _, _⟩ := srl.form
    obtain ⟨bA_, bc1, q2, _, _⟩ := sbl.form
    obtain ⟨mA_, mc1, q3, _, _⟩ := smv.form
    obtain ⟨nA_, nc1, q4, _, _⟩ := snv.form
    have hmvc := sl_cell smv
    subst o1
    rw [hg]
    refine RunO.all rfl (RunC.cond rfl (fun _ => ?_) (fun g => by cases g))
    refine RunC.region (RunO.part 1 rfl ?_)
    refine RunO.load (v := .agg ⟨imx (lkS L) slot rv bv mv nv⟩) rfl (ox'.ld (by rw [q1, q2, q3, q4]; rfl)) rfl ?_
    refine RunO.callD (refCounts10_ok sl7 hb hm hg srl sbl snv jn hmvc) rfl rfl rfl ?_
    rintro _ h8 ⟨f8, ob, hob, rfl, oo, hcb2⟩
    have slo : Sl h8 (.slice (some ⟨ob, 0, none⟩) (L.length / 64) (exc (L.length / 64))) 1 (cntL L).length (is (cntL L)) := sl_owI oo hcb2.1 (Cp.exc (Nat.le_refl _)) (by omega)
    refine RunO.callD (refFree_ok slo (by rw [hcb2.1]; omega) (by rw [hcb2.1]; omega)) rfl rfl rfl ?_
    rintro fv h9 ⟨rowf, f9⟩
    have e : leftL L = (idxs (frP (cntL L)) (cntL L).length).length := by unfold leftL; rw [if_pos hg]; rfl
    rw [e]
    have hfl := idxs_len (frP (cntL L)) (cntL L).length
    have hfc := cntI_le (frP (cntL L)) (cntL L).length
    obtain ⟨fA, fc, rfl, _, _⟩ := (rowf.sl (by rw [hfl]; rw [hcb2.1] at hfc ⊢; omega)).form
    exact RunO.all rfl ⟨f8.same f9, Le.cons rfl (Le.cons rfl (Le.cons rfl (Le.cons rfl (Le.cons rfl (Le.cons rfl (Le.cons rfl (Le.cons rfl (Le.cons rfl (Le.cons rfl (Le.cons rfl (Le.cons rfl (Le.cons rfl (Le.cons rfl (Le.cons rfl (Le.cons rfl (Le.cons rfl (Le.cons rfl (Le.cons rfl (Le.nil _)))))))))))))))))))⟩
  rintro E' h8 ⟨f8, hE⟩
  refine RunC.le hE ?_
  clear hE
  replace of'' := of''.fr f8 (fun g => g)
  have slc8 := slc7.fr0 f8
  have sw8 := sw7.fr0 f8
  refine RunC.seq ?_
  refine RunC.seq (RunC.region (RunO.part 2 rfl ?_))
  refine RunO.load (v := .int .i64 (lk L).2) rfl (of''.ld rfl) rfl ?_
  refine RunO.part 1 rfl ?_
  rw [bne_self_eq_false (lk L).2]
  refine RunO.part 4 rfl ?_
  rw [bne_self_eq_false ((leftL L : Nat) : Int)]
  refine RunO.part 4 rfl ?_
  refine RunO.callDG rfl (keepInts_ok sw8 slc8 (by omega)) rfl rfl rfl ?_
  rintro _ _ ⟨rfl, rfl⟩
  rw [beq_self_eq_true C]
  refine RunO.all rfl (RunC.cond rfl (fun g => by cases g) (fun _ => RunC.skip ?_))
  -- what is taken
  have G8 : Fr no h3 h8 := ((f4.same f5).same (f6.same fo)).same f8
  refine RunC.seqc (fun E' h' => h8 = h' ∧ Le ((upd (upd (upd (upd (upd (upd (upd (upd (upd (upd (upd (upd (upd (upd (upd (upd (upd (upd (upd E0 0 (.slice A C.length c)) 1 (.int .i64 n)) 2 (.int .i64 a)) 3 (.slice iA L.length ic)) 9 (.slice wA C.length wc)) 10 (.slice lA ln lc)) 11 (.int .i64 e1)) 12 (.slice aA an ac)) 13 (.slice bA bn bc)) 14 (.int .i64 e3)) 15 (.slice mA mn mc)) 16 (.int .i64 (withE C a 2147483647))) 17 (.slice sA sn sc_)) 18 (.int .i64 (withE C a 0))) 19 (.int .i64 ((leftL L : Nat) : Int))) 20 (.int .i64 (lk L).2)) 21 (.pointer (some ⟨qx, 0, none⟩))) 22 (.pointer (some ⟨qf, 0, none⟩))) 23 (.int .i64 ((leftL L : Nat) : Int)))) E') ?tk ?nx3
  case tk =>
    refine RunC.block ?_
    refine RunC.seq (RunC.region (RunO.all rfl ?_))
    by_cases n0 : n < 0
    · obtain ⟨t1, t2, t3⟩ := hT1 n0
      subst t1; subst t2; subst t3
      rw [decide_eq_true n0]
      refine RunC.cond rfl (fun _ => ?_) (fun g => by cases g)
      exact RunC.seq (RunC.region (RunO.all rfl (RunC.cond rfl (fun g => by cases g) (fun _ => RunC.skip ⟨rfl, Le.cons rfl (Le.cons rfl (Le.cons rfl (Le.cons rfl (Le.cons rfl (Le.cons rfl (Le.cons rfl (Le.cons rfl (Le.cons rfl (Le.cons rfl (Le.cons rfl (Le.cons rfl (Le.cons rfl (Le.cons rfl (Le.cons rfl (Le.cons rfl (Le.cons rfl (Le.cons rfl (Le.cons rfl (Le.nil _)))))))))))))))))))⟩))))
    rw [decide_eq_false n0]
    refine RunC.cond rfl (fun g => by cases g) (fun _ => ?_)
    refine RunC.seq (RunC.region (RunO.all rfl ?_))
    by_cases n1 : n > (C.length : Int)
    · obtain ⟨t1, t2, t3⟩ := hT2 (by omega) n1
      subst t1; subst t2; subst t3
      rw [decide_eq_true n1]
      refine RunC.cond rfl (fun _ => ?_) (fun g => by cases g)
      exact RunC.seq (RunC.region (RunO.all rfl (RunC.cond rfl (fun g => by cases g) (fun _ => RunC.skip ⟨rfl, Le.cons rfl (Le.cons rfl (Le.cons rfl (Le.cons rfl (Le.cons rfl (Le.cons rfl (Le.cons rfl (Le.cons rfl (Le.cons rfl (Le.cons rfl (Le.cons rfl (Le.cons rfl (Le.cons rfl (Le.cons rfl (Le.cons rfl (Le.cons rfl (Le.cons rfl (Le.cons rfl (Le.cons rfl (Le.nil _)))))))))))))))))))⟩))))
    rw [decide_eq_false n1]
    refine RunC.cond rfl (fun g => by cases g) (fun _ => ?_)
    obtain ⟨t1, sa, sb⟩ := hT3 (by omega) (by omega)
    subst t1
    obtain ⟨k, rfl⟩ := Int.eq_ofNat_of_zero_le (show 0 ≤ n by omega)
    rw [Int.toNat_natCast] at sa sb
    have sa8 := sa.fr0 G8
    have sb8 := sb.fr0 G8
    have tl : (C.take k).length = k := by rw [List.length_take]; omega
    have dl : (C.drop k).length = C.length - k := List.length_drop
    refine RunC.seq (RunC.region (RunO.part 6 rfl ?_))
    refine RunO.sliceSlG (s := 1) (k := 0) (m := k) rfl rfl rfl rfl rfl rfl slc8 (.none _) (.some _ _ _) (Nat.zero_le _) (by omega) rfl ?_
    intro v1 s1
    have s1 : Sl h8 v1 1 (C.take k).length (is (C.take k)) := by
      rw [Nat.zero_mul, List.drop_zero, Nat.sub_zero, Nat.mul_one] at s1
      rw [tl]; unfold is; rw [List.map_take]; exact s1
    refine RunO.callDG rfl (keepInts_ok sa8 s1 (by omega)) rfl rfl rfl ?_
    rintro _ _ ⟨rfl, rfl⟩
    rw [beq_self_eq_true (C.take k)]
    refine RunO.part 6 rfl ?_
    refine RunO.sliceSlG (s := 1) (k := k) (m := C.length) rfl rfl rfl rfl rfl rfl slc8 (.some _ _ _) (.none _) (by omega) (Nat.le_refl _) rfl ?_
    intro v2 s2
    have s2 : Sl h8 v2 1 (C.drop k).length (is (C.drop k)) := by
      rw [Nat.mul_one, Nat.mul_one, List.take_of_length_le (by rw [List.length_drop, is_len]; exact Nat.le_refl _)] at s2
      rw [dl]; unfold is; rw [List.map_drop]; exact s2
    refine RunO.callDG rfl (keepInts_ok sb8 s2 (by omega)) rfl rfl rfl ?_
    rintro _ _ ⟨rfl, rfl⟩
    rw [beq_self_eq_true (C.drop k)]
    exact RunO.all rfl (RunC.cond rfl (fun g => by cases g) (fun _ => RunC.skip ⟨rfl, Le.cons rfl (Le.cons rfl (Le.cons rfl (Le.cons rfl (Le.cons rfl (Le.cons rfl (Le.cons rfl (Le.cons rfl (Le.cons rfl (Le.cons rfl (Le.cons rfl (Le.cons rfl (Le.cons rfl (Le.cons rfl (Le.cons rfl (Le.cons rfl (Le.cons rfl (Le.cons rfl (Le.cons rfl (Le.nil _)))))))))))))))))))⟩))
  rintro E' _ ⟨rfl, hE⟩
  refine RunC.le hE ?_
  clear hE hT1 hT2 hT3
  -- right
  refine RunC.seqc (fun E' h' => h8 = h' ∧ rightL C = true ∧ Le ((upd (upd (upd (upd (upd (upd (upd (upd (upd (upd (upd (upd (upd (upd (upd (upd (upd (upd (upd E0 0 (.slice A C.length c)) 1 (.int .i64 n)) 2 (.int .i64 a)) 3 (.slice iA L.length ic)) 9 (.slice wA C.length wc)) 10 (.slice lA ln lc)) 11 (.int .i64 e1)) 12 (.slice aA an ac)) 13 (.slice bA bn bc)) 14 (.int .i64 e3)) 15 (.slice mA mn mc)) 16 (.int .i64 (withE C a 2147483647))) 17 (.slice sA sn sc_)) 18 (.int .i64 (withE C a 0))) 19 (.int .i64 ((leftL L : Nat) : Int))) 20 (.int .i64 (lk L).2)) 21 (.pointer (some ⟨qx, 0, none⟩))) 22 (.pointer (some ⟨qf, 0, none⟩))) 23 (.int .i64 ((leftL L : Nat) : Int)))) E') ?rt ?nx4
  case rt =>
    refine RunC.seq (RunC.region (RunO.part 1 rfl ?_))
    refine RunO.callD (refRight10_ok slc8 (by omega)) rfl rfl rfl ?_
    rintro _ _ ⟨rfl, rfl⟩
    cases hr : rightL C with
    | true => exact RunO.all rfl (RunC.cond rfl (fun g => by cases g) (fun _ => RunC.skip ⟨rfl, rfl, Le.cons rfl (Le.cons rfl (Le.cons rfl (Le.cons rfl (Le.cons rfl (Le.cons rfl (Le.cons rfl (Le.cons rfl (Le.cons rfl (Le.cons rfl (Le.cons rfl (Le.cons rfl (Le.cons rfl (Le.cons rfl (Le.cons rfl (Le.cons rfl (Le.cons rfl (Le.cons rfl (Le.cons rfl (Le.nil _)))))))))))))))))))⟩))
    | false =>
      have w0 : ∀ b, withE C a b = 1 := fun b => by unfold withE; rw [if_neg (by rw [hr]; decide)]
      obtain ⟨t1, t2⟩ := hF1 hr
      have t3 := hM1 (by rw [w0]; decide)
      have t4 := hS1 (by rw [w0]; decide)
      subst t1; subst t2; subst t3; subst t4
      rw [w0, w0]
      refine RunO.all rfl (RunC.cond rfl (fun _ => ?_) (fun g => by cases g))
      refine RunC.seq (RunC.region ?_)
      (repeat (first | refine RunO.step rfl ?_ | refine RunO.loadG rfl rfl (Ow.ld (by assumption) (by rfl)) rfl ?_ | refine RunO.nil ?_))
      refine RunO.callDG rfl wakes13_ok rfl rfl rfl ?_
      rintro _ h99 ⟨rfl, f99⟩
      exact RunO.all rfl (RunC.ret ⟨_, rfl, rfl⟩)
  rintro E' _ ⟨rfl, hr, hE⟩
  refine RunC.le hE ?_
  clear hE
  obtain ⟨t1, t2, sll⟩ := hF0 hr
  subst t1
  have sll8 := sll.fr0 (f3.same G8)
  have hfl := idxs_len (frP C) C.length
  have hfc := cntI_le (frP C) C.length
  have hfl2 : (freeL C).length = (idxs (frP C) C.length).length := rfl
  refine RunC.seqc (fun E' h' => Fr no h8 h' ∧ Le ((upd (upd (upd (upd (upd (upd (upd (upd (upd (upd (upd (upd (upd (upd (upd (upd (upd (upd (upd E0 0 (.slice A C.length c)) 1 (.int .i64 n)) 2 (.int .i64 a)) 3 (.slice iA L.length ic)) 9 (.slice wA C.length wc)) 10 (.slice lA ln lc)) 11 (.int .i64 0)) 12 (.slice aA an ac)) 13 (.slice bA bn bc)) 14 (.int .i64 e3)) 15 (.slice mA mn mc)) 16 (.int .i64 (withE C a 2147483647))) 17 (.slice sA sn sc_)) 18 (.int .i64 (withE C a 0))) 19 (.int .i64 ((leftL L : Nat) : Int))) 20 (.int .i64 (lk L).2)) 21 (.pointer (some ⟨qx, 0, none⟩))) 22 (.pointer (some ⟨qf, 0, none⟩))) 23 (.int .i64 ((leftL L : Nat) : Int)))) E') ?fr ?nx5
  case fr =>
    refine RunC.seq (RunC.region (RunO.part 5 rfl ?_))
    refine RunO.callDG rfl (refFreeX_ok slc8 (by omega)) rfl rfl rfl ?_
    rintro fv h9 ⟨rowf, f9⟩
    have sf := rowf.sl (by omega)
    have sll9 := sll8.fr0 f9
    refine RunO.callDG rfl (keepInts_ok sll9 (m := idxs (frP C) C.length) sf (by omega)) rfl rfl rfl ?_
    rintro _ _ ⟨rfl, rfl⟩
    rw [show (freeL C == idxs (frP C) C.length) = true from beq_self_eq_true (freeL C)]
    exact RunO.all rfl (RunC.cond rfl (fun g => by cases g) (fun _ => RunC.skip ⟨f9, Le.cons rfl (Le.cons rfl (Le.cons rfl (Le.cons rfl (Le.cons rfl (Le.cons rfl (Le.cons rfl (Le.cons rfl (Le.cons rfl (Le.cons rfl (Le.cons rfl (Le.cons rfl (Le.cons rfl (Le.cons rfl (Le.cons rfl (Le.cons rfl (Le.cons rfl (Le.cons rfl (Le.cons rfl (Le.nil _)))))))))))))))))))⟩))
  rintro E' h9 ⟨f9, hE⟩
  refine RunC.le hE ?_
  clear hE
  have slc9 := slc8.fr0 f9
  by_cases hat : a < 0 ∨ a ≥ (C.length : Int)
  · have w0 : ∀ b, withE C a b = 3 := fun b => by
      unfold withE; rw [if_pos hr, if_pos]
      rw [Bool.or_eq_true, decide_eq_true_eq, decide_eq_true_eq]; exact hat
    have t3 := hM1 (by rw [w0]; decide)
    have t4 := hS1 (by rw [w0]; decide)
    subst t3; subst t4
    rw [w0, w0]
    refine RunC.seq ?_
    refine RunC.seqE ((upd (upd (upd (upd (upd (upd (upd (upd (upd (upd (upd (upd (upd (upd (upd (upd (upd (upd (upd (upd E0 0 (.slice A C.length c)) 1 (.int .i64 n)) 2 (.int .i64 a)) 3 (.slice iA L.length ic)) 9 (.slice wA C.length wc)) 10 (.slice lA ln lc)) 11 (.int .i64 0)) 12 (.slice aA an ac)) 13 (.slice bA bn bc)) 14 (.int .i64 e3)) 16 (.int .i64 3)) 18 (.int .i64 3)) 19 (.int .i64 ((leftL L : Nat) : Int))) 20 (.int .i64 (lk L).2)) 21 (.pointer (some ⟨qx, 0, none⟩))) 22 (.pointer (some ⟨qf, 0, none⟩))) 23 (.int .i64 ((leftL L : Nat) : Int))) 15 (.slice mA 0 mc)) 17 (.slice sA 0 sc_)) 191 (.bool true))) ?_ ?_
    · refine RunC.region (RunO.part 3 rfl ?_)
      by_cases h0 : a < 0
      · rw [decide_eq_true h0]
        exact RunO.all rfl ⟨rfl, Le.cons rfl (Le.cons rfl (Le.cons rfl (Le.cons rfl (Le.cons rfl (Le.cons rfl (Le.cons rfl (Le.cons rfl (Le.cons rfl (Le.cons rfl (Le.cons rfl (Le.cons rfl (Le.cons rfl (Le.cons rfl (Le.cons rfl (Le.cons rfl (Le.cons rfl (Le.cons rfl (Le.cons rfl (Le.cons rfl (Le.nil _))))))))))))))))))))⟩
      · rw [decide_eq_false h0]
        refine RunO.part 4 rfl ?_
        rw [decide_eq_true (hat.resolve_left h0)]
        exact RunO.all rfl ⟨rfl, Le.cons rfl (Le.cons rfl (Le.cons rfl (Le.cons rfl (Le.cons rfl (Le.cons rfl (Le.cons rfl (Le.cons rfl (Le.cons rfl (Le.cons rfl (Le.cons rfl (Le.cons rfl (Le.cons rfl (Le.cons rfl (Le.cons rfl (Le.cons rfl (Le.cons rfl (Le.cons rfl (Le.cons rfl (Le.cons rfl (Le.nil _))))))))))))))))))))⟩
    refine RunC.cond rfl (fun _ => ?_) (fun g => by cases g)
    refine RunC.seq (RunC.region ?_)
    (repeat (first | refine RunO.step rfl ?_ | refine RunO.loadG rfl rfl (Ow.ld (by assumption) (by rfl)) rfl ?_ | refine RunO.nil ?_))
    refine RunO.callDG rfl wakes13_ok rfl rfl rfl ?_
    rintro _ h99 ⟨rfl, f99⟩
    exact RunO.all rfl (RunC.ret ⟨_, rfl, rfl⟩)
  have hat1 : 0 ≤ a ∧ a < (C.length : Int) := by omega
  clear hat
  obtain ⟨k, rfl⟩ := Int.eq_ofNat_of_zero_le hat1.1
  have hk : k < C.length := by omega
  have hg := right_get hr k
  have hgk := ig_at (l := C) (i := k) hk
  obtain ⟨x, hx⟩ : ∃ x, x = C.getD k 0 := ⟨_, rfl⟩
  have w1 : ∀ b, withE C (k : Int) b = if x = b then 1 else 0 := fun b => by
    unfold withE
    rw [if_pos hr, if_neg (by rw [Bool.or_eq_true, decide_eq_true_eq, decide_eq_true_eq]; omega), Int.toNat_natCast, ← hx]
  have wl : ∀ m, withL C (k : Int) m = C.set k (x + m) := fun m => by unfold withL; rw [Int.toNat_natCast, ← hx]
  rw [← hx] at hg hgk
  refine RunC.seq (RunC.seq (RunC.region ?_))
  (repeat (first | refine RunO.step rfl ?_ | refine RunO.loadG rfl rfl (Ow.ld (by assumption) (by rfl)) rfl ?_ | refine RunO.nil ?_))
  rw [decide_eq_false (show ¬ ((k : Int) < 0) by omega)]
  (repeat (first | refine RunO.step rfl ?_ | refine RunO.loadG rfl rfl (Ow.ld (by assumption) (by rfl)) rfl ?_ | refine RunO.nil ?_))
  rw [decide_eq_false (show ¬ ((k : Int) ≥ (C.length : Int)) by omega)]
  (repeat (first | refine RunO.step rfl ?_ | refine RunO.loadG rfl rfl (Ow.ld (by assumption) (by rfl)) rfl ?_ | refine RunO.nil ?_))
  refine RunC.cond rfl (fun g => by cases g) (fun _ => RunC.skip ?_)
  -- the two twins
  refine RunC.seq (RunC.region (RunO.part 1 rfl ?_))
  refine RunO.callD (twinInts_ok slc9 (by omega)) rfl rfl rfl ?_
  rintro yv h10 ⟨rowy, f10⟩
  refine RunO.part 1 rfl ?_
  refine RunO.callD (twinInts_ok (slc9.fr0 f10) (by omega)) rfl rfl rfl ?_
  rintro zv h11 ⟨rowz, f11⟩
  refine RunO.all rfl ?_
  obtain ⟨_, ⟨_, e0⟩ | ⟨yb, hyb, rfl, oy⟩⟩ := rowy
  · omega
  obtain ⟨_, ⟨_, e0⟩ | ⟨zb, hzb, rfl, oz⟩⟩ := rowz
  · omega
  have hyn := oy.1
  replace oy := oy.fr f11 (fun g => g)
  have hyz : yb ≠ zb := by omega
  have slc11 := (slc9.fr0 f10).fr0 f11
  refine RunC.seq (RunC.draw0 rfl (RunO.part 6 rfl ?_))
  have hpk : apart prog 3 (is C) (k * 1) = some (.int .i64 x) := hgk
  have sy : Sl h11 (.slice (some ⟨yb, 0, none⟩) C.length (unkc 1)) 1 C.length (is C) := sl_owI oy rfl (Cp.unkc _ _) (by omega)
  have sz : Sl h11 (.slice (some ⟨zb, 0, none⟩) C.length (unkc 1)) 1 C.length (is C) := sl_owI oz rfl (Cp.unkc _ _) (by omega)
  refine RunO.at (s := 1) (k := k) rfl rfl sy rfl rfl hk hpk rfl rfl rfl ?_
  refine RunO.part 1 rfl ?_
  rw [fw64 (x := x + 1) (by omega) (by omega)]
  refine RunO.part 2 rfl ?_
  refine RunO.at (s := 1) (k := k) rfl rfl sz rfl rfl hk hpk rfl rfl rfl ?_
  refine RunO.part 1 rfl ?_
  rw [fw64 (x := x - 1) (by omega) (by omega)]
  refine RunO.index (s := 1) (k := k) rfl rfl rfl rfl hk rfl ?_
  rw [Nat.mul_one, Nat.zero_add]
  refine RunO.store rfl rfl (store1_ow oy rfl rfl rfl (by rw [is_len]; omega)) ?_
  refine RunO.index (s := 1) (k := k) rfl rfl rfl rfl hk rfl ?_
  rw [Nat.mul_one, Nat.zero_add]
  have fy : Fr (· = yb) h11 (h11.put yb (some ⟨(is C).set k (.int .i64 (x + 1)), true⟩)) := Fr.put _ (.inl rfl)
  have oy2 : Ow (h11.put yb (some ⟨(is C).set k (.int .i64 (x + 1)), true⟩)) yb ((is C).set k (.int .i64 (x + 1))) := Ow.put _ oy.1
  have oz2 := oz.fr fy (fun e => hyz (by have e : zb = yb := e; exact e.symm))
  generalize h11.put yb (some ⟨(is C).set k (.int .i64 (x + 1)), true⟩) = h12 at *
  refine RunO.store rfl rfl (store1_ow oz2 rfl rfl rfl (by rw [is_len]; omega)) (RunO.nil ?_)
  have fz : Fr (· = zb) h12 (h12.put zb (some ⟨(is C).set k (.int .i64 (x - 1)), true⟩)) := Fr.put _ (.inl rfl)
  have oz3 : Ow (h12.put zb (some ⟨(is C).set k (.int .i64 (x - 1)), true⟩)) zb ((is C).set k (.int .i64 (x - 1))) := Ow.put _ oz2.1
  have oy3 := oy2.fr fz (fun e => hyz (by have e : yb = zb := e; exact e))
  generalize h12.put zb (some ⟨(is C).set k (.int .i64 (x - 1)), true⟩) = h13 at *
  have F13 : Fr no h9 h13 := (((f10.same f11)).trans fy (fun b e => .inr (by have e : b = yb := e; omega))).trans fz (fun b e => .inr (by have e : b = zb := e; have := f10.next; omega))
  have slc13 := slc9.fr0 F13
  have iset : ∀ y : Int, (is C).set k (.int .i64 y) = is (C.set k y) := fun y => by have := is_set (l := C) (i := k) (x := y); rw [Nat.mul_one, Nat.zero_add] at this; exact this
  rw [iset] at oy3 oz3
  have ly : (C.set k (x + 1)).length = C.length := List.length_set
  have lz : (C.set k (x - 1)).length = C.length := List.length_set
  have sy3 : Sl h13 (.slice (some ⟨yb, 0, none⟩) C.length (unkc 1)) 1 (C.set k (x + 1)).length (is (C.set k (x + 1))) := by have := sl_owI oy3 rfl (Cp.unkc _ _) (by omega); rw [ly] at this ⊢; exact this
  have sz3 : Sl h13 (.slice (some ⟨zb, 0, none⟩) C.length (unkc 1)) 1 (C.set k (x - 1)).length (is (C.set k (x - 1))) := by have := sl_owI oz3 rfl (Cp.unkc _ _) (by omega); rw [lz] at this ⊢; exact this
  have G13 : Fr no h5 h13 := (f6.same fo).same ((f8.same f9).same F13)
  rw [w1] at hM0 hM1
  rw [w1] at hS0 hS1
  rw [wl] at hM0
  rw [wl] at hS0
  rw [w1, w1]
  refine RunC.seqc (fun E' h' => h13 = h' ∧ Le ((upd (upd (upd (upd (upd (upd (upd (upd (upd (upd (upd (upd (upd (upd (upd (upd (upd (upd (upd (upd (upd E0 0 (.slice A C.length c)) 1 (.int .i64 n)) 2 (.int .i64 (k : Int))) 3 (.slice iA L.length ic)) 9 (.slice wA C.length wc)) 10 (.slice lA ln lc)) 11 (.int .i64 0)) 12 (.slice aA an ac)) 13 (.slice bA bn bc)) 14 (.int .i64 e3)) 15 (.slice mA mn mc)) 16 (.int .i64 (if x = 2147483647 then 1 else 0))) 17 (.slice sA sn sc_)) 18 (.int .i64 (if x = 0 then 1 else 0))) 19 (.int .i64 ((leftL L : Nat) : Int))) 20 (.int .i64 (lk L).2)) 21 (.pointer (some ⟨qx, 0, none⟩))) 22 (.pointer (some ⟨qf, 0, none⟩))) 23 (.int .i64 ((leftL L : Nat) : Int))) 24 (.slice (some ⟨yb, 0, none⟩) C.length (unkc 1))) 25 (.slice (some ⟨zb, 0, none⟩) C.length (unkc 1)))) E') ?ck ?nx6
  case ck =>
    refine RunC.seq (RunC.region (RunO.part 4 rfl ?_))
    refine RunO.at (s := 1) (k := k) rfl rfl slc13 rfl rfl hk hpk rfl rfl rfl ?_
    refine RunO.part 1 rfl ?_
    have b1 : ((if x = 2147483647 then (1 : Int) else 0) == 0) = decide (x < 2147483647) := by
      by_cases g : x = 2147483647
      · rw [if_pos g, decide_eq_false (by omega)]; rfl
      · rw [if_neg g, decide_eq_true (by omega)]; rfl
    have b2 : ((if x = 0 then (1 : Int) else 0) == 0) = decide (x > 0) := by
      by_cases g : x = 0
      · rw [if_pos g, decide_eq_false (by omega)]; rfl
      · rw [if_neg g, decide_eq_true (by omega)]; rfl
    rw [b1]
    generalize decide (x < 2147483647) = p
    cases p <;> (
      refine RunO.part 5 rfl ?_
      refine RunO.part 1 rfl ?_
      refine RunO.atG (s := 1) (k := k) rfl (fun _ => rfl) rfl rfl slc13 rfl rfl hk hpk rfl rfl rfl ?_
      refine RunO.part 1 rfl ?_
      rw [b2]
      generalize decide (x > 0) = q
      cases q <;> exact RunO.all rfl (RunC.cond rfl (fun g => by cases g) (fun _ => RunC.skip ⟨rfl, Le.cons rfl (Le.cons rfl (Le.cons rfl (Le.cons rfl (Le.cons rfl (Le.cons rfl (Le.cons rfl (Le.cons rfl (Le.cons rfl (Le.cons rfl (Le.cons rfl (Le.cons rfl (Le.cons rfl (Le.cons rfl (Le.cons rfl (Le.cons rfl (Le.cons rfl (Le.cons rfl (Le.cons rfl (Le.cons rfl (Le.cons rfl (Le.nil _)))))))))))))))))))))⟩)))
  rintro E' _ ⟨rfl, hE⟩
  refine RunC.le hE ?_
  clear hE
  refine RunC.seq (RunC.region ?_)
  by_cases c1 : x = 2147483647
  · have t3 := hM1 (by rw [if_pos c1]; decide)
    subst t3
    have c2 : x ≠ 0 := by omega
    obtain ⟨t4, ss⟩ := hS0 (by rw [if_neg c2])
    rw [if_pos c1, if_neg c2]
    (repeat (first | refine RunO.step rfl ?_ | refine RunO.loadG rfl rfl (Ow.ld (by assumption) (by rfl)) rfl ?_ | refine RunO.nil ?_))
    refine RunO.callDG rfl (keepInts_ok (ss.fr0 G13) sz3 (by rw [List.length_set]; omega)) rfl rfl rfl ?_
    rintro _ _ ⟨rfl, rfl⟩
    rw [show (C.set k (x + -1) == C.set k (x - 1)) = true from beq_self_eq_true _]
    (repeat (first | refine RunO.step rfl ?_ | refine RunO.loadG rfl rfl (Ow.ld (by assumption) (by rfl)) rfl ?_ | refine RunO.nil ?_))
    refine RunO.callDG rfl wakes13_ok rfl rfl rfl ?_
    rintro _ h99 ⟨rfl, f99⟩
    exact RunO.all rfl (RunC.ret ⟨_, rfl, rfl⟩)
  · obtain ⟨t3, sm⟩ := hM0 (by rw [if_neg c1])
    by_cases c2 : x = 0
    · have t4 := hS1 (by rw [if_pos c2]; decide)
      subst t4
      rw [if_neg c1, if_pos c2]
      (repeat (first | refine RunO.step rfl ?_ | refine RunO.loadG rfl rfl (Ow.ld (by assumption) (by rfl)) rfl ?_ | refine RunO.nil ?_))
      refine RunO.callDG rfl (keepInts_ok (sm.fr0 (f5.same G13)) sy3 (by rw [List.length_set]; omega)) rfl rfl rfl ?_
      rintro _ _ ⟨rfl, rfl⟩
      rw [beq_self_eq_true (C.set k (x + 1))]
      (repeat (first | refine RunO.step rfl ?_ | refine RunO.loadG rfl rfl (Ow.ld (by assumption) (by rfl)) rfl ?_ | refine RunO.nil ?_))
      refine RunO.callDG rfl wakes13_ok rfl rfl rfl ?_
      rintro _ h99 ⟨rfl, f99⟩
      exact RunO.all rfl (RunC.ret ⟨_, rfl, rfl⟩)
    · obtain ⟨t4, ss⟩ := hS0 (by rw [if_neg c2])
      rw [if_neg c1, if_neg c2]
      (repeat (first | refine RunO.step rfl ?_ | refine RunO.loadG rfl rfl (Ow.ld (by assumption) (by rfl)) rfl ?_ | refine RunO.nil ?_))
      refine RunO.callDG rfl (keepInts_ok (sm.fr0 (f5.same G13)) sy3 (by rw [List.length_set]; omega)) rfl rfl rfl ?_
      rintro _ _ ⟨rfl, rfl⟩
      rw [beq_self_eq_true (C.set k (x + 1))]
      (repeat (first | refine RunO.step rfl ?_ | refine RunO.loadG rfl rfl (Ow.ld (by assumption) (by rfl)) rfl ?_ | refine RunO.nil ?_))
      refine RunO.callDG rfl (keepInts_ok (ss.fr0 G13) sz3 (by rw [List.length_set]; omega)) rfl rfl rfl ?_
      rintro _ _ ⟨rfl, rfl⟩
      rw [show (C.set k (x + -1) == C.set k (x - 1)) = true from beq_self_eq_true _]
      (repeat (first | refine RunO.step rfl ?_ | refine RunO.loadG rfl rfl (Ow.ld (by assumption) (by rfl)) rfl ?_ | refine RunO.nil ?_))
      refine RunO.callDG rfl wakes13_ok rfl rfl rfl ?_
      rintro _ h99 ⟨rfl, f99⟩
      exact RunO.all rfl (RunC.ret ⟨_, rfl, rfl⟩)
end Go.Proofs.Ytcbakhanpiemhaa
end
