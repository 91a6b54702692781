/- DevBad: a calculus over an abstract machine that stands beside the model, and contracts of functions by it (part 4).
Conditions: what each theorem says of its arguments. -/
import Derived.Test.YtijfghknjkegpaaGDevBad3
section
set_option linter.unusedVariables false
set_option linter.unusedSectionVars false
set_option maxRecDepth 100000
open Go Go.Am Go.RowKit
namespace Go.Proofs.Ytijfghknjkegpaa
open Go.Proofs.Try

def flP (l : List IoT) (j : Nat) : Bool := match l[j]? with | some x => x.1 == 2 | none => false
theorem flP_at {l : List IoT} {j : Nat} (h : j < l.length) : flP l j = (l[j].1 == 2) := by unfold flP; rw [List.getElem?_eq_getElem h]
set_option maxHeartbeats 4000000 in
theorem flushes_ok {h : Heap} {lv : Value} {l : List IoT} (il : Ios h lv l) (hl : l.length ≤ 100000) : RunF prog 29 [lv] h fun v h' => Fr no h h' ∧ Row h.next h' v 1 (idxs (flP l) l.length).length (is (idxs (flP l) l.length)) := by
  refine RunF.walk func29 rfl rfl ?_
  obtain ⟨acs, sa, ka⟩ := il
  have sa0 := sa
  have hal := sa.1
  obtain ⟨lA, lc, rfl, _, _⟩ := sa.form
  refine RunC.seq (RunC.region (RunO.all rfl ?_))
  refine RunC.seq (RunC.region (RunO.all rfl ?_))
  refine RunC.seq (RunC.seq (RunC.region (RunO.all rfl ?_)))
  refine RunC.block ?_
  refine RunC.loop (fun d E h' => ∃ (i : Nat) (ov : Value), i + d = l.length ∧ Fr no h h' ∧ Row h.next h' ov 1 (idxs (flP l) i).length (is (idxs (flP l) i)) ∧ Le ((upd (upd (upd (upd E0 3 (ov)) 6 (.slice lA l.length lc)) 7 (.int .i64 (l.length : Int))) 8 (.int .i64 (i : Int)))) E) ?st (k := l.length) ?ini
  case ini => exact ⟨0, .slice none 0 0, by omega, Fr.refl _ _, Row.nil _ _ _, Le.cons rfl (Le.cons rfl (Le.cons rfl (Le.cons rfl (Le.nil _))))⟩
  rintro d E g ⟨i, ov, hi, fg, row, hE⟩
  refine RunC.le hE ?_
  clear hE
  refine RunC.seq (RunC.region (RunO.all rfl ?_))
  refine RunC.seq (RunC.cond rfl (fun hlt => RunC.skip ?go) (fun hge => RunC.exit ?ex))
  case ex =>
    have hge := of_decide_eq_false hge
    obtain rfl : i = l.length := by omega
    refine RunC.seq (RunC.region (RunO.all rfl ?_))
    exact RunC.ret ⟨_, rfl, fg, row⟩
  have hlt := of_decide_eq_true hlt
  have hlt : i < l.length := by omega
  obtain ⟨dv, ed, sd, _⟩ := ka i l[i] (List.getElem?_eq_getElem hlt)
  obtain ⟨dA, dc, rfl, _, _⟩ := sd.form
  have hpt := io_part hal hlt
  rw [ed] at hpt
  have hci := cntI_le (flP l) i
  rw [← idxs_len] at hci
  have hfp := flP_at hlt
  refine RunC.seq (RunC.block ?_)
  refine RunC.seq (RunC.region (RunO.part 1 rfl ?_))
  refine RunO.at (s := 3) (k := i) rfl rfl (sa0.fr0 fg) rfl rfl hlt hpt rfl rfl rfl ?_
  generalize l[i].1 = kk at *
  refine RunO.part 2 (h1 := g.push ⟨[.int .i64 0, .int .i64 0, .slice none 0 0], true⟩) rfl ?_
  refine RunO.store rfl rfl (store_ow (s := 3) (Ow.push g [.int .i64 0, .int .i64 0, .slice none 0 0]) rfl rfl rfl (Nat.le_refl 3)) (RunO.nil ?_)
  have ox : Ow ((g.push ⟨[.int .i64 0, .int .i64 0, .slice none 0 0], true⟩).put g.next (some ⟨[.int .i64 kk, .int .i64 l[i].2.1, .slice dA l[i].2.2.1.length dc], true⟩)) g.next [.int .i64 kk, .int .i64 l[i].2.1, .slice dA l[i].2.2.1.length dc] := Ow.put _ (Nat.lt_succ_self _)
  have f1 : Fr no g ((g.push ⟨[.int .i64 0, .int .i64 0, .slice none 0 0], true⟩).put g.next (some ⟨[.int .i64 kk, .int .i64 l[i].2.1, .slice dA l[i].2.2.1.length dc], true⟩)) := (Fr.push _ _ _).trans (Fr.put (m := (· = g.next)) _ (.inl rfl)) (fun j hj => .inr (by omega))
  show RunC prog _ _ _ ((g.push ⟨[.int .i64 0, .int .i64 0, .slice none 0 0], true⟩).put g.next (some ⟨[.int .i64 kk, .int .i64 l[i].2.1, .slice dA l[i].2.2.1.length dc], true⟩)) _ _ _
  generalize (g.push ⟨[.int .i64 0, .int .i64 0, .slice none 0 0], true⟩).put g.next (some ⟨[.int .i64 kk, .int .i64 l[i].2.1, .slice dA l[i].2.2.1.length dc], true⟩) = g1 at *
  generalize g.next = xb at *
  have row1 := row.gr.fr0 f1
  have fg1 := fg.same f1
  refine RunC.seq (RunC.region (RunO.part 1 rfl ?_))
  refine RunO.load (v := .int .i64 kk) rfl (ox.ld rfl) rfl ?_
  refine RunO.all rfl ?_
  cases hk : (kk == 2) with
  | false =>
    rw [hk] at hfp
    refine RunC.cond rfl (fun g => by cases g) (fun _ => RunC.skip ?_)
    refine RunC.region (RunO.all rfl ?_)
    refine ⟨d - 1, by omega, i + 1, ov, by omega, fg1, ?_, Le.cons (inc64 (by omega)) (Le.cons rfl (Le.cons rfl (Le.cons rfl (Le.nil _))))⟩
    rw [idxs_no hfp]
    exact row.fr f1 (fun _ _ _ g => g)
  | true =>
    rw [hk] at hfp
    refine RunC.cond rfl (fun _ => ?_) (fun g => by cases g)
    refine RunC.region (RunO.part 3 (h1 := g1.push ⟨[.int .i64 (i : Int)], true⟩) rfl ?_)
    have ot := Ow.push g1 [.int .i64 (i : Int)]
    have f2 : Fr no g1 (g1.push ⟨[.int .i64 (i : Int)], true⟩) := Fr.push _ _ _
    have row2 := row1.fr0 f2
    generalize g1.push ⟨[.int .i64 (i : Int)], true⟩ = g2 at *
    refine RunO.appendG (s := 1) (j := 1) rfl rfl rfl rfl rfl rfl rfl rfl (by decide) row2 ot.all rfl (Nat.le_refl 1) rfl (by show 2 * (_ + 1) * 8 ≤ _; omega) (by omega) ?_
    intro ov2 g3 row3 f3
    refine RunO.all rfl ?_
    refine RunC.region (RunO.all rfl ?_)
    refine ⟨d - 1, by omega, i + 1, ov2, by omega, (fg1.same f2).trans f3 (fun b a => .inr (row2.at a).1), ?_, Le.cons (inc64 (by omega)) (Le.cons rfl (Le.cons rfl (Le.cons rfl (Le.nil _))))⟩
    rw [idxs_yes hfp, List.length_append, show is (idxs (flP l) i ++ [(i : Int)]) = is (idxs (flP l) i) ++ [.int .i64 (i : Int)] from List.map_append]
    exact Row.lo row3 (fg1.same f2).next
/-- What a crash may leave. -/
structure CrI (L : List Int) (l : List IoT) (i : Nat) (safe : Int) (Y : List Int) : Prop where
  len : Y.length = L.length
  byt : Byt Y
  blk : ∀ c : Nat, blkI Y c = blkI L c ∨ ∃ x ∈ l.take i, x.1 = 1 ∧ x.2.1 = (c : Int) ∧ blkI Y c = x.2.2.1
  all : (∀ (j : Nat) (x : IoT), j < i → l[j]? = some x → x.1 = 1 → (j : Int) < safe) → Y = applyL L (l.take i)
theorem CrI.skip {L : List Int} {l : List IoT} {i : Nat} {safe : Int} {Y : List Int} (v : CrI L l i safe Y) (hi : i < l.length) (hk : l[i].1 ≠ 1 ∨ ¬ (i : Int) < safe) : CrI L l (i + 1) safe Y := by
  have htk : l.take (i + 1) = l.take i ++ [l[i]] := List.take_succ_eq_append_getElem hi
  refine ⟨v.len, v.byt, fun c => (v.blk c).imp id (fun ⟨x, hx, g⟩ => ⟨x, by rw [htk]; exact List.mem_append_left _ hx, g⟩), fun hall => ?_⟩
  have e := v.all (fun j x hj hx h1 => hall j x (by omega) hx h1)
  rcases hk with hk | hk
  · rw [htk, e]
    unfold applyL
    rw [List.foldl_append]
    show _ = applyStep _ l[i]
    unfold applyStep
    rw [if_neg (by rw [beq_iff_eq]; exact hk)]
  · by_cases h1 : l[i].1 = 1
    · exact absurd (hall i l[i] (by omega) (List.getElem?_eq_getElem hi) h1) hk
    · rw [htk, e]
      unfold applyL
      rw [List.foldl_append]
      show _ = applyStep _ l[i]
      unfold applyStep
      rw [if_neg (by rw [beq_iff_eq]; exact h1)]
theorem CrI.step {L : List Int} {l : List IoT} {i : Nat} {safe : Int} {Y : List Int} (v : CrI L l i safe Y) (hi : i < l.length) {a : Nat} (ha : l[i].2.1 = (a : Int)) (hw : wrG L.length l[i]) : CrI L l (i + 1) safe (setBlk Y a l[i].2.2.1) := by
  have htk : l.take (i + 1) = l.take i ++ [l[i]] := List.take_succ_eq_append_getElem hi
  obtain ⟨h1, ⟨a', ha', hab⟩, h3, h4⟩ := hw
  obtain rfl : a' = a := by omega
  have hal : (a' + 1) * 64 ≤ Y.length := by rw [v.len]; exact hab
  refine ⟨by rw [setBlk_len hal h3]; exact v.len, setBlk_byt v.byt h4, fun c => ?_, fun hall => ?_⟩
  · by_cases hc : c = a'
    · subst hc
      exact .inr ⟨l[i], by rw [htk]; exact List.mem_append_right _ (List.mem_singleton.2 rfl), h1, ha, blk_set_same hal h3⟩
    · rw [blk_set_ne hal h3 hc]
      exact (v.blk c).imp id (fun ⟨x, hx, g⟩ => ⟨x, by rw [htk]; exact List.mem_append_left _ hx, g⟩)
  · rw [htk, v.all (fun j x hj hx h1 => hall j x (by omega) hx h1)]
    unfold applyL
    rw [List.foldl_append]
    show _ = applyStep _ l[i]
    rw [apStep_w ⟨h1, ⟨a', ha', hab⟩, h3, h4⟩ ha]
theorem us_blk {Y d : List Int} {a : Nat} (hd : d.length = 64) : (us Y).take (0 + a * 64) ++ (us d).take 64 ++ (us Y).drop (0 + a * 64 + 64) = us (setBlk Y a d) := by
  rw [Nat.zero_add, List.take_of_length_le (l := us d) (by rw [us_len, hd]; exact Nat.le_refl _)]
  unfold us setBlk
  rw [List.map_append, List.map_append, List.map_take, List.map_drop]
set_option maxHeartbeats 32000000 in
theorem devCrashN_ok {h : Heap} {iv lv kv : Value} {L : List Int} {l : List IoT} {keep : List Bool} {cut : Nat} (si : Sl h iv 1 L.length (us L)) (hb : Byt L) (hm : L.length ≤ 1000000) (hd : devOk L.length = true) (il : Ios h lv l) (hst : stepsE L.length l = 0) (hw : ∀ x ∈ l, x.1 = 1 → wrG L.length x) (hc : cut ≤ l.length) (hl : l.length ≤ 100000) (sk : Sl h kv 1 keep.length (bo keep)) (hkl : keep.length ≤ 1000000) :
    RunF prog 28 [iv, lv, .int .i64 (cut : Int), kv] h fun v h' => Fr no h h' ∧ ∃ ob oc Y, h.next ≤ ob ∧ v = .tuple #[.slice (some ⟨ob, 0, none⟩) L.length oc, .int .i64 0] ∧ Cp 1 L.length oc ∧ Ow h' ob (us Y) ∧ CrI L l cut ((idxs (flP (l.take cut)) cut).getLast?.getD (-1)) Y ∧ (keep.length = 0 → (idxs (flP (l.take cut)) cut).getLast?.getD (-1) < 0 → Y = L) := by
  refine RunF.walk func28 rfl rfl ?_
  have hdl : L.length % 64 = 0 ∧ 4 ≤ L.length / 64 ∧ L.length / 64 ≤ 4096 := by
    unfold devOk at hd
    simpa using hd
  have si0 := si
  have il0 := il
  have sk0 := sk
  obtain ⟨iA, ic, rfl, hic, hiA⟩ := si.form
  obtain ⟨acs, sa, ka⟩ := il
  have sa0 := sa
  have hal := sa.1
  obtain ⟨lA, lc, rfl, _, _⟩ := sa.form
  obtain ⟨kA, kc, rfl, _, _⟩ := sk.form
  refine RunC.seq (RunC.region (RunO.all rfl ?_))
  refine RunC.seq (RunC.region (RunO.part 2 rfl ?_))
  refine RunO.callD (devSteps_ok (A := iA) (c := ic) (n := L.length) il0 (by omega) (by omega)) rfl rfl rfl ?_
  rw [hst]
  rintro _ h1 ⟨rfl, f1⟩
  refine RunO.all rfl ?_
  refine RunC.seq (RunC.block ?_)
  refine RunC.seq (RunC.region (RunO.all rfl (RunC.cond (t := false) rfl (fun g => by cases g) (fun _ => ?_))))
  refine RunC.seq (RunC.region (RunO.part 2 rfl ?_))
  rw [decide_eq_false (show ¬ ((cut : Int) < 0) by omega)]
  refine RunO.part 4 rfl ?_
  refine RunO.part 1 rfl ?_
  rw [decide_eq_false (show ¬ ((cut : Int) > (l.length : Int)) by omega)]
  refine RunO.all rfl (RunC.cond rfl (fun g => by cases g) (fun _ => RunC.skip ?_))
  refine RunC.seq (RunC.region (RunO.all rfl ?_))
  -- the last flush
  have htl : (l.take cut).length = cut := by rw [List.length_take]; omega
  refine RunC.seq (RunC.region (RunO.part 2 rfl ?_))
  refine RunO.sliceSl (s := 3) (len := l.length) (k := 0) (m := cut) rfl rfl rfl rfl rfl (sa0.fr0 f1) (.none _) (.some _ _ _) (Nat.zero_le _) hc rfl ?_
  intro tv st
  have hsl : ∀ (h' : Heap) (u : Value), Fr no h h' → Sl h' u 3 (cut - 0) ((acs.drop (0 * 3)).take ((cut - 0) * 3)) → Ios h' u (l.take cut) := fun h' u f st => by
    rw [Nat.zero_mul, List.drop_zero, Nat.sub_zero] at st
    refine ⟨acs.take (cut * 3), by rw [htl]; exact st, fun j x hx => ?_⟩
    have hj := (List.getElem?_eq_some_iff.1 hx).1
    rw [htl] at hj
    rw [List.getElem?_take, if_pos hj] at hx
    obtain ⟨dv, ed, sd, hb⟩ := ka j x hx
    refine ⟨dv, ?_, sd.fr0 f, hb⟩
    rw [← ed, List.drop_take, List.take_take, show min 3 (cut * 3 - j * 3) = 3 by omega]
  have hios := hsl h1 tv f1 st
  refine RunO.callD (flushes_ok hios (by rw [htl]; omega)) rfl rfl rfl ?_
  rw [htl]
  rintro fv h2 ⟨f2, rf⟩
  have F2 := f1.same f2
  have hcl := cntI_le (flP (l.take cut)) cut
  rw [← idxs_len] at hcl
  generalize hFL : idxs (flP (l.take cut)) cut = FL at *
  have sfl := rf.sl (by omega)
  have sfl0 := sfl
  obtain ⟨fA, fc, rfl, _, _⟩ := sfl.form
  refine RunO.all rfl ?_
  obtain ⟨safe, hsafe⟩ : ∃ s, s = FL.getLast?.getD (-1) := ⟨_, rfl⟩
  rw [← hsafe]
  refine RunC.seqc (fun E' h' => h2 = h' ∧ Le (upd (upd (upd (upd (upd E0 0 (.slice iA L.length ic)) 1 (.slice lA l.length lc)) 2 (.int .i64 (cut : Int))) 3 (.slice kA keep.length kc)) 11 (.int .i64 safe)) E') ?sf ?by1
  case sf =>
    refine RunC.seq (RunC.region (RunO.part 2 rfl ?_))
    refine RunO.part 1 rfl ?_
    by_cases h0 : (FL.length : Int) > 0
    · rw [decide_eq_true h0]
      refine RunO.all rfl (RunC.cond rfl (fun _ => ?_) (fun g => by cases g))
      refine RunC.region (RunO.part 4 rfl ?_)
      rw [fw64 (x := (FL.length : Int) - 1) (by omega) (by omega), show (FL.length : Int) - 1 = ((FL.length - 1 : Nat) : Int) by omega]
      have hk : FL.length - 1 < FL.length := by omega
      refine RunO.at (s := 1) (k := FL.length - 1) rfl rfl sfl0 rfl rfl hk (is_part hk) rfl rfl rfl (RunO.all rfl ?_)
      have e : FL[FL.length - 1] = safe := by rw [hsafe, List.getLast?_eq_getElem?, List.getElem?_eq_getElem hk]; rfl
      rw [e]
      exact ⟨rfl, Le.cons rfl (Le.cons rfl (Le.cons rfl (Le.cons rfl (Le.cons rfl (Le.nil _)))))⟩
    · rw [decide_eq_false h0]
      refine RunO.all rfl (RunC.cond rfl (fun g => by cases g) (fun _ => RunC.skip ?_))
      have e : safe = -1 := by
        have : FL = [] := List.eq_nil_of_length_eq_zero (by omega)
        rw [hsafe, this]; rfl
      rw [e]
      exact ⟨rfl, Le.cons rfl (Le.cons rfl (Le.cons rfl (Le.cons rfl (Le.cons rfl (Le.nil _)))))⟩
  rintro E' _ ⟨rfl, hE⟩
  refine RunC.le hE ?_
  clear hE hsafe hFL sfl0 sfl rf
  refine RunC.seq (RunC.region (RunO.part 1 rfl ?_))
  refine RunO.callD (clone8_ok (si0.fr0 F2) (by omega)) rfl rfl rfl ?_
  rintro ov h3 ⟨oov, f3, _⟩
  obtain ⟨ob, oc, hob, rfl, hoc, oo⟩ : ∃ b c, h2.next ≤ b ∧ ov = .slice (some ⟨b, 0, none⟩) L.length c ∧ Cp 1 L.length c ∧ Ow h3 b (us L) := by
    rcases oov.2.2 with ⟨_, e⟩ | e
    · omega
    · exact e
  have F3 := F2.same f3
  refine RunO.all rfl ?_
  refine RunC.seq (RunC.seq (RunC.region (RunO.part 2 rfl ?_)))
  refine RunO.sliceAll (s := 3) (len := l.length) (k := 0) (m := cut) rfl rfl rfl rfl rfl (sa0.fr0 F3) (.none _) (.some _ _ _) (Nat.zero_le _) hc rfl ?_
  intro tv2 st2
  have hslc : ∀ (h' : Heap), Fr no h h' → Sl h' tv2 3 cut (acs.take (cut * 3)) := fun h' f => by
    have := st2 h' (sa0.fr0 f)
    rwa [Nat.zero_mul, List.drop_zero, Nat.sub_zero] at this
  obtain ⟨tA, tc, rfl, _, _⟩ := (hslc h3 F3).form
  refine RunO.all rfl ?_
  refine RunC.block ?_
  have hF2n := F2.next
  refine RunC.loop (fun d E h' => ∃ (i o : Nat) (Y : List Int), i + d = cut ∧ o ≤ i ∧ Fr (· = ob) h3 h' ∧ Ow h' ob (us Y) ∧ (CrI L l i safe Y ∧ (keep.length = 0 → safe < 0 → Y = L)) ∧ Le ((upd (upd (upd (upd (upd (upd (upd E0 3 (.slice kA keep.length kc)) 11 (.int .i64 safe)) 13 (.slice (some ⟨ob, 0, none⟩) L.length oc)) 14 (.int .i64 (o : Int))) 51 (.slice tA cut tc)) 52 (.int .i64 (cut : Int))) 53 (.int .i64 (i : Int)))) E) ?st (k := cut) ?ini
  case ini => exact ⟨0, 0, L, by omega, Nat.le_refl _, Fr.refl _ _, oo, ⟨⟨rfl, hb, fun c => .inl rfl, fun _ => by rw [List.take_zero]; rfl⟩, fun _ _ => rfl⟩, Le.cons rfl (Le.cons rfl (Le.cons rfl (Le.cons rfl (Le.cons rfl (Le.cons rfl (Le.cons rfl (Le.nil _)))))))⟩
  clear oo
  rintro d E g ⟨i, o, Y, hi, hoi, fg, oo, ⟨v, vn⟩, hE⟩
  refine RunC.le hE ?_
  clear hE
  have Fg : Fr no h2 g := f3.trans fg (fun b e => .inr (by have e : b = ob := e; omega))
  have Fg0 := F2.same Fg
  refine RunC.seq (RunC.region (RunO.all rfl ?_))
  refine RunC.seq (RunC.cond rfl (fun hlt => RunC.skip ?go) (fun hge => RunC.exit ?ex))
  case ex =>
    have hge := of_decide_eq_false hge
    obtain rfl : i = cut := by omega
    refine RunC.seq (RunC.region (RunO.all rfl ?_))
    exact RunC.ret ⟨_, rfl, Fg0, ob, oc, Y, by omega, rfl, hoc, oo, v, vn⟩
  have hlt := of_decide_eq_true hlt
  have hic : i < cut := by omega
  have hil : i < l.length := by omega
  obtain ⟨dv, ed, sd, hdb⟩ := ka i l[i] (List.getElem?_eq_getElem hil)
  have sd0 := sd
  obtain ⟨dA, dc, rfl, _, _⟩ := sd.form
  have ed2 : ((acs.take (cut * 3)).drop (i * 3)).take 3 = [.int .i64 l[i].1, .int .i64 l[i].2.1, .slice dA l[i].2.2.1.length dc] := by rw [← ed, List.drop_take, List.take_take, show min 3 (cut * 3 - i * 3) = 3 by omega]
  have hpt := io_part (acs := acs.take (cut * 3)) (n := cut) (by rw [List.length_take]; omega) hic
  rw [ed2] at hpt
  have hwi := hw l[i] (List.getElem_mem hil)
  have hoo := oo.1
  refine RunC.seq (RunC.block ?_)
  refine RunC.seq (RunC.region (RunO.part 1 rfl ?_))
  refine RunO.at (s := 3) (k := i) rfl rfl (hslc g Fg0) rfl rfl hic hpt rfl rfl rfl ?_
  refine RunO.part 2 (h1 := g.push ⟨[.int .i64 0, .int .i64 0, .slice none 0 0], true⟩) rfl ?_
  refine RunO.store rfl rfl (store_ow (s := 3) (Ow.push g [.int .i64 0, .int .i64 0, .slice none 0 0]) rfl rfl rfl (Nat.le_refl 3)) (RunO.nil ?_)
  have ox : Ow ((g.push ⟨[.int .i64 0, .int .i64 0, .slice none 0 0], true⟩).put g.next (some ⟨[.int .i64 l[i].1, .int .i64 l[i].2.1, .slice dA l[i].2.2.1.length dc], true⟩)) g.next [.int .i64 l[i].1, .int .i64 l[i].2.1, .slice dA l[i].2.2.1.length dc] := Ow.put _ (Nat.lt_succ_self _)
  have f6 : Fr no g ((g.push ⟨[.int .i64 0, .int .i64 0, .slice none 0 0], true⟩).put g.next (some ⟨[.int .i64 l[i].1, .int .i64 l[i].2.1, .slice dA l[i].2.2.1.length dc], true⟩)) := (Fr.push _ _ _).trans (Fr.put (m := (· = g.next)) _ (.inl rfl)) (fun j hj => .inr (by omega))
  show RunC prog _ _ _ ((g.push ⟨[.int .i64 0, .int .i64 0, .slice none 0 0], true⟩).put g.next (some ⟨[.int .i64 l[i].1, .int .i64 l[i].2.1, .slice dA l[i].2.2.1.length dc], true⟩)) _ _ _
  generalize (g.push ⟨[.int .i64 0, .int .i64 0, .slice none 0 0], true⟩).put g.next (some ⟨[.int .i64 l[i].1, .int .i64 l[i].2.1, .slice dA l[i].2.2.1.length dc], true⟩) = g2 at *
  obtain ⟨xb, hxb⟩ : ∃ q, q = g.next := ⟨_, rfl⟩
  rw [← hxb] at ox ⊢
  replace oo := oo.fr f6 (fun g => g)
  have fg2 := fg.quiet f6
  refine RunC.seq (RunC.seq (RunC.region (RunO.part 1 rfl ?_)))
  refine RunO.load (v := .int .i64 l[i].1) rfl (ox.ld rfl) rfl ?_
  refine RunO.part 1 rfl ?_
  by_cases hk : l[i].1 = 1
  case neg =>
    rw [show (l[i].1 != 1) = true from bne_iff_ne.2 hk]
    refine RunO.all rfl (RunC.cond rfl (fun _ => RunC.exit ?_) (fun g => by cases g))
    refine RunC.region (RunO.all rfl ?_)
    exact ⟨d - 1, by omega, i + 1, o, Y, by omega, by omega, fg2, oo, ⟨v.skip hil (.inl hk), vn⟩, Le.cons (inc64 (by omega)) (Le.cons rfl (Le.cons rfl (Le.cons rfl (Le.cons rfl (Le.cons rfl (Le.cons rfl (Le.nil _)))))))⟩
  rw [show (l[i].1 != 1) = false from by rw [hk]; rfl]
  refine RunO.all rfl (RunC.cond rfl (fun g => by cases g) (fun _ => RunC.skip ?_))
  have hwi := hwi hk
  obtain ⟨_, ⟨a, ha, hab⟩, hd64, _⟩ := hwi
  refine RunC.seq (RunC.region (RunO.all rfl ?_))
  refine RunC.seqc (fun E' h' => g2 = h' ∧ ∃ (o : Nat) (st : Bool), o ≤ i + 1 ∧ ((st = false → ¬ (i : Int) < safe) ∧ (st = true → (i : Int) < safe ∨ 0 < keep.length)) ∧ Le ((upd (upd (upd (upd (upd (upd (upd (upd (upd (upd E0 3 (.slice kA keep.length kc)) 11 (.int .i64 safe)) 13 (.slice (some ⟨ob, 0, none⟩) L.length oc)) 14 (.int .i64 (o : Int))) 51 (.slice tA cut tc)) 52 (.int .i64 (cut : Int))) 53 (.int .i64 (i : Int))) 15 (.int .i64 (i : Int))) 16 (.pointer (some ⟨xb, 0, none⟩))) 17 (.bool st))) E') ?kp ?by2
  case kp =>
    by_cases hs : (i : Int) < safe
    · rw [decide_eq_true hs]
      refine RunC.seq (RunC.region (RunO.all rfl (RunC.cond rfl (fun g => by cases g) (fun _ => RunC.skip ?_))))
      exact ⟨rfl, o, true, by omega, ⟨(fun g => by cases g), fun _ => .inl hs⟩, Le.cons rfl (Le.cons rfl (Le.cons rfl (Le.cons rfl (Le.cons rfl (Le.cons rfl (Le.cons rfl (Le.cons rfl (Le.cons rfl (Le.cons rfl (Le.nil _))))))))))⟩
    · rw [decide_eq_false hs]
      refine RunC.seq (RunC.region (RunO.all rfl (RunC.cond rfl (fun _ => ?_) (fun g => by cases g))))
      refine RunC.seq (RunC.region (RunO.part 3 rfl ?_))
      refine RunO.part 1 rfl ?_
      by_cases hok : (o : Int) < (keep.length : Int)
      · rw [decide_eq_true hok]
        have hok : o < keep.length := by omega
        refine RunO.part 3 rfl ?_
        refine RunO.atG (s := 1) (k := o) rfl (fun _ => rfl) rfl rfl ((sk0.fr0 Fg0).fr0 f6) rfl rfl hok (bo_part hok) rfl rfl rfl ?_
        refine RunO.all rfl ?_
        refine RunC.region (RunO.part 2 rfl ?_)
        rw [fw64 (x := (o : Int) + 1) (by omega) (by omega), show (o : Int) + 1 = ((o + 1 : Nat) : Int) by omega]
        exact RunO.all rfl ⟨rfl, o + 1, _, by omega, ⟨(fun _ => hs), fun _ => .inr (by omega)⟩, Le.cons rfl (Le.cons rfl (Le.cons rfl (Le.cons rfl (Le.cons rfl (Le.cons rfl (Le.cons rfl (Le.cons rfl (Le.cons rfl (Le.cons rfl (Le.nil _))))))))))⟩
      · rw [decide_eq_false hok]
        refine RunO.all rfl ?_
        refine RunC.region (RunO.part 2 rfl ?_)
        rw [fw64 (x := (o : Int) + 1) (by omega) (by omega), show (o : Int) + 1 = ((o + 1 : Nat) : Int) by omega]
        exact RunO.all rfl ⟨rfl, o + 1, false, by omega, ⟨(fun _ => hs), (fun g => by cases g)⟩, Le.cons rfl (Le.cons rfl (Le.cons rfl (Le.cons rfl (Le.cons rfl (Le.cons rfl (Le.cons rfl (Le.cons rfl (Le.cons rfl (Le.cons rfl (Le.nil _))))))))))⟩
  rintro E' _ ⟨rfl, o2, st, ho2, hst2, hE⟩
  refine RunC.le hE ?_
  clear hE
  refine RunC.seq (RunC.region (RunO.all rfl ?_))
  cases st with
  | false =>
    refine RunC.cond rfl (fun g => by cases g) (fun _ => RunC.skip ?_)
    refine RunC.region (RunO.all rfl ?_)
    exact ⟨d - 1, by omega, i + 1, o2, Y, by omega, by omega, fg2, oo, ⟨v.skip hil (.inr (hst2.1 rfl)), vn⟩, Le.cons (inc64 (by omega)) (Le.cons rfl (Le.cons rfl (Le.cons rfl (Le.cons rfl (Le.cons rfl (Le.cons rfl (Le.nil _)))))))⟩
  | true =>
    refine RunC.cond rfl (fun _ => ?_) (fun g => by cases g)
    have sd2 := sd0.fr0 (Fg0.same f6)
    have hYl := v.len
    have hstep := v.step hil ha ⟨hk, ⟨a, ha, hab⟩, hd64, hdb⟩
    rw [ha] at ox
    refine RunC.drawT 6 (fun b => b = ob ∨ g2.next ≤ b) rfl ?_
    refine RunQ.part 2 rfl ?_
    refine RunQ.load (v := .int .i64 (a : Int)) rfl rfl (ox.ld rfl) rfl ?_
    refine RunQ.call rfl (devOf_ok (b := ob) (o := 0) (c := oc) (i := a) (l := L) hab (by omega) hoc) (fun v h1 q => by obtain ⟨_, rfl⟩ := q; exact Fr.refl _ _) rfl rfl rfl ?_
    rintro _ _ ⟨⟨c', hc', rfl⟩, rfl⟩
    refine RunQ.lo ?_
    refine RunQ.part 1 rfl ?_
    refine RunQ.load (v := .slice dA l[i].2.2.1.length dc) rfl rfl (ox.ld rfl) rfl ?_
    refine RunQ.all rfl ?_
    refine RunT.copyAt (k := 64) rfl rfl rfl rfl rfl oo sd2 (allCells_map (f := Value.int .u8) (fun _ => rfl) _) (by rw [hd64]; rfl) (by rw [us_len, hYl]; omega) rfl (.inl rfl) ?_
    intro h' oc2 f7
    refine RunT.nil ?_
    intro lw F8
    rw [us_blk hd64] at oc2
    have oc3 : Ow (h'.lo lw) ob (us (setBlk Y a l[i].2.2.1)) := oc2
    have F9 : Fr (· = ob) h3 (h'.lo lw) := fg2.trans F8 (fun b g => by rcases g with g | g; exact .inl g; have := fg2.next; exact .inr (by omega))
    generalize h'.lo lw = g4 at *
    refine RunC.region (RunO.all rfl ?_)
    exact ⟨d - 1, by omega, i + 1, o2, _, by omega, by omega, F9, oc3, ⟨hstep, fun g1 g2 => by have := hst2.2 rfl; omega⟩, Le.cons (inc64 (by omega)) (Le.cons rfl (Le.cons rfl (Le.cons rfl (Le.cons rfl (Le.cons rfl (Le.cons rfl (Le.nil _)))))))⟩
end Go.Proofs.Ytijfghknjkegpaa
end
section
set_option linter.unusedVariables false
set_option linter.unusedSectionVars false
set_option maxRecDepth 100000
open Go Go.Am Go.RowKit
namespace Go.Proofs.Ytijfghknjkegpaa
open Go.Proofs.Try

set_option maxHeartbeats 4000000 in
theorem devRead_ok {h : Heap} {v : Value} {L : List Int} {i : Nat} (sl : Sl h v 1 L.length (us L)) (hd : devOk L.length = true) (hi : i < L.length / 64) :
    RunF prog 26 [v, .int .i64 (i : Int)] h fun r h' => Fr no h h' ∧ ∃ A c, r = .tuple #[.slice A 64 c, .int .i64 0] ∧ Sl h' (.slice A 64 c) 1 64 (us (blkI L i)) := by
  have hdl : L.length % 64 = 0 ∧ 4 ≤ L.length / 64 ∧ L.length / 64 ≤ 4096 := by
    have := hd
    unfold devOk at this
    simpa using this
  have hbi : (i + 1) * 64 ≤ L.length := by omega
  obtain ⟨b, o, c, rfl, hc, rd⟩ := sl.nz (by omega)
  refine RunF.walk func26 rfl rfl ?_
  refine RunC.seq (RunC.region (RunO.all rfl ?_))
  refine RunC.seq (RunC.region (RunO.part 1 rfl ?_))
  refine RunO.callD (devCheck_ok (by omega)) rfl rfl rfl ?_
  rintro _ _ ⟨rfl, rfl⟩
  rw [hd, if_pos rfl, if_pos rfl]
  refine RunO.all rfl ?_
  refine RunC.seq (RunC.block ?_)
  refine RunC.seq (RunC.region (RunO.all rfl ?_))
  refine RunC.cond rfl (fun g => by cases g) (fun _ => ?_)
  refine RunC.seq (RunC.region ?_)
  (repeat (first | refine RunO.step rfl ?_ | refine RunO.loadG rfl rfl (Ow.ld (by assumption) (by rfl)) rfl ?_ | refine RunO.nil ?_))
  rw [decide_eq_false (show ¬ ((i : Int) < 0) by omega)]
  (repeat (first | refine RunO.step rfl ?_ | refine RunO.loadG rfl rfl (Ow.ld (by assumption) (by rfl)) rfl ?_ | refine RunO.nil ?_))
  rw [decide_eq_false (show ¬ ((i : Int) ≥ ((L.length / 64 : Nat) : Int)) by omega)]
  (repeat (first | refine RunO.step rfl ?_ | refine RunO.loadG rfl rfl (Ow.ld (by assumption) (by rfl)) rfl ?_ | refine RunO.nil ?_))
  refine RunC.cond rfl (fun g => by cases g) (fun _ => RunC.skip ?_)
  refine RunC.seq (RunC.region (RunO.part 2 rfl ?_))
  refine RunO.callD (devOf_ok (l := L) hbi (by omega) hc) rfl rfl rfl ?_
  rintro _ _ ⟨⟨c', hc', rfl⟩, rfl⟩
  have hbl := blkI_len hbi
  have sb : Sl h (.slice (some ⟨b, o + i * 64, none⟩) 64 c') 1 (blkI L i).length (us (blkI L i)) := by rw [hbl]; exact (rdBlk rd hbi).sl (by rw [us_len, hbl]) (by decide) hc'
  refine RunO.callD (clone8_ok sb (by rw [hbl]; decide)) rfl rfl rfl ?_
  rintro cv h2 ⟨oc, f2, _⟩
  have sc := oc.sl
  rw [hbl] at sc
  obtain ⟨A, c2, rfl, _, _⟩ := sc.form
  exact RunO.all rfl (RunC.ret ⟨_, rfl, f2, A, c2, rfl, sc⟩)
theorem devCrashBad_ok {h : Heap} {iv lv kv : Value} {L : List Int} {l : List IoT} {cut : Int} (si : Sl h iv 1 L.length (us L)) (hm : L.length ≤ 1000000) (il : Ios h lv l) (hl : l.length ≤ 100000) (hst : stepsE L.length l ≠ 0) :
    RunF prog 28 [iv, lv, .int .i64 cut, kv] h fun v h' => Fr no h h' ∧ v = .tuple #[.slice none 0 0, .int .i64 (stepsE L.length l)] := by
  obtain ⟨A, c, rfl, _, _⟩ := si.form
  refine RunF.walk func28 rfl rfl ?_
  refine RunC.seq (RunC.region (RunO.all rfl ?_))
  refine RunC.seq (RunC.region (RunO.part 2 rfl ?_))
  refine RunO.callD (devSteps_ok il (by omega) (by omega)) rfl rfl rfl ?_
  rintro _ h1 ⟨rfl, f1⟩
  refine RunO.all rfl ?_
  refine RunC.seq (RunC.block ?_)
  refine RunC.seq (RunC.region (RunO.all rfl ?_))
  refine RunC.cond (t := true) (congrArg (fun x => some (Value.bool x)) (bne_iff_ne.2 hst)) (fun _ => ?_) (fun g => by cases g)
  exact RunC.seq (RunC.region (RunO.all rfl (RunC.ret ⟨_, rfl, f1, rfl⟩)))
def D05 : List Int := 7 :: List.replicate 63 0
def Z05 : List Int := List.replicate 256 0
def L05 : List IoT := [((1 : Int), (3 : Int), D05, ()), ((2 : Int), (0 : Int), ([] : List Int), ())]
def X05 : List Int := applyL Z05 L05
theorem D05_byt : Byt D05 := fun x hx => by
  unfold D05 at hx
  rcases List.mem_cons.1 hx with rfl | hx
  · decide
  · exact byt_rep _ x hx
set_option maxHeartbeats 16000000 in
theorem wakes05_ok {h : Heap} : RunF prog 35 [] h fun v h' => v = .bool true ∧ Fr no h h' := by
  refine RunF.walk func35 rfl rfl ?_
  refine RunC.seq (RunC.region (RunO.all rfl ?_))
  refine RunC.seq (RunC.region ?_)
  refine RunO.make (m := 256) rfl rfl rfl rfl rfl rfl (by decide) (by decide) rfl ?_
  rw [reps_us]
  have oz := Ow.push h (us (List.replicate 256 0))
  have f1 : Fr no h (h.push ⟨us (List.replicate 256 0), true⟩) := Fr.push _ _ _
  generalize h.push ⟨us (List.replicate 256 0), true⟩ = h1 at *
  obtain ⟨q1, hq1⟩ : ∃ q, q = h.next := ⟨_, rfl⟩
  rw [← hq1] at oz ⊢
  refine RunO.all rfl ?_
  refine RunC.seq (RunC.region ?_)
  refine RunO.make (m := 64) rfl rfl rfl rfl rfl rfl (by decide) (by decide) rfl ?_
  rw [reps_us]
  have od := Ow.push h1 (us (List.replicate 64 0))
  have f2 : Fr no h1 (h1.push ⟨us (List.replicate 64 0), true⟩) := Fr.push _ _ _
  generalize h1.push ⟨us (List.replicate 64 0), true⟩ = h2 at *
  obtain ⟨q2, hq2⟩ : ∃ q, q = h1.next := ⟨_, rfl⟩
  rw [← hq2] at od ⊢
  have hz1 := oz.1
  replace oz := oz.fr f2 (fun g => g)
  refine RunO.all rfl ?_
  refine RunC.seq (RunC.region (RunO.part 1 rfl ?_))
  refine RunO.index (s := 1) (k := 0) rfl rfl rfl rfl (by decide) rfl ?_
  refine RunO.store rfl rfl (store1_ow od rfl rfl rfl (by rw [us_len, List.length_replicate]; decide)) (RunO.nil ?_)
  have e0 : (us (List.replicate 64 0)).set (0 + 0 * 1) (.int .u8 7) = us D05 := rfl
  rw [e0]
  have od3 : Ow (h2.put q2 (some ⟨us D05, true⟩)) q2 (us D05) := Ow.put _ od.1
  have f3 : Fr (· = q2) h2 (h2.put q2 (some ⟨us D05, true⟩)) := Fr.put _ (.inl rfl)
  generalize h2.put q2 (some ⟨us D05, true⟩) = h3 at *
  replace oz := oz.fr f3 (fun g => by have g : q1 = q2 := g; omega)
  have F3 : Fr no h h3 := (f1.same f2).trans f3 (fun b g => .inr (by have g : b = q2 := g; have := f1.next; omega))
  have hDl : D05.length = 64 := rfl
  have hZl : Z05.length = 256 := rfl
  refine RunC.seq (RunC.region (RunO.part 3 rfl ?_))
  refine RunO.part 1 (h1 := h3.push ⟨[.int .i64 1, .int .i64 3, .slice (some ⟨q2, 0, none⟩) 64 (exc 64), .int .i64 2, .int .i64 0, .slice none 0 0], true⟩) rfl ?_
  have ol := Ow.push h3 [.int .i64 1, .int .i64 3, .slice (some ⟨q2, 0, none⟩) 64 (exc 64), .int .i64 2, .int .i64 0, .slice none 0 0]
  have f4 : Fr no h3 (h3.push ⟨[.int .i64 1, .int .i64 3, .slice (some ⟨q2, 0, none⟩) 64 (exc 64), .int .i64 2, .int .i64 0, .slice none 0 0], true⟩) := Fr.push _ _ _
  generalize h3.push ⟨[.int .i64 1, .int .i64 3, .slice (some ⟨q2, 0, none⟩) 64 (exc 64), .int .i64 2, .int .i64 0, .slice none 0 0], true⟩ = h4 at *
  obtain ⟨q3, hq3⟩ : ∃ q, q = h3.next := ⟨_, rfl⟩
  rw [← hq3] at ol ⊢
  replace oz := oz.fr f4 (fun g => g)
  replace od3 := od3.fr f4 (fun g => g)
  refine RunO.all rfl ?_
  have sz : Sl h4 (.slice (some ⟨q1, 0, none⟩) 256 (exc 256)) 1 Z05.length (us Z05) := sl_own oz rfl (Cp.exc (Nat.le_refl _)) (by decide)
  have sd : Sl h4 (.slice (some ⟨q2, 0, none⟩) 64 (exc 64)) 1 D05.length (us D05) := sl_own od3 rfl (Cp.exc (Nat.le_refl _)) (by decide)
  have il : Ios h4 (.slice (some ⟨q3, 0, none⟩) 2 (exc 2)) L05 := ⟨_, ol.all.sl (s := 3) rfl (by decide) (Cp.exc (Nat.le_refl _)), fun j x hx => by
    match j, hx with
    | 0, hx => cases hx; exact ⟨_, rfl, sd, D05_byt⟩
    | 1, hx => cases hx; exact ⟨_, rfl, Sl.nil _ 1, fun x hx => by cases hx⟩
    | j + 2, hx => simp [L05] at hx⟩
  have hst : stepsE Z05.length L05 = 0 := by kernel_rfl
  -- Apply
  refine RunC.seq (RunC.region (RunO.part 2 rfl ?_))
  refine RunO.callD (devApply_ok sz (by decide) il (by decide)) rfl rfl rfl ?_
  rintro _ h5 ⟨f5, ⟨_, xb, xc, hxb, rfl, hxcp, ox⟩ | ⟨g, _⟩⟩
  case inr => exact absurd hst g
  refine RunO.all rfl ?_
  have hXl : X05.length = 256 := by kernel_rfl
  have ox : Ow h5 xb (us X05) := ox
  have sz5 := sz.fr0 f5
  have il5 := il.frm0 f5
  -- Crash
  refine RunC.seq (RunC.region (RunO.part 2 rfl ?_))
  refine RunO.callD (devCrashN_ok (cut := 1) (keep := []) sz5 (byt_rep _) (by decide) (by kernel_rfl) il5 hst (fun x hx h1 => by
    unfold L05 at hx
    simp only [List.mem_cons, List.not_mem_nil, or_false] at hx
    rcases hx with rfl | rfl
    · exact ⟨rfl, ⟨3, rfl, by decide⟩, rfl, D05_byt⟩
    · cases h1) (by decide) (by decide) (Sl.nil _ 1) (by decide)) rfl rfl rfl ?_
  rintro _ h6 ⟨f6, yb, yc, Y, hyb, rfl, hycp, oy, _, hyn⟩
  have hsf : (idxs (flP (L05.take 1)) 1).getLast?.getD (-1) = -1 := by kernel_rfl
  have hY : Y = Z05 := hyn rfl (by rw [hsf]; decide)
  subst hY
  refine RunO.all rfl ?_
  have ox6 := ox.fr f6 (fun g => g)
  have sx : Sl h6 (.slice (some ⟨xb, 0, none⟩) 256 xc) 1 X05.length (us X05) := by have := sl_own ox6 hXl (by rw [hZl] at hxcp; exact hxcp) (by decide); rw [hXl] at this ⊢; exact this
  -- Read
  refine RunC.seq (RunC.region (RunO.part 1 rfl ?_))
  refine RunO.callD (devRead_ok (i := 3) sx (by rw [hXl]; kernel_rfl) (by rw [hXl]; decide)) rfl rfl rfl ?_
  rintro _ h7 ⟨f7, bA, bc, rfl, sb⟩
  have hbk : blkI X05 3 = D05 := by kernel_rfl
  rw [hbk] at sb
  refine RunO.all rfl ?_
  have sz7 := (sz5.fr0 f6).fr0 f7
  have sd7 := ((sd.fr0 f5).fr0 f6).fr0 f7
  have il7 := (il5.frm0 f6).frm0 f7
  have sx7 := sx.fr0 f7
  have sy7 : Sl h7 (.slice (some ⟨yb, 0, none⟩) 256 yc) 1 Z05.length (us Z05) := by have := sl_own (oy.fr f7 (fun g => g)) rfl (by exact hycp) (by decide); exact this
  have F7 := (F3.same f4).same ((f5.same f6).same f7)
  -- Check
  refine RunC.seq (RunC.region (RunO.part 1 rfl ?_))
  refine RunO.callD (devCheck_ok (len := 256) (by decide)) rfl rfl rfl ?_
  rintro _ _ ⟨rfl, rfl⟩
  have hd4 : devOk 256 = true := by kernel_rfl
  rw [hd4, if_pos rfl, if_pos rfl]
  refine RunO.all rfl ?_
  refine RunC.seq (RunC.region ?_)
  (repeat (first | refine RunO.step rfl ?_ | refine RunO.loadG rfl rfl (Ow.ld (by assumption) (by rfl)) rfl ?_ | refine RunO.nil ?_))
  refine RunO.loadG (v := .int .u8 7) rfl rfl ((ox6.fr f7 (fun g => g)).ld (show apart prog 5 (us X05) 192 = some (.int .u8 7) by kernel_rfl)) rfl ?_
  (repeat (first | refine RunO.step rfl ?_ | refine RunO.loadG rfl rfl (Ow.ld (by assumption) (by rfl)) rfl ?_ | refine RunO.nil ?_))
  refine RunO.callDG rfl (keepBytesS_ok sy7 sz7 (by decide)) rfl rfl rfl ?_
  rintro _ _ ⟨rfl, rfl⟩
  rw [beq_self_eq_true Z05]
  (repeat (first | refine RunO.step rfl ?_ | refine RunO.loadG rfl rfl (Ow.ld (by assumption) (by rfl)) rfl ?_ | refine RunO.nil ?_))
  refine RunO.callDG rfl (keepBytesS_ok (l := D05) sb sd7 (by decide)) rfl rfl rfl ?_
  rintro _ _ ⟨rfl, rfl⟩
  rw [beq_self_eq_true D05]
  (repeat (first | refine RunO.step rfl ?_ | refine RunO.loadG rfl rfl (Ow.ld (by assumption) (by rfl)) rfl ?_ | refine RunO.nil ?_))
  refine RunO.callDG rfl (flushes_ok il7 (by decide)) rfl rfl rfl ?_
  rintro fv h8 ⟨f8, rf⟩
  have eF : idxs (flP L05) L05.length = [1] := by kernel_rfl
  rw [eF] at rf
  refine RunO.part 1 (h1 := h8.push ⟨[.int .i64 1], true⟩) rfl ?_
  have o1 := Ow.push h8 [.int .i64 1]
  have f9 : Fr no h8 (h8.push ⟨[.int .i64 1], true⟩) := Fr.push _ _ _
  have sf := (rf.sl (by decide)).fr0 f9
  generalize h8.push ⟨[.int .i64 1], true⟩ = h9 at *
  have s1 : Sl h9 (.slice (some ⟨h8.next, 0, none⟩) 1 (exc 1)) 1 [(1 : Int)].length (is [1]) := o1.all.sl (s := 1) rfl (by decide) (Cp.exc (Nat.le_refl _))
  refine RunO.callDG rfl (keepInts_ok (l := [1]) (m := [1]) sf s1 (by decide)) rfl rfl rfl ?_
  rintro _ _ ⟨rfl, rfl⟩
  rw [beq_self_eq_true [(1 : Int)]]
  exact RunO.all rfl (RunC.ret ⟨_, rfl, rfl, F7.same (f8.same f9)⟩)
end Go.Proofs.Ytijfghknjkegpaa
end
section
set_option linter.unusedVariables false
set_option linter.unusedSectionVars false
set_option maxRecDepth 100000
open Go Go.Am Go.RowKit
namespace Go.Proofs.Ytijfghknjkegpaa
open Go.Proofs.Try

def lsB (B : Nat) (k : Nat) : List IoT := (List.range k).flatMap fun i => [((1 : Int), ((i : Nat) : Int).tmod (B : Int), List.replicate 64 (0 : Int), ()), ((2 : Int), (0 : Int), ([] : List Int), ())]
theorem lsB_succ (B k : Nat) : lsB B (k + 1) = lsB B k ++ [((1 : Int), ((k : Nat) : Int).tmod (B : Int), List.replicate 64 (0 : Int), ()), ((2 : Int), (0 : Int), ([] : List Int), ())] := by
  unfold lsB
  rw [List.range_succ, List.flatMap_append]
  rfl
theorem lsB_len (B : Nat) : ∀ k, (lsB B k).length = 2 * k
  | 0 => rfl
  | k + 1 => by rw [lsB_succ, List.length_append, lsB_len B k]; show 2 * k + 2 = _; omega
theorem lsB_mem {B k : Nat} {x : IoT} (h : x ∈ lsB B k) : (∃ i : Nat, x = ((1 : Int), ((i : Nat) : Int).tmod (B : Int), List.replicate 64 (0 : Int), ())) ∨ x = ((2 : Int), (0 : Int), ([] : List Int), ()) := by
  unfold lsB at h
  obtain ⟨i, _, h⟩ := List.mem_flatMap.1 h
  simp only [List.mem_cons, List.not_mem_nil, or_false] at h
  rcases h with rfl | rfl
  · exact .inl ⟨i, rfl⟩
  · exact .inr rfl
theorem tmodB {B i : Nat} (hB : 4 ≤ B) : 0 ≤ ((i : Nat) : Int).tmod (B : Int) ∧ ((i : Nat) : Int).tmod (B : Int) < B := by
  have e : ((i : Nat) : Int).tmod (B : Int) = ((i % B : Nat) : Int) := rfl
  rw [e]
  have := Nat.mod_lt i (show 0 < B by omega)
  omega
theorem lsB_any {B k : Nat} (hB : 4 ≤ B) : (lsB B k).any (fun x => !ioR x.1 x.2.1 x.2.2.1.length (B * 64 / 64 : Nat)) = false := by
  rw [List.any_eq_false]
  intro x hx
  rw [Nat.mul_div_cancel _ (by decide)]
  rcases lsB_mem hx with ⟨i, rfl⟩ | rfl
  · have := tmodB (i := i) hB
    unfold ioR
    show ¬ (!(decide (((i : Nat) : Int).tmod (B : Int) ≥ 0) && (decide (((i : Nat) : Int).tmod (B : Int) < B) && ((((List.replicate 64 (0 : Int)).length : Nat) : Int) == 64)))) = true
    rw [decide_eq_true this.1, decide_eq_true this.2]
    decide
  · exact Bool.false_ne_true
theorem devB {B : Nat} (h4 : 4 ≤ B) (h9 : B ≤ 40) : devOk (B * 64) = true := by unfold devOk; simp; omega
theorem lsB_ok {B k : Nat} (h4 : 4 ≤ B) (h9 : B ≤ 40) (hk : k ≤ 10) : stepsE (B * 64) (lsB B k) = 0 := by
  unfold stepsE
  rw [devB h4 h9, if_pos rfl, decide_eq_false (by rw [lsB_len]; omega), if_neg Bool.false_ne_true, lsB_any h4]
  rfl
theorem lsB_bad {B k : Nat} {x : IoT} (h4 : 4 ≤ B) (h9 : B ≤ 40) (hk : k ≤ 10) (hx : ioR x.1 x.2.1 x.2.2.1.length (B : Int) = false) : stepsE (B * 64) (lsB B k ++ [x]) = 1 := by
  unfold stepsE
  have e : (lsB B k ++ [x]).any (fun x => !ioR x.1 x.2.1 x.2.2.1.length (B * 64 / 64 : Nat)) = true := by
    rw [List.any_append, Bool.or_eq_true]
    right
    rw [Nat.mul_div_cancel _ (by decide)]
    show (!ioR x.1 x.2.1 x.2.2.1.length (B : Int) || false) = true
    rw [hx]; rfl
  rw [devB h4 h9, if_pos rfl, decide_eq_false (by rw [List.length_append, lsB_len]; show ¬ ((2 * k + 1 : Nat) : Int) > _; omega), if_neg Bool.false_ne_true, e]
  rfl
theorem ap_zero {n : Nat} : ∀ (l : List IoT), (∀ x ∈ l, x.1 ≠ 1 ∨ (∃ a : Nat, x.2.1 = (a : Int) ∧ (a + 1) * 64 ≤ n) ∧ x.2.2.1 = List.replicate 64 0) → applyL (List.replicate n 0) l = List.replicate n 0
  | [], _ => rfl
  | x :: l, h => by
    have e : applyStep (List.replicate n 0) x = List.replicate n 0 := by
      unfold applyStep
      rcases h x (List.mem_cons_self ..) with g | ⟨⟨a, ha, hb⟩, hd⟩
      · rw [if_neg (by rw [beq_iff_eq]; exact g)]
      · split
        · rw [ha, Int.toNat_natCast, hd]
          unfold setBlk
          rw [List.take_replicate, List.drop_replicate, List.replicate_append_replicate, List.replicate_append_replicate]
          congr 1; omega
        · rfl
    show applyL (applyStep (List.replicate n 0) x) l = _
    rw [e]
    exact ap_zero l (fun y hy => h y (List.mem_cons_of_mem _ hy))
theorem lsB_ap {B k : Nat} (h4 : 4 ≤ B) : applyL (List.replicate (B * 64) 0) (lsB B k) = List.replicate (B * 64) 0 := by
  refine ap_zero _ (fun x hx => ?_)
  rcases lsB_mem hx with ⟨i, rfl⟩ | rfl
  · right
    obtain ⟨h1, h2⟩ := tmodB (i := i) h4
    obtain ⟨a, ha⟩ := Int.eq_ofNat_of_zero_le h1
    rw [ha] at h2
    exact ⟨⟨a, ha, by omega⟩, rfl⟩
  · left; decide
def xs7 (B : Nat) : List IoT := [((1 : Int), (B : Int), List.replicate 64 0, ()), ((1 : Int), (-1 : Int), List.replicate 64 0, ()), ((1 : Int), (0 : Int), List.replicate 63 0, ()), ((2 : Int), (1 : Int), [], ()), ((2 : Int), (0 : Int), [1], ()), ((0 : Int), (0 : Int), [], ()), ((3 : Int), (0 : Int), [], ())]
theorem xs7_bad {B : Nat} : ∀ x ∈ xs7 B, ioR x.1 x.2.1 x.2.2.1.length (B : Int) = false := by
  intro x hx
  unfold xs7 at hx
  simp only [List.mem_cons, List.not_mem_nil, or_false] at hx
  rcases hx with rfl | rfl | rfl | rfl | rfl | rfl | rfl
  · show (decide ((B : Int) ≥ 0) && (decide ((B : Int) < B) && ((((List.replicate 64 (0 : Int)).length : Nat) : Int) == 64))) = false
    rw [decide_eq_false (show ¬ ((B : Int) < B) by omega), Bool.false_and, Bool.and_false]
  · rfl
  · show (decide ((0 : Int) ≥ 0) && (decide ((0 : Int) < B) && ((((List.replicate 63 (0 : Int)).length : Nat) : Int) == 64))) = false
    rw [show ((((List.replicate 63 (0 : Int)).length : Nat) : Int) == 64) = false from by decide, Bool.and_false, Bool.and_false]
  · rfl
  · rfl
  · rfl
  · rfl
theorem xs7_dat {B : Nat} : ∀ x ∈ xs7 B, x.2.2.1.length ≤ 300 := by
  intro x hx
  unfold xs7 at hx
  simp only [List.mem_cons, List.not_mem_nil, or_false] at hx
  rcases hx with rfl | rfl | rfl | rfl | rfl | rfl | rfl <;> exact Nat.le_of_ble_eq_true rfl
set_option maxHeartbeats 32000000 in
theorem devBad_true : ∀ h xs avs, ArgsK [.int .i64, .int .i64, .int .i64] h xs avs → RunF prog 10 avs h fun v _ => v = .bool true := by
  intro h xs avs ha
  obtain ⟨b_, _, _, rfl, _, ha⟩ := argInt ha
  obtain ⟨n_, _, _, rfl, _, ha⟩ := argInt ha
  obtain ⟨how, _, _, rfl, _, ha⟩ := argInt ha
  obtain rfl := argNil ha
  refine RunF.walk func10 rfl rfl ?_
  refine RunC.seq (RunC.region (RunO.all rfl ?_))
  obtain ⟨hb0, hb1⟩ := modU b_ 30 (by decide)
  obtain ⟨B, hB⟩ := Int.eq_ofNat_of_zero_le hb0
  obtain ⟨hs0, hs1⟩ := modU n_ 10 (by decide)
  obtain ⟨N, hN⟩ := Int.eq_ofNat_of_zero_le hs0
  refine RunC.seq (RunC.region (RunO.part 2 rfl ?_))
  rw [fwu64']
  refine RunO.part 1 rfl ?_
  rw [hB]
  refine RunO.part 1 rfl ?_
  rw [fw64 (x := (B : Int)) (by omega) (by omega)]
  refine RunO.part 1 rfl ?_
  rw [fw64 (x := 4 + (B : Int)) (by omega) (by omega), show 4 + (B : Int) = ((4 + B : Nat) : Int) by omega]
  refine RunO.part 2 rfl ?_
  rw [fwu64']
  refine RunO.part 1 rfl ?_
  rw [hN]
  refine RunO.part 1 rfl ?_
  rw [fw64 (x := (N : Int)) (by omega) (by omega)]
  refine RunO.all rfl ?_
  have hB4 : 4 ≤ 4 + B := by omega
  have hB9 : 4 + B ≤ 40 := by omega
  have hN9 : N ≤ 10 := by omega
  generalize 4 + B = B at *
  clear hb0 hb1 hs0 hs1 hB hN
  -- the device
  refine RunC.seq (RunC.region (RunO.part 2 rfl ?_))
  rw [fw64 (x := (B : Int) * 64) (by omega) (by omega), show (B : Int) * 64 = ((B * 64 : Nat) : Int) by omega]
  refine RunO.make (m := B * 64) rfl rfl rfl rfl rfl rfl (by show 1 * (B * 64) ≤ _; omega) (by omega) rfl ?_
  rw [reps_us]
  have oi := Ow.push h (us (List.replicate (B * 64) 0))
  have f1 : Fr no h (h.push ⟨us (List.replicate (B * 64) 0), true⟩) := Fr.push _ _ _
  generalize h.push ⟨us (List.replicate (B * 64) 0), true⟩ = h1 at *
  obtain ⟨qi, hqi⟩ : ∃ q, q = h.next := ⟨_, rfl⟩
  rw [← hqi] at oi ⊢
  refine RunO.all rfl ?_
  have hil : (List.replicate (B * 64) (0 : Int)).length = B * 64 := List.length_replicate
  have si : Sl h1 (.slice (some ⟨qi, 0, none⟩) (B * 64) (exc (B * 64))) 1 (List.replicate (B * 64) (0 : Int)).length (us (List.replicate (B * 64) 0)) := sl_own oi hil (Cp.exc (Nat.le_refl _)) (by omega)
  refine RunC.seq (RunC.region (RunO.all rfl ?_))
  -- good steps
  refine RunC.seqc (fun E' h' => ∃ lv, Fr no h1 h' ∧ IoW h1.next h' lv (lsB B N) ∧ Le ((upd (upd (upd (upd E0 0 (.int .i64 (B : Int))) 2 (.int .i64 how)) 7 (.slice (some ⟨qi, 0, none⟩) (B * 64) (exc (B * 64)))) 8 (lv))) E') ?lp ?nx
  case lp =>
    refine RunC.seq (RunC.region (RunO.all rfl ?_))
    refine RunC.block ?_
    refine RunC.loop (fun d E h' => ∃ (i : Nat) (lv : Value), i + d = N ∧ Fr no h1 h' ∧ IoW h1.next h' lv (lsB B i) ∧ Le ((upd (upd (upd (upd (upd (upd E0 0 (.int .i64 (B : Int))) 1 (.int .i64 (N : Int))) 2 (.int .i64 how)) 7 (.slice (some ⟨qi, 0, none⟩) (B * 64) (exc (B * 64)))) 8 (lv)) 9 (.int .i64 (i : Int)))) E) ?st (k := N) ?ini
    case ini => exact ⟨0, .slice none 0 0, by omega, Fr.refl _ _, IoW.nil _ _, Le.cons rfl (Le.cons rfl (Le.cons rfl (Le.cons rfl (Le.cons rfl (Le.cons rfl (Le.nil _))))))⟩
    rintro d E g ⟨i, lv, hi, fg, ios, hE⟩
    refine RunC.le hE ?_
    clear hE
    refine RunC.seq (RunC.seq (RunC.region (RunO.all rfl ?_)))
    refine RunC.cond rfl (fun hlt => RunC.skip ?go) (fun hge => RunC.exit ?ex)
    case ex =>
      have hge := of_decide_eq_false hge
      obtain rfl : i = N := by omega
      exact ⟨lv, fg, ios, Le.cons rfl (Le.cons rfl (Le.cons rfl (Le.cons rfl (Le.nil _))))⟩
    have hlt := of_decide_eq_true hlt
    have hlv1 := fun b gg => (ios.at (b := b) gg).2
    have hlv0 := fun b gg => (ios.at (b := b) gg).1
    have hll := lsB_len B i
    refine RunC.seq (RunC.block ?_)
    refine RunC.draw0 rfl (RunO.part 3 rfl ?_)
    refine RunO.one (v := .int .i64 (((i : Nat) : Int).tmod (B : Int))) (h1 := g) rfl (by
      show pureR g (cond (decide ((B : Int) = 0)) none (some (Value.int .i64 (((i : Nat) : Int).tmod (B : Int))))) = _
      rw [decide_eq_false (by omega)]; rfl) rfl ?_
    refine RunO.make (m := 64) rfl rfl rfl rfl rfl rfl (Nat.le_of_ble_eq_true rfl) (by decide) rfl ?_
    rw [reps_us]
    have os1 := Ow.push g (us (List.replicate 64 0))
    have fs1 : Fr no g (g.push ⟨us (List.replicate 64 0), true⟩) := Fr.push _ _ _
    generalize g.push ⟨us (List.replicate 64 0), true⟩ = g2 at *
    obtain ⟨s1, hs1⟩ : ∃ q, q = g.next := ⟨_, rfl⟩
    rw [← hs1] at os1 ⊢

    have hs1 := os1.1
    have ios2 := ios.fr0 fs1
    refine RunO.part 2 rfl ?_
    refine RunO.part 1 (h1 := g2.push ⟨[.int .i64 1, .int .i64 (((i : Nat) : Int).tmod (B : Int)), .slice (some ⟨s1, 0, none⟩) 64 (exc 64), .int .i64 2, .int .i64 0, .slice none 0 0], true⟩) rfl ?_
    have ot := Ow.push g2 [.int .i64 1, .int .i64 (((i : Nat) : Int).tmod (B : Int)), .slice (some ⟨s1, 0, none⟩) 64 (exc 64), .int .i64 2, .int .i64 0, .slice none 0 0]
    have f3 : Fr no g2 (g2.push ⟨[.int .i64 1, .int .i64 (((i : Nat) : Int).tmod (B : Int)), .slice (some ⟨s1, 0, none⟩) 64 (exc 64), .int .i64 2, .int .i64 0, .slice none 0 0], true⟩) := Fr.push _ _ _
    have ios3 := ios2.fr0 f3
    have os3 := os1.fr f3 (fun g => g)
    generalize g2.push ⟨[.int .i64 1, .int .i64 (((i : Nat) : Int).tmod (B : Int)), .slice (some ⟨s1, 0, none⟩) 64 (exc 64), .int .i64 2, .int .i64 0, .slice none 0 0], true⟩ = g3 at *
    have F3 := (fg.same fs1).same f3
    obtain ⟨bcs, row, kk⟩ := ios3
    refine RunO.appendG (s := 3) (j := 2) rfl rfl rfl rfl rfl rfl rfl rfl (by decide) row.gr ot.all rfl (by decide) rfl (by show 2 * (_ + 2) * 40 ≤ _; omega) (by omega) ?_
    intro lv2 g4 row2 f4
    have sd : Sl g3 (.slice (some ⟨s1, 0, none⟩) 64 (exc 64)) 1 (List.replicate 64 (0 : Int)).length (us (List.replicate 64 0)) := sl_own os3 rfl (Cp.exc (Nat.le_refl _)) (by decide)
    have fin := IoW.app (ys := [((1 : Int), ((i : Nat) : Int).tmod (B : Int), List.replicate 64 (0 : Int), ()), ((2 : Int), (0 : Int), ([] : List Int), ())]) row kk rfl (fun j y hy => by
      match j, hy with
      | 0, hy => cases hy; exact ⟨_, rfl, sd, byt_rep _, fun b o c e a => by injection e with e1; injection e1 with e1; injection e1 with e1; have := hlv1 b a; omega⟩
      | 1, hy => cases hy; exact ⟨_, rfl, Sl.nil _ 1, (fun x hx => by cases hx), (fun b o c e => by cases e)⟩
      | j + 2, hy => simp at hy) row2 f4 F3.next
    rw [← lsB_succ] at fin
    refine RunO.all rfl ?_
    refine RunC.region (RunO.all rfl ?_)
    exact ⟨d - 1, by omega, i + 1, lv2, by omega, F3.trans f4 (fun b gg => .inr (hlv0 b gg)), fin, Le.cons (inc64 (by omega)) (Le.cons rfl (Le.cons rfl (Le.cons rfl (Le.cons rfl (Le.cons rfl (Le.nil _))))))⟩
  rintro E' h2 ⟨lv, f2, iw, hE⟩
  refine RunC.le hE ?_
  clear hE
  have hll := lsB_len B N
  have il := iw.ios (by omega)
  obtain ⟨lA, lc, rfl⟩ : ∃ lA lc, lv = .slice lA (lsB B N).length lc := by
    obtain ⟨_, t_, _⟩ := il
    obtain ⟨tA, tc, rfl, _, _⟩ := t_.form
    exact ⟨tA, tc, rfl⟩
  clear iw
  have ldat : ∀ x ∈ lsB B N, x.2.2.1.length ≤ 300 := fun x hx => by
    rcases lsB_mem hx with ⟨i, rfl⟩ | rfl <;> exact Nat.le_of_ble_eq_true rfl
  -- the bad one
  refine RunC.seqc (fun E' h' => ∃ (x : IoT) (dA : Option Addr) (dc p : Nat), Fr no h2 h' ∧ Ow h' p [.int .i64 x.1, .int .i64 x.2.1, .slice dA x.2.2.1.length dc] ∧ Sl h' (.slice dA x.2.2.1.length dc) 1 x.2.2.1.length (us x.2.2.1) ∧ Byt x.2.2.1 ∧ ioR x.1 x.2.1 x.2.2.1.length (B : Int) = false ∧ x.2.2.1.length ≤ 300 ∧ Le ((upd (upd (upd (upd E0 2 (.int .i64 how)) 7 (.slice (some ⟨qi, 0, none⟩) (B * 64) (exc (B * 64)))) 8 (.slice lA (lsB B N).length lc)) 10 (.pointer (some ⟨p, 0, none⟩)))) E') ?xb ?nx2
  case xb =>
    refine RunC.draw0 rfl (RunO.part 1 rfl ?_)
    refine RunO.make (m := 64) rfl rfl rfl rfl rfl rfl (Nat.le_of_ble_eq_true rfl) (by decide) rfl ?_
    rw [reps_us]
    have os1 := Ow.push h2 (us (List.replicate 64 0))
    have fs1 : Fr no h2 (h2.push ⟨us (List.replicate 64 0), true⟩) := Fr.push _ _ _
    generalize h2.push ⟨us (List.replicate 64 0), true⟩ = g1 at *
    obtain ⟨s1, hs1⟩ : ∃ q, q = h2.next := ⟨_, rfl⟩
    rw [← hs1] at os1 ⊢
    refine RunO.part 1 rfl ?_
    refine RunO.make (m := 64) rfl rfl rfl rfl rfl rfl (Nat.le_of_ble_eq_true rfl) (by decide) rfl ?_
    rw [reps_us]
    have os2 := Ow.push g1 (us (List.replicate 64 0))
    have fs2 : Fr no g1 (g1.push ⟨us (List.replicate 64 0), true⟩) := Fr.push _ _ _
    generalize g1.push ⟨us (List.replicate 64 0), true⟩ = g2 at *
    obtain ⟨s2, hs2⟩ : ∃ q, q = g1.next := ⟨_, rfl⟩
    rw [← hs2] at os2 ⊢
    refine RunO.part 1 rfl ?_
    refine RunO.make (m := 63) rfl rfl rfl rfl rfl rfl (Nat.le_of_ble_eq_true rfl) (by decide) rfl ?_
    rw [reps_us]
    have os3 := Ow.push g2 (us (List.replicate 63 0))
    have fs3 : Fr no g2 (g2.push ⟨us (List.replicate 63 0), true⟩) := Fr.push _ _ _
    generalize g2.push ⟨us (List.replicate 63 0), true⟩ = g3 at *
    obtain ⟨s3, hs3⟩ : ∃ q, q = g2.next := ⟨_, rfl⟩
    rw [← hs3] at os3 ⊢
    refine RunO.part 2 rfl ?_
    refine RunO.part 1 (h1 := g3.push ⟨[.int .u8 1], true⟩) rfl ?_
    have os5 := Ow.push g3 [.int .u8 1]
    have fs5 : Fr no g3 (g3.push ⟨[.int .u8 1], true⟩) := Fr.push _ _ _
    generalize g3.push ⟨[.int .u8 1], true⟩ = g4 at *
    obtain ⟨s5, hs5⟩ : ∃ q, q = g3.next := ⟨_, rfl⟩
    rw [← hs5] at os5 ⊢
    refine RunO.part 3 rfl ?_
    refine RunO.part 1 (h1 := g4.push ⟨[.int .i64 1, .int .i64 (B : Int), .slice (some ⟨s1, 0, none⟩) 64 (exc 64), .int .i64 1, .int .i64 (-1), .slice (some ⟨s2, 0, none⟩) 64 (exc 64), .int .i64 1, .int .i64 0, .slice (some ⟨s3, 0, none⟩) 63 (exc 63), .int .i64 2, .int .i64 1, .slice none 0 0, .int .i64 2, .int .i64 0, .slice (some ⟨s5, 0, none⟩) 1 (exc 1), .int .i64 0, .int .i64 0, .slice none 0 0, .int .i64 3, .int .i64 0, .slice none 0 0], true⟩) rfl ?_
    have ot := Ow.push g4 [.int .i64 1, .int .i64 (B : Int), .slice (some ⟨s1, 0, none⟩) 64 (exc 64), .int .i64 1, .int .i64 (-1), .slice (some ⟨s2, 0, none⟩) 64 (exc 64), .int .i64 1, .int .i64 0, .slice (some ⟨s3, 0, none⟩) 63 (exc 63), .int .i64 2, .int .i64 1, .slice none 0 0, .int .i64 2, .int .i64 0, .slice (some ⟨s5, 0, none⟩) 1 (exc 1), .int .i64 0, .int .i64 0, .slice none 0 0, .int .i64 3, .int .i64 0, .slice none 0 0]
    have f6 : Fr no g4 (g4.push ⟨[.int .i64 1, .int .i64 (B : Int), .slice (some ⟨s1, 0, none⟩) 64 (exc 64), .int .i64 1, .int .i64 (-1), .slice (some ⟨s2, 0, none⟩) 64 (exc 64), .int .i64 1, .int .i64 0, .slice (some ⟨s3, 0, none⟩) 63 (exc 63), .int .i64 2, .int .i64 1, .slice none 0 0, .int .i64 2, .int .i64 0, .slice (some ⟨s5, 0, none⟩) 1 (exc 1), .int .i64 0, .int .i64 0, .slice none 0 0, .int .i64 3, .int .i64 0, .slice none 0 0], true⟩) := Fr.push _ _ _
    generalize g4.push ⟨[.int .i64 1, .int .i64 (B : Int), .slice (some ⟨s1, 0, none⟩) 64 (exc 64), .int .i64 1, .int .i64 (-1), .slice (some ⟨s2, 0, none⟩) 64 (exc 64), .int .i64 1, .int .i64 0, .slice (some ⟨s3, 0, none⟩) 63 (exc 63), .int .i64 2, .int .i64 1, .slice none 0 0, .int .i64 2, .int .i64 0, .slice (some ⟨s5, 0, none⟩) 1 (exc 1), .int .i64 0, .int .i64 0, .slice none 0 0, .int .i64 3, .int .i64 0, .slice none 0 0], true⟩ = g5 at *
    generalize g4.next = tq at *
    have o1 := (((os1.fr fs2 (fun g => g)).fr fs3 (fun g => g)).fr fs5 (fun g => g)).fr f6 (fun g => g)
    have o2 := ((os2.fr fs3 (fun g => g)).fr fs5 (fun g => g)).fr f6 (fun g => g)
    have o3 := (os3.fr fs5 (fun g => g)).fr f6 (fun g => g)
    have o5 := os5.fr f6 (fun g => g)
    have il7 : Ios g5 (.slice (some ⟨tq, 0, none⟩) 7 (exc 7)) (xs7 B) := ⟨_, ot.all.sl (s := 3) rfl (by decide) (Cp.exc (Nat.le_refl _)), fun j x hx => by
      match j, hx with
      | 0, hx => cases hx; exact ⟨_, rfl, sl_own o1 rfl (Cp.exc (Nat.le_refl _)) (by decide), byt_rep _⟩
      | 1, hx => cases hx; exact ⟨_, rfl, sl_own o2 rfl (Cp.exc (Nat.le_refl _)) (by decide), byt_rep _⟩
      | 2, hx => cases hx; exact ⟨_, rfl, sl_own o3 rfl (Cp.exc (Nat.le_refl _)) (by decide), byt_rep _⟩
      | 3, hx => cases hx; exact ⟨_, rfl, Sl.nil _ 1, fun x hx => by cases hx⟩
      | 4, hx => cases hx; exact ⟨_, rfl, sl_own (l := [1]) o5 rfl (Cp.exc (Nat.le_refl _)) (by decide), fun x hx => by rw [List.mem_singleton.1 hx]; decide⟩
      | 5, hx => cases hx; exact ⟨_, rfl, Sl.nil _ 1, fun x hx => by cases hx⟩
      | 6, hx => cases hx; exact ⟨_, rfl, Sl.nil _ 1, fun x hx => by cases hx⟩
      | j + 7, hx => simp [xs7] at hx⟩
    have F5 := ((fs1.same fs2).same fs3).same (fs5.same f6)
    obtain ⟨acs, sl7, kk⟩ := il7
    obtain ⟨hk0, hk1⟩ := modU how 7 (by decide)
    obtain ⟨k, hk⟩ := Int.eq_ofNat_of_zero_le hk0
    have hk7 : k < (xs7 B).length := by show k < 7; omega
    have hbad := xs7_bad (B := B) _ (List.getElem_mem hk7)
    have hdat := xs7_dat (B := B) _ (List.getElem_mem hk7)
    obtain ⟨dv, e, sd, hb⟩ := kk k _ (List.getElem?_eq_getElem hk7)
    obtain ⟨dA, dc, rfl, _, _⟩ := sd.form
    have hpt := io_part (n := 7) sl7.1 hk7
    rw [e] at hpt
    generalize (xs7 B)[k] = x at *
    refine RunO.part 2 rfl ?_
    rw [fwu64']
    refine RunO.part 1 rfl ?_
    rw [hk]
    refine RunO.part 1 rfl ?_
    rw [fw64 (x := (k : Int)) (by omega) (by omega)]
    refine RunO.at (s := 3) (k := k) rfl rfl sl7 rfl rfl hk7 hpt rfl rfl rfl ?_
    refine RunO.part 1 (h1 := g5.push ⟨[.int .i64 0, .int .i64 0, .slice none 0 0], true⟩) rfl ?_
    have oz := Ow.push g5 [.int .i64 0, .int .i64 0, .slice none 0 0]
    have f7 : Fr no g5 (g5.push ⟨[.int .i64 0, .int .i64 0, .slice none 0 0], true⟩) := Fr.push _ _ _
    generalize g5.push ⟨[.int .i64 0, .int .i64 0, .slice none 0 0], true⟩ = g6 at *
    obtain ⟨p, hp⟩ : ∃ q, q = g5.next := ⟨_, rfl⟩
    rw [← hp] at oz ⊢
    refine RunO.store rfl rfl (store_ow (s := 3) oz rfl rfl rfl (Nat.le_refl 3)) (RunO.nil ?_)
    have ox : Ow (g6.put p (some ⟨[.int .i64 x.1, .int .i64 x.2.1, .slice dA x.2.2.1.length dc], true⟩)) p [.int .i64 x.1, .int .i64 x.2.1, .slice dA x.2.2.1.length dc] := Ow.put _ oz.1
    have f8 : Fr (· = p) g6 (g6.put p (some ⟨[.int .i64 x.1, .int .i64 x.2.1, .slice dA x.2.2.1.length dc], true⟩)) := Fr.put _ (.inl rfl)
    have F8 := (F5.same f7).trans f8 (fun b g => .inr (by have g : b = p := g; have := F5.next; omega))
    refine ⟨x, dA, dc, p, F8, ox, ?_, hb, hbad, hdat, Le.cons rfl (Le.cons rfl (Le.cons rfl (Le.cons rfl (Le.nil _))))⟩
    exact (sd.fr0 f7).frm (fun b o c e g => by have := sd.lt b o c e; have g : b = p := g; omega) f8
  rintro E' h3 ⟨x, dA, dc, p, f3, ox, sd, hb, hbad, hdat, hE⟩
  refine RunC.le hE ?_
  clear hE
  have F13 := f2.same f3
  have il3 := il.frm0 f3
  -- behind the good ones
  refine RunC.seqc (fun E' h' => ∃ bv, Fr no h3 h' ∧ IoW h3.next h' bv (lsB B N ++ [x]) ∧ Le ((upd (upd (upd (upd E0 2 (.int .i64 how)) 7 (.slice (some ⟨qi, 0, none⟩) (B * 64) (exc (B * 64)))) 8 (.slice lA (lsB B N).length lc)) 11 (bv))) E') ?ap ?nx3
  case ap =>
    refine RunC.drawT 3 (fun b => h3.next ≤ b) rfl ?_
    refine RunQ.part 1 rfl ?_
    refine RunQ.call rfl (twinIos_ok (h := h3.lo h3.next) (show Ios h3 _ _ from il3) (by omega) ldat) (fun v h1 q => q.1) rfl rfl rfl ?_
    rintro tv g1 ⟨f4, iw⟩
    have f4 : Fr no h3 g1 := ⟨f4.next, f4.get, fun l a b c => f4.low l b b c⟩
    have iw : IoW h3.next g1 tv (lsB B N) := iw
    refine RunQ.load (v := .agg ⟨[.int .i64 x.1, .int .i64 x.2.1, .slice dA x.2.2.1.length dc]⟩) rfl rfl ((ox.fr f4 (fun g => g)).ld rfl) rfl ?_
    refine RunQ.nil ?_
    refine RunT.new (ob := ⟨[.int .i64 x.1, .int .i64 x.2.1, .slice dA x.2.2.1.length dc], true⟩) rfl rfl (fun _ => rfl) rfl ?_
    have ot := Ow.push g1 [.int .i64 x.1, .int .i64 x.2.1, .slice dA x.2.2.1.length dc]
    have f5 : Fr no g1 (g1.push ⟨[.int .i64 x.1, .int .i64 x.2.1, .slice dA x.2.2.1.length dc], true⟩) := Fr.push _ _ _
    have iw5 := iw.fr0 f5
    have sd5 := (sd.fr0 f4).fr0 f5
    have hat := fun b gg => (iw.at (b := b) gg).1
    generalize g1.push ⟨[.int .i64 x.1, .int .i64 x.2.1, .slice dA x.2.2.1.length dc], true⟩ = g2 at *
    obtain ⟨bcs, row, kk⟩ := iw5
    refine RunT.appendG (s := 3) (j := 1) rfl rfl rfl rfl rfl rfl rfl rfl rfl (by decide) row.gr ot.all rfl (Nat.le_refl 1) rfl (by show 2 * (_ + 1) * 40 ≤ _; omega) (by omega) (fun b g => hat b g) ?_
    intro bv g3 row2 f6
    have F5 := f4.same f5
    have fin := IoW.app (ys := [x]) row kk rfl (fun j y hy => by
      match j, hy with
      | 0, hy => cases hy; exact ⟨_, rfl, sd5, hb, fun b o c e a => by have := sd.lt b o c e; have := hat b a; omega⟩
      | j + 1, hy => simp at hy) row2 f6 F5.next
    refine RunT.pure rfl rfl (fun _ => rfl) rfl ?_
    refine RunT.nil ?_
    intro lw F10
    have fin2 : IoW h3.next (g3.lo lw) bv (lsB B N ++ [x]) := fin
    have F11 : Fr no h3 (g3.lo lw) := (Fr.refl no h3).trans F10 (fun b g => .inr g)
    exact ⟨bv, F11, fin2, Le.cons rfl (Le.cons rfl (Le.cons rfl (Le.cons rfl (Le.nil _))))⟩
  rintro E' h4 ⟨bv, f4, iw4, hE⟩
  refine RunC.le hE ?_
  clear hE
  have hbl : (lsB B N ++ [x]).length = 2 * N + 1 := by rw [List.length_append, hll]; rfl
  have ib := iw4.ios (by omega)
  obtain ⟨bA, bc, rfl⟩ : ∃ lA lc, bv = .slice lA (lsB B N ++ [x]).length lc := by
    obtain ⟨_, t_, _⟩ := ib
    obtain ⟨tA, tc, rfl, _, _⟩ := t_.form
    exact ⟨tA, tc, rfl⟩
  have hst1 : stepsE (List.replicate (B * 64) (0 : Int)).length (lsB B N ++ [x]) = 1 := by rw [hil]; exact lsB_bad hB4 hB9 hN9 hbad
  have hst0 : stepsE (List.replicate (B * 64) (0 : Int)).length (lsB B N) = 0 := by rw [hil]; exact lsB_ok hB4 hB9 hN9
  have F14 := F13.same f4
  have si4 := si.fr0 F14
  have il4 := il3.frm0 f4
  refine RunC.seq (RunC.region (RunO.part 2 rfl ?_))
  refine RunO.callD (devApply_ok si4 (by rw [hil]; omega) ib (by omega)) rfl rfl rfl ?_
  rintro _ h5 ⟨f5, ⟨g, _⟩ | ⟨_, rfl⟩⟩
  · rw [hst1] at g; cases g
  rw [hst1]
  refine RunO.all rfl ?_
  have si5 := si4.fr0 f5
  have ib5 := ib.frm0 f5
  refine RunC.seq (RunC.region (RunO.part 2 rfl ?_))
  refine RunO.callD (devCrashBad_ok si5 (by rw [hil]; omega) ib5 (by omega) (by rw [hst1]; decide)) rfl rfl rfl ?_
  rintro _ h6 ⟨f6, rfl⟩
  rw [hst1]
  refine RunO.all rfl ?_
  have si6 := si5.fr0 f6
  have il6 := (il4.frm0 f5).frm0 f6
  refine RunC.seq (RunC.region (RunO.part 2 rfl ?_))
  refine RunO.callD (devApply_ok si6 (by rw [hil]; omega) il6 (by omega)) rfl rfl rfl ?_
  rintro _ h7 ⟨f7, ⟨_, wb, wc, hwb, rfl, hwcp, ow⟩ | ⟨g, _⟩⟩
  case inr => exact absurd hst0 g
  rw [lsB_ap hB4] at ow
  rw [hil]
  refine RunO.all rfl ?_
  have si7 := si6.fr0 f7
  have ib7 := (ib5.frm0 f6).frm0 f7
  have il7 := il6.frm0 f7
  rw [hil] at hwcp
  have sw7 : Sl h7 (.slice (some ⟨wb, 0, none⟩) (B * 64) wc) 1 (List.replicate (B * 64) (0 : Int)).length (us (List.replicate (B * 64) 0)) := sl_own ow hil hwcp (by omega)
  have hisl : Sl h7 (.slice (some ⟨qi, 0, none⟩) (B * 64) (exc (B * 64))) 1 (B * 64) (us (List.replicate (B * 64) 0)) := by rw [hil] at si7; exact si7
  refine RunC.seq (RunC.region (RunO.part 1 rfl ?_))
  refine RunO.sliceSl (s := 1) (k := 1) (m := B * 64) rfl rfl rfl rfl rfl hisl (.some _ _ _) (.none _) (by omega) (Nat.le_refl _) rfl ?_
  intro v1 s1
  obtain ⟨A1, c1, rfl, _, _⟩ := s1.form
  refine RunO.callD (devCheck_ok (len := B * 64 - 1) (by omega)) rfl rfl rfl ?_
  rintro _ _ ⟨rfl, rfl⟩
  rw [show devOk (B * 64 - 1) = false by unfold devOk; simp; omega, if_neg Bool.false_ne_true, if_neg Bool.false_ne_true]
  refine RunO.all rfl ?_
  refine RunC.seq (RunC.region (RunO.part 1 rfl ?_))
  refine RunO.sliceSl (s := 1) (k := 0) (m := 192) rfl rfl rfl rfl rfl hisl (.none _) (.some _ _ _) (Nat.zero_le _) (by omega) rfl ?_
  intro v2 s2
  obtain ⟨A2, c2, rfl, _, _⟩ := s2.form
  refine RunO.callD (devCheck_ok (len := 192 - 0) (by decide)) rfl rfl rfl ?_
  rintro _ _ ⟨rfl, rfl⟩
  rw [show devOk (192 - 0) = false by kernel_rfl, if_neg Bool.false_ne_true, if_neg Bool.false_ne_true]
  refine RunO.all rfl ?_
  refine RunC.seq (RunC.region (RunO.part 2 rfl ?_))
  have hS0 := devSteps_ok (A := some ⟨qi, 0, none⟩) (c := exc (B * 64)) (n := B * 64) il7 (by omega) (by omega)
  rw [lsB_ok hB4 hB9 hN9] at hS0
  refine RunO.callD hS0 rfl rfl rfl ?_
  rintro _ h8 ⟨rfl, f8⟩
  (repeat (first | refine RunO.step rfl ?_ | refine RunO.loadG rfl rfl (Ow.ld (by assumption) (by rfl)) rfl ?_ | refine RunO.nil ?_))
  have hS1 := devSteps_ok (A := some ⟨qi, 0, none⟩) (c := exc (B * 64)) (n := B * 64) (ib7.frm0 f8) (by omega) (by omega)
  rw [lsB_bad hB4 hB9 hN9 hbad] at hS1
  refine RunO.callDG rfl hS1 rfl rfl rfl ?_
  rintro _ h9 ⟨rfl, f9⟩
  (repeat (first | refine RunO.step rfl ?_ | refine RunO.loadG rfl rfl (Ow.ld (by assumption) (by rfl)) rfl ?_ | refine RunO.nil ?_))
  refine RunO.callDG rfl (keepBytesS_ok ((sw7.fr0 f8).fr0 f9) ((si7.fr0 f8).fr0 f9) (by rw [hil]; omega)) rfl rfl rfl ?_
  rintro _ _ ⟨rfl, rfl⟩
  rw [beq_self_eq_true (List.replicate (B * 64) (0 : Int))]
  (repeat (first | refine RunO.step rfl ?_ | refine RunO.loadG rfl rfl (Ow.ld (by assumption) (by rfl)) rfl ?_ | refine RunO.nil ?_))
  refine RunO.callDG rfl wakes05_ok rfl rfl rfl ?_
  rintro _ h99 ⟨rfl, f99⟩
  exact RunO.all rfl (RunC.ret ⟨_, rfl, rfl⟩)
end Go.Proofs.Ytijfghknjkegpaa
end
