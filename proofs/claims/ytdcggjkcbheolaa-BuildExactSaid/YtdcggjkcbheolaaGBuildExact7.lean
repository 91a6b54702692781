/- BuildExact: a calculus over an abstract machine that stands beside the model, and contracts of functions by it (part 7).
Conditions: what each theorem says of its arguments. -/
import Derived.Test.YtdcggjkcbheolaaGBuildExact6
section
set_option linter.unusedVariables false
set_option linter.unusedSectionVars false
set_option maxRecDepth 100000
open Go Go.Am Go.RowKit
namespace Go.Proofs.Ytdcggjkcbheolaa
open Go.Proofs.Try

theorem io_fld {acs : List Value} {i j : Nat} {x : IoT} {dv : Value} (h : (acs.drop (i * 3)).take 3 = [.int .i64 x.1, .int .i64 x.2.1, dv]) (hj : j < 3) : nth acs (i * 3 + j) = some (([.int .i64 x.1, .int .i64 x.2.1, dv] : List Value).getD j undef) := by
  rw [nth_eq]
  have := congrArg (fun l => l[j]?) h
  simp only [List.getElem?_take, List.getElem?_drop] at this
  rw [if_pos hj] at this
  rw [this, List.getD_eq_getElem?_getD, List.getElem?_eq_getElem (by exact hj)]; rfl
abbrev ShIo : Sh := .pair I8 (.pair I8 (.pair (.slice (.int .u8)) .unit))
set_option maxHeartbeats 4000000 in
theorem keepIos_ok {h : Heap} {v w : Value} {l : List IoT} (il : Ios h v l) (im : Ios h w l) (hl : l.length ≤ 100000) (hd : ∀ x ∈ l, x.2.2.1.length ≤ 100000) : RunF prog 27 [v, w] h fun r h' => r = .bool true ∧ h = h' := by
  refine RunF.walk func27 rfl rfl ?_
  obtain ⟨acs, sl, kk⟩ := il
  obtain ⟨bcs, sm, km⟩ := im
  have sl0 := sl
  have sm0 := sm
  obtain ⟨A, c, rfl, _, _⟩ := sl.form
  obtain ⟨B, d, rfl, _, _⟩ := sm.form
  refine RunC.seq (RunC.region (RunO.all rfl ?_))
  refine RunC.seq (RunC.seq (RunC.region (RunO.all rfl ?_)))
  rw [bne_self_eq_false ((l.length : Nat) : Int)]
  refine RunC.cond rfl (fun g => by cases g) (fun _ => RunC.skip ?_)
  refine RunC.seq (RunC.seq (RunC.region (RunO.all rfl ?_)))
  refine RunC.block ?_
  refine RunC.loop (fun k E h' => ∃ i : Nat, i + k = l.length ∧ h = h' ∧ Le ((upd (upd (upd E0 0 (.slice A l.length c)) 1 (.slice B l.length d)) 5 (.int .i64 (i : Int)))) E) ?st (k := l.length) ?ini
  case ini => exact ⟨0, by omega, rfl, Le.cons rfl (Le.cons rfl (Le.cons rfl (Le.nil _)))⟩
  rintro k E _ ⟨i, hi, rfl, hE⟩
  refine RunC.le hE ?_
  clear hE
  refine RunC.seq (RunC.seq (RunC.region (RunO.all rfl ?_)))
  refine RunC.cond rfl (fun hlt => RunC.skip ?go) (fun hge => RunC.exit (RunC.seq (RunC.region (RunO.all rfl (RunC.ret ⟨_, rfl, rfl, rfl⟩)))))
  have hlt := of_decide_eq_true hlt
  have hlt : i < l.length := by omega
  obtain ⟨dv, e, sd, hb⟩ := kk i l[i] (List.getElem?_eq_getElem hlt)
  obtain ⟨ev, e', se, _⟩ := km i l[i] (List.getElem?_eq_getElem hlt)
  have hd1 := hd l[i] (List.getElem_mem hlt)
  have a0 : apart prog 3 acs (i * 3 + 0) = some (.int .i64 l[i].1) := io_fld e (j := 0) (by decide)
  have a1 : apart prog 3 acs (i * 3 + 1) = some (.int .i64 l[i].2.1) := io_fld e (j := 1) (by decide)
  have a2 : apart prog 23 acs (i * 3 + 2) = some dv := io_fld e (j := 2) (by decide)
  have b0 : apart prog 3 bcs (i * 3 + 0) = some (.int .i64 l[i].1) := io_fld e' (j := 0) (by decide)
  have b1 : apart prog 3 bcs (i * 3 + 1) = some (.int .i64 l[i].2.1) := io_fld e' (j := 1) (by decide)
  have b2 : apart prog 23 bcs (i * 3 + 2) = some ev := io_fld e' (j := 2) (by decide)
  refine RunC.seq (RunC.block ?_)
  refine RunC.seq (RunC.draw0 rfl (RunO.part 2 rfl ?_))
  refine RunO.fldG (s := 3) (k := i) (off := 0) rfl (fun _ => rfl) (fun _ _ => rfl) rfl rfl sl0 rfl rfl hlt (fun _ _ => rfl) a0 rfl rfl rfl rfl rfl ?_
  refine RunO.part 2 rfl ?_
  refine RunO.fldG (s := 3) (k := i) (off := 0) rfl (fun _ => rfl) (fun _ _ => rfl) rfl rfl sm0 rfl rfl hlt (fun _ _ => rfl) b0 rfl rfl rfl rfl rfl ?_
  refine RunO.part 1 rfl ?_
  rw [bne_self_eq_false l[i].1]
  refine RunO.part 3 rfl ?_
  refine RunO.fldG (s := 3) (k := i) (off := 1) rfl (fun _ => rfl) (fun _ _ => rfl) rfl rfl sl0 rfl rfl hlt (fun _ _ => rfl) a1 rfl rfl rfl rfl rfl ?_
  refine RunO.part 2 rfl ?_
  refine RunO.fldG (s := 3) (k := i) (off := 1) rfl (fun _ => rfl) (fun _ _ => rfl) rfl rfl sm0 rfl rfl hlt (fun _ _ => rfl) b1 rfl rfl rfl rfl rfl ?_
  refine RunO.part 1 rfl ?_
  rw [bne_self_eq_false l[i].2.1]
  refine RunO.part 4 rfl ?_
  refine RunO.fldG (s := 3) (k := i) (off := 2) rfl (fun _ => rfl) (fun _ _ => rfl) rfl rfl sl0 rfl rfl hlt (fun _ _ => rfl) a2 rfl rfl rfl rfl rfl ?_
  refine RunO.part 2 rfl ?_
  refine RunO.fldG (s := 3) (k := i) (off := 2) rfl (fun _ => rfl) (fun _ _ => rfl) rfl rfl sm0 rfl rfl hlt (fun _ _ => rfl) b2 rfl rfl rfl rfl rfl ?_
  refine RunO.callDG rfl (keepBytesS_ok sd se (by omega)) rfl rfl rfl ?_
  rintro _ _ ⟨rfl, rfl⟩
  rw [beq_self_eq_true l[i].2.2.1]
  refine RunO.all rfl (RunC.cond rfl (fun g => by cases g) (fun _ => RunC.skip ?_))
  refine RunC.region (RunO.all rfl ?_)
  exact ⟨k - 1, by omega, i + 1, by omega, rfl, Le.cons (inc64 (by omega)) (Le.cons rfl (Le.cons rfl (Le.nil _)))⟩
end Go.Proofs.Ytdcggjkcbheolaa
end
section
set_option linter.unusedVariables false
set_option linter.unusedSectionVars false
set_option maxRecDepth 100000
open Go Go.Am Go.RowKit
namespace Go.Proofs.Ytdcggjkcbheolaa
open Go.Proofs.Try
theorem map_rng {m : List Int} {B : Int} (me : mapE m B = 0) (ml : m.length = 512) (hB : B ≤ 4096) : ∀ s, s < 512 → 0 ≤ m.getD s 0 ∧ m.getD s 0 < 4096 := fun s hs => by
  unfold mapE at me
  rw [if_pos ml] at me
  split at me
  · cases me
  · rename_i ho
    rw [Bool.not_eq_true, List.any_eq_false] at ho
    have := ho (m.getD s 0) (by rw [List.getD_eq_getElem?_getD, List.getElem?_eq_getElem (by omega)]; exact List.getElem_mem _)
    unfold offMap at this
    rw [Bool.not_eq_true, Bool.and_eq_false_iff, bne_eq_false_iff_eq, Bool.or_eq_false_iff, decide_eq_false_iff_not, decide_eq_false_iff_not] at this
    omega
theorem may_rng {B : Nat} {m o ns fr : List Int} (h : mayB B m o ns fr = true) (hB : B ≤ 4096) : ∀ i, i < fr.length → 2 ≤ fr.getD i 0 ∧ fr.getD i 0 < 4096 := fun i hi => by
  unfold mayB at h
  rw [List.all_eq_true] at h
  have := h i (List.mem_range.2 hi)
  rw [Bool.and_eq_true, Bool.not_eq_true', Bool.not_eq_true'] at this
  have := this.1
  unfold mayA at this
  rw [Bool.or_eq_false_iff, Bool.or_eq_false_iff, decide_eq_false_iff_not, decide_eq_false_iff_not] at this
  omega
set_option maxHeartbeats 64000000 in
theorem buildExact_true : ∀ h xs avs, ArgsK [.slice (.int .u8), .int .i64, .slice (.int .i64), .slice (.int .i64)] h xs avs → RunF prog 4 avs h fun v _ => v = .bool true := by
  intro h xs avs ha
  obtain ⟨L, _, iv, _, rfl, sl, hwf, ha⟩ := argInts ha
  obtain ⟨root, _, _, rfl, _, ha⟩ := argInt ha
  obtain ⟨m, _, mv, _, rfl, smv, _, ha⟩ := argInts ha
  obtain ⟨fr, _, fv, _, rfl, sfv, _, ha⟩ := argInts ha
  obtain rfl := argNil ha
  have hb : Byt L := fun x hx => wf_u8 (hwf x hx)
  have sl0 : Sl h iv 1 L.length (us L) := sl
  have sm0 : Sl h mv 1 m.length (is m) := smv
  have sf0 : Sl h fv 1 fr.length (is fr) := sfv
  clear sl smv sfv
  have sl1 := sl0
  have sm1 := sm0
  have sf1 := sf0
  obtain ⟨A, c, rfl, _, _⟩ := sl1.form
  obtain ⟨mA, mc, rfl, _, _⟩ := sm1.form
  obtain ⟨fA, fc, rfl, _, _⟩ := sf1.form
  clear sl1 sm1 sf1
  refine RunF.walk func4 rfl rfl ?_
  refine RunC.seq (RunC.region (RunO.all rfl ?_))
  refine RunC.seq (RunC.seqc (fun E' g => h = g ∧ ∃ b : Bool, (b = true ∨ (L.length ≤ 19200 ∧ m.length ≤ 600 ∧ fr.length ≤ 300)) ∧ Le (upd (upd (upd (upd (upd E0 0 (.slice A L.length c)) 1 (.int .i64 root)) 2 (.slice mA m.length mc)) 3 (.slice fA fr.length fc)) 46 (.bool b)) E') ?h1 ?h2)
  case h1 =>
    refine RunC.region (RunO.part 1 rfl ?_)
    refine RunO.callD (heavy_ok sl0) rfl rfl rfl ?_
    rintro _ _ ⟨rfl, rfl⟩
    by_cases hL : (L.length : Int) > 19200
    · rw [decide_eq_true hL]
      (repeat (first | refine RunO.step rfl ?_ | refine RunO.loadG rfl rfl (Ow.ld (by assumption) (by rfl)) rfl ?_ | refine RunO.nil ?_))
      exact ⟨rfl, true, .inl rfl, Le.cons rfl (Le.cons rfl (Le.cons rfl (Le.cons rfl (Le.cons rfl (Le.nil _)))))⟩
    rw [decide_eq_false hL]
    (repeat (first | refine RunO.step rfl ?_ | refine RunO.loadG rfl rfl (Ow.ld (by assumption) (by rfl)) rfl ?_ | refine RunO.nil ?_))
    by_cases hM : (m.length : Int) > 600
    · rw [decide_eq_true hM]
      (repeat (first | refine RunO.step rfl ?_ | refine RunO.loadG rfl rfl (Ow.ld (by assumption) (by rfl)) rfl ?_ | refine RunO.nil ?_))
      exact ⟨rfl, true, .inl rfl, Le.cons rfl (Le.cons rfl (Le.cons rfl (Le.cons rfl (Le.cons rfl (Le.nil _)))))⟩
    rw [decide_eq_false hM]
    (repeat (first | refine RunO.step rfl ?_ | refine RunO.loadG rfl rfl (Ow.ld (by assumption) (by rfl)) rfl ?_ | refine RunO.nil ?_))
    by_cases hF : (fr.length : Int) > 300
    · rw [decide_eq_true hF]
      exact ⟨rfl, true, .inl rfl, Le.cons rfl (Le.cons rfl (Le.cons rfl (Le.cons rfl (Le.cons rfl (Le.nil _)))))⟩
    rw [decide_eq_false hF]
    exact ⟨rfl, false, .inr (by omega), Le.cons rfl (Le.cons rfl (Le.cons rfl (Le.cons rfl (Le.cons rfl (Le.nil _)))))⟩
  rintro E' _ ⟨rfl, b, hbd, hE⟩
  refine RunC.le hE ?_
  clear hE
  cases b with
  | true =>
    refine RunC.cond rfl (fun _ => ?_) (fun g => by cases g)
    exact RunC.seq (RunC.region (RunO.all rfl (RunC.ret ⟨_, rfl, rfl⟩)))
  | false =>
  obtain ⟨hL, hM, hF⟩ := hbd.resolve_left Bool.false_ne_true
  clear hbd
  refine RunC.cond rfl (fun g => by cases g) (fun _ => RunC.skip ?_)
  have hm : L.length ≤ 4611686018427387904 := by omega
  refine RunC.seq (RunC.region (RunO.part 1 rfl ?_))
  refine RunO.callD (twin_ok sl0 (by omega)) rfl rfl rfl ?_
  rintro w1 h1 ⟨row1, f1⟩
  have tw1 := row1.sl (by omega)
  refine RunO.part 1 rfl ?_
  refine RunO.callD (twinInts_ok (sm0.fr0 f1) (by omega)) rfl rfl rfl ?_
  rintro w2 h2 ⟨row2, f2⟩
  have tw2 := row2.sl (by omega)
  refine RunO.part 1 rfl ?_
  refine RunO.callD (twinInts_ok (sf0.fr0 (f1.same f2)) (by omega)) rfl rfl rfl ?_
  rintro w3 h3 ⟨row3, f3⟩
  have tw3 := row3.sl (by omega)
  have F3 := (f1.same f2).same f3
  replace tw2 := tw2.fr0 f3
  replace tw1 := (tw1.fr0 f2).fr0 f3
  clear row1 row2 row3 f1 f2 f3
  refine RunO.all rfl ?_
  refine RunC.seq (RunC.region (RunO.part 3 rfl ?_))
  have hneed : RunF prog 18 [w1, .int .i64 root, w2] h3 fun v h' => Fr no h3 h' ∧ v = .tuple #[.int .i64 (if beginE L root m = 0 then ((freN L root m).length : Nat) else 0), .int .i64 (beginE L root m)] := by
    by_cases hbe : beginE L root m = 0
    · rw [if_pos hbe]
      refine (buildNeeds_ok hbe tw1 hb hm tw2).mono ?_
      rintro v g ⟨a, b⟩
      exact ⟨a, by rw [b, hbe]⟩
    · rw [if_neg hbe]
      exact buildNeedsBad_ok hbe tw1 hb hm tw2
  refine RunO.callD hneed rfl rfl rfl ?_
  rintro _ h4 ⟨f4, rfl⟩
  obtain ⟨nN, hnN⟩ : ∃ q, q = (if beginE L root m = 0 then (((freN L root m).length : Nat) : Int) else 0) := ⟨_, rfl⟩
  rw [← hnN]
  refine RunO.all rfl ?_
  refine RunC.seq (RunC.region (RunO.part 4 rfl ?_))
  refine RunO.callD (buildTree_ok (root := root) (tw1.fr0 f4) hb hm (tw2.fr0 f4) (tw3.fr0 f4) (by omega)) rfl rfl rfl ?_
  rintro v5 h5 ⟨f5, hv5⟩
  obtain ⟨rt, iov, rsv, rfl, hz5, hy5⟩ : ∃ rt iov rsv, v5 = .tuple #[.int .i64 rt, iov, rsv, .int .i64 (bldE L root m fr)] ∧ (bldE L root m fr ≠ 0 → rt = 0 ∧ iov = .slice none 0 0 ∧ rsv = .slice none 0 0) ∧
      (bldE L root m fr = 0 → rt = bldR L root m fr ∧ Ios h5 iov (bldW L root m fr).2 ∧ Sl h5 rsv 1 (fr.drop (freN L root m).length).length (is (fr.drop (freN L root m).length))) := by
    rcases hv5 with ⟨e, ov, rv, rfl, i1, i2⟩ | ⟨e, rfl⟩
    · refine ⟨_, ov, rv, by rw [e], fun g => absurd e g, fun _ => ⟨rfl, i1.ios ?_, i2.sl⟩⟩
      have : (bldW L root m fr).2.length = (freN L root m).length := wrS_len ..
      have := freN_len L root m
      omega
    · exact ⟨0, _, _, rfl, fun _ => ⟨rfl, rfl, rfl⟩, fun g => absurd g e⟩
  clear hv5
  have F5 := (F3.same f4).same f5
  have f45 := f4.same f5
  refine RunO.all rfl ?_
  refine RunC.seq (RunC.seqc (fun E' g => h5 = g ∧ Le (upd (upd (upd (upd (upd (upd (upd (upd (upd (upd (upd E0 0 (.slice A L.length c)) 1 (.int .i64 root)) 2 (.slice mA m.length mc)) 3 (.slice fA fr.length fc)) 12 (.int .i64 nN)) 13 (.int .i64 (beginE L root m))) 14 (.int .i64 rt)) 15 iov) 16 rsv) 17 (.int .i64 (bldE L root m fr))) 85 (.bool false)) E') ?k1 ?k2)
  case k1 =>
    refine RunC.region (RunO.part 2 rfl ?_)
    refine RunO.callD (keepBytesSX_ok (tw1.fr0 f45) (sl0.fr0 F5)) rfl rfl rfl ?_
    rintro _ _ ⟨rfl, rfl⟩
    rw [show (L == L) = true from beq_self_eq_true _]
    (repeat (first | refine RunO.step rfl ?_ | refine RunO.loadG rfl rfl (Ow.ld (by assumption) (by rfl)) rfl ?_ | refine RunO.nil ?_))
    refine RunO.callDG rfl (keepInts_ok (tw2.fr0 f45) (sm0.fr0 F5) (by omega)) rfl rfl rfl ?_
    rintro _ _ ⟨rfl, rfl⟩
    rw [show (m == m) = true from beq_self_eq_true _]
    (repeat (first | refine RunO.step rfl ?_ | refine RunO.loadG rfl rfl (Ow.ld (by assumption) (by rfl)) rfl ?_ | refine RunO.nil ?_))
    refine RunO.callDG rfl (keepInts_ok (tw3.fr0 f45) (sf0.fr0 F5) (by omega)) rfl rfl rfl ?_
    rintro _ _ ⟨rfl, rfl⟩
    rw [show (fr == fr) = true from beq_self_eq_true _]
    (repeat (first | refine RunO.step rfl ?_ | refine RunO.loadG rfl rfl (Ow.ld (by assumption) (by rfl)) rfl ?_ | refine RunO.nil ?_))
    exact ⟨rfl, Le.cons rfl (Le.cons rfl (Le.cons rfl (Le.cons rfl (Le.cons rfl (Le.cons rfl (Le.cons rfl (Le.cons rfl (Le.cons rfl (Le.cons rfl (Le.cons rfl (Le.nil _)))))))))))⟩
  rintro E' _ ⟨rfl, hE⟩
  refine RunC.le hE ?_
  clear hE
  refine RunC.cond rfl (fun g => by cases g) (fun _ => RunC.skip ?_)
  clear tw1 tw2 tw3 f45 f4 f5
  replace sl0 := sl0.fr0 F5
  replace sm0 := sm0.fr0 F5
  replace sf0 := sf0.fr0 F5
  clear F5 F3
  refine RunC.seq (RunC.region (RunO.part 1 rfl ?_))
  refine RunO.callD (refBlocks_ok sl0 hm) rfl rfl rfl ?_
  rintro _ _ ⟨rfl, rfl⟩
  refine RunO.all rfl ?_
  refine RunC.seq (RunC.region (RunO.all rfl ?_))
  refine RunC.seq (RunC.region (RunO.all rfl ?_))
  refine RunC.seqc (fun E' g => Fr no h5 g ∧ ∃ wv nvv, (beginE L root m = 0 → Sl g wv 1 (treeM L root).length (is (treeM L root)) ∧ Sl g nvv 1 (treeN L root).length (is (treeN L root))) ∧ Le (upd (upd (upd (upd (upd (upd (upd (upd (upd (upd (upd (upd (upd (upd E0 0 (.slice A L.length c)) 1 (.int .i64 root)) 2 (.slice mA m.length mc)) 3 (.slice fA fr.length fc)) 12 (.int .i64 nN)) 13 (.int .i64 (beginE L root m))) 14 (.int .i64 rt)) 15 iov) 16 rsv) 17 (.int .i64 (bldE L root m fr))) 18 (.int .i64 ((L.length / 64 : Nat) : Int))) 20 (.int .i64 (beginE L root m))) 21 wv) 22 nvv) E') ?y1 ?y2
  case y1 =>
    refine RunC.seq (RunC.region (RunO.all rfl ?_))
    cases hd : devOk L.length with
    | false =>
      have e2 : beginE L root m = 2 := by
        have e3 : treeE L root = 2 := by unfold treeE; rw [hd]; rfl
        unfold beginE
        rw [e3]; rfl
      refine RunC.cond rfl (fun _ => ?_) (fun g => by cases g)
      refine RunC.region (RunO.all rfl ?_)
      exact ⟨Fr.refl _ _, .slice none 0 0, .slice none 0 0, (fun g => by rw [e2] at g; cases g), by rw [e2]; exact Le.cons rfl (Le.cons rfl (Le.cons rfl (Le.cons rfl (Le.cons rfl (Le.cons rfl (Le.cons rfl (Le.cons rfl (Le.cons rfl (Le.cons rfl (Le.cons rfl (Le.cons rfl (Le.cons rfl (Le.cons rfl (Le.nil _))))))))))))))⟩
    | true =>
    refine RunC.cond rfl (fun g => by cases g) (fun _ => ?_)
    refine RunC.seq (RunC.region (RunO.part 2 rfl ?_))
    refine RunO.callD (refTree_ok (root := root) sl0 hb hd) rfl rfl rfl ?_
    rintro _ h6 ⟨f6, ⟨ht, mb, nv, hmb, rfl, oo, on⟩ | ⟨ht, rfl⟩⟩
    · have te : treeE L root = 0 := by unfold treeE; rw [hd, ht]; rfl
      have eb : beginE L root m = mapE m ((L.length / 64 : Nat) : Int) := by unfold beginE; rw [if_pos te]
      have hol := treeM_len L root
      have hnl := treeN_len L root
      refine RunO.all rfl ?_
      refine RunC.seq (RunC.region (RunO.all rfl ?_))
      refine RunC.cond rfl (fun g => by cases g) (fun _ => ?_)
      refine RunC.region (RunO.part 4 rfl ?_)
      refine RunO.callD (refMap_ok (sm0.fr0 f6)) rfl rfl rfl ?_
      rintro _ _ ⟨rfl, rfl⟩
      refine RunO.all rfl ?_
      rw [← eb]
      exact ⟨f6, _, nv, fun _ => ⟨by rw [hol]; exact oo.all.sl (by rw [is_len, hol]) (by decide) (Cp.exc (Nat.le_refl _)), on.sl (by omega)⟩, Le.cons rfl (Le.cons rfl (Le.cons rfl (Le.cons rfl (Le.cons rfl (Le.cons rfl (Le.cons rfl (Le.cons rfl (Le.cons rfl (Le.cons rfl (Le.cons rfl (Le.cons rfl (Le.cons rfl (Le.cons rfl (Le.nil _))))))))))))))⟩
    · have e2 : beginE L root m = 6 := by
        have e3 : treeE L root = 6 := by unfold treeE; rw [hd, ht]; rfl
        unfold beginE
        rw [e3]; rfl
      refine RunO.all rfl ?_
      refine RunC.seq (RunC.region (RunO.all rfl ?_))
      refine RunC.cond rfl (fun _ => ?_) (fun g => by cases g)
      refine RunC.region (RunO.all rfl ?_)
      exact ⟨f6, .slice none 0 0, .slice none 0 0, (fun g => by rw [e2] at g; cases g), by rw [e2]; exact Le.cons rfl (Le.cons rfl (Le.cons rfl (Le.cons rfl (Le.cons rfl (Le.cons rfl (Le.cons rfl (Le.cons rfl (Le.cons rfl (Le.cons rfl (Le.cons rfl (Le.cons rfl (Le.cons rfl (Le.cons rfl (Le.nil _))))))))))))))⟩
  rintro E' h6 ⟨f6, wv, nvv, hwn, hE⟩
  refine RunC.le hE ?_
  clear hE
  by_cases hbe : beginE L root m = 0
  case neg =>
    have hE5 : bldE L root m fr = beginE L root m := by unfold bldE; rw [if_neg hbe]
    rw [hE5] at hz5 ⊢
    obtain ⟨rfl, rfl, rfl⟩ := hz5 hbe
    rw [if_neg hbe] at hnN
    subst hnN
    refine RunC.seq (RunC.seq (RunC.region (RunO.all rfl (RunC.cond (t := true) (congrArg (fun b => some (Value.bool b)) (bne_iff_ne.2 hbe)) (fun _ => ?_) (fun g => by cases g)))))
    refine RunC.seq (RunC.region ?_)
    (repeat (first | refine RunO.step rfl ?_ | refine RunO.loadG rfl rfl (Ow.ld (by assumption) (by rfl)) rfl ?_ | refine RunO.nil ?_))
    rw [show (beginE L root m == beginE L root m) = true from beq_self_eq_true _]
    (repeat (first | refine RunO.step rfl ?_ | refine RunO.loadG rfl rfl (Ow.ld (by assumption) (by rfl)) rfl ?_ | refine RunO.nil ?_))
    rw [show (beginE L root m == beginE L root m) = true from beq_self_eq_true _]
    (repeat (first | refine RunO.step rfl ?_ | refine RunO.loadG rfl rfl (Ow.ld (by assumption) (by rfl)) rfl ?_ | refine RunO.nil ?_))
    refine RunO.callDG rfl wakes14_ok rfl rfl rfl ?_
    rintro _ _ ⟨rfl, _⟩
    (repeat (first | refine RunO.step rfl ?_ | refine RunO.loadG rfl rfl (Ow.ld (by assumption) (by rfl)) rfl ?_ | refine RunO.nil ?_))
    exact RunC.ret ⟨_, rfl, rfl⟩
  obtain ⟨te, me, ml⟩ := beginE_ok hbe
  have hd := (treeE_ok te).2
  have hB := hd
  unfold devOk at hB
  have hB : L.length % 64 = 0 ∧ 4 ≤ L.length / 64 ∧ L.length / 64 ≤ 4096 := by simpa using hB
  obtain ⟨swv, snv⟩ := hwn hbe
  have hol := treeM_len L root
  have hnl := treeN_len L root
  have hnd256 := freN_len L root m
  rw [if_pos hbe] at hnN
  subst hnN
  rw [hbe]
  clear hwn
  refine RunC.seq (RunC.seq (RunC.region (RunO.all rfl (RunC.cond rfl (fun g => by cases g) (fun _ => RunC.skip ?_)))))
  refine RunC.seq (RunC.region (RunO.part 3 rfl ?_))
  refine RunO.callD (refBuild_ok (fr := []) (sl0.fr0 f6) hb hd te (sm0.fr0 f6) ml (map_rng me ml (by omega)) (Sl.nil h6 1) (by decide) (fun i hi => absurd hi (Nat.not_lt_zero _))) rfl rfl rfl ?_
  rintro vb h7 ⟨f7, ovb, rvb, hb1, hb2⟩
  obtain ⟨x1, x2, x3, x5, rfl⟩ : ∃ x1 x2 x3 x5, vb = .tuple #[.int .i64 x1, x2, x3, .int .i64 (((freN L root m).length : Nat) : Int), .bool x5] := by
    by_cases g : (freP m (treeM L root) 3 0).length ≤ ([] : List Int).length
    · exact ⟨_, _, _, _, (hb1 g).1⟩
    · exact ⟨_, _, _, _, hb2 (by omega)⟩
  clear hb1 hb2
  refine RunO.all rfl ?_
  refine RunC.seq (RunC.seq (RunC.region ?_))
  (repeat (first | refine RunO.step rfl ?_ | refine RunO.loadG rfl rfl (Ow.ld (by assumption) (by rfl)) rfl ?_ | refine RunO.nil ?_))
  rw [show ((((freN L root m).length : Nat) : Int) != (((freN L root m).length : Nat) : Int)) = false from bne_self_eq_false _]
  (repeat (first | refine RunO.step rfl ?_ | refine RunO.loadG rfl rfl (Ow.ld (by assumption) (by rfl)) rfl ?_ | refine RunO.nil ?_))
  refine RunC.cond rfl (fun g => by cases g) (fun _ => RunC.skip ?_)
  have F7 := f6.same f7
  refine RunC.seq (RunC.seq (RunC.region (RunO.part 5 rfl ?_)))
  refine RunO.callD (lawFree_ok (B := L.length / 64) (sf0.fr0 F7) (sm0.fr0 F7) (snv.fr0 f7) (swv.fr0 f7) ml hol (by omega) (by omega)) rfl rfl rfl ?_
  rintro _ _ ⟨rfl, rfl⟩
  cases hmay : mayB (L.length / 64) m (treeM L root) (treeN L root) fr with
  | false =>
    have e1 : bldE L root m fr = 1 := by unfold bldE; rw [if_pos hbe, hmay]; rfl
    rw [e1] at hz5 ⊢
    obtain ⟨rfl, rfl, rfl⟩ := hz5 (by decide)
    refine RunO.all rfl (RunC.cond rfl (fun _ => ?_) (fun g => by cases g))
    refine RunC.seq (RunC.region ?_)
    (repeat (first | refine RunO.step rfl ?_ | refine RunO.loadG rfl rfl (Ow.ld (by assumption) (by rfl)) rfl ?_ | refine RunO.nil ?_))
    refine RunO.callDG rfl wakes14_ok rfl rfl rfl ?_
    rintro _ _ ⟨rfl, _⟩
    (repeat (first | refine RunO.step rfl ?_ | refine RunO.loadG rfl rfl (Ow.ld (by assumption) (by rfl)) rfl ?_ | refine RunO.nil ?_))
    exact RunC.ret ⟨_, rfl, rfl⟩
  | true =>
  refine RunO.all rfl (RunC.cond rfl (fun g => by cases g) (fun _ => RunC.skip ?_))
  refine RunC.seq (RunC.region (RunO.part 4 rfl ?_))
  refine RunO.callD (refBuild_ok (fr := fr) (sl0.fr0 F7) hb hd te (sm0.fr0 F7) ml (map_rng me ml (by omega)) (sf0.fr0 F7) (by omega) (may_rng hmay (by omega))) rfl rfl rfl ?_
  rintro v8 h8 ⟨f8, ov8, rv8, g1, g2⟩
  by_cases hnf : (freN L root m).length ≤ fr.length
  case neg =>
    have e1 : bldE L root m fr = 9 := by unfold bldE; rw [if_pos hbe, hmay, if_pos rfl, decide_eq_true (by omega)]; rfl
    rw [e1] at hz5 ⊢
    obtain ⟨rfl, rfl, rfl⟩ := hz5 (by decide)
    obtain rfl := g2 (by show fr.length < (freN L root m).length; omega)
    refine RunO.all rfl ?_
    refine RunC.seq (RunC.seq (RunC.region (RunO.all rfl (RunC.cond rfl (fun _ => ?_) (fun g => by cases g)))))
    refine RunC.seq (RunC.region ?_)
    (repeat (first | refine RunO.step rfl ?_ | refine RunO.loadG rfl rfl (Ow.ld (by assumption) (by rfl)) rfl ?_ | refine RunO.nil ?_))
    refine RunO.callDG rfl wakes14_ok rfl rfl rfl ?_
    rintro _ _ ⟨rfl, _⟩
    (repeat (first | refine RunO.step rfl ?_ | refine RunO.loadG rfl rfl (Ow.ld (by assumption) (by rfl)) rfl ?_ | refine RunO.nil ?_))
    exact RunC.ret ⟨_, rfl, rfl⟩
  have e1 : bldE L root m fr = 0 := by unfold bldE; rw [if_pos hbe, hmay, if_pos rfl, decide_eq_false (by omega)]; rfl
  have bp := BP.of e1
  obtain ⟨rfl, i5, s5⟩ := hy5 e1
  obtain ⟨rfl, i8, s8⟩ := g1 hnf
  rw [bp.eW] at i8
  rw [bp.eR hb, e1]
  have s8 : Sl h8 rv8 1 (fr.drop (freN L root m).length).length (is (fr.drop (freN L root m).length)) := s8
  have F8 := F7.same f8
  have hwl : (bldW L root m fr).2.length = (freN L root m).length := wrS_len ..
  refine RunO.all rfl ?_
  refine RunC.seq (RunC.seq (RunC.region (RunO.all rfl (RunC.cond rfl (fun g => by cases g) (fun _ => RunC.skip ?_)))))
  refine RunC.seq (RunC.region ?_)
  (repeat (first | refine RunO.step rfl ?_ | refine RunO.loadG rfl rfl (Ow.ld (by assumption) (by rfl)) rfl ?_ | refine RunO.nil ?_))
  rw [show (bldR L root m fr == bldR L root m fr) = true from beq_self_eq_true _]
  (repeat (first | refine RunO.step rfl ?_ | refine RunO.loadG rfl rfl (Ow.ld (by assumption) (by rfl)) rfl ?_ | refine RunO.nil ?_))
  refine RunO.callDG rfl (keepIos_ok (i5.fr0 F8) i8 (by omega) (fun x hx => by have := (bp.wr x hx).2.2.1; omega)) rfl rfl rfl ?_
  rintro _ _ ⟨rfl, rfl⟩
  (repeat (first | refine RunO.step rfl ?_ | refine RunO.loadG rfl rfl (Ow.ld (by assumption) (by rfl)) rfl ?_ | refine RunO.nil ?_))
  refine RunO.callDG rfl (keepInts_ok (s5.fr0 F8) s8 (by rw [List.length_drop]; omega)) rfl rfl rfl ?_
  rintro _ _ ⟨rfl, rfl⟩
  rw [show ((fr.drop (freN L root m).length) == (fr.drop (freN L root m).length)) = true from beq_self_eq_true _]
  (repeat (first | refine RunO.step rfl ?_ | refine RunO.loadG rfl rfl (Ow.ld (by assumption) (by rfl)) rfl ?_ | refine RunO.nil ?_))
  refine RunO.callDG rfl wakes14_ok rfl rfl rfl ?_
  rintro _ _ ⟨rfl, _⟩
  (repeat (first | refine RunO.step rfl ?_ | refine RunO.loadG rfl rfl (Ow.ld (by assumption) (by rfl)) rfl ?_ | refine RunO.nil ?_))
  exact RunC.ret ⟨_, rfl, rfl⟩
end Go.Proofs.Ytdcggjkcbheolaa
end
