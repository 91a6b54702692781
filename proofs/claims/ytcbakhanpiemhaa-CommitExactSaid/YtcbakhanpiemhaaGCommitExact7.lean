/- CommitExact: a calculus over an abstract machine that stands beside the model, and contracts of functions by it (part 7).
Conditions: what each theorem says of its arguments. -/
import Derived.Test.YtcbakhanpiemhaaGCommitExact6
section
set_option linter.unusedVariables false
set_option linter.unusedSectionVars false
set_option maxRecDepth 100000
open Go Go.Am Go.RowKit
namespace Go.Proofs.Ytcbakhanpiemhaa
open Go.Proofs.Try

theorem heavyIos_ok {h : Heap} {v : Value} {l : List IoT} (il : Ios h v l) : RunF prog 12 [.slice none 0 0, v] h fun r h' => (∃ b : Bool, r = .bool b ∧ (b = true ∨ (l.length ≤ 400 ∧ ∀ x ∈ l, x.2.2.1.length ≤ 300))) ∧ h = h' := by
  refine RunF.walk func12 rfl rfl ?_
  obtain ⟨acs, sl, kk⟩ := il
  have sl0 := sl
  have hmx := sl.2.1
  obtain ⟨A, c, rfl, _, _⟩ := sl.form
  refine RunC.seq (RunC.region (RunO.all rfl ?_))
  refine RunC.seq (RunC.seq (RunC.region (RunO.all rfl ?_)))
  by_cases h4 : (l.length : Int) > 400
  · refine RunC.cond (t := true) (congrArg (fun x => some (Value.bool x)) (decide_eq_true h4)) (fun _ => ?_) (fun g => by cases g)
    exact RunC.seq (RunC.region (RunO.all rfl (RunC.ret ⟨_, rfl, ⟨true, rfl, .inl rfl⟩, rfl⟩)))
  refine RunC.cond (t := false) (congrArg (fun x => some (Value.bool x)) (decide_eq_false h4)) (fun g => by cases g) (fun _ => RunC.skip ?_)
  refine RunC.seq (RunC.seq (RunC.region (RunO.all rfl ?_)))
  refine RunC.block ?_
  refine RunC.loop (fun d E h' => ∃ i : Nat, i + d = l.length ∧ h = h' ∧ (∀ j (hj : j < l.length), j < i → l[j].2.2.1.length ≤ 300) ∧ Le ((upd (upd E0 1 (.slice A l.length c)) 5 (.int .i64 (i : Int)))) E) ?st (k := l.length) ?ini
  case ini => exact ⟨0, by omega, rfl, fun j _ h => absurd h (Nat.not_lt_zero _), Le.cons rfl (Le.cons rfl (Le.nil _))⟩
  rintro d E _ ⟨i, hi, rfl, hall, hE⟩
  refine RunC.le hE ?_
  clear hE
  refine RunC.seq (RunC.seq (RunC.region (RunO.all rfl ?_)))
  refine RunC.cond rfl (fun hlt => RunC.skip ?go) (fun hge => RunC.exit ?ex)
  case ex =>
    have hge := of_decide_eq_false hge
    refine RunC.seq (RunC.region (RunO.all rfl (RunC.ret ⟨_, rfl, ⟨false, rfl, .inr ⟨by omega, fun x hx => ?_⟩⟩, rfl⟩)))
    obtain ⟨j, hj, rfl⟩ := List.mem_iff_getElem.1 hx
    exact hall j hj (by omega)
  have hlt := of_decide_eq_true hlt
  have hlt : i < l.length := by omega
  obtain ⟨dv, e, sd, hb⟩ := kk i l[i] (List.getElem?_eq_getElem hlt)
  obtain ⟨dA, dc, rfl, _, _⟩ := sd.form
  have a2 : apart prog 23 acs (i * 3 + 2) = some (.slice dA l[i].2.2.1.length dc) := io_fld e (j := 2) (by decide)
  refine RunC.seq (RunC.block ?_)
  refine RunC.seq (RunC.region (RunO.part 2 rfl ?_))
  refine RunO.fldG (s := 3) (k := i) (off := 2) rfl (fun _ => rfl) (fun _ _ => rfl) rfl rfl sl0 rfl rfl hlt (fun _ _ => rfl) a2 rfl rfl rfl rfl rfl ?_
  refine RunO.all rfl ?_
  by_cases h3 : (l[i].2.2.1.length : Int) > 300
  · refine RunC.cond (t := true) (congrArg (fun x => some (Value.bool x)) (decide_eq_true h3)) (fun _ => ?_) (fun g => by cases g)
    exact RunC.seq (RunC.region (RunO.all rfl (RunC.ret ⟨_, rfl, ⟨true, rfl, .inl rfl⟩, rfl⟩)))
  refine RunC.cond (t := false) (congrArg (fun x => some (Value.bool x)) (decide_eq_false h3)) (fun g => by cases g) (fun _ => RunC.skip ?_)
  refine RunC.region (RunO.all rfl ?_)
  refine ⟨d - 1, by omega, i + 1, by omega, rfl, fun j hj hji => ?_, Le.cons (inc64 (by omega)) (Le.cons rfl (Le.nil _))⟩
  by_cases g : j = i
  · subst g; omega
  · exact hall j hj (by omega)
theorem cmtE_ok {s : S5} {slot root size first : Int} {l : List IoT} (h : cmtE s slot root size first l = 0) : superOk s.1 s.2.1 s.2.2.1 s.2.2.2.1 s.2.2.2.2 = true ∧ s.1 < 1099511627776 ∧ (slot = 0 ∨ slot = 1) ∧ superOk (s.1 + 1) s.2.1 root size first = true ∧ ∀ x ∈ l, x.1 = 1 ∧ 2 ≤ x.2.1 ∧ x.2.1 < s.2.1 ∧ x.2.2.1.length = 64 := by
  unfold cmtE at h
  split at h
  · rename_i hr
    unfold readyB at hr
    rw [Bool.and_eq_true, Bool.and_eq_true, decide_eq_true_eq, Bool.or_eq_true, beq_iff_eq, beq_iff_eq] at hr
    split at h
    · rename_i hn
      rw [Bool.and_eq_true, allN_iff] at hn
      refine ⟨hr.1.1, hr.1.2, hr.2, hn.1, fun x hx => ?_⟩
      obtain ⟨j, hj, rfl⟩ := List.mem_iff_getElem.1 hx
      have := hn.2 j hj
      rw [List.getD_eq_getElem?_getD, List.getElem?_eq_getElem hj] at this
      have this : wrB s.2.1 l[j] = true := this
      unfold wrB at this
      simp only [Bool.and_eq_true, beq_iff_eq, decide_eq_true_eq] at this
      exact ⟨this.1.1.1, by omega, this.1.2, by omega⟩
    · cases h
  · cases h
def m3B (free : List Int) (i : Nat) : Bool := placeB (free.getD i 0) && upB free i
theorem mayB_eq (old : List R8) (bl : List Int) (n : Int) (x : R8) (w : Bool) (free : List Int) :
    (((may0 old bl n x w && allN (fun j => r8Ok (old.getD j ⟨0, 0, 0, 0, 0, 0, 0, 0⟩)) old.length) && allN (fun j => placeB (bl.getD j 0)) bl.length) && allN (m3B free) free.length) = mayB old bl n x w free := by
  unfold mayB
  rw [allN_get, allN_get, List.all_append]
  have e : allN (m3B free) free.length = (free.all placeB && allN (upB free) free.length) := by
    rw [← allN_get (d := 0)]
    rw [Bool.eq_iff_iff, Bool.and_eq_true, allN_iff, allN_iff, allN_iff]
    unfold m3B
    constructor
    · intro h
      exact ⟨fun i hi => ((Bool.and_eq_true _ _).mp (h i hi)).1, fun i hi => ((Bool.and_eq_true _ _).mp (h i hi)).2⟩
    · rintro ⟨h1, h2⟩ i hi
      rw [h1 i hi, h2 i hi]; rfl
  rw [e]
  cases may0 old bl n x w <;> cases old.all r8Ok <;> cases bl.all placeB <;> cases free.all placeB <;> cases allN (upB free) free.length <;> rfl
set_option maxHeartbeats 64000000 in
theorem commitExact_true : ∀ h xs avs, ArgsK [ShState, .slice ShIo, .int .i64, .int .i64, .int .i64, .slice (.int .i64), .int .i64, .slice (.int .i64)] h xs avs → RunF prog 7 avs h fun v _ => v = .bool true := by
  intro h xs avs ha
  obtain ⟨s, slot, old, _, rv0, _, rfl, sr, _, _, _, ha⟩ := argState ha
  obtain ⟨l, _, lv0, _, rfl, il, ha⟩ := argIos ha
  obtain ⟨root, _, _, rfl, _, ha⟩ := argInt ha
  obtain ⟨size, _, _, rfl, _, ha⟩ := argInt ha
  obtain ⟨first, _, _, rfl, _, ha⟩ := argInt ha
  obtain ⟨bl, _, bv0, _, rfl, sb, _, ha⟩ := argInts ha
  obtain ⟨n, _, _, rfl, hnw, ha⟩ := argInt ha
  obtain ⟨free, _, fv0, _, rfl, sf, _, ha⟩ := argInts ha
  obtain rfl := argNil ha
  have sb0 : Sl h bv0 1 bl.length (is bl) := sb
  have sf0 : Sl h fv0 1 free.length (is free) := sf
  clear sb sf
  obtain ⟨rA, rc, rfl, _, _⟩ := sr.form
  obtain ⟨bA, bc, rfl, _, _⟩ := sb0.form
  obtain ⟨fA, fc, rfl, _, _⟩ := sf0.form
  have il0 := il
  obtain ⟨acs, sl_, kk_⟩ := il
  obtain ⟨lA, lc, rfl, _, _⟩ := sl_.form
  clear sl_ kk_
  refine RunF.walk func7 rfl rfl ?_
  refine RunC.seq (RunC.region (RunO.part 1 (h1 := h.push ⟨stc s slot (.slice rA old.length rc), true⟩) rfl (RunO.all rfl ?_)))
  have o8 := Ow.push h (stc s slot (.slice rA old.length rc))
  have f0 : Fr no h (h.push ⟨stc s slot (.slice rA old.length rc), true⟩) := Fr.push _ _ _
  replace il0 := il0.frm0 f0
  replace sb0 := sb0.fr0 f0
  replace sf0 := sf0.fr0 f0
  replace sr := sr.fr0 f0
  generalize h.push ⟨stc s slot (.slice rA old.length rc), true⟩ = h0 at *
  obtain ⟨p8, hp8⟩ : ∃ q, q = h.next := ⟨_, rfl⟩
  rw [← hp8] at o8 ⊢
  clear f0 hp8
  refine RunC.seqc (fun E' h' => h0 = h' ∧ l.length ≤ 400 ∧ (∀ x ∈ l, x.2.2.1.length ≤ 300) ∧ old.length ≤ 70 ∧ bl.length ≤ 80 ∧ free.length ≤ 100 ∧ Le ((upd (upd (upd (upd (upd (upd (upd (upd E0 1 (.slice lA l.length lc)) 2 (.int .i64 root)) 3 (.int .i64 size)) 4 (.int .i64 first)) 5 (.slice bA bl.length bc)) 6 (.int .i64 n)) 7 (.slice fA free.length fc)) 8 (.pointer (some ⟨p8, 0, none⟩)))) E') ?hv ?nx
  case hv =>
    refine RunC.seqc (fun E' h' => h0 = h' ∧ ∃ b : Bool, (b = true ∨ (l.length ≤ 400 ∧ (∀ x ∈ l, x.2.2.1.length ≤ 300) ∧ old.length ≤ 70 ∧ bl.length ≤ 80 ∧ free.length ≤ 100)) ∧ Le ((upd (upd (upd (upd (upd (upd (upd (upd (upd E0 1 (.slice lA l.length lc)) 2 (.int .i64 root)) 3 (.int .i64 size)) 4 (.int .i64 first)) 5 (.slice bA bl.length bc)) 6 (.int .i64 n)) 7 (.slice fA free.length fc)) 8 (.pointer (some ⟨p8, 0, none⟩))) 54 (.bool b))) E') ?hr ?hc
    case hc =>
      rintro E' _ ⟨rfl, b, hb1, hE⟩
      refine RunC.le hE ?_
      clear hE
      cases b with
      | true =>
        refine RunC.cond rfl (fun _ => ?_) (fun g => by cases g)
        exact RunC.seq (RunC.region (RunO.all rfl (RunC.ret ⟨_, rfl, rfl⟩)))
      | false =>
        obtain ⟨q1, q2, q3, q4, q5⟩ := hb1.resolve_left (fun g => by cases g)
        exact RunC.cond rfl (fun g => by cases g) (fun _ => RunC.skip ⟨rfl, q1, q2, q3, q4, q5, Le.cons rfl (Le.cons rfl (Le.cons rfl (Le.cons rfl (Le.cons rfl (Le.cons rfl (Le.cons rfl (Le.cons rfl (Le.nil _))))))))⟩)
    refine RunC.region (RunO.part 1 rfl ?_)
    refine RunO.callD (heavyIos_ok il0) rfl rfl rfl ?_
    rintro _ _ ⟨⟨b, rfl, hbl⟩, rfl⟩
    cases b with
    | true =>
      (repeat (first | refine RunO.step rfl ?_ | refine RunO.loadG rfl rfl (Ow.ld (by assumption) (by rfl)) rfl ?_ | refine RunO.nil ?_))
      exact ⟨rfl, true, .inl rfl, Le.cons rfl (Le.cons rfl (Le.cons rfl (Le.cons rfl (Le.cons rfl (Le.cons rfl (Le.cons rfl (Le.cons rfl (Le.cons rfl (Le.nil _)))))))))⟩
    | false =>
      obtain ⟨q1, q2⟩ := hbl.resolve_left (fun g => by cases g)
      (repeat (first | refine RunO.step rfl ?_ | refine RunO.loadG rfl rfl (Ow.ld (by assumption) (by rfl)) rfl ?_ | refine RunO.nil ?_))
      by_cases g1 : (old.length : Int) > 70
      · rw [decide_eq_true g1]
        (repeat (first | refine RunO.step rfl ?_ | refine RunO.loadG rfl rfl (Ow.ld (by assumption) (by rfl)) rfl ?_ | refine RunO.nil ?_))
        exact ⟨rfl, true, .inl rfl, Le.cons rfl (Le.cons rfl (Le.cons rfl (Le.cons rfl (Le.cons rfl (Le.cons rfl (Le.cons rfl (Le.cons rfl (Le.cons rfl (Le.nil _)))))))))⟩
      rw [decide_eq_false g1]
      (repeat (first | refine RunO.step rfl ?_ | refine RunO.loadG rfl rfl (Ow.ld (by assumption) (by rfl)) rfl ?_ | refine RunO.nil ?_))
      by_cases g2 : (bl.length : Int) > 80
      · rw [decide_eq_true g2]
        (repeat (first | refine RunO.step rfl ?_ | refine RunO.loadG rfl rfl (Ow.ld (by assumption) (by rfl)) rfl ?_ | refine RunO.nil ?_))
        exact ⟨rfl, true, .inl rfl, Le.cons rfl (Le.cons rfl (Le.cons rfl (Le.cons rfl (Le.cons rfl (Le.cons rfl (Le.cons rfl (Le.cons rfl (Le.cons rfl (Le.nil _)))))))))⟩
      rw [decide_eq_false g2]
      (repeat (first | refine RunO.step rfl ?_ | refine RunO.loadG rfl rfl (Ow.ld (by assumption) (by rfl)) rfl ?_ | refine RunO.nil ?_))
      refine ⟨rfl, _, ?_, Le.cons rfl (Le.cons rfl (Le.cons rfl (Le.cons rfl (Le.cons rfl (Le.cons rfl (Le.cons rfl (Le.cons rfl (Le.cons rfl (Le.nil _)))))))))⟩
      by_cases g3 : (free.length : Int) > 100
      · exact .inl (decide_eq_true g3)
      · exact .inr ⟨q1, q2, by omega, by omega, by omega⟩
  rintro E' _ ⟨rfl, hl, hld, hold, hbl, hfr, hE⟩
  refine RunC.le hE ?_
  clear hE
  -- the twins
  refine RunC.seq (RunC.region (RunO.part 1 rfl ?_))
  refine RunO.callD (twinIos_ok il0 (by omega) hld) rfl rfl rfl ?_
  rintro iv h1 ⟨f1, iw⟩
  have it := iw.ios (by omega)
  obtain ⟨tA, tc, rfl⟩ : ∃ tA tc, iv = .slice tA l.length tc := by
    obtain ⟨_, t_, _⟩ := it
    obtain ⟨tA, tc, rfl, _, _⟩ := t_.form
    exact ⟨tA, tc, rfl⟩
  clear iw
  refine RunO.part 1 rfl ?_
  refine RunO.callD (twinInts_ok (sb0.fr0 f1) (by omega)) rfl rfl rfl ?_
  rintro pv h2 ⟨rp, f2⟩
  have sp := rp.sl (by omega)
  obtain ⟨pA, pc, rfl, _, _⟩ := sp.form
  refine RunO.part 1 rfl ?_
  have F2 := f1.same f2
  refine RunO.callD (twinInts_ok (sf0.fr0 F2) (by omega)) rfl rfl rfl ?_
  rintro qv h3 ⟨rq, f3⟩
  have sq := rq.sl (by omega)
  obtain ⟨qA, qc, rfl, _, _⟩ := sq.form
  refine RunO.all rfl ?_
  have F3 := F2.same f3
  have o8_3 := o8.fr F3 (fun g => g)
  have it3 := (it.frm0 f2).frm0 f3
  -- Steps
  refine RunC.seq (RunC.region (RunO.part 0 rfl ?_))
  refine RunO.load (v := .agg ⟨stc s slot (.slice rA old.length rc)⟩) rfl (o8_3.ld rfl) rfl ?_
  refine RunO.part 4 rfl ?_
  have hS : RunF prog 27 [.agg ⟨stc s slot (.slice rA old.length rc)⟩, .slice tA l.length tc, .int .i64 root, .int .i64 size, .int .i64 first] h3 fun v h' => Fr no h3 h' ∧ ∃ xA xn xc, v = .tuple #[.slice xA xn xc, .int .i64 (cmtE s slot root size first l)] ∧ (cmtE s slot root size first l ≠ 0 → xn = 0) ∧ (cmtE s slot root size first l = 0 → Ios h' (.slice xA xn xc) (l ++ cmtT s slot root size first)) := by
    by_cases e : cmtE s slot root size first l = 0
    · obtain ⟨e1, e2, e3, e4, e5⟩ := cmtE_ok e
      refine (commitSteps_ok it3 (by omega) e1 e2 e3 e4 e5).mono ?_
      rintro v h' ⟨f, ov, rfl, io⟩
      have ii := io.ios (by rw [List.length_append]; show l.length + 3 ≤ _; omega)
      have ii' := ii
      obtain ⟨_, t_, _⟩ := ii'
      obtain ⟨xA, xc, rfl, _, _⟩ := t_.form
      exact ⟨f, xA, _, xc, by rw [e], fun g => absurd e g, fun _ => ii⟩
    · refine (commitStepsBad_ok it3 (by omega) e).mono ?_
      rintro v h' ⟨f, rfl⟩
      exact ⟨f, none, 0, 0, rfl, fun _ => rfl, fun g => absurd g e⟩
  refine RunO.callD hS rfl rfl rfl ?_
  rintro _ h4 ⟨f4, xA, xn, xc, rfl, hX0, hX1⟩
  refine RunO.all rfl ?_
  have F4 := F3.same f4
  have o8_4 := o8.fr F4 (fun g => g)
  have il4 := il0.frm0 F4
  have it4 := it3.frm0 f4
  -- handed in stays
  refine RunC.seq ?_
  refine RunC.seq (RunC.region (RunO.part 2 rfl ?_))
  refine RunO.callD (keepIos_ok it4 il4 (by omega) (fun x hx => by have := hld x hx; omega)) rfl rfl rfl ?_
  rintro _ _ ⟨rfl, rfl⟩
  refine RunO.all rfl (RunC.cond rfl (fun g => by cases g) (fun _ => RunC.skip ?_))
  -- right
  refine RunC.seqc (fun E' h' => Fr no h4 h' ∧ Le ((upd (upd (upd (upd (upd (upd (upd (upd (upd (upd E0 1 (.slice lA l.length lc)) 2 (.int .i64 root)) 3 (.int .i64 size)) 4 (.int .i64 first)) 5 (.slice bA bl.length bc)) 6 (.int .i64 n)) 7 (.slice fA free.length fc)) 8 (.pointer (some ⟨p8, 0, none⟩))) 18 (.slice pA bl.length pc)) 19 (.slice qA free.length qc))) E') ?rt ?nx2
  case rt =>
    refine RunC.seq (RunC.region (RunO.part 0 rfl ?_))
    refine RunO.load (v := .agg ⟨stc s slot (.slice rA old.length rc)⟩) rfl (o8_4.ld rfl) rfl ?_
    refine RunO.part 4 rfl ?_
    refine RunO.callD (lawRight_ok il4 (by omega)) rfl rfl rfl ?_
    rintro _ g1 ⟨e1, rfl⟩
    refine RunO.all rfl ?_
    refine RunC.seq (RunC.region (RunO.all rfl ?_))
    by_cases e : cmtE s slot root size first l = 0
    case neg =>
      have := hX0 e
      subst this
      refine RunC.cond (t := true) (congrArg (fun x => some (Value.bool x)) (bne_iff_ne.2 e)) (fun _ => ?_) (fun g => by cases g)
      refine RunC.seq (RunC.region (RunO.part 3 rfl ?_))
      rw [bne_self_eq_false (cmtE s slot root size first l)]
      refine RunO.all rfl ?_
      exact RunC.cond rfl (fun g => by cases g) (fun _ => RunC.skip ⟨e1, Le.cons rfl (Le.cons rfl (Le.cons rfl (Le.cons rfl (Le.cons rfl (Le.cons rfl (Le.cons rfl (Le.cons rfl (Le.cons rfl (Le.cons rfl (Le.nil _))))))))))⟩)
    obtain ⟨u1, u2, u3, u4, u5⟩ := cmtE_ok e
    have hgr := ((superOk_iff _ _ _ _ _).1 u1).1
    have iX := (hX1 e).frm0 e1
    rw [e]
    refine RunC.cond rfl (fun g => by cases g) (fun _ => ?_)
    have o8g := o8_4.fr e1 (fun g => g)
    refine RunC.seq (RunC.region ?_)
    (repeat (first | refine RunO.step rfl ?_ | refine RunO.loadG rfl rfl (Ow.ld (by assumption) (by rfl)) rfl ?_ | refine RunO.nil ?_))
    refine RunO.callDG rfl (refCommit_ok (il4.frm0 e1) (by omega) ⟨hgr.1, u2⟩ u3 u4) rfl rfl rfl ?_
    rintro cv g2 ⟨e2, iw⟩
    have hlen : (l ++ cmtT s slot root size first).length = l.length + 3 := by rw [List.length_append]; rfl
    refine RunO.callDG rfl (keepIos_ok (iX.frm0 e2) (iw.ios (by omega)) (by omega) (fun x hx => by
      rcases List.mem_append.1 hx with g | g
      · have := hld x g; omega
      · unfold cmtT at g
        simp only [List.mem_cons, List.not_mem_nil, or_false] at g
        rcases g with rfl | rfl | rfl
        · decide
        · show (superBlock _ _ _ _ _).length ≤ _; rw [superBlock_len]; decide
        · decide)) rfl rfl rfl ?_
    rintro _ _ ⟨rfl, rfl⟩
    refine RunO.all rfl ?_
    exact RunC.cond rfl (fun g => by cases g) (fun _ => RunC.skip ⟨e1.same e2, Le.cons rfl (Le.cons rfl (Le.cons rfl (Le.cons rfl (Le.cons rfl (Le.cons rfl (Le.cons rfl (Le.cons rfl (Le.cons rfl (Le.cons rfl (Le.nil _))))))))))⟩)
  rintro E' h5 ⟨f5, hE⟩
  refine RunC.le hE ?_
  clear hE
  have F5 := F4.same f5
  have o8_5 := o8.fr F5 (fun g => g)
  -- the record
  refine RunC.seq (RunC.region (RunO.part 2 rfl ?_))
  generalize size.tmod 1000 = sz0
  refine RunO.part 1 rfl ?_
  generalize fwrap .i64 (1 + sz0) = rid
  refine RunO.part 4 rfl ?_
  refine RunO.part 1 rfl ?_
  generalize (n.tmod 2 == 0) = w
  obtain ⟨x, hx⟩ : ∃ x : R8, x = ⟨0, rid, 0, 0, size, 0, 0, 0⟩ := ⟨_, rfl⟩
  have hx0 : nx0 x 0 = x := by rw [hx]; rfl
  refine RunO.part 1 (h1 := h5.push ⟨rc8 ⟨0, 0, 0, 0, 0, 0, 0, 0⟩, true⟩) rfl ?_
  have o23z := Ow.push h5 (rc8 ⟨0, 0, 0, 0, 0, 0, 0, 0⟩)
  have f6z : Fr no h5 (h5.push ⟨rc8 ⟨0, 0, 0, 0, 0, 0, 0, 0⟩, true⟩) := Fr.push _ _ _
  generalize h5.push ⟨rc8 ⟨0, 0, 0, 0, 0, 0, 0, 0⟩, true⟩ = h6z at *
  obtain ⟨p23, hp23⟩ : ∃ q, q = h5.next := ⟨_, rfl⟩
  rw [← hp23] at o23z ⊢
  refine RunO.store (v := .agg ⟨rc8 x⟩) rfl (by rw [hx]; rfl) (store_ow (s := 8) o23z rfl rfl rfl (Nat.le_refl 8)) (RunO.all rfl ?_)
  have o23 : Ow (h6z.put p23 (some ⟨rc8 x, true⟩)) p23 (rc8 x) := Ow.put _ o23z.1
  have f6y : Fr (· = p23) h6z (h6z.put p23 (some ⟨rc8 x, true⟩)) := Fr.put _ (.inl rfl)
  show RunC prog _ _ _ (h6z.put p23 (some ⟨rc8 x, true⟩)) _ _ _
  generalize h6z.put p23 (some ⟨rc8 x, true⟩) = h6 at *
  have f6 : Fr no h5 h6 := f6z.trans f6y (fun b g => .inr (by have g : b = p23 := g; omega))
  clear o23z f6z f6y
  have F6 := F5.same f6
  have o8_6 := o8.fr F6 (fun g => g)
  have sr6 := sr.fr0 F6
  have sp6 := sp.fr0 (f3.same (f4.same (f5.same f6)))
  have sq6 := sq.fr0 (f4.same (f5.same f6))
  -- Records
  refine RunC.seq (RunC.region (RunO.part 1 rfl ?_))
  refine RunO.load (v := .slice rA old.length rc) rfl (o8_6.ld rfl) rfl ?_
  refine RunO.part 2 rfl ?_
  refine RunO.load (v := .agg ⟨rc8 x⟩) rfl (o23.ld rfl) rfl ?_
  refine RunO.part 2 rfl ?_
  have hR : RunF prog 31 [.slice rA old.length rc, .slice pA bl.length pc, .int .i64 n, .agg ⟨rc8 x⟩, .bool w, .slice qA free.length qc] h6 fun v h' => Fr no h6 h' ∧ ∃ yA yn yc ya zA zn zc ye, v = .tuple #[.slice yA yn yc, .int .i64 ya, .slice zA zn zc, .int .i64 ye]
      ∧ (mayB old bl n x w free = false → yn = 0 ∧ ya = 0 ∧ zn = 0 ∧ ye = 1)
      ∧ (mayB old bl n x w free = true → free.length < (anewL old n.toNat w x).length → yn = 0 ∧ ya = 0 ∧ zn = 0 ∧ ye = 9)
      ∧ (mayB old bl n x w free = true → (anewL old n.toNat w x).length ≤ free.length → ye = 0 ∧ ya = nxA (at0L bl n.toNat) free (anewL old n.toNat w x).length ∧ Ios h' (.slice yA yn yc) (wrA (anewL old n.toNat w x) free (at0L bl n.toNat) (anewL old n.toNat w x).length) ∧ Sl h' (.slice zA zn zc) 1 (free.drop (anewL old n.toNat w x).length).length (is (free.drop (anewL old n.toNat w x).length))) := by
    cases hm : mayB old bl n x w free with
    | false =>
      refine (commitRecordsBad_ok sr6 sp6 sq6 (by omega) (by omega) (by omega) hm).mono ?_
      rintro v h' ⟨f, rfl⟩
      exact ⟨f, none, 0, 0, 0, none, 0, 0, 1, rfl, fun _ => ⟨rfl, rfl, rfl, rfl⟩, fun g => (by cases g), fun g => (by cases g)⟩
    | true =>
      obtain ⟨hn0, mo⟩ := may_mayOk (by omega) (by omega) hm
      obtain ⟨k, rfl⟩ := Int.eq_ofNat_of_zero_le hn0
      rw [Int.toNat_natCast] at mo ⊢
      by_cases hA : (anewL old k w x).length ≤ free.length
      · refine (commitRecords_ok sr6 sp6 sq6 mo hA).mono ?_
        rintro v h' ⟨f, lv, rv, rfl, iw, so⟩
        have hwl := wrA_len (anewL old k w x) free (at0L bl k) (anewL old k w x).length
        have ii := iw.ios (by omega)
        have ii' := ii
        obtain ⟨_, t_, _⟩ := ii'
        obtain ⟨yA, yc, rfl, _, _⟩ := t_.form
        have sz := so.sl
        obtain ⟨zA, zc, rfl, _, _⟩ := sz.form
        exact ⟨f, yA, _, yc, _, zA, _, zc, 0, rfl, fun g => (by cases g), fun _ g => (by omega), fun _ _ => ⟨rfl, rfl, ii, sz⟩⟩
      · refine (commitRecordsSpace_ok sr6 sp6 sq6 mo (by omega)).mono ?_
        rintro v h' ⟨f, rfl⟩
        exact ⟨f, none, 0, 0, 0, none, 0, 0, 9, rfl, fun g => (by cases g), fun _ _ => ⟨rfl, rfl, rfl, rfl⟩, fun _ g => (by omega)⟩
  refine RunO.callD hR rfl rfl rfl ?_
  rintro _ h7 ⟨f7, yA, yn, yc, ya, zA, zn, zc, ye, rfl, hY0, hY1, hY2⟩
  refine RunO.all rfl ?_
  have F7 := F6.same f7
  have o8_7 := o8.fr F7 (fun g => g)
  have o23_7 := o23.fr f7 (fun g => g)
  have sr7 := sr.fr0 F7
  have sb7 := sb0.fr0 F7
  have sf7 := sf0.fr0 F7
  -- handed in stays
  refine RunC.seqc (fun E' h' => h7 = h' ∧ Le ((upd (upd (upd (upd (upd (upd (upd (upd (upd (upd E0 5 (.slice bA bl.length bc)) 6 (.int .i64 n)) 7 (.slice fA free.length fc)) 8 (.pointer (some ⟨p8, 0, none⟩))) 23 (.pointer (some ⟨p23, 0, none⟩))) 24 (.bool w)) 25 (.slice yA yn yc)) 26 (.int .i64 ya)) 27 (.slice zA zn zc)) 28 (.int .i64 ye))) E') ?hi ?nx3
  case hi =>
    refine RunC.seq (RunC.region (RunO.part 2 rfl ?_))
    refine RunO.callD (keepInts_ok (sp6.fr0 f7) sb7 (by omega)) rfl rfl rfl ?_
    rintro _ _ ⟨rfl, rfl⟩
    rw [beq_self_eq_true bl]
    (repeat (first | refine RunO.step rfl ?_ | refine RunO.loadG rfl rfl (Ow.ld (by assumption) (by rfl)) rfl ?_ | refine RunO.nil ?_))
    refine RunO.callDG rfl (keepInts_ok (sq6.fr0 f7) sf7 (by omega)) rfl rfl rfl ?_
    rintro _ _ ⟨rfl, rfl⟩
    rw [beq_self_eq_true free]
    (repeat (first | refine RunO.step rfl ?_ | refine RunO.loadG rfl rfl (Ow.ld (by assumption) (by rfl)) rfl ?_ | refine RunO.nil ?_))
    exact RunC.cond rfl (fun g => by cases g) (fun _ => RunC.skip ⟨rfl, Le.cons rfl (Le.cons rfl (Le.cons rfl (Le.cons rfl (Le.cons rfl (Le.cons rfl (Le.cons rfl (Le.cons rfl (Le.cons rfl (Le.cons rfl (Le.nil _))))))))))⟩)
  rintro E' _ ⟨rfl, hE⟩
  refine RunC.le hE ?_
  clear hE
  -- may
  refine RunC.seqc (fun E' h' => Fr no h7 h' ∧ Le ((upd (upd (upd (upd (upd (upd (upd (upd (upd (upd (upd E0 5 (.slice bA bl.length bc)) 6 (.int .i64 n)) 7 (.slice fA free.length fc)) 8 (.pointer (some ⟨p8, 0, none⟩))) 23 (.pointer (some ⟨p23, 0, none⟩))) 24 (.bool w)) 25 (.slice yA yn yc)) 26 (.int .i64 ya)) 27 (.slice zA zn zc)) 28 (.int .i64 ye)) 29 (.bool (may0 old bl n x w)))) E') ?m0 ?nx4
  case m0 =>
    refine RunC.region (RunO.part 3 rfl ?_)
    refine RunO.load (v := .slice rA old.length rc) rfl (o8_7.ld rfl) rfl ?_
    refine RunO.part 1 rfl ?_
    refine RunO.part 1 rfl ?_
    by_cases e0 : bl.length = old.length
    case neg =>
      have em : may0 old bl n x w = false := by unfold may0; rw [show (((old.length : Int)) == ((bl.length : Int))) = false from beq_eq_false_iff_ne.2 (by omega)]; rfl
      rw [em, show (((bl.length : Int)) == ((old.length : Int))) = false from beq_eq_false_iff_ne.2 (by omega)]
      (repeat (first | refine RunO.step rfl ?_ | refine RunO.loadG rfl rfl (Ow.ld (by assumption) (by rfl)) rfl ?_ | refine RunO.nil ?_))
      exact ⟨Fr.refl _ _, Le.cons rfl (Le.cons rfl (Le.cons rfl (Le.cons rfl (Le.cons rfl (Le.cons rfl (Le.cons rfl (Le.cons rfl (Le.cons rfl (Le.cons rfl (Le.cons rfl (Le.nil _)))))))))))⟩
    have em : may0 old bl n x w = ((decide (n ≥ 0) && decide (n ≤ (bl.length : Int))) && (!w || r8Ok x)) := by unfold may0; rw [hx0, show (((old.length : Int)) == ((bl.length : Int))) = true from beq_iff_eq.2 (by omega), e0]; rfl
    rw [em, show (((bl.length : Int)) == ((old.length : Int))) = true from beq_iff_eq.2 (by omega)]
    (repeat (first | refine RunO.step rfl ?_ | refine RunO.loadG rfl rfl (Ow.ld (by assumption) (by rfl)) rfl ?_ | refine RunO.nil ?_))
    cases decide (n ≥ 0) with
    | false =>
      (repeat (first | refine RunO.step rfl ?_ | refine RunO.loadG rfl rfl (Ow.ld (by assumption) (by rfl)) rfl ?_ | refine RunO.nil ?_))
      exact ⟨Fr.refl _ _, Le.cons rfl (Le.cons rfl (Le.cons rfl (Le.cons rfl (Le.cons rfl (Le.cons rfl (Le.cons rfl (Le.cons rfl (Le.cons rfl (Le.cons rfl (Le.cons rfl (Le.nil _)))))))))))⟩
    | true =>
    (repeat (first | refine RunO.step rfl ?_ | refine RunO.loadG rfl rfl (Ow.ld (by assumption) (by rfl)) rfl ?_ | refine RunO.nil ?_))
    cases decide (n ≤ (bl.length : Int)) with
    | false =>
      (repeat (first | refine RunO.step rfl ?_ | refine RunO.loadG rfl rfl (Ow.ld (by assumption) (by rfl)) rfl ?_ | refine RunO.nil ?_))
      exact ⟨Fr.refl _ _, Le.cons rfl (Le.cons rfl (Le.cons rfl (Le.cons rfl (Le.cons rfl (Le.cons rfl (Le.cons rfl (Le.cons rfl (Le.cons rfl (Le.cons rfl (Le.cons rfl (Le.nil _)))))))))))⟩
    | true =>
    (repeat (first | refine RunO.step rfl ?_ | refine RunO.loadG rfl rfl (Ow.ld (by assumption) (by rfl)) rfl ?_ | refine RunO.nil ?_))
    cases w with
    | false =>
      (repeat (first | refine RunO.step rfl ?_ | refine RunO.loadG rfl rfl (Ow.ld (by assumption) (by rfl)) rfl ?_ | refine RunO.nil ?_))
      exact ⟨Fr.refl _ _, Le.cons rfl (Le.cons rfl (Le.cons rfl (Le.cons rfl (Le.cons rfl (Le.cons rfl (Le.cons rfl (Le.cons rfl (Le.cons rfl (Le.cons rfl (Le.cons rfl (Le.nil _)))))))))))⟩
    | true =>
      (repeat (first | refine RunO.step rfl ?_ | refine RunO.loadG rfl rfl (Ow.ld (by assumption) (by rfl)) rfl ?_ | refine RunO.nil ?_))
      refine RunO.callDG rfl (refRecord_ok (n := x.nx) (id := x.id) (pa := x.pa) (ro := x.ro) (sz := x.sz) (ki := x.ki) (fr := x.fr) (di := x.di)) rfl rfl rfl ?_
      rintro _ g1 ⟨rfl, e1⟩
      (repeat (first | refine RunO.step rfl ?_ | refine RunO.loadG rfl rfl (Ow.ld (by assumption) (by rfl)) rfl ?_ | refine RunO.nil ?_))
      exact ⟨e1, Le.cons rfl (Le.cons rfl (Le.cons rfl (Le.cons rfl (Le.cons rfl (Le.cons rfl (Le.cons rfl (Le.cons rfl (Le.cons rfl (Le.cons rfl (Le.cons rfl (Le.nil _)))))))))))⟩
  rintro E' h8 ⟨f8, hE⟩
  refine RunC.le hE ?_
  clear hE
  have hmay := mayB_eq old bl n x w free
  generalize may0 old bl n x w = b0 at *
  refine RunC.seqc (fun E' h' => Fr no h7 h' ∧ Le ((upd (upd (upd (upd (upd (upd (upd (upd (upd (upd (upd E0 5 (.slice bA bl.length bc)) 6 (.int .i64 n)) 7 (.slice fA free.length fc)) 8 (.pointer (some ⟨p8, 0, none⟩))) 23 (.pointer (some ⟨p23, 0, none⟩))) 24 (.bool w)) 25 (.slice yA yn yc)) 26 (.int .i64 ya)) 27 (.slice zA zn zc)) 28 (.int .i64 ye)) 29 (.bool (b0 && allN (fun j => r8Ok (old.getD j ⟨0, 0, 0, 0, 0, 0, 0, 0⟩)) old.length)))) E') ?lb1 ?xb1
  case lb1 =>
    refine RunC.seq (RunC.region (RunO.all rfl ?_))
    refine RunC.block ?_
    refine RunC.loop (fun d E h' => ∃ i : Nat, i + d = old.length ∧ Fr no h7 h' ∧ Le ((upd (upd (upd (upd (upd (upd (upd (upd (upd (upd (upd (upd E0 5 (.slice bA bl.length bc)) 6 (.int .i64 n)) 7 (.slice fA free.length fc)) 8 (.pointer (some ⟨p8, 0, none⟩))) 23 (.pointer (some ⟨p23, 0, none⟩))) 24 (.bool w)) 25 (.slice yA yn yc)) 26 (.int .i64 ya)) 27 (.slice zA zn zc)) 28 (.int .i64 ye)) 29 (.bool (b0 && allN (fun j => r8Ok (old.getD j ⟨0, 0, 0, 0, 0, 0, 0, 0⟩)) i))) 30 (.int .i64 (i : Int)))) E) ?stb1 (k := old.length) ?inib1
    case inib1 => exact ⟨0, by omega, f8, Le.cons rfl (Le.cons (by show some (Value.bool b0) = some (Value.bool (b0 && true)); rw [Bool.and_true]) (Le.cons rfl (Le.cons rfl (Le.cons rfl (Le.cons rfl (Le.cons rfl (Le.cons rfl (Le.cons rfl (Le.cons rfl (Le.cons rfl (Le.cons rfl (Le.nil _))))))))))))⟩
    rintro d E g ⟨i, hi, fg, hE⟩
    refine RunC.le hE ?_
    clear hE
    have o8g := o8_7.fr fg (fun g => g)
    refine RunC.seq (RunC.seq (RunC.region (RunO.part 2 rfl ?_)))
    refine RunO.load (v := .slice rA old.length rc) rfl (o8g.ld rfl) rfl (RunO.all rfl ?_)
    refine RunC.cond rfl (fun hlt => RunC.skip ?gob1) (fun hge => RunC.exit ?exb1)
    case exb1 =>
      have hge := of_decide_eq_false hge
      obtain rfl : i = old.length := by omega
      exact ⟨fg, Le.cons rfl (Le.cons rfl (Le.cons rfl (Le.cons rfl (Le.cons rfl (Le.cons rfl (Le.cons rfl (Le.cons rfl (Le.cons rfl (Le.cons rfl (Le.cons rfl (Le.nil _)))))))))))⟩
    have hlt := of_decide_eq_true hlt
    have hlt : i < old.length := by omega
    have hs : allN (fun j => r8Ok (old.getD j ⟨0, 0, 0, 0, 0, 0, 0, 0⟩)) (i + 1) = (allN (fun j => r8Ok (old.getD j ⟨0, 0, 0, 0, 0, 0, 0, 0⟩)) i && r8Ok old[i]) := by
      show (allN _ i && r8Ok (old.getD i ⟨0, 0, 0, 0, 0, 0, 0, 0⟩)) = _
      rw [List.getD_eq_getElem?_getD, List.getElem?_eq_getElem hlt]; rfl
    refine RunC.seqc (fun E' h' => Fr no h7 h' ∧ Le ((upd (upd (upd (upd (upd (upd (upd (upd (upd (upd (upd (upd E0 5 (.slice bA bl.length bc)) 6 (.int .i64 n)) 7 (.slice fA free.length fc)) 8 (.pointer (some ⟨p8, 0, none⟩))) 23 (.pointer (some ⟨p23, 0, none⟩))) 24 (.bool w)) 25 (.slice yA yn yc)) 26 (.int .i64 ya)) 27 (.slice zA zn zc)) 28 (.int .i64 ye)) 29 (.bool (b0 && allN (fun j => r8Ok (old.getD j ⟨0, 0, 0, 0, 0, 0, 0, 0⟩)) (i + 1)))) 30 (.int .i64 (i : Int)))) E') ?bdb1 ?inb1
    case bdb1 =>
      refine RunC.block ?_
      rw [hs, ← Bool.and_assoc]
      generalize (b0 && allN (fun j => r8Ok (old.getD j ⟨0, 0, 0, 0, 0, 0, 0, 0⟩)) i) = y
      refine RunC.region (RunO.part 1 rfl ?_)
      cases y with
      | false =>
        (repeat (first | refine RunO.step rfl ?_ | refine RunO.loadG rfl rfl (Ow.ld (by assumption) (by rfl)) rfl ?_ | refine RunO.nil ?_))
        exact ⟨fg, Le.cons rfl (Le.cons rfl (Le.cons rfl (Le.cons rfl (Le.cons rfl (Le.cons rfl (Le.cons rfl (Le.cons rfl (Le.cons rfl (Le.cons rfl (Le.cons rfl (Le.cons rfl (Le.nil _))))))))))))⟩
      | true =>
        refine RunO.part 2 rfl ?_
        refine RunO.loadG (v := .slice rA old.length rc) rfl rfl (o8g.ld rfl) rfl ?_
        refine RunO.part 1 rfl ?_
        refine RunO.atG (s := 8) (k := i) rfl (fun _ => rfl) rfl rfl (sr7.fr0 fg) rfl rfl hlt (recCs_part hlt) rfl rfl rfl ?_
        refine RunO.callDG rfl (refRecord_ok (n := old[i].nx) (id := old[i].id) (pa := old[i].pa) (ro := old[i].ro) (sz := old[i].sz) (ki := old[i].ki) (fr := old[i].fr) (di := old[i].di)) rfl rfl rfl ?_
        rintro _ g1 ⟨rfl, e1⟩
        (repeat (first | refine RunO.step rfl ?_ | refine RunO.loadG rfl rfl (Ow.ld (by assumption) (by rfl)) rfl ?_ | refine RunO.nil ?_))
        exact ⟨fg.same e1, Le.cons rfl (Le.cons rfl (Le.cons rfl (Le.cons rfl (Le.cons rfl (Le.cons rfl (Le.cons rfl (Le.cons rfl (Le.cons rfl (Le.cons rfl (Le.cons rfl (Le.cons rfl (Le.nil _))))))))))))⟩
    rintro E' g1 ⟨fg1, hE⟩
    refine RunC.le hE ?_
    clear hE
    refine RunC.region (RunO.all rfl ?_)
    exact ⟨d - 1, by omega, i + 1, by omega, fg1, Le.cons (inc64 (by omega)) (Le.cons rfl (Le.cons rfl (Le.cons rfl (Le.cons rfl (Le.cons rfl (Le.cons rfl (Le.cons rfl (Le.cons rfl (Le.cons rfl (Le.cons rfl (Le.cons rfl (Le.nil _))))))))))))⟩
  rintro E' h8 ⟨f8, hE⟩
  refine RunC.le hE ?_
  clear hE
  generalize (b0 && allN (fun j => r8Ok (old.getD j ⟨0, 0, 0, 0, 0, 0, 0, 0⟩)) old.length) = b1 at *
  refine RunC.seqc (fun E' h' => Fr no h7 h' ∧ Le ((upd (upd (upd (upd (upd (upd (upd (upd (upd (upd (upd E0 5 (.slice bA bl.length bc)) 6 (.int .i64 n)) 7 (.slice fA free.length fc)) 8 (.pointer (some ⟨p8, 0, none⟩))) 23 (.pointer (some ⟨p23, 0, none⟩))) 24 (.bool w)) 25 (.slice yA yn yc)) 26 (.int .i64 ya)) 27 (.slice zA zn zc)) 28 (.int .i64 ye)) 29 (.bool (b1 && allN (fun j => placeB (bl.getD j 0)) bl.length)))) E') ?lb2 ?xb2
  case lb2 =>
    refine RunC.seq (RunC.region (RunO.all rfl ?_))
    refine RunC.block ?_
    refine RunC.loop (fun d E h' => ∃ i : Nat, i + d = bl.length ∧ Fr no h7 h' ∧ Le ((upd (upd (upd (upd (upd (upd (upd (upd (upd (upd (upd (upd E0 5 (.slice bA bl.length bc)) 6 (.int .i64 n)) 7 (.slice fA free.length fc)) 8 (.pointer (some ⟨p8, 0, none⟩))) 23 (.pointer (some ⟨p23, 0, none⟩))) 24 (.bool w)) 25 (.slice yA yn yc)) 26 (.int .i64 ya)) 27 (.slice zA zn zc)) 28 (.int .i64 ye)) 29 (.bool (b1 && allN (fun j => placeB (bl.getD j 0)) i))) 31 (.int .i64 (i : Int)))) E) ?stb2 (k := bl.length) ?inib2
    case inib2 => exact ⟨0, by omega, f8, Le.cons rfl (Le.cons (by show some (Value.bool b1) = some (Value.bool (b1 && true)); rw [Bool.and_true]) (Le.cons rfl (Le.cons rfl (Le.cons rfl (Le.cons rfl (Le.cons rfl (Le.cons rfl (Le.cons rfl (Le.cons rfl (Le.cons rfl (Le.cons rfl (Le.nil _))))))))))))⟩
    rintro d E g ⟨i, hi, fg, hE⟩
    refine RunC.le hE ?_
    clear hE
    refine RunC.seq (RunC.seq (RunC.region (RunO.all rfl ?_)))
    refine RunC.cond rfl (fun hlt => RunC.skip ?gob2) (fun hge => RunC.exit ?exb2)
    case exb2 =>
      have hge := of_decide_eq_false hge
      obtain rfl : i = bl.length := by omega
      exact ⟨fg, Le.cons rfl (Le.cons rfl (Le.cons rfl (Le.cons rfl (Le.cons rfl (Le.cons rfl (Le.cons rfl (Le.cons rfl (Le.cons rfl (Le.cons rfl (Le.cons rfl (Le.nil _)))))))))))⟩
    have hlt := of_decide_eq_true hlt
    have hlt : i < bl.length := by omega
    have hpt := ig_at (l := bl) (i := i) hlt
    have sbg := sb7.fr0 fg
    have hs : allN (fun j => placeB (bl.getD j 0)) (i + 1) = (allN (fun j => placeB (bl.getD j 0)) i && placeB (bl.getD i 0)) := rfl
    refine RunC.seqc (fun E' h' => Fr no h7 h' ∧ Le ((upd (upd (upd (upd (upd (upd (upd (upd (upd (upd (upd (upd E0 5 (.slice bA bl.length bc)) 6 (.int .i64 n)) 7 (.slice fA free.length fc)) 8 (.pointer (some ⟨p8, 0, none⟩))) 23 (.pointer (some ⟨p23, 0, none⟩))) 24 (.bool w)) 25 (.slice yA yn yc)) 26 (.int .i64 ya)) 27 (.slice zA zn zc)) 28 (.int .i64 ye)) 29 (.bool (b1 && allN (fun j => placeB (bl.getD j 0)) (i + 1)))) 31 (.int .i64 (i : Int)))) E') ?bdb2 ?inb2
    case bdb2 =>
      refine RunC.block ?_
      rw [hs, ← Bool.and_assoc]
      generalize (b1 && allN (fun j => placeB (bl.getD j 0)) i) = y
      unfold placeB
      refine RunC.region (RunO.part 1 rfl ?_)
      cases y with
      | false =>
        (repeat (first | refine RunO.step rfl ?_ | refine RunO.loadG rfl rfl (Ow.ld (by assumption) (by rfl)) rfl ?_ | refine RunO.nil ?_))
        exact ⟨fg, Le.cons rfl (Le.cons rfl (Le.cons rfl (Le.cons rfl (Le.cons rfl (Le.cons rfl (Le.cons rfl (Le.cons rfl (Le.cons rfl (Le.cons rfl (Le.cons rfl (Le.cons rfl (Le.nil _))))))))))))⟩
      | true =>
        refine RunO.part 3 rfl ?_
        refine RunO.atG (s := 1) (k := i) rfl (fun _ => rfl) rfl rfl sbg rfl rfl hlt hpt rfl rfl rfl ?_
        refine RunO.part 1 rfl ?_
        cases decide (bl.getD i 0 ≥ 2) with
        | false =>
          (repeat (first | refine RunO.step rfl ?_ | refine RunO.loadG rfl rfl (Ow.ld (by assumption) (by rfl)) rfl ?_ | refine RunO.nil ?_))
          exact ⟨fg, Le.cons rfl (Le.cons rfl (Le.cons rfl (Le.cons rfl (Le.cons rfl (Le.cons rfl (Le.cons rfl (Le.cons rfl (Le.cons rfl (Le.cons rfl (Le.cons rfl (Le.cons rfl (Le.nil _))))))))))))⟩
        | true =>
          refine RunO.part 4 rfl ?_
          refine RunO.atG (s := 1) (k := i) rfl (fun _ => rfl) rfl rfl sbg rfl rfl hlt hpt rfl rfl rfl ?_
          (repeat (first | refine RunO.step rfl ?_ | refine RunO.loadG rfl rfl (Ow.ld (by assumption) (by rfl)) rfl ?_ | refine RunO.nil ?_))
          exact ⟨fg, Le.cons rfl (Le.cons rfl (Le.cons rfl (Le.cons rfl (Le.cons rfl (Le.cons rfl (Le.cons rfl (Le.cons rfl (Le.cons rfl (Le.cons rfl (Le.cons rfl (Le.cons rfl (Le.nil _))))))))))))⟩
    rintro E' g1 ⟨fg1, hE⟩
    refine RunC.le hE ?_
    clear hE
    refine RunC.region (RunO.all rfl ?_)
    exact ⟨d - 1, by omega, i + 1, by omega, fg1, Le.cons (inc64 (by omega)) (Le.cons rfl (Le.cons rfl (Le.cons rfl (Le.cons rfl (Le.cons rfl (Le.cons rfl (Le.cons rfl (Le.cons rfl (Le.cons rfl (Le.cons rfl (Le.cons rfl (Le.nil _))))))))))))⟩
  rintro E' h8 ⟨f8, hE⟩
  refine RunC.le hE ?_
  clear hE
  generalize (b1 && allN (fun j => placeB (bl.getD j 0)) bl.length) = b2 at *
  refine RunC.seqc (fun E' h' => Fr no h7 h' ∧ Le ((upd (upd (upd (upd (upd (upd (upd (upd (upd (upd (upd E0 5 (.slice bA bl.length bc)) 6 (.int .i64 n)) 7 (.slice fA free.length fc)) 8 (.pointer (some ⟨p8, 0, none⟩))) 23 (.pointer (some ⟨p23, 0, none⟩))) 24 (.bool w)) 25 (.slice yA yn yc)) 26 (.int .i64 ya)) 27 (.slice zA zn zc)) 28 (.int .i64 ye)) 29 (.bool (b2 && allN (m3B free) free.length)))) E') ?lb3 ?xb3
  case lb3 =>
    refine RunC.seq (RunC.region (RunO.all rfl ?_))
    refine RunC.block ?_
    refine RunC.loop (fun d E h' => ∃ i : Nat, i + d = free.length ∧ Fr no h7 h' ∧ Le ((upd (upd (upd (upd (upd (upd (upd (upd (upd (upd (upd (upd E0 5 (.slice bA bl.length bc)) 6 (.int .i64 n)) 7 (.slice fA free.length fc)) 8 (.pointer (some ⟨p8, 0, none⟩))) 23 (.pointer (some ⟨p23, 0, none⟩))) 24 (.bool w)) 25 (.slice yA yn yc)) 26 (.int .i64 ya)) 27 (.slice zA zn zc)) 28 (.int .i64 ye)) 29 (.bool (b2 && allN (m3B free) i))) 32 (.int .i64 (i : Int)))) E) ?stb3 (k := free.length) ?inib3
    case inib3 => exact ⟨0, by omega, f8, Le.cons rfl (Le.cons (by show some (Value.bool b2) = some (Value.bool (b2 && true)); rw [Bool.and_true]) (Le.cons rfl (Le.cons rfl (Le.cons rfl (Le.cons rfl (Le.cons rfl (Le.cons rfl (Le.cons rfl (Le.cons rfl (Le.cons rfl (Le.cons rfl (Le.nil _))))))))))))⟩
    rintro d E g ⟨i, hi, fg, hE⟩
    refine RunC.le hE ?_
    clear hE
    refine RunC.seq (RunC.seq (RunC.region (RunO.all rfl ?_)))
    refine RunC.cond rfl (fun hlt => RunC.skip ?gob3) (fun hge => RunC.exit ?exb3)
    case exb3 =>
      have hge := of_decide_eq_false hge
      obtain rfl : i = free.length := by omega
      exact ⟨fg, Le.cons rfl (Le.cons rfl (Le.cons rfl (Le.cons rfl (Le.cons rfl (Le.cons rfl (Le.cons rfl (Le.cons rfl (Le.cons rfl (Le.cons rfl (Le.cons rfl (Le.nil _)))))))))))⟩
    have hlt := of_decide_eq_true hlt
    have hlt : i < free.length := by omega
    have hpt := ig_at (l := free) (i := i) hlt
    have sfg := sf7.fr0 fg
    have hs : allN (m3B free) (i + 1) = (allN (m3B free) i && m3B free i) := rfl
    refine RunC.seqc (fun E' h' => Fr no h7 h' ∧ Le ((upd (upd (upd (upd (upd (upd (upd (upd (upd (upd (upd (upd E0 5 (.slice bA bl.length bc)) 6 (.int .i64 n)) 7 (.slice fA free.length fc)) 8 (.pointer (some ⟨p8, 0, none⟩))) 23 (.pointer (some ⟨p23, 0, none⟩))) 24 (.bool w)) 25 (.slice yA yn yc)) 26 (.int .i64 ya)) 27 (.slice zA zn zc)) 28 (.int .i64 ye)) 29 (.bool (b2 && allN (m3B free) (i + 1)))) 32 (.int .i64 (i : Int)))) E') ?bdb3 ?inb3
    case bdb3 =>
      refine RunC.block ?_
      rw [hs, ← Bool.and_assoc]
      generalize (b2 && allN (m3B free) i) = y
      unfold m3B placeB
      refine RunC.draw0 rfl (RunO.part 1 rfl ?_)
      cases y with
      | false =>
        (repeat (first | refine RunO.step rfl ?_ | refine RunO.loadG rfl rfl (Ow.ld (by assumption) (by rfl)) rfl ?_ | refine RunO.nil ?_))
        exact ⟨fg, Le.cons rfl (Le.cons rfl (Le.cons rfl (Le.cons rfl (Le.cons rfl (Le.cons rfl (Le.cons rfl (Le.cons rfl (Le.cons rfl (Le.cons rfl (Le.cons rfl (Le.cons rfl (Le.nil _))))))))))))⟩
      | true =>
        refine RunO.part 3 rfl ?_
        refine RunO.atG (s := 1) (k := i) rfl (fun _ => rfl) rfl rfl sfg rfl rfl hlt hpt rfl rfl rfl ?_
        refine RunO.part 1 rfl ?_
        cases decide (free.getD i 0 ≥ 2) with
        | false =>
          (repeat (first | refine RunO.step rfl ?_ | refine RunO.loadG rfl rfl (Ow.ld (by assumption) (by rfl)) rfl ?_ | refine RunO.nil ?_))
          exact ⟨fg, Le.cons rfl (Le.cons rfl (Le.cons rfl (Le.cons rfl (Le.cons rfl (Le.cons rfl (Le.cons rfl (Le.cons rfl (Le.cons rfl (Le.cons rfl (Le.cons rfl (Le.cons rfl (Le.nil _))))))))))))⟩
        | true =>
          refine RunO.part 4 rfl ?_
          refine RunO.atG (s := 1) (k := i) rfl (fun _ => rfl) rfl rfl sfg rfl rfl hlt hpt rfl rfl rfl ?_
          refine RunO.part 1 rfl ?_
          cases decide (free.getD i 0 < 4096) with
          | false =>
            (repeat (first | refine RunO.step rfl ?_ | refine RunO.loadG rfl rfl (Ow.ld (by assumption) (by rfl)) rfl ?_ | refine RunO.nil ?_))
            exact ⟨fg, Le.cons rfl (Le.cons rfl (Le.cons rfl (Le.cons rfl (Le.cons rfl (Le.cons rfl (Le.cons rfl (Le.cons rfl (Le.cons rfl (Le.cons rfl (Le.cons rfl (Le.cons rfl (Le.nil _))))))))))))⟩
          | true =>
            refine RunO.part 3 rfl ?_
            refine RunO.part 1 rfl ?_
            by_cases h0 : i = 0
            · subst h0
              (repeat (first | refine RunO.step rfl ?_ | refine RunO.loadG rfl rfl (Ow.ld (by assumption) (by rfl)) rfl ?_ | refine RunO.nil ?_))
              exact ⟨fg, Le.cons rfl (Le.cons rfl (Le.cons rfl (Le.cons rfl (Le.cons rfl (Le.cons rfl (Le.cons rfl (Le.cons rfl (Le.cons rfl (Le.cons rfl (Le.cons rfl (Le.cons rfl (Le.nil _))))))))))))⟩
            rw [show (((i : Nat) : Int) == 0) = false from beq_eq_false_iff_ne.2 (by omega)]
            obtain ⟨k, rfl⟩ : ∃ k, i = k + 1 := ⟨i - 1, by omega⟩
            have hk : k < free.length := by omega
            have hptk := ig_at (l := free) (i := k) hk
            have hu : upB free (k + 1) = decide (free.getD k 0 < free.getD (k + 1) 0) := by
              unfold upB
              rw [show ((k + 1 : Nat) == 0) = false from rfl, Bool.false_or, Nat.add_sub_cancel]
            rw [hu]
            refine RunO.part 3 rfl ?_
            refine RunO.atG (s := 1) (k := k + 1) rfl (fun _ => rfl) rfl rfl sfg rfl rfl hlt hpt rfl rfl rfl ?_
            refine RunO.part 3 rfl ?_
            rw [fw64 (x := ((k + 1 : Nat) : Int) - 1) (by omega) (by omega), show ((k + 1 : Nat) : Int) - 1 = (k : Int) by omega]
            refine RunO.atG (s := 1) (k := k) rfl (fun _ => rfl) rfl rfl sfg rfl rfl hk hptk rfl rfl rfl ?_
            (repeat (first | refine RunO.step rfl ?_ | refine RunO.loadG rfl rfl (Ow.ld (by assumption) (by rfl)) rfl ?_ | refine RunO.nil ?_))
            exact ⟨fg, Le.cons rfl (Le.cons rfl (Le.cons rfl (Le.cons rfl (Le.cons rfl (Le.cons rfl (Le.cons rfl (Le.cons rfl (Le.cons rfl (Le.cons rfl (Le.cons rfl (Le.cons rfl (Le.nil _))))))))))))⟩
    rintro E' g1 ⟨fg1, hE⟩
    refine RunC.le hE ?_
    clear hE
    refine RunC.region (RunO.all rfl ?_)
    exact ⟨d - 1, by omega, i + 1, by omega, fg1, Le.cons (inc64 (by omega)) (Le.cons rfl (Le.cons rfl (Le.cons rfl (Le.cons rfl (Le.cons rfl (Le.cons rfl (Le.cons rfl (Le.cons rfl (Le.cons rfl (Le.cons rfl (Le.cons rfl (Le.nil _))))))))))))⟩
  rintro E' h8 ⟨f8, hE⟩
  refine RunC.le hE ?_
  clear hE
  rw [hmay]
  -- not so
  cases hm : mayB old bl n x w free with
  | false =>
    obtain ⟨t1, t2, t3, t4⟩ := hY0 hm
    subst t1; subst t2; subst t3; subst t4
    refine RunC.seq (RunC.seq (RunC.region (RunO.all rfl (RunC.cond rfl (fun _ => ?_) (fun g => by cases g)))))
    refine RunC.seq (RunC.region ?_)
    (repeat (first | refine RunO.step rfl ?_ | refine RunO.loadG rfl rfl (Ow.ld (by assumption) (by rfl)) rfl ?_ | refine RunO.nil ?_))
    refine RunO.callDG rfl wakes15_ok rfl rfl rfl ?_
    rintro _ h99 ⟨rfl, f99⟩
    exact RunO.all rfl (RunC.ret ⟨_, rfl, rfl⟩)
  | true =>
  refine RunC.seq (RunC.seq (RunC.region (RunO.all rfl (RunC.cond rfl (fun g => by cases g) (fun _ => RunC.skip ?_)))))
  obtain ⟨hn0, mo⟩ := may_mayOk (by omega) (by omega) hm
  obtain ⟨k, rfl⟩ := Int.eq_ofNat_of_zero_le hn0
  rw [Int.toNat_natCast] at mo hY1 hY2
  have o8_8 := o8_7.fr f8 (fun g => g)
  have o23_8 := o23_7.fr f8 (fun g => g)
  refine RunC.seq (RunC.region (RunO.part 1 rfl ?_))
  refine RunO.load (v := .slice rA old.length rc) rfl (o8_8.ld rfl) rfl ?_
  refine RunO.part 2 rfl ?_
  refine RunO.load (v := .agg ⟨rc8 x⟩) rfl (o23_8.ld rfl) rfl ?_
  refine RunO.part 2 rfl ?_
  refine RunO.callD (refChain_ok (sr7.fr0 f8) (sb7.fr0 f8) (sf7.fr0 f8) mo) rfl rfl rfl ?_
  rintro _ h9 ⟨f9, ⟨hA, lv, rv, rfl, iw, rr⟩ | ⟨hA, rfl⟩⟩
  case inr =>
    obtain ⟨t1, t2, t3, t4⟩ := hY1 hm hA
    subst t1; subst t2; subst t3; subst t4
    refine RunO.all rfl ?_
    refine RunC.seq (RunC.seq (RunC.region (RunO.all rfl (RunC.cond rfl (fun _ => ?_) (fun g => by cases g)))))
    refine RunC.seq (RunC.region ?_)
    (repeat (first | refine RunO.step rfl ?_ | refine RunO.loadG rfl rfl (Ow.ld (by assumption) (by rfl)) rfl ?_ | refine RunO.nil ?_))
    refine RunO.callDG rfl wakes15_ok rfl rfl rfl ?_
    rintro _ h99 ⟨rfl, f99⟩
    exact RunO.all rfl (RunC.ret ⟨_, rfl, rfl⟩)
  obtain ⟨t1, t2, iy, sz⟩ := hY2 hm hA
  subst t1; subst t2
  have hwl := wrA_len (anewL old k w x) free (at0L bl k) (anewL old k w x).length
  have iy9 := (iy.frm0 f8).frm0 f9
  have iz := iw.ios (by omega)
  have iz' := iz
  obtain ⟨_, t_, _⟩ := iz'
  obtain ⟨vA, vc, rfl, _, _⟩ := t_.form
  have sz9 := (sz.fr0 f8).fr0 f9
  have sr9 := rr.sl (by rw [List.length_drop]; omega)
  obtain ⟨uA, uc, rfl, _, _⟩ := sr9.form
  refine RunO.all rfl ?_
  refine RunC.seq (RunC.seq (RunC.region (RunO.all rfl (RunC.cond rfl (fun g => by cases g) (fun _ => RunC.skip ?_)))))
  refine RunC.seq (RunC.region ?_)
  (repeat (first | refine RunO.step rfl ?_ | refine RunO.loadG rfl rfl (Ow.ld (by assumption) (by rfl)) rfl ?_ | refine RunO.nil ?_))
  refine RunO.callDG rfl (keepIos_ok iy9 iz (by omega) (fun y hy => by
    unfold wrA at hy
    obtain ⟨j, _, rfl⟩ := List.mem_map.1 hy
    show (r8B _).length ≤ _
    rw [r8B_len]; decide)) rfl rfl rfl ?_
  rintro _ _ ⟨rfl, rfl⟩
  refine RunO.part 4 rfl ?_
  refine RunO.part 1 rfl ?_
  rw [beq_self_eq_true (nxA (at0L bl k) free (anewL old k w x).length)]
  (repeat (first | refine RunO.step rfl ?_ | refine RunO.loadG rfl rfl (Ow.ld (by assumption) (by rfl)) rfl ?_ | refine RunO.nil ?_))
  refine RunO.callDG rfl (keepInts_ok sz9 sr9 (by rw [List.length_drop]; omega)) rfl rfl rfl ?_
  rintro _ _ ⟨rfl, rfl⟩
  rw [beq_self_eq_true (free.drop (anewL old k w x).length)]
  (repeat (first | refine RunO.step rfl ?_ | refine RunO.loadG rfl rfl (Ow.ld (by assumption) (by rfl)) rfl ?_ | refine RunO.nil ?_))
  refine RunO.callDG rfl wakes15_ok rfl rfl rfl ?_
  rintro _ h99 ⟨rfl, f99⟩
  exact RunO.all rfl (RunC.ret ⟨_, rfl, rfl⟩)
end Go.Proofs.Ytcbakhanpiemhaa
end
