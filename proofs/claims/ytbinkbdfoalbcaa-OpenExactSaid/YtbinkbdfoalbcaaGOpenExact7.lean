/- OpenExact: a calculus over an abstract machine that stands beside the model, and contracts of functions by it (part 7).
Conditions: what each theorem says of its arguments. -/
import Derived.Test.YtbinkbdfoalbcaaGOpenExact6
section
set_option linter.unusedVariables false
set_option linter.unusedSectionVars false
set_option maxRecDepth 100000
open Go Go.Am Go.RowKit
namespace Go.Proofs.Ytbinkbdfoalbcaa
open Go.Proofs.Try
/-- Whole numbers of an int. -/
def In64 (x : Int) : Prop := -9223372036854775808 ≤ x ∧ x ≤ 9223372036854775807
theorem cells_of {α : Type} {k : Nat} (g : α → List Value) (hk : 1 ≤ k) : ∀ (q : List α) (acs : List Value), acs.length = q.length * k → (∀ (j : Nat) (y : α), q[j]? = some y → (acs.drop (j * k)).take k = g y) → acs = q.flatMap g
  | [], acs, h, _ => by
    have : acs.length = 0 := by rw [h]; simp
    rw [List.length_eq_zero_iff.1 this]; rfl
  | y :: q, acs, h, H => by
    have h0 := H 0 y rfl
    rw [Nat.zero_mul, List.drop_zero] at h0
    rw [List.flatMap_cons, ← h0, ← cells_of g hk q (acs.drop k) (by rw [List.length_drop, h, List.length_cons, Nat.add_mul]; omega) (fun j z hz => by
      have := H (j + 1) z (by simpa using hz)
      rw [show (j + 1) * k = k + j * k by rw [Nat.add_mul]; omega, ← List.drop_drop] at this
      exact this)]
    exact (List.take_append_drop k acs).symm
abbrev I8 : Sh := .int .i64
abbrev ShS5 : Sh := .pair I8 (.pair I8 (.pair I8 (.pair I8 (.pair I8 .unit))))
abbrev ShR8 : Sh := .pair I8 (.pair I8 (.pair I8 (.pair I8 (.pair I8 (.pair I8 (.pair I8 (.pair I8 .unit)))))))
abbrev ShState : Sh := .pair ShS5 (.pair I8 (.pair (.slice ShR8) .unit))
def r8Of (y : ShR8.T) : R8 := ⟨y.1, y.2.1, y.2.2.1, y.2.2.2.1, y.2.2.2.2.1, y.2.2.2.2.2.1, y.2.2.2.2.2.2.1, y.2.2.2.2.2.2.2.1⟩
def R8In (r : R8) : Prop := In64 r.nx ∧ In64 r.id ∧ In64 r.pa ∧ In64 r.ro ∧ In64 r.sz ∧ In64 r.ki ∧ In64 r.fr ∧ In64 r.di
def S5In (s : S5) : Prop := In64 s.1 ∧ In64 s.2.1 ∧ In64 s.2.2.1 ∧ In64 s.2.2.2.1 ∧ In64 s.2.2.2.2
theorem r8K {h : Heap} {y : ShR8.T} {cs : List Value} (k : ShR8.K h y cs) : cs = rc8 (r8Of y) ∧ R8In (r8Of y) := by
  obtain ⟨c1, d1, rfl, _, _, ⟨rfl, w1⟩, c2, d2, rfl, _, _, ⟨rfl, w2⟩, c3, d3, rfl, _, _, ⟨rfl, w3⟩, c4, d4, rfl, _, _, ⟨rfl, w4⟩, c5, d5, rfl, _, _, ⟨rfl, w5⟩, c6, d6, rfl, _, _, ⟨rfl, w6⟩, c7, d7, rfl, _, _, ⟨rfl, w7⟩, c8, d8, rfl, _, _, ⟨rfl, w8⟩, e⟩ := k
  have e : d8 = [] := e
  subst e
  exact ⟨rfl, wf_i64 w1, wf_i64 w2, wf_i64 w3, wf_i64 w4, wf_i64 w5, wf_i64 w6, wf_i64 w7, wf_i64 w8⟩
theorem s5K {h : Heap} {y : ShS5.T} {cs : List Value} (k : ShS5.K h y cs) : cs = sc5 (y.1, y.2.1, y.2.2.1, y.2.2.2.1, y.2.2.2.2.1) ∧ S5In (y.1, y.2.1, y.2.2.1, y.2.2.2.1, y.2.2.2.2.1) := by
  obtain ⟨c1, d1, rfl, _, _, ⟨rfl, w1⟩, c2, d2, rfl, _, _, ⟨rfl, w2⟩, c3, d3, rfl, _, _, ⟨rfl, w3⟩, c4, d4, rfl, _, _, ⟨rfl, w4⟩, c5, d5, rfl, _, _, ⟨rfl, w5⟩, e⟩ := k
  have e : d5 = [] := e
  subst e
  exact ⟨rfl, wf_i64 w1, wf_i64 w2, wf_i64 w3, wf_i64 w4, wf_i64 w5⟩
theorem slRecsK {h : Heap} {q : List ShR8.T} {cs : List Value} (k : (Sh.slice ShR8).K h q cs) : ∃ v, cs = [v] ∧ Sl h v 8 (q.map r8Of).length (recCs (q.map r8Of)) ∧ ∀ r ∈ q.map r8Of, R8In r := by
  obtain ⟨v, acs, h3, hs, H⟩ := k
  have hs : Sl h v 8 q.length acs := hs
  have H : ∀ (j : Nat) (y : ShR8.T), q[j]? = some y → ShR8.K h y ((acs.drop (j * 8)).take 8) := fun j y hy => H j y ((nth_eq q j).trans hy)
  refine ⟨v, h3, ?_, ?_⟩
  · have e := cells_of (k := 8) (fun y => rc8 (r8Of y)) (by decide) q acs hs.1 (fun j y hy => (r8K (H j y hy)).1)
    have e2 : recCs (q.map r8Of) = q.flatMap (fun y => rc8 (r8Of y)) := by unfold recCs; rw [List.flatMap_map]
    rw [List.length_map, e2, ← e]
    exact hs
  · intro r hr
    obtain ⟨y, hy, rfl⟩ := List.mem_map.1 hr
    obtain ⟨j, hj, e⟩ := List.mem_iff_getElem.1 hy
    exact (r8K (H j y (by rw [List.getElem?_eq_getElem hj, e]))).2
theorem argState {l : List Sh} {h : Heap} {x : ArgsT (ShState :: l)} {vs : List Value} (a : ArgsK (ShState :: l) h x vs) :
    ∃ (s : S5) (slot : Int) (rs : List R8) (r : ArgsT l) (rv : Value) (vr : List Value), vs = .agg ⟨stc s slot rv⟩ :: vr ∧ Sl h rv 8 rs.length (recCs rs) ∧ S5In s ∧ In64 slot ∧ (∀ r ∈ rs, R8In r) ∧ ArgsK l h r vr := by
  obtain ⟨v, vr, rfl, h1, h2⟩ := a
  obtain ⟨cs, rfl, k⟩ : ∃ cs, v = .agg ⟨cs⟩ ∧ ShState.K h x.1 cs := h1
  obtain ⟨c1, d1, rfl, _, _, k1, c2, d2, rfl, _, _, ⟨rfl, w2⟩, c3, d3, rfl, _, _, k3, e⟩ := k
  have e : d3 = [] := e
  subst e
  obtain ⟨rfl, w1⟩ := s5K k1
  obtain ⟨rv, rfl, sl, w3⟩ := slRecsK k3
  exact ⟨_, _, _, x.2, rv, vr, rfl, sl, w1, wf_i64 w2, w3, h2⟩
end Go.Proofs.Ytbinkbdfoalbcaa
end
section
set_option linter.unusedVariables false
set_option linter.unusedSectionVars false
set_option maxRecDepth 100000
open Go Go.Am Go.RowKit
namespace Go.Proofs.Ytbinkbdfoalbcaa
open Go.Proofs.Try
theorem stc_cells {h : Heap} {lo : Nat} {s : S5} {slot : Int} {rv : Value} {l : List R8} (r : Row lo h rv 8 l.length (recCs l)) : allCells (stc s slot rv) = true := by
  rcases r.2 with ⟨e, _⟩ | ⟨b, _, e, _⟩ <;> (rw [e]; rfl)
theorem stc_store (s : S5) (slot : Int) (rv : Value) : (stc (0, 0, 0, 0, 0) 0 (.slice none 0 0)).take 0 ++ cellsOf (.agg ⟨stc s slot rv⟩) ++ (stc (0, 0, 0, 0, 0) 0 (.slice none 0 0)).drop (0 + 7) = stc s slot rv := rfl
set_option maxHeartbeats 8000000 in
theorem wakes11_ok {h : Heap} : RunF prog 23 [] h fun v h' => v = .bool true ∧ Fr no h h' := by
  refine RunF.walk func23 rfl rfl ?_
  have h4 : 4 ≤ 8 := by decide
  have hB : 8 ≤ 4096 := by decide
  refine RunC.seq (RunC.region (RunO.all rfl ?_))
  refine RunC.seq (RunC.region ?_)
  refine RunO.callD (openNew_ok (B := 8) h4 hB) rfl rfl rfl ?_
  rintro _ h1 ⟨f1, ib, hib, rfl, oi⟩
  obtain ⟨k1, k2, k3⟩ := lk_new h4 hB
  have hp := pick_new h4 hB
  have hl := newI_len (B := 8) (by decide)
  have hby := newI_byt 8
  generalize newI 8 = L at *
  have sli := sl_own oi hl (Cp.exc (Nat.le_refl _)) (by decide)
  refine RunO.all rfl ?_
  refine RunC.seq (RunC.region (RunO.part 1 rfl ?_))
  refine RunO.callD (openOpen_ok sli hby (by omega)) rfl rfl rfl ?_
  rintro _ h2 ⟨f2, ⟨_, rv, rfl, rl⟩ | ⟨g, _⟩⟩
  case inr => rw [k1] at g; exact absurd rfl g
  rw [k2] at rl
  rw [k3, hp]
  replace sli := sli.fr0 f2
  have F2 := f1.same f2
  refine RunO.part 4 (h1 := h2.push ⟨stc (0, 0, 0, 0, 0) 0 (.slice none 0 0), true⟩) rfl ?_
  refine RunO.store rfl rfl (store_ow (s := 7) (Ow.push h2 (stc (0, 0, 0, 0, 0) 0 (.slice none 0 0))) rfl rfl (stc_cells rl) (Nat.le_of_ble_eq_true rfl)) (RunO.all rfl ?_)
  rw [stc_store]
  have os : Ow ((h2.push ⟨stc (0, 0, 0, 0, 0) 0 (.slice none 0 0), true⟩).put h2.next (some ⟨stc (1, 8, 0, 0, 0) 0 rv, true⟩)) h2.next (stc (1, 8, 0, 0, 0) 0 rv) := Ow.put _ (Nat.lt_succ_self _)
  have f3 : Fr no h2 ((h2.push ⟨stc (0, 0, 0, 0, 0) 0 (.slice none 0 0), true⟩).put h2.next (some ⟨stc (1, 8, 0, 0, 0) 0 rv, true⟩)) := (Fr.push _ _ _).trans (Fr.put (m := (· = h2.next)) _ (.inl rfl)) (fun j hj => .inr (by omega))
  replace sli := sli.fr0 f3
  replace rl := rl.fr f3 (fun _ _ _ g => g)
  have F3 := F2.same f3
  show RunC prog _ _ _ ((h2.push ⟨stc (0, 0, 0, 0, 0) 0 (.slice none 0 0), true⟩).put h2.next (some ⟨stc (1, 8, 0, 0, 0) 0 rv, true⟩)) _ _ _
  generalize (h2.push ⟨stc (0, 0, 0, 0, 0) 0 (.slice none 0 0), true⟩).put h2.next (some ⟨stc (1, 8, 0, 0, 0) 0 rv, true⟩) = h3 at *
  generalize h2.next = sb at *
  -- of zeros none
  refine RunC.seq (RunC.region ?_)
  refine RunO.make (m := 512) rfl rfl rfl rfl rfl rfl (Nat.le_of_ble_eq_true rfl) (by decide) rfl ?_
  rw [reps_us]
  have oz := Ow.push h3 (us (List.replicate 512 0))
  have f4 : Fr no h3 (h3.push ⟨us (List.replicate 512 0), true⟩) := Fr.push _ _ _
  replace sli := sli.fr0 f4
  replace rl := rl.fr f4 (fun _ _ _ g => g)
  replace os := os.fr f4 (fun g => g)
  have F4 := F3.same f4
  generalize h3.push ⟨us (List.replicate 512 0), true⟩ = h4_ at *
  generalize h3.next = zb at *
  have hz : lk (List.replicate 512 0) = (0, 8) := lk_zeros (by decide)
  have hzl : (List.replicate 512 (0 : Int)).length = 512 := List.length_replicate
  have hzb := byt_zeros 512
  generalize List.replicate 512 (0 : Int) = Z at *
  have slz := sl_own oz hzl (Cp.exc (Nat.le_refl _)) (by decide)
  refine RunO.callD (openOpen_ok slz hzb (by omega)) rfl rfl rfl ?_
  rw [hz]
  rintro _ h5 ⟨f5, ⟨g, _⟩ | ⟨_, rfl⟩⟩
  · cases g
  replace sli := sli.fr0 f5
  replace rl := rl.fr f5 (fun _ _ _ g => g)
  replace os := os.fr f5 (fun g => g)
  have F5 := F4.same f5
  refine RunO.part 4 (h1 := h5.push ⟨stc (0, 0, 0, 0, 0) 0 (.slice none 0 0), true⟩) rfl ?_
  refine RunO.store rfl rfl (store_ow (s := 7) (Ow.push h5 (stc (0, 0, 0, 0, 0) 0 (.slice none 0 0))) rfl rfl rfl (Nat.le_of_ble_eq_true rfl)) (RunO.all rfl ?_)
  rw [stc_store]
  have f6 : Fr no h5 ((h5.push ⟨stc (0, 0, 0, 0, 0) 0 (.slice none 0 0), true⟩).put h5.next (some ⟨stc (0, 0, 0, 0, 0) 0 (.slice none 0 0), true⟩)) := (Fr.push _ _ _).trans (Fr.put (m := (· = h5.next)) _ (.inl rfl)) (fun j hj => .inr (by omega))
  replace sli := sli.fr0 f6
  replace rl := rl.fr f6 (fun _ _ _ g => g)
  replace os := os.fr f6 (fun g => g)
  have F6 := F5.same f6
  show RunC prog _ _ _ ((h5.push ⟨stc (0, 0, 0, 0, 0) 0 (.slice none 0 0), true⟩).put h5.next (some ⟨stc (0, 0, 0, 0, 0) 0 (.slice none 0 0), true⟩)) _ _ _
  generalize (h5.push ⟨stc (0, 0, 0, 0, 0) 0 (.slice none 0 0), true⟩).put h5.next (some ⟨stc (0, 0, 0, 0, 0) 0 (.slice none 0 0), true⟩) = h6 at *
  generalize h5.next = tb at *
  -- no records
  refine RunC.seq (RunC.region (RunO.part 1 rfl ?_))
  refine RunO.callD (openRecords_ok (a := 0) sli hby (by omega)) rfl rfl rfl ?_
  have hd : devOk L.length = true := by rw [hl]; decide
  have hE : recsE L 0 = 0 := by
    unfold recsE
    rw [hd, fol_none, if_pos rfl]; rfl
  rintro _ h7 ⟨f7, ⟨_, lv, bv, rfl, rr, rb⟩ | ⟨g, _⟩⟩
  case inr => exact absurd hE g
  rw [fol_none] at rr rb
  obtain ⟨lA, lc, rfl, _, _⟩ := (rr.sl (by decide)).form
  obtain ⟨bA, bc, rfl, _, _⟩ := (rb.sl (by decide)).form
  replace rl := rl.fr f7 (fun _ _ _ g => g)
  replace os := os.fr f7 (fun g => g)
  have F7 := F6.same f7
  refine RunO.all rfl ?_
  refine RunC.seq (RunC.region ?_)
  refine RunO.load (v := .agg ⟨stc (1, 8, 0, 0, 0) 0 rv⟩) rfl (os.ld rfl) rfl ?_
  refine RunO.callD (openFind_ok (l := []) (rl.sl (by decide)) (by decide)) rfl rfl rfl ?_
  rintro _ h8 ⟨f8, ⟨i, hi, _⟩ | ⟨rfl, _⟩⟩
  · exact absurd hi (Nat.not_lt_zero _)
  replace os := os.fr f8 (fun g => g)
  have F8 := F7.same f8
  refine RunO.all rfl ?_
  refine RunC.seq (RunC.region (RunO.part 14 rfl ?_))
  refine RunO.loadG (v := .int .i64 1) rfl rfl (os.ld rfl) rfl ?_
  refine RunO.part 5 rfl ?_
  refine RunO.loadG (v := .int .i64 8) rfl rfl (os.ld rfl) rfl ?_
  refine RunO.part 4 rfl ?_
  refine RunO.loadG (v := .int .i64 0) rfl rfl (os.ld rfl) rfl ?_
  exact RunO.all rfl (RunC.ret ⟨_, rfl, rfl, F8⟩)
end Go.Proofs.Ytbinkbdfoalbcaa
end
section
set_option linter.unusedVariables false
set_option linter.unusedSectionVars false
set_option maxRecDepth 100000
open Go Go.Am Go.RowKit
namespace Go.Proofs.Ytbinkbdfoalbcaa
open Go.Proofs.Try
theorem keepState2_ok {h : Heap} {s s' : S5} {slot slot' : Int} {rv rv' : Value} {l l' : List R8} (sl : Sl h rv 8 l.length (recCs l)) (sm : Sl h rv' 8 l'.length (recCs l')) (hl : l.length ≤ 4611686018427387904) :
    RunF prog 22 [.agg ⟨stc s slot rv⟩, .agg ⟨stc s' slot' rv'⟩] h fun v h' => v = .bool (((s == s') && (slot == slot')) && (l == l')) ∧ Fr no h h' := by
  refine RunF.walk func22 rfl rfl ?_
  refine RunC.seq (RunC.region (RunO.part 1 (h1 := h.push ⟨stc s slot rv, true⟩) rfl ?_))
  have o1 := Ow.push h (stc s slot rv)
  have f1 : Fr no h (h.push ⟨stc s slot rv, true⟩) := Fr.push _ _ _
  generalize h.push ⟨stc s slot rv, true⟩ = h1 at *
  generalize h.next = p1 at *
  refine RunO.part 1 (h1 := h1.push ⟨stc s' slot' rv', true⟩) rfl ?_
  have o2 := Ow.push h1 (stc s' slot' rv')
  have f2 : Fr no h1 (h1.push ⟨stc s' slot' rv', true⟩) := Fr.push _ _ _
  replace o1 := o1.fr f2 (fun g => g)
  have F2 := f1.same f2
  replace sl := sl.fr0 F2
  replace sm := sm.fr0 F2
  generalize h1.push ⟨stc s' slot' rv', true⟩ = h2 at *
  generalize h1.next = p2 at *
  refine RunO.all rfl ?_
  refine RunC.seq (RunC.region (RunO.part 1 rfl ?_))
  refine RunO.load (v := .agg ⟨sc5 s⟩) rfl (o1.ld rfl) rfl ?_
  refine RunO.part 1 rfl ?_
  refine RunO.load (v := .agg ⟨sc5 s'⟩) rfl (o2.ld rfl) rfl ?_
  refine RunO.bin (v := .bool (s == s')) rfl rfl (by show abinop prog .eql 24 (.agg ⟨sc s.1 s.2.1 s.2.2.1 s.2.2.2.1 s.2.2.2.2⟩) (.agg ⟨sc s'.1 s'.2.1 s'.2.2.1 s'.2.2.2.1 s'.2.2.2.2⟩) = _; rw [super_eq]; rfl) rfl ?_
  refine RunO.part 1 rfl ?_
  cases hs : (s == s') with
  | false => exact RunO.all rfl (RunC.ret ⟨_, rfl, rfl, F2⟩)
  | true =>
    refine RunO.part 1 rfl ?_
    refine RunO.loadG (v := .int .i64 slot) rfl rfl (o1.ld rfl) rfl ?_
    refine RunO.part 1 rfl ?_
    refine RunO.loadG (v := .int .i64 slot') rfl rfl (o2.ld rfl) rfl ?_
    refine RunO.part 3 rfl ?_
    cases ht : (slot == slot') with
    | false => exact RunO.all rfl (RunC.ret ⟨_, rfl, rfl, F2⟩)
    | true =>
      refine RunO.part 1 rfl ?_
      refine RunO.loadG (v := rv) rfl rfl (o1.ld rfl) rfl ?_
      refine RunO.part 1 rfl ?_
      refine RunO.loadG (v := rv') rfl rfl (o2.ld rfl) rfl ?_
      refine RunO.callDG rfl (keepRecords_ok sl sm hl) rfl rfl rfl ?_
      rintro _ _ ⟨rfl, rfl⟩
      exact RunO.all rfl (RunC.ret ⟨_, rfl, rfl, F2⟩)
end Go.Proofs.Ytbinkbdfoalbcaa
end
section
set_option linter.unusedVariables false
set_option linter.unusedSectionVars false
set_option maxRecDepth 100000
open Go Go.Am Go.RowKit
namespace Go.Proofs.Ytbinkbdfoalbcaa
open Go.Proofs.Try

theorem openNewBad_ok {h : Heap} {bl : Int} (hb : bl < 4 ∨ bl > 4096) : RunF prog 17 [.int .i64 bl] h fun v h' => v = .tuple #[.slice none 0 0, .int .i64 2] ∧ h = h' := by
  refine RunF.walk func17 rfl rfl ?_
  refine RunC.seq (RunC.region (RunO.all rfl ?_))
  refine RunC.seq (RunC.seq (RunC.region (RunO.part 3 rfl ?_)))
  by_cases h4 : bl < 4
  · rw [decide_eq_true h4]
    refine RunO.all rfl (RunC.cond rfl (fun _ => ?_) (fun g => by cases g))
    exact RunC.seq (RunC.region (RunO.all rfl (RunC.ret ⟨_, rfl, rfl, rfl⟩)))
  rw [decide_eq_false h4]
  refine RunO.part 2 rfl ?_
  rw [decide_eq_true (hb.resolve_left h4)]
  refine RunO.all rfl (RunC.cond rfl (fun _ => ?_) (fun g => by cases g))
  exact RunC.seq (RunC.region (RunO.all rfl (RunC.ret ⟨_, rfl, rfl, rfl⟩)))
theorem row_form {lo : Nat} {h : Heap} {v : Value} {s n : Nat} {cs : List Value} (r : Row lo h v s n cs) (hn : n ≤ 9223372036854775807) : ∃ A c, v = .slice A n c ∧ Sl h (.slice A n c) s n cs := by
  have sl := r.sl hn
  obtain ⟨A, c, rfl, _, _⟩ := sl.form
  exact ⟨A, c, rfl, sl⟩
theorem stc_nil (s : S5) (slot : Int) (A : Option Addr) (n c : Nat) : allCells (stc s slot (.slice A n c)) = true := rfl
set_option maxHeartbeats 64000000 in
theorem openExact_true : ∀ h xs avs, ArgsK [.slice (.int .u8), .int .i64, .int .i64, .int .i64, ShState] h xs avs → RunF prog 3 avs h fun v _ => v = .bool true := by
  intro h xs avs ha
  obtain ⟨L, _, iv, _, rfl, sl, hwf, ha⟩ := argInts ha
  obtain ⟨a, _, _, rfl, _, ha⟩ := argInt ha
  obtain ⟨bl, _, _, rfl, _, ha⟩ := argInt ha
  obtain ⟨id, _, _, rfl, _, ha⟩ := argInt ha
  obtain ⟨s, slot0, rs, _, rv0, _, rfl, srs, _, _, _, ha⟩ := argState ha
  obtain rfl := argNil ha
  have hb : Byt L := fun x hx => wf_u8 (hwf x hx)
  have sl0 : Sl h iv 1 L.length (us L) := sl
  clear sl
  obtain ⟨iA, ic, rfl, _, _⟩ := sl0.form
  obtain ⟨rA, rc, rfl, _, _⟩ := srs.form
  refine RunF.walk func3 rfl rfl ?_
  refine RunC.seq (RunC.region (RunO.part 1 (h1 := h.push ⟨stc s slot0 (.slice rA rs.length rc), true⟩) rfl (RunO.all rfl ?_)))
  have o9 := Ow.push h (stc s slot0 (.slice rA rs.length rc))
  have f0 : Fr no h (h.push ⟨stc s slot0 (.slice rA rs.length rc), true⟩) := Fr.push _ _ _
  replace sl0 := sl0.fr0 f0
  replace srs := srs.fr0 f0
  generalize h.push ⟨stc s slot0 (.slice rA rs.length rc), true⟩ = h0 at *
  obtain ⟨p9, hp9⟩ : ∃ q, q = h.next := ⟨_, rfl⟩
  rw [← hp9] at o9 ⊢
  clear f0 hp9
  refine RunC.seqc (fun E' h' => h0 = h' ∧ L.length ≤ 19200 ∧ rs.length ≤ 100 ∧ (bl ≤ 300 ∨ bl > 4096) ∧ Le ((upd (upd (upd (upd (upd E0 0 (.slice iA L.length ic)) 1 (.int .i64 a)) 2 (.int .i64 bl)) 3 (.int .i64 id)) 9 (.pointer (some ⟨p9, 0, none⟩)))) E') ?hv ?nx
  case hv =>
    refine RunC.seqc (fun E' h' => h0 = h' ∧ ∃ b : Bool, (b = true ∨ (L.length ≤ 19200 ∧ rs.length ≤ 100 ∧ (bl ≤ 300 ∨ bl > 4096))) ∧ Le ((upd (upd (upd (upd (upd (upd E0 0 (.slice iA L.length ic)) 1 (.int .i64 a)) 2 (.int .i64 bl)) 3 (.int .i64 id)) 9 (.pointer (some ⟨p9, 0, none⟩))) 47 (.bool b))) E') ?hr ?hc
    case hc =>
      rintro E' _ ⟨rfl, b, hb1, hE⟩
      refine RunC.le hE ?_
      clear hE
      cases b with
      | true =>
        refine RunC.cond rfl (fun _ => ?_) (fun g => by cases g)
        exact RunC.seq (RunC.region (RunO.all rfl (RunC.ret ⟨_, rfl, rfl⟩)))
      | false =>
        obtain ⟨q1, q2, q3⟩ := hb1.resolve_left (fun g => by cases g)
        exact RunC.cond rfl (fun g => by cases g) (fun _ => RunC.skip ⟨rfl, q1, q2, q3, Le.cons rfl (Le.cons rfl (Le.cons rfl (Le.cons rfl (Le.cons rfl (Le.nil _)))))⟩)
    refine RunC.region (RunO.part 1 rfl ?_)
    refine RunO.callD (heavy_ok sl0) rfl rfl rfl ?_
    rintro _ _ ⟨rfl, rfl⟩
    by_cases a1 : (L.length : Int) > 19200
    · rw [decide_eq_true a1]
      (repeat (first | refine RunO.step rfl ?_ | refine RunO.loadG rfl rfl (Ow.ld (by assumption) (by rfl)) rfl ?_ | refine RunO.nil ?_))
      exact ⟨rfl, true, .inl rfl, Le.cons rfl (Le.cons rfl (Le.cons rfl (Le.cons rfl (Le.cons rfl (Le.cons rfl (Le.nil _))))))⟩
    rw [decide_eq_false a1]
    (repeat (first | refine RunO.step rfl ?_ | refine RunO.loadG rfl rfl (Ow.ld (by assumption) (by rfl)) rfl ?_ | refine RunO.nil ?_))
    by_cases a2 : bl > 300
    · rw [decide_eq_true a2]
      (repeat (first | refine RunO.step rfl ?_ | refine RunO.loadG rfl rfl (Ow.ld (by assumption) (by rfl)) rfl ?_ | refine RunO.nil ?_))
      by_cases a3 : bl ≤ 4096
      · rw [decide_eq_true a3]
        (repeat (first | refine RunO.step rfl ?_ | refine RunO.loadG rfl rfl (Ow.ld (by assumption) (by rfl)) rfl ?_ | refine RunO.nil ?_))
        exact ⟨rfl, true, .inl rfl, Le.cons rfl (Le.cons rfl (Le.cons rfl (Le.cons rfl (Le.cons rfl (Le.cons rfl (Le.nil _))))))⟩
      rw [decide_eq_false a3]
      (repeat (first | refine RunO.step rfl ?_ | refine RunO.loadG rfl rfl (Ow.ld (by assumption) (by rfl)) rfl ?_ | refine RunO.nil ?_))
      refine ⟨rfl, _, ?_, Le.cons rfl (Le.cons rfl (Le.cons rfl (Le.cons rfl (Le.cons rfl (Le.cons rfl (Le.nil _))))))⟩
      by_cases a4 : (rs.length : Int) > 100
      · exact .inl (decide_eq_true a4)
      · exact .inr ⟨by omega, by omega, .inr (by omega)⟩
    · rw [decide_eq_false a2]
      (repeat (first | refine RunO.step rfl ?_ | refine RunO.loadG rfl rfl (Ow.ld (by assumption) (by rfl)) rfl ?_ | refine RunO.nil ?_))
      refine ⟨rfl, _, ?_, Le.cons rfl (Le.cons rfl (Le.cons rfl (Le.cons rfl (Le.cons rfl (Le.cons rfl (Le.nil _))))))⟩
      by_cases a4 : (rs.length : Int) > 100
      · exact .inl (decide_eq_true a4)
      · exact .inr ⟨by omega, by omega, .inl (by omega)⟩
  rintro E' _ ⟨rfl, hL, hR, hbl, hE⟩
  refine RunC.le hE ?_
  clear hE
  have hm : L.length ≤ 4611686018427387904 := by omega
  -- the twin
  refine RunC.seq (RunC.region (RunO.part 1 rfl ?_))
  refine RunO.callD (twin_ok sl0 (by omega)) rfl rfl rfl ?_
  rintro w h1 ⟨row, f1⟩
  obtain ⟨wA, wc, rfl, sw⟩ := row_form row (by omega)
  refine RunO.all rfl ?_
  replace o9 := o9.fr f1 (fun g => g)
  -- Records
  refine RunC.seq (RunC.region (RunO.part 2 rfl ?_))
  refine RunO.callD (openRecords_ok sw hb hm) rfl rfl rfl ?_
  rintro v2 h2 ⟨f2, hv⟩
  have hfl : (folOf L a).1.length ≤ 4611686018427387904 ∧ (folOf L a).2.1.length ≤ 4611686018427387904 := by
    obtain ⟨_, _, e1, e2⟩ := fol_ok (L := L) (B := L.length / 64) (L.length / 64) a [] [] 0 (fun r h => absurd h List.not_mem_nil) (fun x h => absurd h List.not_mem_nil) rfl
    have e1 : (folOf L a).1.length = (folOf L a).2.1.length := e1
    have e2 : (folOf L a).2.1.length ≤ ([] : List Int).length + L.length / 64 := e2
    rw [List.length_nil] at e2
    omega
  have hlf : (lkF L).1.length ≤ 4611686018427387904 := by
    obtain ⟨_, _, e1, e2⟩ := fol_ok (L := L) (B := L.length / 64) (L.length / 64) (lkS L).2.2.2.2 [] [] 0 (fun r h => absurd h List.not_mem_nil) (fun x h => absurd h List.not_mem_nil) rfl
    have e1 : (lkF L).1.length = (lkF L).2.1.length := e1
    have e2 : (lkF L).2.1.length ≤ ([] : List Int).length + L.length / 64 := e2
    rw [List.length_nil] at e2
    omega
  obtain ⟨lA, ln, lc, bA, bn, bc, rfl, hR0, hR1⟩ : ∃ lA ln lc bA bn bc, v2 = .tuple #[.slice lA ln lc, .slice bA bn bc, .int .i64 (recsE L a)] ∧ (recsE L a ≠ 0 → ln = 0 ∧ bn = 0) ∧ (recsE L a = 0 → Sl h2 (.slice lA ln lc) 8 (folOf L a).1.length (recCs (folOf L a).1) ∧ Sl h2 (.slice bA bn bc) 1 (folOf L a).2.1.length (is (folOf L a).2.1)) := by
    rcases hv with ⟨g, lv, bv, rfl, r1, r2⟩ | ⟨g, rfl⟩
    · obtain ⟨lA, lc, rfl, s1⟩ := row_form r1 (by have := hfl.1; omega)
      obtain ⟨bA, bc, rfl, s2⟩ := row_form r2 (by have := hfl.2; omega)
      exact ⟨lA, _, lc, bA, _, bc, by rw [g], fun e => absurd g e, fun _ => ⟨s1, s2⟩⟩
    · exact ⟨none, 0, 0, none, 0, 0, rfl, fun _ => ⟨rfl, rfl⟩, fun e => absurd e g⟩
  clear hv
  refine RunO.all rfl ?_
  replace o9 := o9.fr f2 (fun g => g)
  have sw2 := sw.fr0 f2
  -- Open
  refine RunC.seq (RunC.region (RunO.part 1 rfl ?_))
  refine RunO.callD (openOpen_ok sw2 hb hm) rfl rfl rfl ?_
  rintro v3 h3 ⟨f3, hv⟩
  obtain ⟨S1, q1, tA, tn, tc, rfl, hO0, hO1⟩ : ∃ S1 q1 tA tn tc, v3 = .tuple #[.agg ⟨stc S1 q1 (.slice tA tn tc)⟩, .int .i64 (lk L).2] ∧ ((lk L).2 ≠ 0 → S1 = (0, 0, 0, 0, 0) ∧ q1 = 0 ∧ tA = none ∧ tn = 0 ∧ tc = 0) ∧ ((lk L).2 = 0 → S1 = lkS L ∧ q1 = (pickS L).2.1 ∧ Sl h3 (.slice tA tn tc) 8 (lkF L).1.length (recCs (lkF L).1)) := by
    rcases hv with ⟨g, rv, rfl, r1⟩ | ⟨g, rfl⟩
    · obtain ⟨tA, tc, rfl, s1⟩ := row_form r1 (by omega)
      exact ⟨_, _, tA, _, tc, by rw [g], fun e => absurd g e, fun _ => ⟨rfl, rfl, s1⟩⟩
    · exact ⟨_, _, none, 0, 0, rfl, fun _ => ⟨rfl, rfl, rfl, rfl, rfl⟩, fun e => absurd e g⟩
  clear hv
  replace o9 := o9.fr f3 (fun g => g)
  refine RunO.part 4 (h1 := h3.push ⟨stc (0, 0, 0, 0, 0) 0 (.slice none 0 0), true⟩) rfl ?_
  have o15 := Ow.push h3 (stc (0, 0, 0, 0, 0) 0 (.slice none 0 0))
  have f4 : Fr no h3 (h3.push ⟨stc (0, 0, 0, 0, 0) 0 (.slice none 0 0), true⟩) := Fr.push _ _ _
  generalize h3.push ⟨stc (0, 0, 0, 0, 0) 0 (.slice none 0 0), true⟩ = h4 at *
  obtain ⟨p15, hp15⟩ : ∃ q, q = h3.next := ⟨_, rfl⟩
  rw [← hp15] at o15 ⊢
  refine RunO.store rfl rfl (store_ow (s := 7) o15 rfl rfl (stc_nil _ _ _ _ _) (Nat.le_refl 7)) (RunO.all rfl ?_)
  have f5 : Fr (· = p15) h4 (h4.put p15 (some ⟨stc S1 q1 (.slice tA tn tc), true⟩)) := Fr.put _ (.inl rfl)
  have o15' : Ow (h4.put p15 (some ⟨stc S1 q1 (.slice tA tn tc), true⟩)) p15 (stc S1 q1 (.slice tA tn tc)) := Ow.put _ o15.1
  show RunC prog _ _ _ (h4.put p15 (some ⟨stc S1 q1 (.slice tA tn tc), true⟩)) _ _ _
  generalize h4.put p15 (some ⟨stc S1 q1 (.slice tA tn tc), true⟩) = h5 at *
  have F35 : Fr no h3 h5 := f4.trans f5 (fun b g => .inr (by have g : b = p15 := g; omega))
  replace o9 := o9.fr F35 (fun g => g)
  have F5 := (f1.same f2).same (f3.same F35)
  clear o15 f4 f5
  -- New
  refine RunC.seq (RunC.region (RunO.part 1 rfl ?_))
  have hN : RunF prog 17 [.int .i64 bl] h5 fun v h' => Fr no h5 h' ∧ ∃ nA nn nc e5, v = .tuple #[.slice nA nn nc, .int .i64 e5] ∧ ((bl < 4 ∨ bl > 4096) → e5 = 2 ∧ nn = 0) ∧ (4 ≤ bl → bl ≤ 4096 → e5 = 0 ∧ Sl h' (.slice nA nn nc) 1 (newI bl.toNat).length (us (newI bl.toNat))) := by
    by_cases g : bl < 4 ∨ bl > 4096
    · refine (openNewBad_ok g).mono ?_
      rintro v h' ⟨rfl, rfl⟩
      exact ⟨Fr.refl _ _, none, 0, 0, 2, rfl, fun _ => ⟨rfl, rfl⟩, fun g1 g2 => by omega⟩
    · obtain ⟨B, rfl⟩ := Int.eq_ofNat_of_zero_le (show 0 ≤ bl by omega)
      refine (openNew_ok (B := B) (by omega) (by omega)).mono ?_
      rintro v h' ⟨f, b, hbn, rfl, ow⟩
      have hnl : (newI B).length = B * 64 := newI_len (by omega)
      refine ⟨f, _, _, _, 0, rfl, fun e => absurd e g, fun _ _ => ⟨rfl, ?_⟩⟩
      rw [Int.toNat_natCast]
      have := sl_own ow hnl (Cp.exc (Nat.le_refl _)) (by omega)
      rw [hnl] at this ⊢
      exact this
  refine RunO.callD hN rfl rfl rfl ?_
  rintro _ h6 ⟨f6, nA, nn, nc, e5, rfl, hN1, hN0⟩
  refine RunO.all rfl ?_
  replace o9 := o9.fr f6 (fun g => g)
  have srs6 := srs.fr0 (F5.same f6)
  -- Find
  refine RunC.seq (RunC.region (RunO.part 0 rfl ?_))
  refine RunO.load (v := .agg ⟨stc s slot0 (.slice rA rs.length rc)⟩) rfl (o9.ld rfl) rfl ?_
  refine RunO.part 1 rfl ?_
  refine RunO.callD (openFind_ok srs6 (by omega)) rfl rfl rfl ?_
  rintro v7 h7 ⟨f7, hv⟩
  obtain ⟨q, rfl, hq⟩ : ∃ q : Int, v7 = .tuple #[.int .i64 (if q < 0 then 0 else q), .bool (decide (q ≥ 0))] ∧ ((q = -1 ∧ ∀ j (hj : j < rs.length), fdP id rs[j] = false) ∨ ∃ i, ∃ hi : i < rs.length, q = (i : Int) ∧ fdP id rs[i] = true ∧ ∀ j (hj : j < rs.length), j < i → fdP id rs[j] = false) := by
    rcases hv with ⟨i, hi, rfl, g1, g2⟩ | ⟨rfl, g⟩
    · refine ⟨(i : Int), ?_, .inr ⟨i, hi, rfl, g1, g2⟩⟩
      rw [if_neg (by omega), decide_eq_true (show (i : Int) ≥ 0 by omega)]
    · exact ⟨-1, rfl, .inl ⟨rfl, g⟩⟩
  clear hv
  refine RunO.all rfl ?_
  replace o9 := o9.fr f7 (fun g => g)
  have srs7 := srs6.fr0 f7
  -- the place, by hand
  refine RunC.seq (RunC.region (RunO.all rfl ?_))
  refine RunC.seqc (fun E' h' => h7 = h' ∧ Le ((upd (upd (upd (upd (upd (upd (upd (upd (upd (upd (upd (upd (upd (upd (upd (upd E0 0 (.slice iA L.length ic)) 1 (.int .i64 a)) 2 (.int .i64 bl)) 3 (.int .i64 id)) 9 (.pointer (some ⟨p9, 0, none⟩))) 11 (.slice wA L.length wc)) 12 (.slice lA ln lc)) 13 (.slice bA bn bc)) 14 (.int .i64 (recsE L a))) 15 (.pointer (some ⟨p15, 0, none⟩))) 16 (.int .i64 (lk L).2)) 17 (.slice nA nn nc)) 18 (.int .i64 e5)) 19 (.int .i64 (if q < 0 then 0 else q))) 20 (.bool (decide (q ≥ 0)))) 21 (.int .i64 q))) E') ?lp ?nx2
  case lp =>
    refine RunC.seq (RunC.region (RunO.all rfl ?_))
    refine RunC.block ?_
    refine RunC.loop (fun d E h' => ∃ (i : Nat) (w : Int), i + d = rs.length ∧ h7 = h' ∧ ((w = -1 ∧ ∀ j (hj : j < rs.length), j < i → fdP id rs[j] = false) ∨ (0 ≤ w ∧ w = q)) ∧ Le ((upd (upd (upd (upd (upd (upd (upd (upd (upd (upd (upd (upd (upd (upd (upd (upd (upd E0 0 (.slice iA L.length ic)) 1 (.int .i64 a)) 2 (.int .i64 bl)) 3 (.int .i64 id)) 9 (.pointer (some ⟨p9, 0, none⟩))) 11 (.slice wA L.length wc)) 12 (.slice lA ln lc)) 13 (.slice bA bn bc)) 14 (.int .i64 (recsE L a))) 15 (.pointer (some ⟨p15, 0, none⟩))) 16 (.int .i64 (lk L).2)) 17 (.slice nA nn nc)) 18 (.int .i64 e5)) 19 (.int .i64 (if q < 0 then 0 else q))) 20 (.bool (decide (q ≥ 0)))) 21 (.int .i64 w)) 22 (.int .i64 (i : Int)))) E) ?st (k := rs.length) ?ini
    case ini => exact ⟨0, -1, by omega, rfl, .inl ⟨rfl, fun j _ h => by omega⟩, Le.cons rfl (Le.cons rfl (Le.cons rfl (Le.cons rfl (Le.cons rfl (Le.cons rfl (Le.cons rfl (Le.cons rfl (Le.cons rfl (Le.cons rfl (Le.cons rfl (Le.cons rfl (Le.cons rfl (Le.cons rfl (Le.cons rfl (Le.cons rfl (Le.cons rfl (Le.nil _)))))))))))))))))⟩
    rintro d E _ ⟨i, w, hi, rfl, hw, hE⟩
    refine RunC.le hE ?_
    clear hE
    have hexit : (i = rs.length ∨ 0 ≤ w) → w = q := by
      intro g
      rcases hw with ⟨g1, g2⟩ | ⟨_, g1⟩
      · rcases hq with ⟨g3, g4⟩ | ⟨i2, hi2, g3, g4, g5⟩
        · omega
        · rw [g2 i2 hi2 (by omega)] at g4; cases g4
      · exact g1
    refine RunC.seq ?_
    refine RunC.seqE ((upd (upd (upd (upd (upd (upd (upd (upd (upd (upd (upd (upd (upd (upd (upd (upd (upd (upd E0 0 (.slice iA L.length ic)) 1 (.int .i64 a)) 2 (.int .i64 bl)) 3 (.int .i64 id)) 9 (.pointer (some ⟨p9, 0, none⟩))) 11 (.slice wA L.length wc)) 12 (.slice lA ln lc)) 13 (.slice bA bn bc)) 14 (.int .i64 (recsE L a))) 15 (.pointer (some ⟨p15, 0, none⟩))) 16 (.int .i64 (lk L).2)) 17 (.slice nA nn nc)) 18 (.int .i64 e5)) 19 (.int .i64 (if q < 0 then 0 else q))) 20 (.bool (decide (q ≥ 0)))) 21 (.int .i64 w)) 22 (.int .i64 (i : Int))) 81 (.bool (decide ((i : Int) < rs.length) && decide (w < 0))))) ?cd ?bd
    case cd =>
      refine RunC.region (RunO.part 2 rfl ?_)
      refine RunO.load (v := .slice rA rs.length rc) rfl (o9.ld rfl) rfl ?_
      refine RunO.part 3 rfl ?_
      cases decide ((i : Int) < rs.length) <;> exact RunO.all rfl ⟨rfl, Le.cons rfl (Le.cons rfl (Le.cons rfl (Le.cons rfl (Le.cons rfl (Le.cons rfl (Le.cons rfl (Le.cons rfl (Le.cons rfl (Le.cons rfl (Le.cons rfl (Le.cons rfl (Le.cons rfl (Le.cons rfl (Le.cons rfl (Le.cons rfl (Le.cons rfl (Le.cons rfl (Le.nil _))))))))))))))))))⟩
    by_cases g : i < rs.length ∧ w < 0
    case neg =>
      have e : (decide ((i : Int) < rs.length) && decide (w < 0)) = false := by
        by_cases g1 : i < rs.length
        · rw [decide_eq_false (show ¬ w < 0 from fun g2 => g ⟨g1, g2⟩), Bool.and_false]
        · rw [decide_eq_false (show ¬ (i : Int) < rs.length by omega), Bool.false_and]
      rw [e]
      have hwq : w = q := hexit (by omega)
      subst hwq
      exact RunC.cond rfl (fun g => by cases g) (fun _ => RunC.exit ⟨rfl, Le.cons rfl (Le.cons rfl (Le.cons rfl (Le.cons rfl (Le.cons rfl (Le.cons rfl (Le.cons rfl (Le.cons rfl (Le.cons rfl (Le.cons rfl (Le.cons rfl (Le.cons rfl (Le.cons rfl (Le.cons rfl (Le.cons rfl (Le.cons rfl (Le.nil _))))))))))))))))⟩)
    obtain ⟨hlt, hwn⟩ := g
    have hw : w = -1 ∧ ∀ j (hj : j < rs.length), j < i → fdP id rs[j] = false := hw.resolve_right (fun g => by omega)
    obtain ⟨rfl, hall⟩ := hw
    have e : (decide ((i : Int) < rs.length) && decide ((-1 : Int) < 0)) = true := by rw [decide_eq_true (show (i : Int) < rs.length by omega)]; rfl
    rw [e]
    refine RunC.cond rfl (fun _ => RunC.skip ?_) (fun g => by cases g)
    have hf1 : apart prog 3 (recCs rs) (i * 8 + 1) = some (.int .i64 rs[i].id) := by rw [recCs_fld hlt (by decide)]; rfl
    have hf5 : apart prog 3 (recCs rs) (i * 8 + 5) = some (.int .i64 rs[i].ki) := by rw [recCs_fld hlt (by decide)]; rfl
    refine RunC.seq (RunC.block ?_)
    refine RunC.seqE ((upd (upd (upd (upd (upd (upd (upd (upd (upd (upd (upd (upd (upd (upd (upd (upd (upd (upd E0 0 (.slice iA L.length ic)) 1 (.int .i64 a)) 2 (.int .i64 bl)) 3 (.int .i64 id)) 9 (.pointer (some ⟨p9, 0, none⟩))) 11 (.slice wA L.length wc)) 12 (.slice lA ln lc)) 13 (.slice bA bn bc)) 14 (.int .i64 (recsE L a))) 15 (.pointer (some ⟨p15, 0, none⟩))) 16 (.int .i64 (lk L).2)) 17 (.slice nA nn nc)) 18 (.int .i64 e5)) 19 (.int .i64 (if q < 0 then 0 else q))) 20 (.bool (decide (q ≥ 0)))) 21 (.int .i64 (-1))) 22 (.int .i64 (i : Int))) 100 (.bool (fdP id rs[i])))) ?cd2 ?bd2
    case cd2 =>
      refine RunC.region (RunO.part 1 rfl ?_)
      refine RunO.load (v := .slice rA rs.length rc) rfl (o9.ld rfl) rfl ?_
      refine RunO.part 1 rfl ?_
      refine RunO.fldG (k := i) (off := 1) rfl (fun _ => rfl) (fun _ _ => rfl) rfl rfl srs7 rfl rfl hlt (fun _ _ => rfl) hf1 rfl rfl rfl rfl rfl ?_
      refine RunO.part 3 rfl ?_
      unfold fdP
      cases (rs[i].id == id) with
      | false => exact RunO.all rfl ⟨rfl, Le.cons rfl (Le.cons rfl (Le.cons rfl (Le.cons rfl (Le.cons rfl (Le.cons rfl (Le.cons rfl (Le.cons rfl (Le.cons rfl (Le.cons rfl (Le.cons rfl (Le.cons rfl (Le.cons rfl (Le.cons rfl (Le.cons rfl (Le.cons rfl (Le.cons rfl (Le.cons rfl (Le.nil _))))))))))))))))))⟩
      | true =>
        refine RunO.part 1 rfl ?_
        refine RunO.loadG (v := .slice rA rs.length rc) rfl rfl (o9.ld rfl) rfl ?_
        refine RunO.part 1 rfl ?_
        refine RunO.fldG (k := i) (off := 5) rfl (fun _ => rfl) (fun _ _ => rfl) rfl rfl srs7 rfl rfl hlt (fun _ _ => rfl) hf5 rfl rfl rfl rfl rfl ?_
        exact RunO.all rfl ⟨rfl, Le.cons rfl (Le.cons rfl (Le.cons rfl (Le.cons rfl (Le.cons rfl (Le.cons rfl (Le.cons rfl (Le.cons rfl (Le.cons rfl (Le.cons rfl (Le.cons rfl (Le.cons rfl (Le.cons rfl (Le.cons rfl (Le.cons rfl (Le.cons rfl (Le.cons rfl (Le.cons rfl (Le.nil _))))))))))))))))))⟩
    cases hp : fdP id rs[i] with
    | true =>
      refine RunC.cond rfl (fun _ => ?_) (fun g => by cases g)
      refine RunC.region (RunO.all rfl ?_)
      refine RunC.region (RunO.all rfl ?_)
      refine ⟨d - 1, by omega, i + 1, (i : Int), by omega, rfl, .inr ⟨by omega, ?_⟩, Le.cons (inc64 (by omega)) (Le.cons rfl (Le.cons rfl (Le.cons rfl (Le.cons rfl (Le.cons rfl (Le.cons rfl (Le.cons rfl (Le.cons rfl (Le.cons rfl (Le.cons rfl (Le.cons rfl (Le.cons rfl (Le.cons rfl (Le.cons rfl (Le.cons rfl (Le.cons rfl (Le.nil _)))))))))))))))))⟩
      rcases hq with ⟨_, g4⟩ | ⟨i2, hi2, g3, g4, g5⟩
      · rw [g4 i hlt] at hp; cases hp
      · rw [g3]
        have h1 : ¬ i2 < i := fun g => by rw [hall i2 hi2 g] at g4; cases g4
        have h2 : ¬ i < i2 := fun g => by rw [g5 i hlt g] at hp; cases hp
        omega
    | false =>
      refine RunC.cond rfl (fun g => by cases g) (fun _ => RunC.skip ?_)
      refine RunC.region (RunO.all rfl ?_)
      refine ⟨d - 1, by omega, i + 1, -1, by omega, rfl, .inl ⟨rfl, fun j hj h => ?_⟩, Le.cons (inc64 (by omega)) (Le.cons rfl (Le.cons rfl (Le.cons rfl (Le.cons rfl (Le.cons rfl (Le.cons rfl (Le.cons rfl (Le.cons rfl (Le.cons rfl (Le.cons rfl (Le.cons rfl (Le.cons rfl (Le.cons rfl (Le.cons rfl (Le.cons rfl (Le.cons rfl (Le.nil _)))))))))))))))))⟩
      by_cases g : j = i
      · subst g; exact hp
      · exact hall j hj (by omega)
  rintro E' _ ⟨rfl, hE⟩
  refine RunC.le hE ?_
  clear hE
  have F7 := F5.same (f6.same f7)
  have sl7 := sl0.fr0 F7
  have sw7 := sw2.fr0 (f3.same (F35.same (f6.same f7)))
  -- they agree
  refine RunC.seqc (fun E' h' => h7 = h' ∧ Le ((upd (upd (upd (upd (upd (upd (upd (upd (upd (upd (upd (upd (upd (upd (upd (upd E0 0 (.slice iA L.length ic)) 1 (.int .i64 a)) 2 (.int .i64 bl)) 3 (.int .i64 id)) 9 (.pointer (some ⟨p9, 0, none⟩))) 11 (.slice wA L.length wc)) 12 (.slice lA ln lc)) 13 (.slice bA bn bc)) 14 (.int .i64 (recsE L a))) 15 (.pointer (some ⟨p15, 0, none⟩))) 16 (.int .i64 (lk L).2)) 17 (.slice nA nn nc)) 18 (.int .i64 e5)) 19 (.int .i64 (if q < 0 then 0 else q))) 20 (.bool (decide (q ≥ 0)))) 21 (.int .i64 q))) E') ?ag ?nx3
  case ag =>
    refine RunC.seq (RunC.region (RunO.part 3 rfl ?_))
    have emx : (if q < 0 then (0 : Int) else q) = cond (decide (0 > q)) 0 q := by
      by_cases g : q < 0
      · rw [if_pos g, decide_eq_true (show 0 > q from g)]; rfl
      · rw [if_neg g, decide_eq_false (show ¬ 0 > q from g)]; rfl
    generalize decide (q ≥ 0) = b
    cases b <;> (
      refine RunO.part 6 rfl ?_
      refine RunO.part 1 rfl ?_
      rw [emx, bne_self_eq_false]
      refine RunO.part 3 rfl ?_
      refine RunO.callDG rfl (keepBytesS_ok (l := L) (m := L) sw7 sl7 hm) rfl rfl rfl ?_
      rintro _ _ ⟨rfl, rfl⟩
      rw [beq_self_eq_true L]
      exact RunO.all rfl (RunC.cond rfl (fun g => by cases g) (fun _ => RunC.skip ⟨rfl, Le.cons rfl (Le.cons rfl (Le.cons rfl (Le.cons rfl (Le.cons rfl (Le.cons rfl (Le.cons rfl (Le.cons rfl (Le.cons rfl (Le.cons rfl (Le.cons rfl (Le.cons rfl (Le.cons rfl (Le.cons rfl (Le.cons rfl (Le.cons rfl (Le.nil _))))))))))))))))⟩)))
  rintro E' _ ⟨rfl, hE⟩
  refine RunC.le hE ?_
  clear hE
  replace o15' := o15'.fr (f6.same f7) (fun g => g)
  -- the new image
  refine RunC.seqc (fun E' h' => Fr no h7 h' ∧ Le ((upd (upd (upd (upd (upd (upd (upd (upd (upd (upd (upd (upd (upd (upd (upd (upd E0 0 (.slice iA L.length ic)) 1 (.int .i64 a)) 2 (.int .i64 bl)) 3 (.int .i64 id)) 9 (.pointer (some ⟨p9, 0, none⟩))) 11 (.slice wA L.length wc)) 12 (.slice lA ln lc)) 13 (.slice bA bn bc)) 14 (.int .i64 (recsE L a))) 15 (.pointer (some ⟨p15, 0, none⟩))) 16 (.int .i64 (lk L).2)) 17 (.slice nA nn nc)) 18 (.int .i64 e5)) 19 (.int .i64 (if q < 0 then 0 else q))) 20 (.bool (decide (q ≥ 0)))) 21 (.int .i64 q))) E') ?nw ?nx4
  case nw =>
    refine RunC.seqE ((upd (upd (upd (upd (upd (upd (upd (upd (upd (upd (upd (upd (upd (upd (upd (upd (upd E0 0 (.slice iA L.length ic)) 1 (.int .i64 a)) 2 (.int .i64 bl)) 3 (.int .i64 id)) 9 (.pointer (some ⟨p9, 0, none⟩))) 11 (.slice wA L.length wc)) 12 (.slice lA ln lc)) 13 (.slice bA bn bc)) 14 (.int .i64 (recsE L a))) 15 (.pointer (some ⟨p15, 0, none⟩))) 16 (.int .i64 (lk L).2)) 17 (.slice nA nn nc)) 18 (.int .i64 e5)) 19 (.int .i64 (if q < 0 then 0 else q))) 20 (.bool (decide (q ≥ 0)))) 21 (.int .i64 q)) 123 (.bool (decide (bl < 4) || decide (bl > 4096))))) ?_ ?_
    · refine RunC.region (RunO.part 3 rfl ?_)
      cases decide (bl < 4) <;> exact RunO.all rfl ⟨rfl, Le.cons rfl (Le.cons rfl (Le.cons rfl (Le.cons rfl (Le.cons rfl (Le.cons rfl (Le.cons rfl (Le.cons rfl (Le.cons rfl (Le.cons rfl (Le.cons rfl (Le.cons rfl (Le.cons rfl (Le.cons rfl (Le.cons rfl (Le.cons rfl (Le.cons rfl (Le.nil _)))))))))))))))))⟩
    by_cases g : bl < 4 ∨ bl > 4096
    · obtain ⟨t1, t2⟩ := hN1 g
      subst t1; subst t2
      rw [show (decide (bl < 4) || decide (bl > 4096)) = true by rw [Bool.or_eq_true, decide_eq_true_eq, decide_eq_true_eq]; exact g]
      refine RunC.cond rfl (fun _ => ?_) (fun g => by cases g)
      exact RunC.seq (RunC.region (RunO.all rfl (RunC.cond rfl (fun g => by cases g) (fun _ => RunC.skip ⟨Fr.refl _ _, Le.cons rfl (Le.cons rfl (Le.cons rfl (Le.cons rfl (Le.cons rfl (Le.cons rfl (Le.cons rfl (Le.cons rfl (Le.cons rfl (Le.cons rfl (Le.cons rfl (Le.cons rfl (Le.cons rfl (Le.cons rfl (Le.cons rfl (Le.cons rfl (Le.nil _))))))))))))))))⟩))))
    obtain ⟨t1, sn⟩ := hN0 (by omega) (by omega)
    subst t1
    rw [show (decide (bl < 4) || decide (bl > 4096)) = false by rw [Bool.or_eq_false_iff, decide_eq_false_iff_not, decide_eq_false_iff_not]; omega]
    obtain ⟨B, rfl⟩ := Int.eq_ofNat_of_zero_le (show 0 ≤ bl by omega)
    rw [Int.toNat_natCast] at sn
    have h4 : 4 ≤ B := by omega
    have hB : B ≤ 4096 := by omega
    refine RunC.cond rfl (fun g => by cases g) (fun _ => ?_)
    refine RunC.seq (RunC.region (RunO.part 2 rfl ?_))
    rw [fw64 (x := (B : Int) * 64) (by omega) (by omega), show (B : Int) * 64 = ((B * 64 : Nat) : Int) by omega]
    refine RunO.make (m := B * 64) rfl rfl rfl rfl rfl rfl (by show 1 * (B * 64) ≤ _; omega) (by omega) rfl ?_
    rw [reps_us]
    have oi := Ow.push h7 (us (List.replicate (B * 64) 0))
    have g1 : Fr no h7 (h7.push ⟨us (List.replicate (B * 64) 0), true⟩) := Fr.push _ _ _
    generalize h7.push ⟨us (List.replicate (B * 64) 0), true⟩ = k1 at *
    obtain ⟨qi, hqi⟩ : ∃ q, q = h7.next := ⟨_, rfl⟩
    rw [← hqi] at oi ⊢
    refine RunO.all rfl ?_
    refine RunC.seq (RunC.region (RunO.part 3 rfl ?_))
    refine RunO.callD (refSuperBytes_ok (g := 1) (bl := (B : Int)) (rt := 0) (sz := 0) (fi := 0) (ok_new h4 hB)) rfl rfl rfl ?_
    rintro _ k2 ⟨rsb, g2⟩
    replace oi := oi.fr g2 (fun g => g)
    have hsl := superBlock_len 1 (B : Int) 0 0 0
    obtain ⟨sA, sc_, rfl, sls⟩ := row_form rsb (by decide)
    refine RunO.copy (k := 64) rfl rfl rfl rfl oi sls (allCells_map (fun _ => rfl) _) (by omega) (by rw [us_len, List.length_replicate]; omega) rfl ?_
    intro k3 oi3 g3 hn3
    have e : (us (superBlock 1 (B : Int) 0 0 0)).take 64 ++ (us (List.replicate (B * 64) 0)).drop 64 = us (newI B) := by
      rw [List.take_of_length_le (by rw [us_len, hsl]; exact Nat.le_refl _)]
      unfold newI us
      rw [List.map_append, ← List.map_drop, List.drop_replicate]
    rw [e] at oi3
    refine RunO.all rfl ?_
    have G3 : Fr no h7 k3 := (g1.same g2).trans g3 (fun b g => .inr (by have g : b = qi := g; omega))
    have hnl : (newI B).length = B * 64 := newI_len (by omega)
    have sx : Sl k3 (.slice (some ⟨qi, 0, none⟩) (B * 64) (exc (B * 64))) 1 (newI B).length (us (newI B)) := by
      have := sl_own oi3 hnl (Cp.exc (Nat.le_refl _)) (by omega)
      rw [hnl] at this ⊢
      exact this
    refine RunC.seq (RunC.region (RunO.part 5 rfl ?_))
    refine RunO.callDG rfl (keepBytesS_ok (sn.fr0 (f7.same G3)) sx (by omega)) rfl rfl rfl ?_
    rintro _ _ ⟨rfl, rfl⟩
    rw [beq_self_eq_true (newI B)]
    exact RunO.all rfl (RunC.cond rfl (fun g => by cases g) (fun _ => RunC.skip ⟨G3, Le.cons rfl (Le.cons rfl (Le.cons rfl (Le.cons rfl (Le.cons rfl (Le.cons rfl (Le.cons rfl (Le.cons rfl (Le.cons rfl (Le.cons rfl (Le.cons rfl (Le.cons rfl (Le.cons rfl (Le.cons rfl (Le.cons rfl (Le.cons rfl (Le.nil _))))))))))))))))⟩))
  rintro E' h8 ⟨f8, hE⟩
  refine RunC.le hE ?_
  clear hE
  replace o15' := o15'.fr f8 (fun g => g)
  have sl8 := sl7.fr0 f8
  have G28 : Fr no h3 h8 := F35.same ((f6.same f7).same f8)
  -- a device
  refine RunC.seqc (fun E' h' => h8 = h' ∧ devOk L.length = true ∧ Le ((upd (upd (upd (upd (upd (upd (upd (upd (upd (upd (upd (upd (upd (upd (upd (upd E0 0 (.slice iA L.length ic)) 1 (.int .i64 a)) 2 (.int .i64 bl)) 3 (.int .i64 id)) 9 (.pointer (some ⟨p9, 0, none⟩))) 11 (.slice wA L.length wc)) 12 (.slice lA ln lc)) 13 (.slice bA bn bc)) 14 (.int .i64 (recsE L a))) 15 (.pointer (some ⟨p15, 0, none⟩))) 16 (.int .i64 (lk L).2)) 17 (.slice nA nn nc)) 18 (.int .i64 e5)) 19 (.int .i64 (if q < 0 then 0 else q))) 20 (.bool (decide (q ≥ 0)))) 21 (.int .i64 q))) E') ?dv ?nx5
  case dv =>
    refine RunC.seq (RunC.region (RunO.part 1 rfl ?_))
    refine RunO.callD (refBlocks_ok sl8 hm) rfl rfl rfl ?_
    rintro _ _ ⟨rfl, rfl⟩
    refine RunO.all rfl ?_
    cases hd : devOk L.length with
    | true => exact RunC.seq (RunC.region (RunO.all rfl (RunC.cond rfl (fun g => by cases g) (fun _ => RunC.skip ⟨rfl, rfl, Le.cons rfl (Le.cons rfl (Le.cons rfl (Le.cons rfl (Le.cons rfl (Le.cons rfl (Le.cons rfl (Le.cons rfl (Le.cons rfl (Le.cons rfl (Le.cons rfl (Le.cons rfl (Le.cons rfl (Le.cons rfl (Le.cons rfl (Le.cons rfl (Le.nil _))))))))))))))))⟩))))
    | false =>
      have e1 : recsE L a = 2 := by unfold recsE; rw [hd]; rfl
      have e2 : lk L = (0, 2) := by unfold lk; rw [hd]; rfl
      have e3 : (lk L).2 = 2 := by rw [e2]
      obtain ⟨t1, t2⟩ := hR0 (by rw [e1]; decide)
      obtain ⟨t3, t4, t5, t6, t7⟩ := hO0 (by rw [e3]; decide)
      subst t1; subst t2; subst t3; subst t4; subst t5; subst t6; subst t7
      rw [e1, e3]
      refine RunC.seq (RunC.region (RunO.all rfl (RunC.cond rfl (fun _ => ?_) (fun g => by cases g))))
      refine RunC.seq (RunC.region ?_)
      (repeat (first | refine RunO.step rfl ?_ | refine RunO.loadG rfl rfl (Ow.ld (by assumption) (by rfl)) rfl ?_ | refine RunO.nil ?_))
      refine RunO.callDG rfl (keepState2_ok (s := (0, 0, 0, 0, 0)) (s' := (0, 0, 0, 0, 0)) (slot := 0) (slot' := 0) (rv := .slice none 0 0) (rv' := .slice none 0 0) (l := []) (l' := []) (Sl.nil _ _) (Sl.nil _ _) (by decide)) rfl rfl rfl ?_
      rintro _ k1 ⟨rfl, g1⟩
      (repeat (first | refine RunO.step rfl ?_ | refine RunO.loadG rfl rfl (Ow.ld (by assumption) (by rfl)) rfl ?_ | refine RunO.nil ?_))
      refine RunO.callDG rfl wakes11_ok rfl rfl rfl ?_
      rintro _ h99 ⟨rfl, f99⟩
      exact RunO.all rfl (RunC.ret ⟨_, rfl, rfl⟩)
  rintro E' _ ⟨rfl, hdev, hE⟩
  refine RunC.le hE ?_
  clear hE
  -- the page's records
  have eR : recsE L a = if (folOf L a).2.2.2 = 0 then 0 else 7 := by unfold recsE; rw [if_pos hdev]
  refine RunC.seq (RunC.region (RunO.part 2 rfl ?_))
  refine RunO.callD (refRecords10_ok sl8 hb hdev) rfl rfl rfl ?_
  rintro v9 h9 ⟨f9, hv⟩
  have G9 := G28.same f9
  have hrw : ∃ xA xn xc yA yn yc bd b, v9 = .tuple #[.slice xA xn xc, .slice yA yn yc, .int .i64 bd, .bool b] ∧ ((b = true ∧ recsE L a = 0 ∧ Sl h9 (.slice xA xn xc) 8 (folOf L a).1.length (recCs (folOf L a).1) ∧ Sl h9 (.slice yA yn yc) 1 (folOf L a).2.1.length (is (folOf L a).2.1)) ∨ (b = false ∧ recsE L a = 7)) := by
    rcases hv with ⟨g, lv, bv, rfl, r1, r2⟩ | ⟨g, rfl⟩
    · have s1 := r1.sl (by have := hfl.1; omega)
      have s2 := r2.sl (by have := hfl.2; omega)
      obtain ⟨xA, xc, rfl, _, _⟩ := s1.form
      obtain ⟨yA, yc, rfl, _, _⟩ := s2.form
      exact ⟨xA, _, xc, yA, _, yc, _, true, rfl, .inl ⟨rfl, by rw [eR, if_pos g], s1, s2⟩⟩
    · exact ⟨none, 0, 0, none, 0, 0, _, false, rfl, .inr ⟨rfl, by rw [eR, if_neg g]⟩⟩
  obtain ⟨xA, xn, xc, yA, yn, yc, bd, b, rfl, hX⟩ := hrw
  clear hv
  refine RunO.all rfl ?_
  refine RunC.seqc (fun E' h' => h9 = h' ∧ Le ((upd (upd (upd (upd (upd (upd (upd (upd (upd (upd (upd (upd (upd (upd (upd (upd E0 0 (.slice iA L.length ic)) 1 (.int .i64 a)) 2 (.int .i64 bl)) 3 (.int .i64 id)) 9 (.pointer (some ⟨p9, 0, none⟩))) 11 (.slice wA L.length wc)) 12 (.slice lA ln lc)) 13 (.slice bA bn bc)) 14 (.int .i64 (recsE L a))) 15 (.pointer (some ⟨p15, 0, none⟩))) 16 (.int .i64 (lk L).2)) 17 (.slice nA nn nc)) 18 (.int .i64 e5)) 19 (.int .i64 (if q < 0 then 0 else q))) 20 (.bool (decide (q ≥ 0)))) 21 (.int .i64 q))) E') ?rc ?nx6
  case rc =>
    rcases hX with ⟨rfl, e, s1, s2⟩ | ⟨rfl, e⟩
    · rw [e]
      obtain ⟨u1, u2⟩ := hR1 e
      refine RunC.seq (RunC.region ?_)
      (repeat (first | refine RunO.step rfl ?_ | refine RunO.loadG rfl rfl (Ow.ld (by assumption) (by rfl)) rfl ?_ | refine RunO.nil ?_))
      refine RunO.callDG rfl (keepRecords_ok (u1.fr0 (f3.same G9)) s1 hfl.1) rfl rfl rfl ?_
      rintro _ _ ⟨rfl, rfl⟩
      rw [beq_self_eq_true (folOf L a).1]
      (repeat (first | refine RunO.step rfl ?_ | refine RunO.loadG rfl rfl (Ow.ld (by assumption) (by rfl)) rfl ?_ | refine RunO.nil ?_))
      refine RunO.callDG rfl (keepInts_ok (u2.fr0 (f3.same G9)) s2 hfl.2) rfl rfl rfl ?_
      rintro _ _ ⟨rfl, rfl⟩
      rw [beq_self_eq_true (folOf L a).2.1]
      (repeat (first | refine RunO.step rfl ?_ | refine RunO.loadG rfl rfl (Ow.ld (by assumption) (by rfl)) rfl ?_ | refine RunO.nil ?_))
      exact RunC.cond rfl (fun g => by cases g) (fun _ => RunC.skip ⟨rfl, Le.cons rfl (Le.cons rfl (Le.cons rfl (Le.cons rfl (Le.cons rfl (Le.cons rfl (Le.cons rfl (Le.cons rfl (Le.cons rfl (Le.cons rfl (Le.cons rfl (Le.cons rfl (Le.cons rfl (Le.cons rfl (Le.cons rfl (Le.cons rfl (Le.nil _))))))))))))))))⟩)
    · obtain ⟨t1, t2⟩ := hR0 (by rw [e]; decide)
      subst t1; subst t2
      rw [e]
      refine RunC.seq (RunC.region ?_)
      (repeat (first | refine RunO.step rfl ?_ | refine RunO.loadG rfl rfl (Ow.ld (by assumption) (by rfl)) rfl ?_ | refine RunO.nil ?_))
      exact RunC.cond rfl (fun g => by cases g) (fun _ => RunC.skip ⟨rfl, Le.cons rfl (Le.cons rfl (Le.cons rfl (Le.cons rfl (Le.cons rfl (Le.cons rfl (Le.cons rfl (Le.cons rfl (Le.cons rfl (Le.cons rfl (Le.cons rfl (Le.cons rfl (Le.cons rfl (Le.cons rfl (Le.cons rfl (Le.cons rfl (Le.nil _))))))))))))))))⟩)
  rintro E' _ ⟨rfl, hE⟩
  refine RunC.le hE ?_
  clear hE
  have sl9 := sl8.fr0 f9
  refine RunC.seq (RunC.region (RunO.part 1 rfl ?_))
  refine RunO.callD (refOpen10_u sl9 hb hm) rfl rfl rfl ?_
  rintro _ ho ⟨fo1, S, slot, rv, bv, mv, nv, fb, rfl, orr⟩
  refine RunO.part 4 (h1 := ho.push ⟨(imx (0, 0, 0, 0, 0) 0 (.slice none 0 0) (.slice none 0 0) (.slice none 0 0) (.slice none 0 0)), true⟩) rfl ?_
  have ox := Ow.push ho (imx (0, 0, 0, 0, 0) 0 (.slice none 0 0) (.slice none 0 0) (.slice none 0 0) (.slice none 0 0))
  have fo2 : Fr no ho (ho.push ⟨(imx (0, 0, 0, 0, 0) 0 (.slice none 0 0) (.slice none 0 0) (.slice none 0 0) (.slice none 0 0)), true⟩) := Fr.push _ _ _
  generalize ho.push ⟨(imx (0, 0, 0, 0, 0) 0 (.slice none 0 0) (.slice none 0 0) (.slice none 0 0) (.slice none 0 0)), true⟩ = ho1 at *
  obtain ⟨qx, hqx⟩ : ∃ q, q = ho.next := ⟨_, rfl⟩
  rw [← hqx] at ox ⊢
  refine RunO.part 1 (h1 := ho1.push ⟨[.int .i64 0, .int .i64 0], true⟩) rfl ?_
  have of := Ow.push ho1 [.int .i64 0, .int .i64 0]
  have fo3 : Fr no ho1 (ho1.push ⟨[.int .i64 0, .int .i64 0], true⟩) := Fr.push _ _ _
  have hxl := ox.1
  replace ox := ox.fr fo3 (fun g => g)
  generalize ho1.push ⟨[.int .i64 0, .int .i64 0], true⟩ = ho2 at *
  obtain ⟨qf, hqf⟩ : ∃ q, q = ho1.next := ⟨_, rfl⟩
  rw [← hqf] at of ⊢
  refine RunO.store rfl rfl (store_ow (s := 10) ox rfl rfl orr.cells (Nat.le_refl 10)) ?_
  rw [imx_store]
  have fo4 : Fr (· = qx) ho2 (ho2.put qx (some ⟨imx S slot rv bv mv nv, true⟩)) := Fr.put _ (.inl rfl)
  have ox' : Ow (ho2.put qx (some ⟨imx S slot rv bv mv nv, true⟩)) qx (imx S slot rv bv mv nv) := Ow.put _ ox.1
  have of' := of.fr fo4 (fun e => by have e : qf = qx := e; omega)
  generalize ho2.put qx (some ⟨imx S slot rv bv mv nv, true⟩) = ho3 at *
  refine RunO.store rfl rfl (store_ow (s := 2) of' rfl rfl rfl (Nat.le_refl 2)) (RunO.all rfl ?_)
  have fo5 : Fr (· = qf) ho3 (ho3.put qf (some ⟨[.int .i64 fb, .int .i64 (lk L).2], true⟩)) := Fr.put _ (.inl rfl)
  have of'' : Ow (ho3.put qf (some ⟨[.int .i64 fb, .int .i64 (lk L).2], true⟩)) qf [.int .i64 fb, .int .i64 (lk L).2] := Ow.put _ of'.1
  replace ox' := ox'.fr fo5 (fun e => by have e : qx = qf := e; omega)
  show RunC prog _ _ _ (ho3.put qf (some ⟨[.int .i64 fb, .int .i64 (lk L).2], true⟩)) _ _ _
  have foo : Fr no ho (ho3.put qf (some ⟨[.int .i64 fb, .int .i64 (lk L).2], true⟩)) := ((fo2.same fo3).trans fo4 (fun b e => .inr (by have e : b = qx := e; omega))).trans fo5 (fun b e => .inr (by have e : b = qf := e; have := fo2.next; omega))
  have fo : Fr no h9 (ho3.put qf (some ⟨[.int .i64 fb, .int .i64 (lk L).2], true⟩)) := fo1.same foo
  replace orr := orr.fr0 foo
  generalize ho3.put qf (some ⟨[.int .i64 fb, .int .i64 (lk L).2], true⟩) = h10 at *
  clear fo1 fo2 fo3 fo4 fo5 foo ox of of' hxl

  replace o15' := o15'.fr (f9.same fo) (fun g => g)
  refine RunC.seq (RunC.region (RunO.part 2 rfl ?_))
  refine RunO.load (v := .int .i64 (lk L).2) rfl (of''.ld rfl) rfl ?_
  refine RunO.part 1 rfl ?_
  rw [beq_self_eq_true (lk L).2]
  refine RunO.part 1 rfl ?_
  refine RunO.loadG (v := .agg ⟨stc S1 q1 (.slice tA tn tc)⟩) rfl rfl (o15'.ld rfl) rfl ?_
  refine RunO.part 1 rfl ?_
  by_cases hg : (lk L).2 = 0
  · obtain ⟨t1, t2, st⟩ := hO1 hg
    subst t1; subst t2
    obtain ⟨x1, x2, x3, srl, sbl, cm, cn_, smv, jm, snv, jn⟩ := orr.good hg
    subst x1; subst x2
    obtain ⟨rA_, rc1, y1, _, _⟩ := srl.form
    refine RunO.loadG (v := .agg ⟨stc (lkS L) (pickS L).2.1 rv⟩) rfl rfl (ox'.ld (by rw [y1]; rfl)) rfl ?_
    refine RunO.callDG rfl (keepState2_ok (st.fr0 (G9.same fo)) srl hlf) rfl rfl rfl ?_
    rintro _ k1 ⟨rfl, g1⟩
    rw [beq_self_eq_true (lkS L), beq_self_eq_true (pickS L).2.1, beq_self_eq_true (lkF L).1]
    (repeat (first | refine RunO.step rfl ?_ | refine RunO.loadG rfl rfl (Ow.ld (by assumption) (by rfl)) rfl ?_ | refine RunO.nil ?_))
    refine RunO.callDG rfl wakes11_ok rfl rfl rfl ?_
    rintro _ h99 ⟨rfl, f99⟩
    exact RunO.all rfl (RunC.ret ⟨_, rfl, rfl⟩)
  · obtain ⟨t3, t4, t5, t6, t7⟩ := hO0 hg
    subst t3; subst t4; subst t5; subst t6; subst t7
    obtain ⟨x1, x2, _, x4, x5, x6, x7⟩ := orr.bad hg
    subst x1; subst x2; subst x4; subst x5; subst x6; subst x7
    refine RunO.loadG (v := .agg ⟨stc (0, 0, 0, 0, 0) 0 (.slice none 0 0)⟩) rfl rfl (ox'.ld rfl) rfl ?_
    refine RunO.callDG rfl (keepState2_ok (s := (0, 0, 0, 0, 0)) (s' := (0, 0, 0, 0, 0)) (slot := 0) (slot' := 0) (rv := .slice none 0 0) (rv' := .slice none 0 0) (l := []) (l' := []) (Sl.nil _ _) (Sl.nil _ _) (by decide)) rfl rfl rfl ?_
    rintro _ k1 ⟨rfl, g1⟩
    (repeat (first | refine RunO.step rfl ?_ | refine RunO.loadG rfl rfl (Ow.ld (by assumption) (by rfl)) rfl ?_ | refine RunO.nil ?_))
    refine RunO.callDG rfl wakes11_ok rfl rfl rfl ?_
    rintro _ h99 ⟨rfl, f99⟩
    exact RunO.all rfl (RunC.ret ⟨_, rfl, rfl⟩)
end Go.Proofs.Ytbinkbdfoalbcaa
end
