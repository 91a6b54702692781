/- Am21: part of a calculus over an abstract machine that stands beside the model, and contracts of functions by it.
Conditions: what each theorem says of its arguments. -/
import Derived.Test.YtaaemamcdhebhaaAm20
set_option linter.unusedVariables false
namespace Go.Am
open Go.RowKit
/- Regions that draw their order, where nothing old is written: then any order does. -/
def okF : Fp → Bool
  | .none | .rd _ => true
  | .all q => q
  | .wr _ => false
theorem fpOk_ok {f g : Fp} (hf : okF f = true) (hg : okF g = true) : fpOk f g = true := by
  cases f <;> cases g <;> simp_all [okF, fpOk]
def idxOk (N : Nat) : List (Nat × Nat) → Bool
  | [] => true
  | (i, j) :: l => cond (Nat.blt i N) (cond (Nat.blt j N) (idxOk N l) false) false
theorem blt_lt {i N : Nat} (h : Nat.blt i N = true) : i < N := Nat.le_of_ble_eq_true h
theorem pairsOk_ok {fs : List Fp} (hf : ∀ f ∈ fs, okF f = true) : ∀ (ps : List (Nat × Nat)), idxOk fs.length ps = true → pairsOk fs ps = true
  | [], _ => rfl
  | (i, j) :: l, h => by
    unfold idxOk at h
    cases hi : Nat.blt i fs.length with
    | false => rw [hi] at h; cases h
    | true =>
      rw [hi, cond_true] at h
      cases hj : Nat.blt j fs.length with
      | false => rw [hj] at h; cases h
      | true =>
        rw [hj, cond_true] at h
        have h1 := List.getElem?_eq_getElem (blt_lt hi)
        have h2 := List.getElem?_eq_getElem (blt_lt hj)
        unfold pairsOk
        simp only [nth_eq, h1, h2]
        rw [fpOk_ok (hf _ (List.getElem_mem _)) (hf _ (List.getElem_mem _)), cond_true]
        exact pairsOk_ok hf l h
theorem RunD.mono {P : Program} {n l0 : Nat} {ops rest : List Oper} {E : Env} {h : Heap} {Q Q' : Env → Heap → List Fp → Prop} (r : RunD P n ops rest l0 E h Q) (w : ∀ E h fs, Q E h fs → Q' E h fs) : RunD P n ops rest l0 E h Q' := by
  intro lw hlw
  obtain ⟨E', h', fs, lw', q, k⟩ := r lw hlw
  exact ⟨E', h', fs, lw', w _ _ _ q, k⟩
def RunQ (P : Program) (n : Nat) (ops rest : List Oper) (E : Env) (h : Heap) (Q : Env → Heap → Prop) : Prop :=
  ∀ l0, l0 ≤ h.next → RunD P n ops rest l0 E h (fun E' h' fs => fs.length = rest.length ∧ (∀ f ∈ fs, okF f = true) ∧ Fg no h h' ∧ Q E' h')
section
variable {P : Program} {n : Nat} {ops rest : List Oper} {E E1 : Env} {h h1 : Heap} {Q : Env → Heap → Prop}
theorem RunQ.nil (q : Q E h) : RunQ P n ops [] E h Q := fun l0 hl => RunD.nil ⟨rfl, (fun f hf => (by cases hf)), ⟨Nat.le_refl _, fun _ _ _ => rfl⟩, q⟩
theorem RunQ.lo {x : Nat} (r : RunQ P n ops rest E h Q) : RunQ P n ops rest E (h.lo x) Q := by
  intro l0 hl
  have := r l0 hl
  intro lw hlw
  obtain ⟨E', h', fs, lw', ⟨q1, q2, q3, q4⟩, k⟩ := this lw hlw
  exact ⟨E', h', fs, lw', ⟨q1, q2, ⟨q3.next, q3.get⟩, q4⟩, k⟩
theorem RunQ.le (l : Le E1 E) (r : RunQ P n ops rest E1 h Q) : RunQ P n ops rest E h Q := by
  intro l0 hl lw hlw
  obtain ⟨E', h', fs, lw', q, k, N, hN⟩ := r l0 hl lw hlw
  exact ⟨E', h', fs, lw', q, k, N, fun d hd K hK T hs => hN d hd K hK T (hs.le l)⟩
theorem RunQ.oneG {o : Oper} {v : Value} {f : Fp} (g : ewanted ops E o = some true) (e : eop P E o (h.lo h.next) = some (v, h1)) (hf : ∀ q, fpE E o q = some f) (ok : okF f = true) (hfr : Fr no (h.lo h.next) h1) (p : eput n E o.dst v = some E1)
    (r : RunQ P n ops rest E1 h1 Q) : RunQ P n ops (o :: rest) E h Q := by
  intro l0 hl
  refine RunD.oneG g e hf (hfr.from hl (fun _ g => g.elim)) p ?_
  refine (r l0 (Nat.le_trans hl hfr.next)).mono ?_
  rintro E' h' fs ⟨q1, q2, q3, q4⟩
  refine ⟨by rw [List.length_cons, List.length_cons, q1], fun f' hf' => ?_, hfr.fg.quiet q3, q4⟩
  rcases List.mem_cons.1 hf' with rfl | hf'
  · exact ok
  · exact q2 f' hf'
theorem RunQ.offG {o : Oper} (g : ewanted ops E o = some false) (p : eput n E o.dst undef = some E1) (r : RunQ P n ops rest E1 h Q) : RunQ P n ops (o :: rest) E h Q := by
  intro l0 hl
  refine RunD.offG g p ((r l0 hl).mono ?_)
  rintro E' h' fs ⟨q1, q2, q3, q4⟩
  refine ⟨by rw [List.length_cons, List.length_cons, q1], fun f' hf' => ?_, q3, q4⟩
  rcases List.mem_cons.1 hf' with rfl | hf'
  · rfl
  · exact q2 f' hf'
/-- Operations that look at no memory. -/
def epur (P : Program) (E : Env) (o : Oper) : Option Value :=
  match o.op with
  | .move x | .assign x => gE E x
  | .pick c a b => (match gE E c with
    | some (.bool t) => gE E (cond t a b)
    | _ => none)
  | .build t ps => (match gps (gE E) ps.toList with
    | some l => abuild P t l
    | none => none)
  | .binOp op t x y _ => (match gE E x, gE E y with
    | some a, some b => abinop P op t a b
    | _, _ => none)
  | .unOp op _ x => (match gE E x with
    | some a => aunop op a
    | none => none)
  | .convert s d x => (match gE E x with
    | some (.int k a) => aconvert P s d (.int k a)
    | _ => none)
  | .makeFunc (.func f) first captured => (match gs (gE E) first.toList, gs (gE E) captured.toList with
    | some a, some b => some (.func (.func f) ⟨a⟩ ⟨b⟩)
    | _, _ => none)
  | .slice t x lo hi mx => (match gE E x, go (gE E) lo, go (gE E) hi, go (gE E) mx with
    | some v, some a, some b, some c => aslice P t v a b c
    | _, _, _, _ => none)
  | .fieldAddr t x f => (match gE E x with
    | some a => afieldAddr P t a f
    | none => none)
  | .field t x f => (match gE E x with
    | some a => afield P t a f
    | none => none)
  | .indexAddr t x i => (match gE E x, gE E i with
    | some a, some b => aindexAddr P t a b
    | _, _ => none)
  | .index t x i => (match gE E x, gE E i with
    | some a, some b => aindex P t a b
    | _, _ => none)
  | .extract x i => (match gE E x with
    | some (.tuple vs) => nth vs.toList i
    | _ => none)
  | .call c => (match c.callee with
    | .builtin .len => (match gs (gE E) c.args.toList, c.argTypes.toList with
      | some [x], t :: _ => alen P t x
      | _, _ => none)
    | _ => none)
  | _ => none
theorem pureR_of {h : Heap} {x : Option Value} {v : Value} (e : x = some v) : pureR h x = some (v, h) := by rw [e]; rfl
theorem epur_eop {o : Oper} {v : Value} (e : epur P E o = some v) (h : Heap) : eop P E o h = some (v, h) ∧ ∀ q, fpE E o q = some .none := by
  obtain ⟨dst, op, type, pos, after, guard⟩ := o
  by_cases hmf : ∃ fn a b, op = .makeFunc fn a b
  · obtain ⟨fn, x, y, rfl⟩ := hmf
    cases fn <;> simp only [epur] at e <;> first | (cases e; done) | skip
    refine ⟨?_, fun _ => rfl⟩
    simp only [eop]
    split at e
    · rename_i h1 h2; cases e; simp only [h1, h2]
    · cases e
  cases op
  case makeFunc fn a b => exact absurd ⟨fn, a, b, rfl⟩ hmf
  case call c =>
    obtain ⟨callee, args, ats⟩ := c
    cases callee with
    | value g => cases e
    | invoke r m => cases e
    | builtin b =>
      cases b
      case len =>
        refine ⟨?_, fun _ => rfl⟩
        simp only [epur] at e
        simp only [eop]
        split at e
        · rename_i x t tl h1 h2
          simp only [h1]
          unfold abuiltin
          simp only [h2, e]
        · cases e
      all_goals cases e
  case convert s d x =>
    simp only [epur] at e
    simp only [eop, fpE]
    split at e
    · rename_i k a h1
      simp only [h1, e]
      exact ⟨trivial, fun _ => trivial⟩
    · cases e
  all_goals simp only [epur] at e
  all_goals first | (cases e; done) | skip
  all_goals refine ⟨?_, fun _ => rfl⟩
  all_goals simp only [eop]
  case move x => exact pureR_of e
  case assign x => exact pureR_of e
  case pick c a b =>
    split at e
    · rename_i h1; simp only [h1]; exact pureR_of e
    · cases e
  case extract x i =>
    split at e
    · rename_i h1; simp only [h1]; exact pureR_of e
    · cases e
  case slice t x lo hi mx =>
    split at e
    · rename_i h1 h2 h3 h4; simp only [h1, h2, h3, h4]; exact pureR_of e
    · cases e
  all_goals
    split at e
    · first
        | (rename_i h1 h2; simp only [h1, h2]; exact pureR_of e)
        | (rename_i h1; simp only [h1]; exact pureR_of e)
    · cases e
def epst (P : Program) (n : Nat) (ops : List Oper) (E : Env) (o : Oper) : Option Env :=
  match ewanted ops E o with
  | none => none
  | some false => eput n E o.dst undef
  | some true => (match epur P E o with
    | some v => eput n E o.dst v
    | none => none)
def epures (P : Program) (n : Nat) (ops : List Oper) : List Oper → Env → Option Env
  | [], E => some E
  | o :: l, E => match epst P n ops E o with
    | some E' => epures P n ops l E'
    | none => none
theorem RunQ.pures : ∀ (l : List Oper) {E : Env}, epures P n ops l E = some E1 → RunQ P n ops rest E1 h Q → RunQ P n ops (l ++ rest) E h Q
  | [], E, e, r => by cases e; exact r
  | o :: l, E, e, r => by
    unfold epures at e
    split at e
    · rename_i E' hst
      have r2 := RunQ.pures l e r
      unfold epst at hst
      split at hst
      · cases hst
      · rename_i hw
        exact RunQ.offG hw hst r2
      · rename_i hw
        split at hst
        · rename_i v hv
          obtain ⟨h1, h2⟩ := epur_eop hv (h.lo h.next)
          exact RunQ.oneG hw h1 h2 rfl (Fr.refl _ _) hst r2.lo
        · cases hst
    · cases e
theorem RunQ.part (k : Nat) (e : epures P n ops (rest.take k) E = some E1) (r : RunQ P n ops (rest.drop k) E1 h Q) : RunQ P n ops rest E h Q := by
  have := RunQ.pures (rest.take k) e r
  rwa [List.take_append_drop] at this
theorem RunQ.all (e : epures P n ops rest E = some E1) (q : Q E1 h) : RunQ P n ops rest E h Q := by
  have := RunQ.pures (rest := []) rest e (RunQ.nil q)
  rwa [List.append_nil] at this
theorem RunQ.load {d : Tmp} {t ty : TypeId} {x : Operand} {pos : String} {after : Array Edge} {gd : Option (Nat × Bool)} {a : Addr} {v : Value}
    (hw : ewanted ops E ⟨some d, .load t x, ty, pos, after, gd⟩ = some true) (hx : gE E x = some (.pointer (some a))) (hl : aload P h t a = some v) (hd : Nat.ble (Nat.succ d) n = true)
    (r : RunQ P n ops rest (upd E d v) h Q) : RunQ P n ops (⟨some d, .load t x, ty, pos, after, gd⟩ :: rest) E h Q := by
  refine RunQ.oneG (v := v) (f := .rd a.block) (h1 := h.lo h.next) (E1 := upd E d v) hw ?_ ?_ rfl (Fr.refl _ _) (by simp only [eput, hd, cond_true]) r.lo
  · have hl : aload P (h.lo h.next) t a = some v := hl
    simp only [eop, hx, hl, pureR]
  · intro q; simp only [fpE, hx]
theorem RunQ.index {d : Tmp} {t ty : TypeId} {x i : Operand} {pos : String} {after : Array Edge} {gd : Option (Nat × Bool)} {b o len c s k : Nat} {ik : IntKind} {e : TypeId}
    (hw : ewanted ops E ⟨some d, .indexAddr t x i, ty, pos, after, gd⟩ = some true) (hx : gE E x = some (.slice (some ⟨b, o, none⟩) len c)) (hi : gE E i = some (.int ik (k : Int))) (hu : P.underlying t = some (.slice e)) (hs : sizeOf P e = some s) (hk : k < len) (hd : Nat.ble (Nat.succ d) n = true)
    (r : RunQ P n ops rest (upd E d (.pointer (some ⟨b, o + k * s, none⟩))) h Q) : RunQ P n ops (⟨some d, .indexAddr t x i, ty, pos, after, gd⟩ :: rest) E h Q := by
  refine RunQ.oneG (v := .pointer (some ⟨b, o + k * s, none⟩)) (f := .none) (h1 := h.lo h.next) hw ?_ (fun _ => rfl) rfl (Fr.refl _ _) (by simp only [eput, hd, cond_true]) r.lo
  have hi : gE E i = some (.int ik (.ofNat k)) := hi
  simp only [eop, hx, hi, aindexAddr, hu, hs, Nat.ble_eq_true_of_le (show Nat.succ k ≤ len from hk), cond_true]
  rfl
/-- An element looked at: its address, then a load. -/
theorem RunQ.at {d d2 : Tmp} {t ty ty2 e : TypeId} {x i : Operand} {pos pos2 : String} {after after2 : Array Edge} {gd gd2 : Option (Nat × Bool)} {v : Value} {m s k : Nat} {ik : IntKind} {cells : List Value} {u : Value}
    (hw : ewanted ops E ⟨some d, .indexAddr t x i, ty, pos, after, gd⟩ = some true) (hw2 : ∀ p, ewanted ops (upd E d (.pointer p)) ⟨some d2, .load e (.tmp d), ty2, pos2, after2, gd2⟩ = some true)
    (hx : gE E x = some v) (hi : gE E i = some (.int ik (k : Int))) (sl : Sl h v s m cells) (hu : P.underlying t = some (.slice e)) (hs : sizeOf P e = some s) (hk : k < m) (hv : apart P e cells (k * s) = some u)
    (hd : Nat.ble (Nat.succ d) n = true) (hd2 : Nat.ble (Nat.succ d2) n = true) (hE : E d = none)
    (r : RunQ P n ops rest (upd E d2 u) h Q) : RunQ P n ops (⟨some d, .indexAddr t x i, ty, pos, after, gd⟩ :: ⟨some d2, .load e (.tmp d), ty2, pos2, after2, gd2⟩ :: rest) E h Q := by
  obtain ⟨b, o, c, rfl, hc, rd⟩ := sl.nz (by omega)
  refine RunQ.index hw hx hi hu hs hk hd ?_
  refine RunQ.load (v := u) (a := ⟨b, o + k * s, none⟩) (hw2 _) (by show upd E d _ d = _; unfold upd; rw [Nat.beq_refl]; rfl) (rd.part hv) hd2 ?_
  exact r.le (upd2_le hE)
theorem RunQ.call {d : Tmp} {f : Operand} {args : Array Operand} {ats : Array TypeId} {t : TypeId} {pos : String} {after : Array Edge} {gd : Option (Nat × Bool)} {g : FuncId} {vs : List Value} {R : Value → Heap → Prop}
    (hw : ewanted ops E ⟨some d, .call ⟨.value f, args, ats⟩, t, pos, after, gd⟩ = some true) (r : RunF P g vs (h.lo h.next) R) (hq : ∀ v h1, R v h1 → Fr no (h.lo h.next) h1) (hf : gE E f = some (.func (.func g) #[] #[])) (hv : gs (gE E) args.toList = some vs) (hd : Nat.ble (Nat.succ d) n = true)
    (k : ∀ v h1, R v h1 → RunQ P n ops rest (upd E d v) h1 Q) : RunQ P n ops (⟨some d, .call ⟨.value f, args, ats⟩, t, pos, after, gd⟩ :: rest) E h Q := by
  intro l0 hl
  refine RunD.callG hw r hf hv (fun v h1 q => ⟨(hq v h1 q).from hl (fun _ g => g.elim), upd E d v, by simp only [eput, hd, cond_true], ?_⟩)
  refine (k v h1 q l0 (Nat.le_trans hl (hq v h1 q).next)).mono ?_
  rintro E' h' fs ⟨q1, q2, q3, q4⟩
  have hbq : okF (.all (Nat.ble h.next h1.low)) = true := (hq v h1 q).quietB
  refine ⟨by rw [List.length_cons, List.length_cons, q1], fun f' hf' => ?_, (hq v h1 q).fg.quiet q3, q4⟩
  rcases List.mem_cons.1 hf' with rfl | hf'
  · exact hbq
  · exact q2 f' hf'
/-- Something new: alloc, box, makeSlice, buildSlice. -/
theorem RunQ.new {o : Oper} {v : Value} {ob : AObj} (g : ewanted ops E o = some true) (e : eop P E o (h.lo h.next) = some (v, (h.lo h.next).push ob)) (hf : ∀ q, fpE E o q = some .none) (p : eput n E o.dst v = some E1)
    (r : RunQ P n ops rest E1 (h.push ob) Q) : RunQ P n ops (o :: rest) E h Q :=
  RunQ.oneG g e hf rfl (Fr.push _ _ _) p (RunQ.lo (x := h.next) r)
theorem RunC.drawQ {i : Nat} {ops : Array Oper} {p : Nat × Nat} {ps : List (Nat × Nat)} {Qn : Env → Heap → Prop} {Qx : Nat → Env → Heap → Prop} {Qr : Env → Heap → Prop} (hd : drawOk ops = some (p :: ps)) (hi : idxOk ops.toList.length (p :: ps) = true)
    (r : RunQ P n ops.toList ops.toList E h (fun E' h' => ∀ lw, Fr no h (h'.lo lw) → Qn E' (h'.lo lw))) : RunC P n (.region i ops true) E h Qn Qx Qr := by
  refine RunC.draw (l0 := min h.low h.next) (Nat.min_le_left _ _) hd ((r _ (Nat.min_le_right _ _)).mono ?_)
  rintro E' h' fs ⟨q1, q2, q3, q4⟩
  refine ⟨pairsOk_ok q2 _ (by rw [q1]; exact hi), fun lw hlw => q4 lw (q3.close (fun l h1 h2 _ => Nat.le_trans (Nat.le_min.2 ⟨h1, h2⟩) hlw))⟩
end
end Go.Am
