/- Am12: part of a calculus over an abstract machine that stands beside the model, and contracts of functions by it.
Conditions: what each theorem says of its arguments. -/
import Derived.Test.YtaaemamcdhebhaaAm8
set_option linter.unusedVariables false
namespace Go.Am
open Go.RowKit

/- What is known of the temporaries. -/
abbrev Env := Nat → Option Value
def E0 : Env := fun _ => none
def upd (E : Env) (k : Nat) (v : Value) : Env := fun j => cond (Nat.beq j k) (some v) (E j)
def Sub (E : Env) (T : Tr Value) : Prop := ∀ j v, E j = some v → T.get j = some v
theorem Sub.set {E : Env} {T : Tr Value} (h : Sub E T) (k : Nat) (v : Value) : Sub (upd E k v) (T.set k (some v)) := by
  intro j u e
  rw [Tr.get_set]
  unfold upd at e
  by_cases hj : j = k
  · rw [if_pos hj]; rw [beqT hj] at e; exact e
  · rw [if_neg hj]; rw [beqF hj] at e; exact h j u e
theorem Sub.none (T : Tr Value) : Sub E0 T := fun j v e => by cases e

def gE (E : Env) : Operand → Option Value
  | .tmp t => E t
  | .const v => cond (closedV v) (some v) none
  | .global _ => none
  | .func f => some (.func (.func f) #[] #[])
def gs (g : Operand → Option Value) : List Operand → Option (List Value)
  | [] => some []
  | x :: l => match g x with
    | some v => (match gs g l with | some r => some (v :: r) | none => none)
    | none => none
def go (g : Operand → Option Value) : Option Operand → Option (Option Value)
  | none => some none
  | some x => match g x with
    | some v => some (some v)
    | none => none
def gps (g : Operand → Option Value) : List (Nat × Operand) → Option (List (Nat × Value))
  | [] => some []
  | (i, x) :: l => match g x with
    | some v => (match gps g l with | some r => some ((i, v) :: r) | none => none)
    | none => none
theorem gE_le {E : Env} {T : Tr Value} (h : Sub E T) {x : Operand} {v : Value} (e : gE E x = some v) : ev T x = some v := by
  cases x with
  | tmp t => exact h _ _ e
  | const c => exact e
  | global i => cases e
  | func f => exact e
theorem gs_le {E : Env} {T : Tr Value} (h : Sub E T) : ∀ {l : List Operand} {r : List Value}, gs (gE E) l = some r → evs T l = some r
  | [], r, e => e
  | x :: l, r, e => by
    unfold gs at e
    split at e
    · rename_i v hv
      split at e
      · rename_i r' hr
        cases e
        simp only [evs, gE_le h hv, gs_le h hr]
      · cases e
    · cases e
theorem go_le {E : Env} {T : Tr Value} (h : Sub E T) {x : Option Operand} {r : Option Value} (e : go (gE E) x = some r) : evo T x = some r := by
  cases x with
  | none => exact e
  | some x =>
    simp only [go] at e
    split at e
    · rename_i v hv
      cases e
      simp only [evo, gE_le h hv]
    · cases e
theorem gps_le {E : Env} {T : Tr Value} (h : Sub E T) : ∀ {l : List (Nat × Operand)} {r : List (Nat × Value)}, gps (gE E) l = some r → evps T l = some r
  | [], r, e => e
  | (i, x) :: l, r, e => by
    unfold gps at e
    split at e
    · rename_i v hv
      split at e
      · rename_i r' hr
        cases e
        simp only [evps, gE_le h hv, gps_le h hr]
      · cases e
    · cases e

/-- An operation, but for calls. -/
def eop (P : Program) (E : Env) (o : Oper) (h : Heap) : Option (Value × Heap) :=
  match o.op with
  | .move x | .assign x => pureR h (gE E x)
  | .pick c a b => (match gE E c with
    | some (.bool t) => pureR h (gE E (cond t a b))
    | _ => none)
  | .alloc e => (match zeroOf P e with
    | some z => some (anew h (cellsOf z))
    | none => none)
  | .box _ x => (match gE E x with
    | some v => some (anew h (cellsOf v))
    | none => none)
  | .build t ps => (match gps (gE E) ps.toList with
    | some l => pureR h (abuild P t l)
    | none => none)
  | .buildSlice t n ps => (match gps (gE E) ps.toList with
    | some l => abuildSlice P h t n l
    | none => none)
  | .load t a => (match gE E a with
    | some (.pointer (some a)) => pureR h (aload P h t a)
    | _ => none)
  | .store t a x => (match gE E a, gE E x with
    | some (.pointer (some a)), some v => (match astore P h t a v with | some h' => some (undef, h') | none => none)
    | _, _ => none)
  | .nilCheck x => (match gE E x with
    | some (.pointer (some a)) => some (.pointer (some a), h)
    | some (.func (.func f) a b) => some (.func (.func f) a b, h)
    | _ => none)
  | .binOp op t x y _ => (match gE E x, gE E y with
    | some a, some b => pureR h (abinop P op t a b)
    | _, _ => none)
  | .unOp op _ x => (match gE E x with
    | some a => pureR h (aunop op a)
    | none => none)
  | .convert s d x => (match gE E x with
    | some a => (match aconvert P s d a with
      | some v => some (v, h)
      | none => pureR h (abytes P h s d a))
    | none => none)
  | .makeFunc (.func f) first captured => (match gs (gE E) first.toList, gs (gE E) captured.toList with
    | some a, some b => some (.func (.func f) ⟨a⟩ ⟨b⟩, h)
    | _, _ => none)
  | .makeSlice t l c => (match gE E l, gE E c with
    | some a, some b => amakeSlice P h t a b
    | _, _ => none)
  | .slice t x lo hi mx => (match gE E x, go (gE E) lo, go (gE E) hi, go (gE E) mx with
    | some v, some a, some b, some c => pureR h (aslice P t v a b c)
    | _, _, _, _ => none)
  | .fieldAddr t x f => (match gE E x with
    | some a => pureR h (afieldAddr P t a f)
    | none => none)
  | .field t x f => (match gE E x with
    | some a => pureR h (afield P t a f)
    | none => none)
  | .indexAddr t x i => (match gE E x, gE E i with
    | some a, some b => pureR h (aindexAddr P t a b)
    | _, _ => none)
  | .index t x i => (match gE E x, gE E i with
    | some a, some b => pureR h (aindex P t a b)
    | _, _ => none)
  | .extract x i => (match gE E x with
    | some (.tuple vs) => pureR h (nth vs.toList i)
    | _ => none)
  | .call c => (match c.callee with
    | .builtin b => (match gs (gE E) c.args.toList with
      | some vs => abuiltin P b c.argTypes.toList vs h
      | none => none)
    | _ => none)
  | _ => none
theorem eop_le {P : Program} {E : Env} {T : Tr Value} (hs : Sub E T) {cf : CallF} {o : Oper} {h h' : Heap} {v : Value} (e : eop P E o h = some (v, h')) : aop P cf T o h = some (v, h') := by
  obtain ⟨dst, op, type, pos, after, guard⟩ := o
  by_cases hmf : ∃ fn a b, op = .makeFunc fn a b
  · obtain ⟨fn, x, y, rfl⟩ := hmf
    cases fn <;> simp only [eop] at e <;> first | (cases e; done) | skip
    simp only [aop]
    split at e
    · rename_i h1 h2
      cases e
      simp only [gs_le hs h1, gs_le hs h2]
    · cases e
  cases op
  case makeFunc fn a b => exact absurd ⟨fn, a, b, rfl⟩ hmf
  all_goals simp only [eop] at e
  all_goals simp only [aop]
  all_goals first | (cases e; done) | skip
  case call c =>
    obtain ⟨callee, args, argTypes⟩ := c
    cases callee <;> simp only at e <;> simp only <;> first | (cases e; done) | skip
    split at e
    · rename_i h1
      simp only [gs_le hs h1]
      exact e
    · cases e
  case pick c a b =>
    split at e
    · rename_i h1
      simp only [gE_le hs h1]
      unfold pureR at e
      split at e
      · rename_i h2
        simp only [gE_le hs h2]; exact e
      · cases e
    · cases e
  case move x =>
    unfold pureR at e
    split at e
    · rename_i h2
      simp only [gE_le hs h2]; exact e
    · cases e
  case assign x =>
    unfold pureR at e
    split at e
    · rename_i h2
      simp only [gE_le hs h2]; exact e
    · cases e
  case alloc t => exact e
  case build t ps =>
    split at e
    · rename_i h1
      simp only [gps_le hs h1]; exact e
    · cases e
  case buildSlice t n ps =>
    split at e
    · rename_i h1
      simp only [gps_le hs h1]; exact e
    · cases e
  case slice t x lo hi mx =>
    split at e
    · rename_i h1 h2 h3 h4
      simp only [gE_le hs h1, go_le hs h2, go_le hs h3, go_le hs h4]; exact e
    · cases e
  case nilCheck x =>
    split at e
    · rename_i h1
      simp only [gE_le hs h1]; exact e
    · rename_i h1
      simp only [gE_le hs h1]; exact e
    · cases e
  all_goals
    split at e
    · first
        | (rename_i h1 h2; simp only [gE_le hs h1, gE_le hs h2]; exact e)
        | (rename_i h1; simp only [gE_le hs h1]; exact e)
    · cases e
/- A region, but for calls. -/
def eput (n : Nat) (E : Env) (dst : Option Tmp) (v : Value) : Option Env :=
  match dst with
  | none => some E
  | some d => cond (Nat.ble (Nat.succ d) n) (some (upd E d v)) none
def ewanted (ops : List Oper) (E : Env) (o : Oper) : Option Bool :=
  match o.guard with
  | none => some true
  | some (j, want) => (match nth ops j with
    | some oj => (match oj.dst with
      | some d => (match E d with
        | some (.bool b) => some (cond want b (!b))
        | some _ => some false
        | none => none)
      | none => some false)
    | none => some false)
def estep (P : Program) (n : Nat) (ops : List Oper) (E : Env) (h : Heap) (o : Oper) : Option (Env × Heap) :=
  match ewanted ops E o with
  | none => none
  | some false => (match eput n E o.dst undef with | some E' => some (E', h) | none => none)
  | some true => (match eop P E o h with
    | some (v, h') => (match eput n E o.dst v with | some E' => some (E', h') | none => none)
    | none => none)
def eops (P : Program) (n : Nat) (ops : List Oper) : List Oper → Env → Heap → Option (Env × Heap)
  | [], E, h => some (E, h)
  | o :: l, E, h => match estep P n ops E h o with
    | some (E', h') => eops P n ops l E' h'
    | none => none
theorem eput_le {n : Nat} {E E' : Env} {T : Tr Value} (hs : Sub E T) {dst : Option Tmp} {v : Value} (e : eput n E dst v = some E') : ∃ T', aput n T dst v = some T' ∧ Sub E' T' := by
  cases dst with
  | none => cases e; exact ⟨T, rfl, hs⟩
  | some d =>
    simp only [eput] at e
    obtain ⟨h1, e⟩ := condN e
    cases e
    exact ⟨_, by simp only [aput, h1, cond_true], hs.set d v⟩
theorem ewanted_le {ops : List Oper} {E : Env} {T : Tr Value} (hs : Sub E T) {o : Oper} {b : Bool} (e : ewanted ops E o = some b) : awanted ops T o = some b := by
  unfold ewanted at e
  unfold awanted
  split at e
  · rename_i hg; simp only [hg]; exact e
  · rename_i j want hg
    simp only [hg]
    split at e
    · rename_i oj hj
      simp only [hj]
      split at e
      · rename_i d hd
        simp only [hd]
        split at e
        · rename_i h1; simp only [hs _ _ h1]; exact e
        · rename_i x hx h1
          simp only [hs _ _ h1]
          exact e
        · cases e
      · rename_i hd; simp only [hd]; exact e
    · rename_i hj; simp only [hj]; exact e
theorem estep_le {P : Program} {n : Nat} {ops : List Oper} {E E' : Env} {T : Tr Value} (hs : Sub E T) {cf : CallF} {o : Oper} {h h' : Heap} (e : estep P n ops E h o = some (E', h')) : ∃ T', astep P cf n ops T h o = some (T', h') ∧ Sub E' T' := by
  unfold estep at e
  unfold astep
  split at e
  · cases e
  · rename_i hw
    simp only [ewanted_le hs hw]
    split at e
    · rename_i E1 hp
      cases e
      obtain ⟨T1, h1, h2⟩ := eput_le hs hp
      exact ⟨T1, by simp only [h1], h2⟩
    · cases e
  · rename_i hw
    simp only [ewanted_le hs hw]
    split at e
    · rename_i v h1 ho
      simp only [eop_le hs ho]
      split at e
      · rename_i E1 hp
        cases e
        obtain ⟨T1, h1, h2⟩ := eput_le hs hp
        exact ⟨T1, by simp only [h1], h2⟩
      · cases e
    · cases e
theorem eops_le {P : Program} {n : Nat} {ops : List Oper} {cf : CallF} : ∀ (l : List Oper) {E E' : Env} {T : Tr Value} (hs : Sub E T) {h h' : Heap} (e : eops P n ops l E h = some (E', h')), ∃ T', aops P cf n ops l T h = some (T', h') ∧ Sub E' T'
  | [], E, E', T, hs, h, h', e => by cases e; exact ⟨T, rfl, hs⟩
  | o :: l, E, E', T, hs, h, h', e => by
    unfold eops at e
    unfold aops
    split at e
    · rename_i E1 h1 ho
      obtain ⟨T1, h2, h3⟩ := estep_le (cf := cf) hs ho
      simp only [h2]
      exact eops_le l h3 e
    · cases e

abbrev cfl (P : Program) (K d : Nat) : CallF := acall P (fun _ => none) K d
/-- A function's call ends so. -/
def RunF (P : Program) (f : FuncId) (args : List Value) (h : Heap) (Q : Value → Heap → Prop) : Prop :=
  ∃ v h', Q v h' ∧ ∃ N, ∀ d, N ≤ d → ∀ K, N ≤ K → cfl P K d f args h = some (v, h')
def RunO (P : Program) (n : Nat) (ops rest : List Oper) (E : Env) (h : Heap) (Q : Env → Heap → Prop) : Prop :=
  ∃ E' h', Q E' h' ∧ ∃ N, ∀ d, N ≤ d → ∀ K, N ≤ K → ∀ T, Sub E T → ∃ T', Sub E' T' ∧ aops P (cfl P K d) n ops rest T h = some (T', h')
def Post (Qn : Env → Heap → Prop) (Qx : Nat → Env → Heap → Prop) (Qr : Env → Heap → Prop) : AExit → Env → Heap → Prop
  | .normal => Qn
  | .exit i => Qx i
  | .ret => Qr
def RunC (P : Program) (n : Nat) (c : Code) (E : Env) (h : Heap) (Qn : Env → Heap → Prop) (Qx : Nat → Env → Heap → Prop) (Qr : Env → Heap → Prop) : Prop :=
  ∃ e E' h', Post Qn Qx Qr e E' h' ∧ ∃ N, ∀ d, N ≤ d → ∀ K, N ≤ K → ∀ T, Sub E T → ∃ T', Sub E' T' ∧ acode P (cfl P K d) n K c T h = some (e, T', h')

theorem RunF.mono {P : Program} {f : FuncId} {args : List Value} {h : Heap} {Q Q' : Value → Heap → Prop} (H : RunF P f args h Q) (w : ∀ v h', Q v h' → Q' v h') : RunF P f args h Q' := by
  obtain ⟨v, h', hq, hN⟩ := H
  exact ⟨v, h', w _ _ hq, hN⟩

section
variable {P : Program} {n : Nat}
theorem RunO.nil {ops : List Oper} {E : Env} {h : Heap} {Q : Env → Heap → Prop} (q : Q E h) : RunO P n ops [] E h Q := ⟨E, h, q, 0, fun d _ K _ T hs => ⟨T, hs, rfl⟩⟩
theorem aops_append {cf : CallF} {ops : List Oper} : ∀ (a b : List Oper) {T T1 : Tr Value} {h h1 : Heap}, aops P cf n ops a T h = some (T1, h1) → aops P cf n ops (a ++ b) T h = aops P cf n ops b T1 h1
  | [], b, T, T1, h, h1, e => by cases e; rfl
  | o :: a, b, T, T1, h, h1, e => by
    simp only [List.cons_append]
    simp only [aops] at e ⊢
    split at e
    · exact aops_append a b e
    · cases e
theorem RunO.part (k : Nat) {ops rest : List Oper} {E E1 : Env} {h h1 : Heap} {Q : Env → Heap → Prop} (e : eops P n ops (rest.take k) E h = some (E1, h1)) (r : RunO P n ops (rest.drop k) E1 h1 Q) : RunO P n ops rest E h Q := by
  obtain ⟨E2, h2, q, N, hN⟩ := r
  refine ⟨E2, h2, q, N, fun d hd K hK T hs => ?_⟩
  obtain ⟨T1, ha, hs1⟩ := eops_le (cf := cfl P K d) _ hs e
  obtain ⟨T2, hs2, hb⟩ := hN d hd K hK T1 hs1
  refine ⟨T2, hs2, ?_⟩
  rw [← List.take_append_drop k rest, aops_append _ _ ha]
  exact hb
theorem RunO.all {ops rest : List Oper} {E E1 : Env} {h h1 : Heap} {Q : Env → Heap → Prop} (e : eops P n ops rest E h = some (E1, h1)) (q : Q E1 h1) : RunO P n ops rest E h Q := by
  refine ⟨E1, h1, q, 0, fun d hd K hK T hs => ?_⟩
  obtain ⟨T1, ha, hs1⟩ := eops_le (cf := cfl P K d) _ hs e
  exact ⟨T1, hs1, ha⟩
theorem RunO.call {ops rest : List Oper} {E : Env} {h : Heap} {Q : Env → Heap → Prop} {dst : Option Tmp} {f : Operand} {args : Array Operand} {ats : Array TypeId} {t : TypeId} {pos : String} {after : Array Edge} {g : FuncId} {first captured : Array Value} {vs : List Value}
    (hf : gE E f = some (.func (.func g) first captured)) (hv : gs (gE E) args.toList = some vs)
    (r : RunF P g (first.toList ++ (vs ++ captured.toList)) h fun v h1 => ∃ E1, eput n E dst v = some E1 ∧ RunO P n ops rest E1 h1 Q) : RunO P n ops (⟨dst, .call ⟨.value f, args, ats⟩, t, pos, after, none⟩ :: rest) E h Q := by
  obtain ⟨v, h1, ⟨E1, hp, E2, h2, q, N2, hN2⟩, N1, hN1⟩ := r
  refine ⟨E2, h2, q, Nat.max N1 N2, fun d hd K hK T hs => ?_⟩
  obtain ⟨T1, ha, hs1⟩ := eput_le hs hp
  obtain ⟨T2, hs2, hb⟩ := hN2 d (Nat.le_trans (Nat.le_max_right _ _) hd) K (Nat.le_trans (Nat.le_max_right _ _) hK) T1 hs1
  refine ⟨T2, hs2, ?_⟩
  unfold aops astep
  simp only [awanted, aop, acallv, gE_le hs hf, gs_le hs hv, hN1 d (Nat.le_trans (Nat.le_max_left _ _) hd) K (Nat.le_trans (Nat.le_max_left _ _) hK), ha]
  exact hb

def Le (E E' : Env) : Prop := ∀ j v, E j = some v → E' j = some v
theorem Le.nil (E : Env) : Le E0 E := fun j v e => by cases e
theorem Le.cons {E E' : Env} {k : Nat} {v : Value} (e : E' k = some v) (h : Le E E') : Le (upd E k v) E' := by
  intro j u g
  unfold upd at g
  by_cases hj : j = k
  · rw [beqT hj] at g; cases g; rw [hj]; exact e
  · rw [beqF hj] at g; exact h j u g
theorem Sub.le {E E' : Env} {T : Tr Value} (h : Sub E' T) (l : Le E E') : Sub E T := fun j v e => h j v (l j v e)
theorem RunC.le {c : Code} {E E1 : Env} {h : Heap} {Qn : Env → Heap → Prop} {Qx : Nat → Env → Heap → Prop} {Qr : Env → Heap → Prop} (l : Le E1 E) (r : RunC P n c E1 h Qn Qx Qr) : RunC P n c E h Qn Qx Qr := by
  obtain ⟨e, E', h', q, N, hN⟩ := r
  exact ⟨e, E', h', q, N, fun d hd K hK T hs => hN d hd K hK T (hs.le l)⟩
theorem RunC.mono {c : Code} {E : Env} {h : Heap} {Qn Qn' : Env → Heap → Prop} {Qx Qx' : Nat → Env → Heap → Prop} {Qr Qr' : Env → Heap → Prop} (r : RunC P n c E h Qn Qx Qr) (a : ∀ E h, Qn E h → Qn' E h) (b : ∀ i E h, Qx i E h → Qx' i E h) (d : ∀ E h, Qr E h → Qr' E h) : RunC P n c E h Qn' Qx' Qr' := by
  obtain ⟨e, E', h', q, N, hN⟩ := r
  refine ⟨e, E', h', ?_, N, hN⟩
  cases e with
  | normal => exact a _ _ q
  | exit i => exact b _ _ _ q
  | ret => exact d _ _ q
theorem RunC.skip {E : Env} {h : Heap} {Qn : Env → Heap → Prop} {Qx : Nat → Env → Heap → Prop} {Qr : Env → Heap → Prop} (q : Qn E h) : RunC P n .skip E h Qn Qx Qr := ⟨.normal, E, h, q, 0, fun d _ K _ T hs => ⟨T, hs, rfl⟩⟩
theorem RunC.exit {i : Nat} {E : Env} {h : Heap} {Qn : Env → Heap → Prop} {Qx : Nat → Env → Heap → Prop} {Qr : Env → Heap → Prop} (q : Qx i E h) : RunC P n (.exit i) E h Qn Qx Qr := ⟨.exit i, E, h, q, 0, fun d _ K _ T hs => ⟨T, hs, rfl⟩⟩
theorem RunC.ret {E : Env} {h : Heap} {Qn : Env → Heap → Prop} {Qx : Nat → Env → Heap → Prop} {Qr : Env → Heap → Prop} (q : Qr E h) : RunC P n .ret E h Qn Qx Qr := ⟨.ret, E, h, q, 0, fun d _ K _ T hs => ⟨T, hs, rfl⟩⟩
theorem RunC.region {i : Nat} {ops : Array Oper} {E : Env} {h : Heap} {Qn : Env → Heap → Prop} {Qx : Nat → Env → Heap → Prop} {Qr : Env → Heap → Prop} (r : RunO P n ops.toList ops.toList E h Qn) : RunC P n (.region i ops false) E h Qn Qx Qr := by
  obtain ⟨E', h', q, N, hN⟩ := r
  refine ⟨.normal, E', h', q, N, fun d hd K hK T hs => ?_⟩
  obtain ⟨T', hs', e⟩ := hN d hd K hK T hs
  exact ⟨T', hs', by simp only [acode, aregion, e]⟩
theorem RunC.draw0 {i : Nat} {ops : Array Oper} {E : Env} {h : Heap} {Qn : Env → Heap → Prop} {Qx : Nat → Env → Heap → Prop} {Qr : Env → Heap → Prop} (hd : drawOk ops = some []) (r : RunO P n ops.toList ops.toList E h Qn) : RunC P n (.region i ops true) E h Qn Qx Qr := by
  obtain ⟨E', h', q, N, hN⟩ := r
  refine ⟨.normal, E', h', q, N, fun d hd' K hK T hs => ?_⟩
  obtain ⟨T', hs', e⟩ := hN d hd' K hK T hs
  exact ⟨T', hs', by simp only [acode, aregion, hd, e]⟩
theorem RunC.seq {a b : Code} {E : Env} {h : Heap} {Qn : Env → Heap → Prop} {Qx : Nat → Env → Heap → Prop} {Qr : Env → Heap → Prop} (r : RunC P n a E h (fun E' h' => RunC P n b E' h' Qn Qx Qr) Qx Qr) : RunC P n (.seq a b) E h Qn Qx Qr := by
  obtain ⟨e, E1, h1, q, N, hN⟩ := r
  cases e with
  | normal =>
    obtain ⟨e2, E2, h2, q2, N2, hN2⟩ := q
    refine ⟨e2, E2, h2, q2, Nat.max N N2, fun d hd K hK T hs => ?_⟩
    obtain ⟨T1, hs1, ea⟩ := hN d (Nat.le_trans (Nat.le_max_left _ _) hd) K (Nat.le_trans (Nat.le_max_left _ _) hK) T hs
    obtain ⟨T2, hs2, eb⟩ := hN2 d (Nat.le_trans (Nat.le_max_right _ _) hd) K (Nat.le_trans (Nat.le_max_right _ _) hK) T1 hs1
    exact ⟨T2, hs2, by simp only [acode, ea, eb]⟩
  | exit i =>
    refine ⟨.exit i, E1, h1, q, N, fun d hd K hK T hs => ?_⟩
    obtain ⟨T1, hs1, ea⟩ := hN d hd K hK T hs
    exact ⟨T1, hs1, by simp only [acode, ea]⟩
  | ret =>
    refine ⟨.ret, E1, h1, q, N, fun d hd K hK T hs => ?_⟩
    obtain ⟨T1, hs1, ea⟩ := hN d hd K hK T hs
    exact ⟨T1, hs1, by simp only [acode, ea]⟩
theorem RunC.cond {x : Operand} {a b : Code} {t : Bool} {E : Env} {h : Heap} {Qn : Env → Heap → Prop} {Qx : Nat → Env → Heap → Prop} {Qr : Env → Heap → Prop} (hx : gE E x = some (.bool t)) (ra : t = true → RunC P n a E h Qn Qx Qr) (rb : t = false → RunC P n b E h Qn Qx Qr) : RunC P n (.cond x a b) E h Qn Qx Qr := by
  cases t with
  | true =>
    obtain ⟨e, E', h', q, N, hN⟩ := ra rfl
    refine ⟨e, E', h', q, N, fun d hd K hK T hs => ?_⟩
    obtain ⟨T', hs', ee⟩ := hN d hd K hK T hs
    exact ⟨T', hs', by simp only [acode, gE_le hs hx, ee]⟩
  | false =>
    obtain ⟨e, E', h', q, N, hN⟩ := rb rfl
    refine ⟨e, E', h', q, N, fun d hd K hK T hs => ?_⟩
    obtain ⟨T', hs', ee⟩ := hN d hd K hK T hs
    exact ⟨T', hs', by simp only [acode, gE_le hs hx, ee]⟩
def Qb (id : Nat) (Qn : Env → Heap → Prop) (Qx : Nat → Env → Heap → Prop) (i : Nat) (E : Env) (h : Heap) : Prop :=
  match Nat.beq i id with
  | true => Qn E h
  | false => Qx i E h
theorem RunC.block {id : Nat} {c : Code} {E : Env} {h : Heap} {Qn : Env → Heap → Prop} {Qx : Nat → Env → Heap → Prop} {Qr : Env → Heap → Prop} (r : RunC P n c E h Qn (Qb id Qn Qx) Qr) : RunC P n (.block id c) E h Qn Qx Qr := by
  obtain ⟨e, E1, h1, q, N, hN⟩ := r
  cases e with
  | normal =>
    refine ⟨.normal, E1, h1, q, N, fun d hd K hK T hs => ?_⟩
    obtain ⟨T1, hs1, ea⟩ := hN d hd K hK T hs
    exact ⟨T1, hs1, by simp only [acode, ea]⟩
  | exit i =>
    have q : Qb id Qn Qx i E1 h1 := q
    unfold Qb at q
    cases hb : Nat.beq i id with
    | true =>
      rw [hb] at q
      refine ⟨.normal, E1, h1, q, N, fun d hd K hK T hs => ?_⟩
      obtain ⟨T1, hs1, ea⟩ := hN d hd K hK T hs
      exact ⟨T1, hs1, by simp only [acode, ea, hb, cond_true]⟩
    | false =>
      rw [hb] at q
      refine ⟨.exit i, E1, h1, q, N, fun d hd K hK T hs => ?_⟩
      obtain ⟨T1, hs1, ea⟩ := hN d hd K hK T hs
      exact ⟨T1, hs1, by simp only [acode, ea, hb, cond_false]⟩
  | ret =>
    refine ⟨.ret, E1, h1, q, N, fun d hd K hK T hs => ?_⟩
    obtain ⟨T1, hs1, ea⟩ := hN d hd K hK T hs
    exact ⟨T1, hs1, by simp only [acode, ea]⟩
theorem RunC.loop {c : Code} {Qn : Env → Heap → Prop} {Qx : Nat → Env → Heap → Prop} {Qr : Env → Heap → Prop} (I : Nat → Env → Heap → Prop)
    (body : ∀ k E h, I k E h → RunC P n c E h (fun E' h' => ∃ k', k' < k ∧ I k' E' h') Qx Qr) {k : Nat} {E : Env} {h : Heap} (hI : I k E h) : RunC P n (.loop c) E h Qn Qx Qr := by
  have key : ∀ k E h, I k E h → ∃ e E' h', Post (fun _ _ => False) Qx Qr e E' h' ∧ ∃ N, ∀ d, N ≤ d → ∀ K, N ≤ K → ∀ k, N ≤ k → ∀ T, Sub E T → ∃ T', Sub E' T' ∧ iter (acode P (cfl P K d) n K c) k T h = some (e, T', h') := by
    intro k
    induction k using Nat.strongRecOn with
    | ind k ih =>
      intro E h hI
      obtain ⟨e, E1, h1, q, N, hN⟩ := body k E h hI
      cases e with
      | normal =>
        obtain ⟨k', hk, hI'⟩ := q
        obtain ⟨e2, E2, h2, q2, N2, hN2⟩ := ih k' hk E1 h1 hI'
        refine ⟨e2, E2, h2, q2, Nat.succ (Nat.max N N2), fun d hd K hK k hk T hs => ?_⟩
        have hl : N ≤ Nat.max N N2 := Nat.le_max_left _ _
        have hr : N2 ≤ Nat.max N N2 := Nat.le_max_right _ _
        generalize Nat.max N N2 = M at *
        obtain ⟨k, rfl⟩ : ∃ j, k = j + 1 := ⟨k - 1, by omega⟩
        obtain ⟨T1, hs1, ea⟩ := hN d (by omega) K (by omega) T hs
        obtain ⟨T2, hs2, eb⟩ := hN2 d (by omega) K (by omega) k (by omega) T1 hs1
        exact ⟨T2, hs2, by simp only [iter, ea, eb]⟩
      | exit i =>
        refine ⟨.exit i, E1, h1, q, Nat.succ N, fun d hd K hK k hk T hs => ?_⟩
        obtain ⟨k, rfl⟩ : ∃ j, k = j + 1 := ⟨k - 1, by omega⟩
        obtain ⟨T1, hs1, ea⟩ := hN d (by omega) K (by omega) T hs
        exact ⟨T1, hs1, by simp only [iter, ea]⟩
      | ret =>
        refine ⟨.ret, E1, h1, q, Nat.succ N, fun d hd K hK k hk T hs => ?_⟩
        obtain ⟨k, rfl⟩ : ∃ j, k = j + 1 := ⟨k - 1, by omega⟩
        obtain ⟨T1, hs1, ea⟩ := hN d (by omega) K (by omega) T hs
        exact ⟨T1, hs1, by simp only [iter, ea]⟩
  obtain ⟨e, E', h', q, N, hN⟩ := key k E h hI
  refine ⟨e, E', h', ?_, N, fun d hd K hK T hs => ?_⟩
  · cases e with
    | normal => exact q.elim
    | exit i => exact q
    | ret => exact q
  · obtain ⟨T', hs', ee⟩ := hN d hd K hK K hK T hs
    exact ⟨T', hs', by simp only [acode, ee]⟩
def eres (P : Program) (E : Env) (h : Heap) : List ResultVar → Option (List Value)
  | [] => some []
  | .tmp t :: l => (match E t, eres P E h l with
    | some v, some r => some (v :: r)
    | _, _ => none)
  | .cell a t :: l => (match E a with
    | some (.pointer (some ad)) => (match aload P h t ad, eres P E h l with
      | some v, some r => some (v :: r)
      | _, _ => none)
    | _ => none)
def eresults (P : Program) (l : List ResultVar) (E : Env) (h : Heap) : Option Value :=
  match eres P E h l with
  | some [v] => some v
  | some vs => some (.tuple ⟨vs⟩)
  | none => none
theorem eres_le {E : Env} {T : Tr Value} (hs : Sub E T) {h : Heap} : ∀ (l : List ResultVar) {r : List Value}, eres P E h l = some r → ares P T h l = some r
  | [], r, e => e
  | .tmp t :: l, r, e => by
    simp only [eres] at e
    split at e
    · rename_i h1 h2
      cases e
      simp only [ares, hs _ _ h1, eres_le hs l h2]
    · cases e
  | .cell a t :: l, r, e => by
    simp only [eres] at e
    split at e
    · rename_i h1
      split at e
      · rename_i h2 h3
        cases e
        simp only [ares, hs _ _ h1, h2, eres_le hs l h3]
      · cases e
    · cases e
theorem eresults_le {fn : Func} {E : Env} {T : Tr Value} (hs : Sub E T) {h : Heap} {v : Value} (e : eresults P fn.results.toList E h = some v) : aresults P fn T h = some v := by
  unfold eresults at e
  unfold aresults
  split at e
  · rename_i h1; simp only [eres_le hs _ h1]; exact e
  · rename_i h1 h2; simp only [eres_le hs _ h2]; exact e
  · cases e
def argsE : List Value → Nat → Env → Env
  | [], _, E => E
  | v :: l, i, E => argsE l (Nat.succ i) (upd E i v)
theorem argsE_sub : ∀ (l : List Value) (i : Nat) {E : Env} {T : Tr Value}, Sub E T → Sub (argsE l i E) (argsT l i T)
  | [], i, E, T, h => h
  | v :: l, i, E, T, h => argsE_sub l (Nat.succ i) (h.set i v)
theorem RunF.walk {f : FuncId} {fn : Func} {c : Code} {args : List Value} {h : Heap} {Q : Value → Heap → Prop} (hf : P.funcs[f]? = some fn) (hb : fn.body = some c) (hl : Nat.ble args.length fn.ntmps = true)
    (r : RunC P fn.ntmps c (argsE args 0 E0) h (fun E' h' => ∃ v, eresults P fn.results.toList E' h' = some v ∧ Q v h') (fun _ _ _ => False) (fun E' h' => ∃ v, eresults P fn.results.toList E' h' = some v ∧ Q v h')) : RunF P f args h Q := by
  obtain ⟨e, E', h', q, N, hN⟩ := r
  have hq : ∃ v, eresults P fn.results.toList E' h' = some v ∧ Q v h' := by
    cases e with
    | normal => exact q
    | exit i => exact q.elim
    | ret => exact q
  obtain ⟨v, hv, hq⟩ := hq
  refine ⟨v, h', hq, Nat.succ N, fun d hd K hK => ?_⟩
  obtain ⟨d, rfl⟩ : ∃ j, d = j + 1 := ⟨d - 1, by omega⟩
  obtain ⟨T', hs', ee⟩ := hN d (by omega) K (by omega) _ (argsE_sub args 0 (Sub.none .leaf))
  have hv' := eresults_le hs' hv
  unfold cfl acall
  simp only [hf, hb, hl, cond_true]
  unfold cfl at ee
  rw [ee]
  cases e with
  | normal => simp only [hv']
  | exit i => exact q.elim
  | ret => simp only [hv']
end
end Go.Am
