/- Am16: part of a calculus over an abstract machine that stands beside the model, and contracts of functions by it.
Conditions: what each theorem says of its arguments. -/
import Derived.Test.YtaaemamcdhebhaaAm15
set_option linter.unusedVariables false
namespace Go.Am
open Go.RowKit
section
variable {P : Program} {n : Nat} {ops rest : List Oper} {E E1 : Env} {h h1 : Heap} {Q : Env → Heap → Prop}
theorem RunO.loadG {d : Tmp} {t ty : TypeId} {x : Operand} {pos : String} {after : Array Edge} {gd : Option (Nat × Bool)} {a : Addr} {v : Value}
    (hw : ewanted ops E ⟨some d, .load t x, ty, pos, after, gd⟩ = some true) (hx : gE E x = some (.pointer (some a))) (hl : aload P h t a = some v) (hd : Nat.ble (Nat.succ d) n = true)
    (r : RunO P n ops rest (upd E d v) h Q) : RunO P n ops (⟨some d, .load t x, ty, pos, after, gd⟩ :: rest) E h Q := by
  refine RunO.oneG hw (v := v) ?_ (by simp only [eput, hd, cond_true]) r
  simp only [eop, hx, hl, pureR]
theorem RunO.callDG {d : Tmp} {f : Operand} {args : Array Operand} {ats : Array TypeId} {t : TypeId} {pos : String} {after : Array Edge} {gd : Option (Nat × Bool)} {g : FuncId} {vs : List Value} {R : Value → Heap → Prop}
    (hw : ewanted ops E ⟨some d, .call ⟨.value f, args, ats⟩, t, pos, after, gd⟩ = some true) (r : RunF P g vs h R) (hf : gE E f = some (.func (.func g) #[] #[])) (hv : gs (gE E) args.toList = some vs) (hd : Nat.ble (Nat.succ d) n = true)
    (k : ∀ v h1, R v h1 → RunO P n ops rest (upd E d v) h1 Q) : RunO P n ops (⟨some d, .call ⟨.value f, args, ats⟩, t, pos, after, gd⟩ :: rest) E h Q := by
  refine RunO.callG hw hf hv (RunF.mono ?_ (fun v h1 q => ⟨_, by simp only [eput, hd, cond_true], k v h1 q⟩))
  have e : (#[] : Array Value).toList ++ (vs ++ (#[] : Array Value).toList) = vs := by simp
  rw [e]; exact r
end

/- Regions that draw their order. -/
def fpE (E : Env) (o : Oper) (quiet : Bool) : Option Fp :=
  match o.op with
  | .load _ a => (match gE E a with | some (.pointer (some a)) => some (.rd a.block) | _ => none)
  | .store _ a _ => (match gE E a with | some (.pointer (some a)) => some (.wr [a.block]) | _ => none)
  | .convert _ _ a => (match gE E a with | some (.slice (some a) _ _) => some (.rd a.block) | some _ => some .none | none => none)
  | .call c => (match c.callee with
    | .builtin .append | .builtin .copy | .builtin .clear => (match gs (gE E) c.args.toList with | some vs => some (.wr (idsOf vs)) | none => none)
    | .builtin _ => some .none
    | _ => some (.all quiet))
  | _ => some .none
theorem fpE_le {E : Env} {T : Tr Value} (hs : Sub E T) {o : Oper} {q : Bool} {f : Fp} (e : fpE E o q = some f) : fpOf T o q = f := by
  obtain ⟨dst, op, type, pos, after, guard⟩ := o
  cases op
  case load t x =>
    simp only [fpE] at e
    split at e
    · rename_i h1; cases e; simp only [fpOf, gE_le hs h1]
    · cases e
  case store t x y =>
    simp only [fpE] at e
    split at e
    · rename_i h1; cases e; simp only [fpOf, gE_le hs h1]
    · cases e
  case convert s t x =>
    simp only [fpE] at e
    split at e
    · rename_i h1; cases e; simp only [fpOf, gE_le hs h1]
    · rename_i v hv h1
      cases e
      simp only [fpOf, gE_le hs h1]
      first
        | rfl
        | (split
           · rename_i h2; cases h2; exact absurd rfl (hv _ _ _)
           · rfl)
    · cases e
  case call c =>
    obtain ⟨callee, args, ats⟩ := c
    cases callee with
    | value g => cases e; rfl
    | invoke r m => cases e; rfl
    | builtin b =>
      cases b
      all_goals simp only [fpE] at e
      all_goals first
        | (cases e; rfl)
        | (split at e
           · rename_i h1; cases e; simp only [fpOf, gs_le hs h1]
           · cases e)
  all_goals first | (cases e; rfl)

def estepC (P : Program) (n : Nat) (ops : List Oper) (E : Env) (h : Heap) (o : Oper) : Option (Env × Heap × Fp) :=
  match ewanted ops E o with
  | none => none
  | some false => (match eput n E o.dst undef with | some E' => some (E', h, .none) | none => none)
  | some true => (match eop P E o h, fpE E o true with
    | some (v, h'), some f => (match eput n E o.dst v with | some E' => some (E', h', f) | none => none)
    | _, _ => none)
/-- Operations of a drawing region that are no calls and write nothing old. -/
def eopsC (P : Program) (n : Nat) (ops : List Oper) : List Oper → Env → Heap → Option (Env × Heap × List Fp)
  | [], E, h => some (E, h, [])
  | o :: l, E, h => match estepC P n ops E h o with
    | some (E', h', f) => (match eopsC P n ops l E' h' with
      | some (E'', h'', fs) => some (E'', h'', f :: fs)
      | none => none)
    | none => none
/-- The memory with another mark. -/
def Heap.lo (h : Heap) (l : Nat) : Heap := ⟨h.objs, h.next, l⟩
theorem Heap.lo_get (h : Heap) (l i : Nat) : (h.lo l).get i = h.get i := rfl
def RunD (P : Program) (n : Nat) (ops rest : List Oper) (l0 : Nat) (E : Env) (h : Heap) (Q : Env → Heap → List Fp → Prop) : Prop :=
  ∀ lw, l0 ≤ lw → ∃ E' h' fs lw', Q E' h' fs ∧ l0 ≤ lw' ∧ ∃ N, ∀ d, N ≤ d → ∀ K, N ≤ K → ∀ T, Sub E T → ∃ T', Sub E' T' ∧ aopsC P (cfl P K d) n ops rest T (h.lo lw) = some (T', h'.lo lw', fs)
section
variable {P : Program} {n l0 : Nat} {ops rest : List Oper} {E E1 : Env} {h h1 : Heap} {Q : Env → Heap → List Fp → Prop}
theorem RunD.nil (q : Q E h []) : RunD P n ops [] l0 E h Q := fun lw hl => ⟨E, h, [], lw, q, hl, 0, fun d _ K _ T hs => ⟨T, hs, rfl⟩⟩
theorem low_mix {l a b : Nat} (h1 : l ≤ a) (h2 : l ≤ b) : l ≤ cond (Nat.ble a b) a b := by
  cases Nat.ble a b
  · exact h2
  · exact h1
theorem RunD.oneG {o : Oper} {v : Value} {f : Fp} (g : ewanted ops E o = some true) (e : eop P E o (h.lo h.next) = some (v, h1)) (hf : ∀ q, fpE E o q = some f) (hl : l0 ≤ h1.low) (p : eput n E o.dst v = some E1)
    (r : RunD P n ops rest l0 E1 h1 fun E' h' fs => Q E' h' (f :: fs)) : RunD P n ops (o :: rest) l0 E h Q := by
  intro lw hlw
  obtain ⟨E2, h2, fs, lw2, q, hl2, N, hN⟩ := r (cond (Nat.ble lw h1.low) lw h1.low) (low_mix hlw hl)
  refine ⟨E2, h2, f :: fs, lw2, q, hl2, N, fun d hd K hK T hs => ?_⟩
  obtain ⟨T1, ha, hs1⟩ := eput_le hs p
  obtain ⟨T2, hs2, hb⟩ := hN d hd K hK T1 hs1
  refine ⟨T2, hs2, ?_⟩
  have e2 : aop P (cfl P K d) T o ⟨(h.lo lw).objs, (h.lo lw).next, (h.lo lw).next⟩ = some (v, h1) := eop_le hs e
  unfold aopsC astepC
  simp only [ewanted_le hs g, e2, ha, fpE_le hs (hf _)]
  have hb : aopsC P (cfl P K d) n ops rest T1 ⟨h1.objs, h1.next, cond (Nat.ble (h.lo lw).low h1.low) (h.lo lw).low h1.low⟩ = some (T2, h2.lo lw2, fs) := hb
  rw [hb]
theorem RunD.one {o : Oper} {v : Value} {f : Fp} (g : o.guard = none) (e : eop P E o (h.lo h.next) = some (v, h1)) (hf : ∀ q, fpE E o q = some f) (hl : l0 ≤ h1.low) (p : eput n E o.dst v = some E1)
    (r : RunD P n ops rest l0 E1 h1 fun E' h' fs => Q E' h' (f :: fs)) : RunD P n ops (o :: rest) l0 E h Q :=
  RunD.oneG (by simp only [ewanted, g]) e hf hl p r
theorem RunD.offG {o : Oper} (g : ewanted ops E o = some false) (p : eput n E o.dst undef = some E1) (r : RunD P n ops rest l0 E1 h fun E' h' fs => Q E' h' (.none :: fs)) : RunD P n ops (o :: rest) l0 E h Q := by
  intro lw hlw
  obtain ⟨E2, h2, fs, lw2, q, hl2, N, hN⟩ := r lw hlw
  refine ⟨E2, h2, .none :: fs, lw2, q, hl2, N, fun d hd K hK T hs => ?_⟩
  obtain ⟨T1, ha, hs1⟩ := eput_le hs p
  obtain ⟨T2, hs2, hb⟩ := hN d hd K hK T1 hs1
  refine ⟨T2, hs2, ?_⟩
  unfold aopsC astepC
  simp only [ewanted_le hs g, ha]
  rw [hb]
/-- An operation that leaves memory alone. -/
theorem RunD.pure {o : Oper} {v : Value} (hn : l0 ≤ h.next) (g : o.guard = none) (e : eop P E o (h.lo h.next) = some (v, h.lo h.next)) (hf : ∀ q, fpE E o q = some .none) (p : eput n E o.dst v = some E1)
    (r : RunD P n ops rest l0 E1 h fun E' h' fs => Q E' h' (.none :: fs)) : RunD P n ops (o :: rest) l0 E h Q := by
  exact RunD.one g e hf hn p r
theorem RunD.pureG {o : Oper} {v : Value} (hn : l0 ≤ h.next) (g : ewanted ops E o = some true) (e : eop P E o (h.lo h.next) = some (v, h.lo h.next)) (hf : ∀ q, fpE E o q = some .none) (p : eput n E o.dst v = some E1)
    (r : RunD P n ops rest l0 E1 h fun E' h' fs => Q E' h' (.none :: fs)) : RunD P n ops (o :: rest) l0 E h Q :=
  RunD.oneG g e hf hn p r
theorem RunD.loadG {d : Tmp} {t ty : TypeId} {x : Operand} {pos : String} {after : Array Edge} {gd : Option (Nat × Bool)} {a : Addr} {v : Value} (hn : l0 ≤ h.next)
    (hw : ewanted ops E ⟨some d, .load t x, ty, pos, after, gd⟩ = some true) (hx : gE E x = some (.pointer (some a))) (hl : aload P h t a = some v) (hd : Nat.ble (Nat.succ d) n = true)
    (r : RunD P n ops rest l0 (upd E d v) h fun E' h' fs => Q E' h' (.rd a.block :: fs)) : RunD P n ops (⟨some d, .load t x, ty, pos, after, gd⟩ :: rest) l0 E h Q := by
  refine RunD.oneG (v := v) (f := .rd a.block) (h1 := h.lo h.next) (E1 := upd E d v) hw ?_ ?_ hn (by simp only [eput, hd, cond_true]) r
  · have hl : aload P (h.lo h.next) t a = some v := hl
    simp only [eop, hx, hl, pureR]
  · intro q; simp only [fpE, hx]
theorem RunD.load {d : Tmp} {t ty : TypeId} {x : Operand} {pos : String} {after : Array Edge} {a : Addr} {v : Value} (hn : l0 ≤ h.next)
    (hx : gE E x = some (.pointer (some a))) (hl : aload P h t a = some v) (hd : Nat.ble (Nat.succ d) n = true)
    (r : RunD P n ops rest l0 (upd E d v) h fun E' h' fs => Q E' h' (.rd a.block :: fs)) : RunD P n ops (⟨some d, .load t x, ty, pos, after, none⟩ :: rest) l0 E h Q := by
  refine RunD.one (v := v) (f := .rd a.block) (h1 := h.lo h.next) (E1 := upd E d v) rfl ?_ ?_ hn (by simp only [eput, hd, cond_true]) ?_
  · have hl : aload P (h.lo h.next) t a = some v := hl
    simp only [eop, hx, hl, pureR]
  · intro q; simp only [fpE, hx]
  · exact r
theorem RunD.index {d : Tmp} {t ty : TypeId} {x i : Operand} {pos : String} {after : Array Edge} {b o len c s k : Nat} {ik : IntKind} {e : TypeId} (hn : l0 ≤ h.next)
    (hx : gE E x = some (.slice (some ⟨b, o, none⟩) len c)) (hi : gE E i = some (.int ik (k : Int))) (hu : P.underlying t = some (.slice e)) (hs : sizeOf P e = some s) (hk : k < len) (hd : Nat.ble (Nat.succ d) n = true)
    (r : RunD P n ops rest l0 (upd E d (.pointer (some ⟨b, o + k * s, none⟩))) h fun E' h' fs => Q E' h' (.none :: fs)) : RunD P n ops (⟨some d, .indexAddr t x i, ty, pos, after, none⟩ :: rest) l0 E h Q := by
  refine RunD.pure (v := .pointer (some ⟨b, o + k * s, none⟩)) hn rfl ?_ (fun _ => rfl) (by simp only [eput, hd, cond_true]) r
  have hi : gE E i = some (.int ik (.ofNat k)) := hi
  simp only [eop, hx, hi, aindexAddr, hu, hs, Nat.ble_eq_true_of_le (show Nat.succ k ≤ len from hk), cond_true]
  rfl
theorem RunD.callG {dst : Option Tmp} {f : Operand} {args : Array Operand} {ats : Array TypeId} {t : TypeId} {pos : String} {after : Array Edge} {gd : Option (Nat × Bool)} {g : FuncId} {vs : List Value} {R : Value → Heap → Prop}
    (hw : ewanted ops E ⟨dst, .call ⟨.value f, args, ats⟩, t, pos, after, gd⟩ = some true) (r : RunF P g vs (h.lo h.next) R) (hf : gE E f = some (.func (.func g) #[] #[])) (hv : gs (gE E) args.toList = some vs)
    (k : ∀ v h1, R v h1 → l0 ≤ h1.low ∧ ∃ E1, eput n E dst v = some E1 ∧ RunD P n ops rest l0 E1 h1 fun E' h' fs => Q E' h' (.all (Nat.ble h.next h1.low) :: fs)) : RunD P n ops (⟨dst, .call ⟨.value f, args, ats⟩, t, pos, after, gd⟩ :: rest) l0 E h Q := by
  intro lw hlw
  obtain ⟨v, h1, q, N1, hN1⟩ := r
  obtain ⟨hl, E1, hp, r2⟩ := k v h1 q
  obtain ⟨E2, h2, fs, lw2, q2, hl2, N2, hN2⟩ := r2 (cond (Nat.ble lw h1.low) lw h1.low) (low_mix hlw hl)
  refine ⟨E2, h2, _, lw2, q2, hl2, Nat.max N1 N2, fun d hd K hK T hs => ?_⟩
  obtain ⟨T1, ha, hs1⟩ := eput_le hs hp
  obtain ⟨T2, hs2, hb⟩ := hN2 d (Nat.le_trans (Nat.le_max_right _ _) hd) K (Nat.le_trans (Nat.le_max_right _ _) hK) T1 hs1
  refine ⟨T2, hs2, ?_⟩
  have e : (#[] : Array Value).toList ++ (vs ++ (#[] : Array Value).toList) = vs := by simp
  have hc := hN1 d (Nat.le_trans (Nat.le_max_left _ _) hd) K (Nat.le_trans (Nat.le_max_left _ _) hK)
  have hc : cfl P K d g vs ⟨(h.lo lw).objs, (h.lo lw).next, (h.lo lw).next⟩ = some (v, h1) := hc
  unfold aopsC astepC
  simp only [ewanted_le hs hw, aop, acallv, gE_le hs hf, gs_le hs hv, e, hc, ha, fpOf]
  have hb : aopsC P (cfl P K d) n ops rest T1 ⟨h1.objs, h1.next, cond (Nat.ble (h.lo lw).low h1.low) (h.lo lw).low h1.low⟩ = some (T2, h2.lo lw2, fs) := hb
  rw [hb]
  rfl
theorem RunD.callD {d : Tmp} {f : Operand} {args : Array Operand} {ats : Array TypeId} {t : TypeId} {pos : String} {after : Array Edge} {g : FuncId} {vs : List Value} {R : Value → Heap → Prop}
    (r : RunF P g vs (h.lo h.next) R) (hf : gE E f = some (.func (.func g) #[] #[])) (hv : gs (gE E) args.toList = some vs) (hd : Nat.ble (Nat.succ d) n = true)
    (k : ∀ v h1, R v h1 → l0 ≤ h1.low ∧ RunD P n ops rest l0 (upd E d v) h1 fun E' h' fs => Q E' h' (.all (Nat.ble h.next h1.low) :: fs)) : RunD P n ops (⟨some d, .call ⟨.value f, args, ats⟩, t, pos, after, none⟩ :: rest) l0 E h Q :=
  RunD.callG rfl r hf hv (fun v h1 q => ⟨(k v h1 q).1, _, by simp only [eput, hd, cond_true], (k v h1 q).2⟩)
theorem RunC.draw {i : Nat} {ops : Array Oper} {p : Nat × Nat} {ps : List (Nat × Nat)} {Qn : Env → Heap → Prop} {Qx : Nat → Env → Heap → Prop} {Qr : Env → Heap → Prop} (hl : l0 ≤ h.low) (hd : drawOk ops = some (p :: ps))
    (r : RunD P n ops.toList ops.toList l0 E h (fun E' h' fs => pairsOk fs (p :: ps) = true ∧ ∀ lw, l0 ≤ lw → Qn E' (h'.lo lw))) : RunC P n (.region i ops true) E h Qn Qx Qr := by
  obtain ⟨E', h', fs, lw', ⟨hp, q⟩, hl', N, hN⟩ := r h.low hl
  refine ⟨.normal, E', h'.lo lw', q lw' hl', N, fun d hdd K hK T hs => ?_⟩
  obtain ⟨T', hs', e⟩ := hN d hdd K hK T hs
  have e : aopsC P (cfl P K d) n ops.toList ops.toList T h = some (T', h'.lo lw', fs) := e
  exact ⟨T', hs', by simp only [acode, aregion, hd, e, hp, cond_true]⟩
/-- As Fr, without the mark. -/
structure Fg (m : Nat → Prop) (h h' : Heap) : Prop where
  next : h.next ≤ h'.next
  get : ∀ i, i < h.next → ¬ m i → h'.get i = h.get i
theorem Fr.fg {m : Nat → Prop} {h h' : Heap} {x : Nat} (f : Fr m (h.lo x) h') : Fg m h h' := ⟨f.next, f.get⟩
theorem Fr.fg0 {m : Nat → Prop} {h h' : Heap} (f : Fr m h h') : Fg m h h' := ⟨f.next, f.get⟩
theorem Fg.trans {m m1 : Nat → Prop} {h h1 h2 : Heap} (a : Fg m h h1) (b : Fg m1 h1 h2) (w : ∀ i, m1 i → m i ∨ h.next ≤ i) : Fg m h h2 :=
  ⟨Nat.le_trans a.next b.next, fun i hi hm => by rw [b.get i (Nat.lt_of_lt_of_le hi a.next) (fun g => (w i g).elim hm (fun x => absurd hi (Nat.not_lt.2 x))), a.get i hi hm]⟩
theorem Fg.same {m : Nat → Prop} {h h1 h2 : Heap} (a : Fg m h h1) (b : Fg m h1 h2) : Fg m h h2 := a.trans b (fun _ g => .inl g)
theorem Fg.quiet {m : Nat → Prop} {h h1 h2 : Heap} (a : Fg m h h1) (b : Fg no h1 h2) : Fg m h h2 := a.trans b (fun _ g => g.elim)
theorem Fg.push (m : Nat → Prop) (h : Heap) (o : AObj) : Fg m h (h.push o) := (Fr.push m h o).fg0
theorem Fg.close {m : Nat → Prop} {h h' : Heap} {lw : Nat} (f : Fg m h h') (w : ∀ l, l ≤ h.low → l ≤ h.next → (∀ i, m i → l ≤ i) → l ≤ lw) : Fr m h (h'.lo lw) := ⟨f.next, f.get, w⟩
theorem Fr.relow {m : Nat → Prop} {h h' : Heap} (f : Fr m h h') {lw : Nat} (w : ∀ l, l ≤ h.low → l ≤ h.next → (∀ i, m i → l ≤ i) → l ≤ lw) : Fr m h (h'.lo lw) := ⟨f.next, f.get, w⟩
theorem Fr.from {m : Nat → Prop} {h h' : Heap} (f : Fr m (h.lo h.next) h') {l : Nat} (hl : l ≤ h.next) (hm : ∀ i, m i → l ≤ i) : l ≤ h'.low := f.low l hl hl hm
theorem Fr.quietB {h h' : Heap} (f : Fr no (h.lo h.next) h') : Nat.ble h.next h'.low = true := Nat.ble_eq_true_of_le (f.low h.next (Nat.le_refl _) (Nat.le_refl _) (fun _ g => g.elim))
end
end Go.Am
namespace Go.Am
theorem eresults_cell {P : Program} {E : Env} {h : Heap} {a : Tmp} {t : TypeId} {ad : Addr} {v w : Value} {b : Tmp} (h1 : E a = some (.pointer (some ad))) (h2 : aload P h t ad = some v) (h3 : E b = some w) :
    eresults P [.cell a t, .tmp b] E h = some (.tuple #[v, w]) := by
  simp only [eresults, eres, h1, h2, h3]
end Go.Am
namespace Go.Am
theorem eresults_cell2 {P : Program} {E : Env} {h : Heap} {a : Tmp} {t : TypeId} {ad : Addr} {v w x : Value} {b c : Tmp} (h1 : E a = some (.pointer (some ad))) (h2 : aload P h t ad = some v) (h3 : E b = some w) (h4 : E c = some x) :
    eresults P [.cell a t, .tmp b, .tmp c] E h = some (.tuple #[v, w, x]) := by
  simp only [eresults, eres, h1, h2, h3, h4]
end Go.Am
