/- DevBad: a calculus over an abstract machine that stands beside the model, and contracts of functions by it (part 3).
Conditions: what each theorem says of its arguments. -/
import Derived.Test.YtijfghknjkegpaaGDevBad2
import Derived.KernelRfl
import Derived.ChangeArms
import Derived.OpenShut
import Derived.Deep.Slices
import Derived.WideShapes
import Derived.DataReads
import Derived.RowKit
section
set_option linter.unusedVariables false
namespace Go.Am
open Go.RowKit
section
variable {P : Program} {n : Nat} {ops rest : List Oper} {E E1 : Env} {h h1 : Heap} {Q : Env → Heap → Prop}
theorem RunO.loadG {d : Tmp} {t ty : TypeId} {x : Operand} {pos : String} {after : Array Edge} {gd : Option (Nat × Bool)} {a : Addr} {v : Value}
    (hw : ewanted ops E ⟨some d, .load t x, ty, pos, after, gd⟩ = some true) (hx : gE E x = some (.pointer (some a))) (hl : aload P h t a = some v) (hd : Nat.ble (Nat.succ d) n = true)
    (r : RunO P n ops rest (upd E d v) h Q) : RunO P n ops (⟨some d, .load t x, ty, pos, after, gd⟩ :: rest) E h Q := by
  refine RunO.oneG hw (v := v) ?_ (by simp only [eput, hd, cond_true]) r
  simp only [eop, hx, hl, pureR]
theorem RunO.callDG {d : Tmp} {f : Operand} {args : Array Operand} {ats : Array TypeId} {t : TypeId} {pos : String} {after : Array Edge} {gd : Option (Nat × Bool)} {g : FuncId} {vs : List Value} {R : Value → Heap → Prop}
    (hw : ewanted ops E ⟨some d, .call ⟨.value f, args, ats⟩, t, pos, after, gd⟩ = some true) (r : RunF P g vs h R) (hf : gE E f = some (.func (.func g) #[] #[])) (hv : gs (gE E) args.toList = some vs) (hd : Nat.ble (Nat.succ d) n = true)
    (k : ∀ v h1, R v h1 → RunO P n ops rest (upd E d v) h1 Q) : RunO P n ops (⟨some d, .call ⟨.value f, args, ats⟩, t, pos, after, gd⟩ :: rest) E h Q := by
  refine RunO.callG hw hf hv (RunF.mono ?_ (fun v h1 q => ⟨_, by simp only [eput, hd, cond_true], k v h1 q⟩))
  have e : (#[] : Array Value).toList ++ (vs ++ (#[] : Array Value).toList) = vs := by simp
  rw [e]; exact r
end

/- Regions that draw their order. -/
def fpE (E : Env) (o : Oper) (quiet : Bool) : Option Fp :=
  match o.op with
  | .load _ a => (match gE E a with | some (.pointer (some a)) => some (.rd a.block) | _ => none)
  | .store _ a _ => (match gE E a with | some (.pointer (some a)) => some (.wr [a.block]) | _ => none)
  | .convert s d a => (match gE E a with | some (.slice (some a) _ _) => some (cond (Nat.beq s d) (.wr [a.block]) (.rd a.block)) | some _ => some .none | none => none)
  | .call c => (match c.callee with
    | .builtin .append | .builtin .copy | .builtin .clear => (match gs (gE E) c.args.toList with | some vs => some (.wr (idsOf vs)) | none => none)
    | .builtin _ => some .none
    | _ => some (.all quiet))
  | _ => some .none
theorem fpE_le {E : Env} {T : Tr Value} (hs : Sub E T) {o : Oper} {q : Bool} {f : Fp} (e : fpE E o q = some f) : fpOf T o q = f := by
  obtain ⟨dst, op, type, pos, after, guard⟩ := o
  cases op
  case load t x =>
    simp only [fpE] at e
    split at e
    · rename_i h1; cases e; simp only [fpOf, gE_le hs h1]
    · cases e
  case store t x y =>
    simp only [fpE] at e
    split at e
    · rename_i h1; cases e; simp only [fpOf, gE_le hs h1]
    · cases e
  case convert s t x =>
    simp only [fpE] at e
    split at e
    · rename_i h1; cases e; simp only [fpOf, gE_le hs h1]
    · rename_i v hv h1
      cases e
      simp only [fpOf, gE_le hs h1]
      first
        | rfl
        | (split
           · rename_i h2; cases h2; exact absurd rfl (hv _ _ _)
           · rfl)
    · cases e
  case call c =>
    obtain ⟨callee, args, ats⟩ := c
    cases callee with
    | value g => cases e; rfl
    | invoke r m => cases e; rfl
    | builtin b =>
      cases b
      all_goals simp only [fpE] at e
      all_goals first
        | (cases e; rfl)
        | (split at e
           · rename_i h1; cases e; simp only [fpOf, gs_le hs h1]
           · cases e)
  all_goals first | (cases e; rfl)

def estepC (P : Program) (n : Nat) (ops : List Oper) (E : Env) (h : Heap) (o : Oper) : Option (Env × Heap × Fp) :=
  match ewanted ops E o with
  | none => none
  | some false => (match eput n E o.dst undef with | some E' => some (E', h, .none) | none => none)
  | some true => (match eop P E o h, fpE E o true with
    | some (v, h'), some f => (match eput n E o.dst v with | some E' => some (E', h', f) | none => none)
    | _, _ => none)
/-- Operations of a drawing region that are no calls and write nothing old. -/
def eopsC (P : Program) (n : Nat) (ops : List Oper) : List Oper → Env → Heap → Option (Env × Heap × List Fp)
  | [], E, h => some (E, h, [])
  | o :: l, E, h => match estepC P n ops E h o with
    | some (E', h', f) => (match eopsC P n ops l E' h' with
      | some (E'', h'', fs) => some (E'', h'', f :: fs)
      | none => none)
    | none => none
/-- The memory with another mark. -/
def Heap.lo (h : Heap) (l : Nat) : Heap := ⟨h.objs, h.next, l⟩
def RunD (P : Program) (n : Nat) (ops rest : List Oper) (l0 : Nat) (E : Env) (h : Heap) (Q : Env → Heap → List Fp → Prop) : Prop :=
  ∀ lw, l0 ≤ lw → ∃ E' h' fs lw', Q E' h' fs ∧ l0 ≤ lw' ∧ ∃ N, ∀ d, N ≤ d → ∀ K, N ≤ K → ∀ T, Sub E T → ∃ T', Sub E' T' ∧ aopsC P (cfl P K d) n ops rest T (h.lo lw) = some (T', h'.lo lw', fs)
section
variable {P : Program} {n l0 : Nat} {ops rest : List Oper} {E E1 : Env} {h h1 : Heap} {Q : Env → Heap → List Fp → Prop}
theorem RunD.nil (q : Q E h []) : RunD P n ops [] l0 E h Q := fun lw hl => ⟨E, h, [], lw, q, hl, 0, fun d _ K _ T hs => ⟨T, hs, rfl⟩⟩
theorem low_mix {l a b : Nat} (h1 : l ≤ a) (h2 : l ≤ b) : l ≤ cond (Nat.ble a b) a b := by
  cases Nat.ble a b
  · exact h2
  · exact h1
theorem RunD.oneG {o : Oper} {v : Value} {f : Fp} (g : ewanted ops E o = some true) (e : eop P E o (h.lo h.next) = some (v, h1)) (hf : ∀ q, fpE E o q = some f) (hl : l0 ≤ h1.low) (p : eput n E o.dst v = some E1)
    (r : RunD P n ops rest l0 E1 h1 fun E' h' fs => Q E' h' (f :: fs)) : RunD P n ops (o :: rest) l0 E h Q := by
  intro lw hlw
  obtain ⟨E2, h2, fs, lw2, q, hl2, N, hN⟩ := r (cond (Nat.ble lw h1.low) lw h1.low) (low_mix hlw hl)
  refine ⟨E2, h2, f :: fs, lw2, q, hl2, N, fun d hd K hK T hs => ?_⟩
  obtain ⟨T1, ha, hs1⟩ := eput_le hs p
  obtain ⟨T2, hs2, hb⟩ := hN d hd K hK T1 hs1
  refine ⟨T2, hs2, ?_⟩
  have e2 : aop P (cfl P K d) T o ⟨(h.lo lw).objs, (h.lo lw).next, (h.lo lw).next⟩ = some (v, h1) := eop_le hs e
  unfold aopsC astepC
  simp only [ewanted_le hs g, e2, ha, fpE_le hs (hf _)]
  have hb : aopsC P (cfl P K d) n ops rest T1 ⟨h1.objs, h1.next, cond (Nat.ble (h.lo lw).low h1.low) (h.lo lw).low h1.low⟩ = some (T2, h2.lo lw2, fs) := hb
  rw [hb]
theorem RunD.one {o : Oper} {v : Value} {f : Fp} (g : o.guard = none) (e : eop P E o (h.lo h.next) = some (v, h1)) (hf : ∀ q, fpE E o q = some f) (hl : l0 ≤ h1.low) (p : eput n E o.dst v = some E1)
    (r : RunD P n ops rest l0 E1 h1 fun E' h' fs => Q E' h' (f :: fs)) : RunD P n ops (o :: rest) l0 E h Q :=
  RunD.oneG (by simp only [ewanted, g]) e hf hl p r
theorem RunD.offG {o : Oper} (g : ewanted ops E o = some false) (p : eput n E o.dst undef = some E1) (r : RunD P n ops rest l0 E1 h fun E' h' fs => Q E' h' (.none :: fs)) : RunD P n ops (o :: rest) l0 E h Q := by
  intro lw hlw
  obtain ⟨E2, h2, fs, lw2, q, hl2, N, hN⟩ := r lw hlw
  refine ⟨E2, h2, .none :: fs, lw2, q, hl2, N, fun d hd K hK T hs => ?_⟩
  obtain ⟨T1, ha, hs1⟩ := eput_le hs p
  obtain ⟨T2, hs2, hb⟩ := hN d hd K hK T1 hs1
  refine ⟨T2, hs2, ?_⟩
  unfold aopsC astepC
  simp only [ewanted_le hs g, ha]
  rw [hb]
/-- An operation that leaves memory alone. -/
theorem RunD.pure {o : Oper} {v : Value} (hn : l0 ≤ h.next) (g : o.guard = none) (e : eop P E o (h.lo h.next) = some (v, h.lo h.next)) (hf : ∀ q, fpE E o q = some .none) (p : eput n E o.dst v = some E1)
    (r : RunD P n ops rest l0 E1 h fun E' h' fs => Q E' h' (.none :: fs)) : RunD P n ops (o :: rest) l0 E h Q := by
  exact RunD.one g e hf hn p r
theorem RunD.load {d : Tmp} {t ty : TypeId} {x : Operand} {pos : String} {after : Array Edge} {a : Addr} {v : Value} (hn : l0 ≤ h.next)
    (hx : gE E x = some (.pointer (some a))) (hl : aload P h t a = some v) (hd : Nat.ble (Nat.succ d) n = true)
    (r : RunD P n ops rest l0 (upd E d v) h fun E' h' fs => Q E' h' (.rd a.block :: fs)) : RunD P n ops (⟨some d, .load t x, ty, pos, after, none⟩ :: rest) l0 E h Q := by
  refine RunD.one (v := v) (f := .rd a.block) (h1 := h.lo h.next) (E1 := upd E d v) rfl ?_ ?_ hn (by simp only [eput, hd, cond_true]) ?_
  · have hl : aload P (h.lo h.next) t a = some v := hl
    simp only [eop, hx, hl, pureR]
  · intro q; simp only [fpE, hx]
  · exact r
theorem RunD.callG {dst : Option Tmp} {f : Operand} {args : Array Operand} {ats : Array TypeId} {t : TypeId} {pos : String} {after : Array Edge} {gd : Option (Nat × Bool)} {g : FuncId} {vs : List Value} {R : Value → Heap → Prop}
    (hw : ewanted ops E ⟨dst, .call ⟨.value f, args, ats⟩, t, pos, after, gd⟩ = some true) (r : RunF P g vs (h.lo h.next) R) (hf : gE E f = some (.func (.func g) #[] #[])) (hv : gs (gE E) args.toList = some vs)
    (k : ∀ v h1, R v h1 → l0 ≤ h1.low ∧ ∃ E1, eput n E dst v = some E1 ∧ RunD P n ops rest l0 E1 h1 fun E' h' fs => Q E' h' (.all (Nat.ble h.next h1.low) :: fs)) : RunD P n ops (⟨dst, .call ⟨.value f, args, ats⟩, t, pos, after, gd⟩ :: rest) l0 E h Q := by
  intro lw hlw
  obtain ⟨v, h1, q, N1, hN1⟩ := r
  obtain ⟨hl, E1, hp, r2⟩ := k v h1 q
  obtain ⟨E2, h2, fs, lw2, q2, hl2, N2, hN2⟩ := r2 (cond (Nat.ble lw h1.low) lw h1.low) (low_mix hlw hl)
  refine ⟨E2, h2, _, lw2, q2, hl2, Nat.max N1 N2, fun d hd K hK T hs => ?_⟩
  obtain ⟨T1, ha, hs1⟩ := eput_le hs hp
  obtain ⟨T2, hs2, hb⟩ := hN2 d (Nat.le_trans (Nat.le_max_right _ _) hd) K (Nat.le_trans (Nat.le_max_right _ _) hK) T1 hs1
  refine ⟨T2, hs2, ?_⟩
  have e : (#[] : Array Value).toList ++ (vs ++ (#[] : Array Value).toList) = vs := by simp
  have hc := hN1 d (Nat.le_trans (Nat.le_max_left _ _) hd) K (Nat.le_trans (Nat.le_max_left _ _) hK)
  have hc : cfl P K d g vs ⟨(h.lo lw).objs, (h.lo lw).next, (h.lo lw).next⟩ = some (v, h1) := hc
  unfold aopsC astepC
  simp only [ewanted_le hs hw, aop, acallv, gE_le hs hf, gs_le hs hv, e, hc, ha, fpOf]
  have hb : aopsC P (cfl P K d) n ops rest T1 ⟨h1.objs, h1.next, cond (Nat.ble (h.lo lw).low h1.low) (h.lo lw).low h1.low⟩ = some (T2, h2.lo lw2, fs) := hb
  rw [hb]
  rfl
theorem RunD.callD {d : Tmp} {f : Operand} {args : Array Operand} {ats : Array TypeId} {t : TypeId} {pos : String} {after : Array Edge} {g : FuncId} {vs : List Value} {R : Value → Heap → Prop}
    (r : RunF P g vs (h.lo h.next) R) (hf : gE E f = some (.func (.func g) #[] #[])) (hv : gs (gE E) args.toList = some vs) (hd : Nat.ble (Nat.succ d) n = true)
    (k : ∀ v h1, R v h1 → l0 ≤ h1.low ∧ RunD P n ops rest l0 (upd E d v) h1 fun E' h' fs => Q E' h' (.all (Nat.ble h.next h1.low) :: fs)) : RunD P n ops (⟨some d, .call ⟨.value f, args, ats⟩, t, pos, after, none⟩ :: rest) l0 E h Q :=
  RunD.callG rfl r hf hv (fun v h1 q => ⟨(k v h1 q).1, _, by simp only [eput, hd, cond_true], (k v h1 q).2⟩)
theorem RunC.draw {i : Nat} {ops : Array Oper} {p : Nat × Nat} {ps : List (Nat × Nat)} {Qn : Env → Heap → Prop} {Qx : Nat → Env → Heap → Prop} {Qr : Env → Heap → Prop} (hl : l0 ≤ h.low) (hd : drawOk ops = some (p :: ps))
    (r : RunD P n ops.toList ops.toList l0 E h (fun E' h' fs => pairsOk fs (p :: ps) = true ∧ ∀ lw, l0 ≤ lw → Qn E' (h'.lo lw))) : RunC P n (.region i ops true) E h Qn Qx Qr := by
  obtain ⟨E', h', fs, lw', ⟨hp, q⟩, hl', N, hN⟩ := r h.low hl
  refine ⟨.normal, E', h'.lo lw', q lw' hl', N, fun d hdd K hK T hs => ?_⟩
  obtain ⟨T', hs', e⟩ := hN d hdd K hK T hs
  have e : aopsC P (cfl P K d) n ops.toList ops.toList T h = some (T', h'.lo lw', fs) := e
  exact ⟨T', hs', by simp only [acode, aregion, hd, e, hp, cond_true]⟩
/-- As Fr, without the mark. -/
structure Fg (m : Nat → Prop) (h h' : Heap) : Prop where
  next : h.next ≤ h'.next
  get : ∀ i, i < h.next → ¬ m i → h'.get i = h.get i
theorem Fr.fg {m : Nat → Prop} {h h' : Heap} {x : Nat} (f : Fr m (h.lo x) h') : Fg m h h' := ⟨f.next, f.get⟩
theorem Fr.fg0 {m : Nat → Prop} {h h' : Heap} (f : Fr m h h') : Fg m h h' := ⟨f.next, f.get⟩
theorem Fg.trans {m m1 : Nat → Prop} {h h1 h2 : Heap} (a : Fg m h h1) (b : Fg m1 h1 h2) (w : ∀ i, m1 i → m i ∨ h.next ≤ i) : Fg m h h2 :=
  ⟨Nat.le_trans a.next b.next, fun i hi hm => by rw [b.get i (Nat.lt_of_lt_of_le hi a.next) (fun g => (w i g).elim hm (fun x => absurd hi (Nat.not_lt.2 x))), a.get i hi hm]⟩
theorem Fg.same {m : Nat → Prop} {h h1 h2 : Heap} (a : Fg m h h1) (b : Fg m h1 h2) : Fg m h h2 := a.trans b (fun _ g => .inl g)
theorem Fg.quiet {m : Nat → Prop} {h h1 h2 : Heap} (a : Fg m h h1) (b : Fg no h1 h2) : Fg m h h2 := a.trans b (fun _ g => g.elim)
theorem Fg.close {m : Nat → Prop} {h h' : Heap} {lw : Nat} (f : Fg m h h') (w : ∀ l, l ≤ h.low → l ≤ h.next → (∀ i, m i → l ≤ i) → l ≤ lw) : Fr m h (h'.lo lw) := ⟨f.next, f.get, w⟩
theorem Fr.from {m : Nat → Prop} {h h' : Heap} (f : Fr m (h.lo h.next) h') {l : Nat} (hl : l ≤ h.next) (hm : ∀ i, m i → l ≤ i) : l ≤ h'.low := f.low l hl hl hm
theorem Fr.quietB {h h' : Heap} (f : Fr no (h.lo h.next) h') : Nat.ble h.next h'.low = true := Nat.ble_eq_true_of_le (f.low h.next (Nat.le_refl _) (Nat.le_refl _) (fun _ g => g.elim))
end
end Go.Am
namespace Go.Am
end Go.Am
namespace Go.Am
end Go.Am
end
section
set_option linter.unusedVariables false
namespace Go.Am
open Go.RowKit
variable {P : Program}
def noRoutine (P : Program) : Bool := P.funcs.toList.all (fun fn => !(fn.name == "runtime.NumGoroutine"))
theorem noRoutine_iff (h : noRoutine P = true) (f : FuncId) (fn : Func) (e : P.funcs[f]? = some fn) : (fn.name == "runtime.NumGoroutine") = false := by
  unfold noRoutine at h
  rw [List.all_eq_true] at h
  have hm : fn ∈ P.funcs.toList := by
    rw [← Array.getElem?_toList] at e
    exact List.mem_of_getElem? e
  have := h fn hm
  simpa using this
/-- A call with arguments without addresses that tells true by the calculus: so tells the world. -/
theorem RunF.calls (hm : P.follows .mixedOrders = true) (hn : noRoutine P = true) {f : FuncId} {args : List Value} (hc : args.all closedV = true) (r : RunF P f args ⟨.leaf, 0, 0⟩ (fun v _ => v = .bool true)) (w : World) :
    Calls P f ⟨args⟩ w fun e w' => e = .returned (.bool true) ∧ Below w.heap.size w w' := by
  obtain ⟨v, h', rfl, N, hN⟩ := r
  have e := hN N (Nat.le_refl _) N (Nat.le_refl _)
  obtain ⟨_, _, h3⟩ := acall_sound hm (noRoutine_iff hn) (sp := fun _ => none) (fun f s args h v h' e => by cases e) N N f args _ _ h' e
  have hv : ∀ (μ : Mu) (l : List Value), l.all closedV = true → VRels μ l l := by
    intro μ l
    induction l with
    | nil => intro _; exact .nil
    | cons x t ih =>
      intro hl
      rw [List.all_cons, Bool.and_eq_true] at hl
      exact .cons (closedV_rel μ hl.1) (ih hl.2)
  refine (h3 (fun _ => none) w ⟨args⟩ ⟨fun i o p _ g => (by cases g), fun i j o o' p p' off _ _ _ g => (by cases g), fun i o g => (by cases g)⟩ (fun _ _ _ => rfl) (hv _ _ hc)).mono ?_
  rintro e w' ⟨v', ν, rfl, h1, h2⟩
  have hvv := closedV_eq (show closedV (.bool true) = true from rfl) h1
  have hown : ∀ b off, ¬ Own ⟨.leaf, 0, 0⟩ (fun _ => none) (fun i => h'.low ≤ i) b off := by
    rintro b off ⟨i, o, p, _, g, _⟩
    cases g
  refine ⟨by rw [hvv], h2.keep.os, h2.keep.tape, h2.keep.output, h2.keep.size, fun k hk => h2.keep.block k hk (fun off => hown k off)⟩
end Go.Am
end
section
set_option linter.unusedVariables false
namespace Go.Am
open Go.RowKit
section
variable {P : Program} {n : Nat} {ops rest : List Oper} {E E1 : Env} {h h1 : Heap} {Q : Env → Heap → Prop}
/-- Something appended to a row that has no room left: a new block. -/
theorem append_full {t e : TypeId} {i : TypeInfo} {z : Value} {s k m c c' : Nat} {olds news : List Value} {a b : Addr}
    (hu : P.underlying t = some (.slice e)) (hi : P.info? e = some i) (hz : zeroOf P e = some z) (hlz : lenIs (cellsOf z) i.size = true) (hs : i.size = s) (hs1 : 1 ≤ s)
    (ro : Rd h b olds) (hk : olds.length = k * s) (hc : isUnk c = false) (hc2 : half c < k + m)
    (rd : Rd h a news) (hn : news.length = m * s) (hm : 1 ≤ m) (hb : 2 * (k + m) * i.bytes ≤ 281474976710656) (hb2 : k + m ≤ 9223372036854775807) :
    aappend P h t t (.slice (some b) k c) (.slice (some a) m c') = some (.slice (some ⟨h.next, 0, none⟩) (k + m) (unkc s), h.push ⟨olds ++ news, true⟩) := by
  subst hs
  obtain ⟨m, rfl⟩ : ∃ j, m = j + 1 := ⟨m - 1, by omega⟩
  have hr : asrc h i.size (.slice (some a) (m + 1) c') = some (m + 1, news) := by
    have hq : aread h a (Nat.mul (m + 1) i.size) = some (news.take ((m + 1) * i.size)) := rd.read0 (m := (m + 1) * i.size) (by omega)
    simp only [asrc, hq]
    rw [List.take_of_length_le (by omega)]
  have e1 : Nat.ble (Nat.mul (Nat.mul 2 (Nat.add k (Nat.succ m))) i.bytes) 281474976710656 = true := Nat.ble_eq_true_of_le hb
  have e2 : Nat.ble (Nat.add k (Nat.succ m)) 9223372036854775807 = true := Nat.ble_eq_true_of_le hb2
  have e3 : aread h b (Nat.mul k i.size) = some olds := by
    have := ro.read0 (m := k * i.size) (by omega)
    rw [List.take_of_length_le (by omega)] at this
    exact this
  have e4 : Nat.ble (Nat.add k (Nat.succ m)) (half c) = false := by
    cases hbb : Nat.ble (Nat.add k (Nat.succ m)) (half c) with
    | false => rfl
    | true => exact absurd (Nat.le_of_ble_eq_true hbb) (by show ¬ k + (m + 1) ≤ half c; omega)
  simp only [aappend, hu, Nat.beq_refl, cond_true, hi, hz, hlz, Nat.ble_eq_true_of_le hs1, hr, e1, e2, e3, hc, cond_false, e4]
  rfl
end
end Go.Am
end
section
set_option linter.unusedVariables false
namespace Go.Am
open Go.RowKit
/-- Shapes of values that are laid open. -/
inductive Sh where
  | int (k : IntKind)
  | bool
  | str
  | slice (s : Sh)
  | unit
  | pair (a b : Sh)
def Sh.T : Sh → Type
  | .int _ => Int
  | .bool => Bool
  | .str => ByteArray
  | .slice s => List s.T
  | .unit => Unit
  | .pair a b => a.T × b.T
def Sh.sz : Sh → Nat
  | .unit => 0
  | .pair a b => a.sz + b.sz
  | _ => 1
/-- A slice of cells that stand side by side, in any memory. -/
def Sl (h : Heap) (v : Value) (s n : Nat) (cells : List Value) : Prop :=
  cells.length = n * s ∧ n ≤ 9223372036854775807 ∧ ((v = .slice none 0 0 ∧ n = 0) ∨ ∃ b o c, v = .slice (some ⟨b, o, none⟩) n c ∧ Cp s n c ∧ Rd h ⟨b, o, none⟩ cells)
def Sh.K : (s : Sh) → Heap → s.T → List Value → Prop
  | .int k, _, n, cs => cs = [.int k n] ∧ (Lit.int k n).wf = true
  | .bool, _, b, cs => cs = [.bool b]
  | .str, _, b, cs => cs = [.string b]
  | .slice s, h, l, cs => ∃ v acs, cs = [v] ∧ Sl h v s.sz (List.length (α := s.T) l) acs ∧ ∀ (j : Nat) (x : s.T), nth (α := s.T) l j = some x → s.K h x ((acs.drop (j * s.sz)).take s.sz)
  | .unit, _, _, cs => cs = []
  | .pair a b, h, p, cs => ∃ c1 c2, cs = c1 ++ c2 ∧ c1.length = a.sz ∧ c2.length = b.sz ∧ a.K h p.1 c1 ∧ b.K h p.2 c2
structure Ex (h h' : Heap) : Prop where
  next : h.next ≤ h'.next
  get : ∀ i, i < h.next → h'.get i = h.get i
theorem Ex.refl (h : Heap) : Ex h h := ⟨Nat.le_refl _, fun _ _ => rfl⟩
theorem Ex.trans {a b c : Heap} (x : Ex a b) (y : Ex b c) : Ex a c := ⟨Nat.le_trans x.next y.next, fun i hi => (y.get i (Nat.lt_of_lt_of_le hi x.next)).trans (x.get i hi)⟩
theorem Rd.ex {h h' : Heap} {a : Addr} {cs : List Value} (r : Rd h a cs) (x : Ex h h') : Rd h' a cs := ⟨r.1, Nat.lt_of_lt_of_le r.2.1 x.next, by rw [x.get _ r.2.1]; exact r.2.2⟩
theorem Sl.ex {h h' : Heap} {v : Value} {s n : Nat} {cs : List Value} (r : Sl h v s n cs) (x : Ex h h') : Sl h' v s n cs := by
  refine ⟨r.1, r.2.1, r.2.2.imp (fun y => y) ?_⟩
  rintro ⟨b, o, c, h1, h2, h3⟩
  exact ⟨b, o, c, h1, h2, h3.ex x⟩
theorem Fr.ex {h h' : Heap} (f : Fr no h h') : Ex h h' := ⟨f.next, fun i hi => f.get i hi (fun g => g)⟩
theorem Sh.K_ex : ∀ (s : Sh) {h h' : Heap} {x : s.T} {cs : List Value}, Ex h h' → s.K h x cs → s.K h' x cs
  | .int k, _, _, _, _, _, g => g
  | .bool, _, _, _, _, _, g => g
  | .str, _, _, _, _, _, g => g
  | .slice s, h, h', l, cs, e, ⟨v, acs, g1, g2, g3⟩ => ⟨v, acs, g1, g2.ex e, fun j x hx => Sh.K_ex s e (g3 j x hx)⟩
  | .unit, _, _, _, _, _, g => g
  | .pair a b, h, h', p, cs, e, ⟨c1, c2, g1, g2, g3, g4, g5⟩ => ⟨c1, c2, g1, g2, g3, Sh.K_ex a e g4, Sh.K_ex b e g5⟩
theorem Sh.K_len : ∀ (s : Sh) {h : Heap} {x : s.T} {cs : List Value}, s.K h x cs → cs.length = s.sz
  | .int k, _, _, _, g => by rw [g.1]; rfl
  | .bool, _, _, _, g => by rw [show _ = _ from g]; rfl
  | .str, _, _, _, g => by rw [show _ = _ from g]; rfl
  | .slice s, h, l, cs, ⟨v, acs, g1, g2, g3⟩ => by rw [g1]; rfl
  | .unit, _, _, _, g => by rw [show _ = _ from g]; rfl
  | .pair a b, h, p, cs, ⟨c1, c2, g1, g2, g3, g4, g5⟩ => by rw [g1, List.length_append, g2, g3]; rfl

def Sh.rep (s : Sh) : Nat → Sh
  | 0 => .unit
  | n + 1 => .pair s (s.rep n)
def Sh.fields (g : TypeId → Option Sh) (P : Program) : List Field → Nat → Nat → Option Sh
  | [], off, all => cond (Nat.beq off all) (some .unit) none
  | fd :: l, off, all => match g fd.type with
    | some s => cond (Nat.beq fd.offset off) (cond (Nat.beq (P.cellsOf fd.type) s.sz) (match Sh.fields g P l (off + s.sz) all with
      | some r => some (.pair s r)
      | none => none) none) none
    | none => none
def Sh.of (P : Program) : Nat → TypeId → Option Sh
  | 0, _ => none
  | f + 1, t => match P.underlying t with
    | some (.int k) => some (.int k)
    | some .bool => some .bool
    | some .string => some .str
    | some (.slice e) => (match Sh.of P f e with
      | some s => cond (Nat.beq (P.cellsOf e) s.sz) (cond (Nat.ble 1 s.sz) (some (.slice s)) none) none
      | none => none)
    | some (.struct fs) => Sh.fields (Sh.of P f) P fs.toList 0 (P.cellsOf t)
    | some (.array n e) => (match Sh.of P f e with
      | some s => cond (Nat.beq (P.cellsOf e) s.sz) (cond (Nat.beq (P.cellsOf t) (n * s.sz)) (some (s.rep n)) none) none
      | none => none)
    | _ => none
theorem condS {α : Type} {b : Bool} {x : Option α} {y : α} (h : cond b x none = some y) : b = true ∧ x = some y := by
  cases b with
  | true => exact ⟨rfl, h⟩
  | false => cases h

/-- A memory of rows that are not one's own, beside a world. -/
structure Ini (h : Heap) (μ : Mu) (w : World) : Prop where
  rel : Rel (fun _ => True) μ h w
  fresh : ∀ i, h.next ≤ i → μ i = none
  old : ∀ i o, h.get i = some o → o.own = false
theorem Ini.nil (w : World) : Ini ⟨.leaf, 0, 0⟩ (fun _ => none) w :=
  ⟨⟨fun i o p _ g => (by cases g), fun i j o o' p p' off _ _ _ g => (by cases g), fun i o g => (by cases g)⟩, fun _ _ => rfl, fun i o g => by cases g⟩
def Mu.put (μ : Mu) (i : Nat) (p : Place) : Mu := fun j => if j = i then some p else μ j
theorem Ini.push {h : Heap} {μ : Mu} {w : World} (I : Ini h μ w) {acs : List Value} {b off : Nat} (hc : ∀ j v, acs[j]? = some v → ∃ v', w.cell? ⟨b, off + j, none⟩ = some v' ∧ VRel μ v v') :
    Ini (h.push ⟨acs, false⟩) (μ.put h.next ⟨b, off, 0⟩) w ∧ μ.le (μ.put h.next ⟨b, off, 0⟩) ∧ Ex h (h.push ⟨acs, false⟩) ∧ (μ.put h.next ⟨b, off, 0⟩) h.next = some ⟨b, off, 0⟩ := by
  have hle : μ.le (μ.put h.next ⟨b, off, 0⟩) := by
    intro i p hp
    unfold Mu.put
    rw [if_neg]; exact hp
    intro e; subst e; rw [I.fresh _ (Nat.le_refl _)] at hp; cases hp
  have hex : Ex h (h.push ⟨acs, false⟩) := ⟨Nat.le_succ _, fun i hi => by rw [get_push, if_neg (by omega)]⟩
  have hold : ∀ i o, (h.push ⟨acs, false⟩).get i = some o → o.own = false := by
    intro i o g
    rw [get_push] at g
    split at g
    · cases g; rfl
    · exact I.old i o g
  refine ⟨⟨⟨?_, ?_, ?_⟩, ?_, hold⟩, hle, hex, by unfold Mu.put; rw [if_pos rfl]⟩
  · intro i o p _ g m
    rw [get_push] at g
    unfold Mu.put at m
    split at g
    · rename_i hi
      rw [if_pos hi] at m
      cases g; cases m
      exact ⟨fun j v hj => by obtain ⟨v', h1, h2⟩ := hc j v hj; exact ⟨v', h1, h2.mono hle⟩, fun ho => (by cases ho), fun ho => (by cases ho)⟩
    · rename_i hi
      rw [if_neg hi] at m
      have := I.rel.cells i o p trivial g m
      exact ⟨fun j v hj => by obtain ⟨v', h1, h2⟩ := this.cells j v hj; exact ⟨v', h1, h2.mono hle⟩, this.ext, this.own⟩
  · intro i j o o' p p' off' _ _ hij g g' ho
    rw [hold i o g] at ho; cases ho
  · intro i o g
    rw [get_push] at g
    split at g
    · rename_i hi; rw [hi]; exact Nat.lt_succ_self _
    · exact Nat.lt_succ_of_lt (I.rel.live i o g)
  · intro i hi
    have hi : h.next + 1 ≤ i := hi
    unfold Mu.put
    rw [if_neg (by omega)]
    exact I.fresh i (by omega)
section
open Go.ChangeShapes Go.Deep
variable {H : Type} {enc : TypeId × Value → H} {P : Program} {w : World} {base : Nat} {held : Bool}
/-- What a type's reading gives beside a memory. -/
def Opens (enc : TypeId × Value → H) (P : Program) (w : World) (base : Nat) (held : Bool) (t : TypeId) (s : Sh) : Prop :=
  ∀ n cs x, DataW.trod enc P w base (fun _ => true) held n t cs = some x → ∀ h μ, Ini h μ w → ∃ h' μ' acs p, Ini h' μ' w ∧ μ.le μ' ∧ Ex h h' ∧ VRels μ' acs cs ∧ s.K h' p acs
theorem opens_slice {t e : TypeId} {s : Sh} (ht : P.underlying t = some (.slice e)) (hz : P.cellsOf e = s.sz) (h1 : 1 ≤ s.sz) (hel : Opens enc P w base held e s) : Opens enc P w base held t (.slice s) := by
  intro n cs x hx h μ I
  rcases open_slice ht hx with ⟨rfl, _⟩ | ⟨a, len, cap, m, n', D, Pl, rfl, hb, hl, hm, hmm, _, hi⟩
  · exact ⟨h, μ, [.slice none 0 0], ([] : List s.T), I, Mu.le_refl _, Ex.refl _, .cons (.sliceNil 0 0) .nil, .slice none 0 0, [], rfl, ⟨by simp, Nat.zero_le _, .inl ⟨rfl, rfl⟩⟩, fun j x hx => by rw [nth_eq] at hx; simp at hx⟩
  rw [if_pos rfl] at hmm
  subst hmm
  have hmx : m ≤ 9223372036854775807 := by unfold maxLen at hm; omega
  have key : ∀ k, k ≤ len → ∃ (h' : Heap) (μ' : Mu) (acs : List Value) (l : List s.T), Ini h' μ' w ∧ μ.le μ' ∧ Ex h h' ∧ acs.length = k * s.sz ∧ l.length = k ∧ (∀ j v, acs[j]? = some v → ∃ v', w.cell? (a.add j) = some v' ∧ VRel μ' v v') ∧
      ∀ j x, l[j]? = some x → s.K h' x ((acs.drop (j * s.sz)).take s.sz) := by
    intro k
    induction k with
    | zero => intro _; exact ⟨h, μ, [], [], I, Mu.le_refl _, Ex.refl _, by simp, rfl, fun j v hj => by simp at hj, fun j x hj => by simp at hj⟩
    | succ k ih =>
      intro hk
      obtain ⟨h1, μ1, acs, l, I1, le1, ex1, hla, hll, hcs, hK⟩ := ih (by omega)
      obtain ⟨cs', hc', ht'⟩ := hi k (by omega)
      obtain ⟨h2, μ2, ac2, p, I2, le2, ex2, hv, hk2⟩ := hel n' cs' _ ht' h1 μ1 I1
      obtain ⟨_, hcl, hat⟩ := World.cells?_some hc'
      have hl2 := s.K_len hk2
      refine ⟨h2, μ2, acs ++ ac2, l ++ [p], I2, Mu.le_trans le1 le2, ex1.trans ex2, by rw [List.length_append, hla, hl2, Nat.succ_mul], by simp [hll], ?_, ?_⟩
      · intro j v hj
        by_cases c : j < acs.length
        · rw [List.getElem?_append_left c] at hj
          obtain ⟨v', e1, e2⟩ := hcs j v hj
          exact ⟨v', e1, e2.mono le2⟩
        · rw [List.getElem?_append_right (by omega)] at hj
          obtain ⟨v', e1, e2⟩ := hv.nth _ v hj
          have hjl : j - acs.length < P.cellsOf e := by
            have := (List.getElem?_eq_some_iff.1 e1).1; omega
          have e3 := hat _ hjl
          rw [add_add, e1, hz, ← hla, show acs.length + (j - acs.length) = j by omega] at e3
          exact ⟨v', e3, e2⟩
      · intro j x hj
        by_cases c : j < l.length
        · rw [List.getElem?_append_left c] at hj
          have := s.K_ex ex2 (hK j x hj)
          have hb : j * s.sz + s.sz ≤ acs.length := by
            rw [hla, ← Nat.succ_mul]; exact Nat.mul_le_mul_right _ (by omega)
          rw [List.drop_append_of_le_length (by omega), List.take_append_of_le_length (by rw [List.length_drop]; omega)]
          exact this
        · rw [List.getElem?_append_right (by omega)] at hj
          have : j - l.length = 0 := by
            have := (List.getElem?_eq_some_iff.1 hj).1
            simp at this; omega
          rw [this] at hj
          have e : p = x := by simpa using hj
          subst e
          have ej : j * s.sz = acs.length := by rw [hla, show j = k by omega]
          rw [ej, List.drop_left, ← hl2, List.take_length]
          exact hk2
  obtain ⟨h1, μ1, acs, l, I1, le1, ex1, hla, hll, hcs, hK⟩ := key len (Nat.le_refl _)
  obtain ⟨b, off, spot⟩ := a
  by_cases h0 : m = 0
  · subst h0
    have hl0 : len = 0 := by omega
    subst hl0
    obtain ⟨I2, le2, ex2, hp⟩ := I1.push (acs := []) (b := b) (off := off) (fun j v hj => by simp at hj)
    have hacs : acs = [] := List.length_eq_zero_iff.1 (by omega)
    subst hacs
    refine ⟨_, _, [.slice (some ⟨h1.next, 0, none⟩) 0 (unkc s.sz)], l, I2, Mu.le_trans le1 le2, ex1.trans ex2, .cons (.sliceUn hp (Nat.le_refl _) (.inr ⟨rfl, rfl⟩)) .nil, _, [], rfl, ⟨by simp [hll], by omega, .inr ⟨h1.next, 0, unkc s.sz, by rw [hll], by rw [hll]; exact Cp.unkc _ _, rfl, Nat.lt_succ_self _, ⟨[], false⟩, by rw [get_push, if_pos rfl], by simp⟩⟩, fun j x hj => by
      rw [nth_eq] at hj
      have := (List.getElem?_eq_some_iff.1 hj).1
      exact absurd this (by omega)⟩
  · obtain ⟨cs0, hc0, _⟩ := hi 0 (by omega)
    obtain ⟨_, hcl0, hat0⟩ := World.cells?_some hc0
    have hs : spot = none := by
      have := hat0 0 (by omega)
      rw [add_add, Nat.zero_mul, Nat.zero_add] at this
      rw [List.getElem?_eq_getElem (by omega)] at this
      unfold World.cell? Addr.add at this
      simp only [if_true] at this
      split at this
      · cases spot with
        | none => rfl
        | some q => simp at this
      · cases this
    subst hs
    have hadd : ∀ j, (⟨b, off, none⟩ : Addr).add j = ⟨b, off + j, none⟩ := by
      intro j; unfold Addr.add
      split
      · rename_i e; rw [e]; rfl
      · rfl
    obtain ⟨I2, le2, ex2, hp⟩ := I1.push (acs := acs) (b := b) (off := off) (fun j v hj => by rw [← hadd]; exact hcs j v hj)
    refine ⟨_, _, [.slice (some ⟨h1.next, 0, none⟩) len (exc m)], l, I2, Mu.le_trans le1 le2, ex1.trans ex2, .cons (.sliceEx hp hl) .nil, _, acs, rfl, ⟨by rw [hla, hll], by omega, .inr ⟨h1.next, 0, exc m, by rw [hll], Cp.exc (by omega), rfl, Nat.lt_succ_self _, ⟨acs, false⟩, by rw [get_push, if_pos rfl], by simp⟩⟩, fun j x hj => s.K_ex ex2 (hK j x (by rw [nth_eq] at hj; exact hj))⟩
theorem opens_fields {g : TypeId → Option Sh} (hg : ∀ t s, g t = some s → Opens enc P w base held t s) {n : Nat} {cs : List Value} : ∀ (l : List Field) (off all : Nat) (s : Sh), Sh.fields g P l off all = some s → cs.length = all →
    (∀ f ∈ l, ∃ x, DataW.trod enc P w base (fun _ => true) held n f.type ((cs.drop f.offset).take (P.cellsOf f.type)) = some x) →
    ∀ h μ, Ini h μ w → ∃ h' μ' acs p, Ini h' μ' w ∧ μ.le μ' ∧ Ex h h' ∧ VRels μ' acs (cs.drop off) ∧ s.K h' p acs
  | [], off, all, s, e, hl, _, h, μ, I => by
    unfold Sh.fields at e
    obtain ⟨e1, e2⟩ := condS e
    cases e2
    have := Nat.eq_of_beq_eq_true e1
    refine ⟨h, μ, [], (), I, Mu.le_refl _, Ex.refl _, ?_, rfl⟩
    rw [List.drop_of_length_le (by omega)]
    exact .nil
  | fd :: l, off, all, s, e, hl, hx, h, μ, I => by
    unfold Sh.fields at e
    split at e
    · rename_i s1 hs1
      obtain ⟨e1, e⟩ := condS e
      obtain ⟨e2, e⟩ := condS e
      split at e
      · rename_i r hr
        cases e
        have e1 := Nat.eq_of_beq_eq_true e1
        have e2 := Nat.eq_of_beq_eq_true e2
        obtain ⟨x, hx1⟩ := hx fd (List.mem_cons_self ..)
        rw [e1, e2] at hx1
        obtain ⟨h1, μ1, ac1, p1, I1, le1, ex1, v1, k1⟩ := hg _ _ hs1 _ _ _ hx1 h μ I
        obtain ⟨h2, μ2, ac2, p2, I2, le2, ex2, v2, k2⟩ := opens_fields hg l (off + s1.sz) all r hr hl (fun f hf => hx f (List.mem_cons_of_mem _ hf)) h1 μ1 I1
        refine ⟨h2, μ2, ac1 ++ ac2, (p1, p2), I2, Mu.le_trans le1 le2, ex1.trans ex2, ?_, ac1, ac2, rfl, s1.K_len k1, r.K_len k2, s1.K_ex ex2 k1, k2⟩
        have := (v1.mono le2).append v2
        rw [← List.drop_drop, List.take_append_drop] at this
        exact this
      · cases e
    · cases e
theorem opens_rep {e : TypeId} {s : Sh} (hel : Opens enc P w base held e s) {n : Nat} {cs : List Value} {N : Nat} (hl : cs.length = N * s.sz)
    (hx : ∀ i, i < N → ∃ x, DataW.trod enc P w base (fun _ => true) held n e ((cs.drop (i * s.sz)).take s.sz) = some x) :
    ∀ k, k ≤ N → ∀ h μ, Ini h μ w → ∃ h' μ' acs p, Ini h' μ' w ∧ μ.le μ' ∧ Ex h h' ∧ VRels μ' acs (cs.drop ((N - k) * s.sz)) ∧ (s.rep k).K h' p acs
  | 0, _, h, μ, I => by
    refine ⟨h, μ, [], (), I, Mu.le_refl _, Ex.refl _, ?_, rfl⟩
    rw [List.drop_of_length_le (by rw [hl]; exact Nat.le_refl _)]
    exact .nil
  | k + 1, hk, h, μ, I => by
    obtain ⟨x, hx1⟩ := hx (N - (k + 1)) (by omega)
    obtain ⟨h1, μ1, ac1, p1, I1, le1, ex1, v1, k1⟩ := hel _ _ _ hx1 h μ I
    obtain ⟨h2, μ2, ac2, p2, I2, le2, ex2, v2, k2⟩ := opens_rep hel hl hx k (by omega) h1 μ1 I1
    refine ⟨h2, μ2, ac1 ++ ac2, (p1, p2), I2, Mu.le_trans le1 le2, ex1.trans ex2, ?_, ac1, ac2, rfl, s.K_len k1, (s.rep k).K_len k2, s.K_ex ex2 k1, k2⟩
    have := (v1.mono le2).append v2
    rw [show (N - k) * s.sz = (N - (k + 1)) * s.sz + s.sz by rw [← Nat.succ_mul]; congr 1; omega, ← List.drop_drop, List.take_append_drop] at this
    exact this
theorem opens_of : ∀ (f : Nat) (t : TypeId) (s : Sh), Sh.of P f t = some s → Opens enc P w base held t s
  | 0, t, s, e => by cases e
  | f + 1, t, s, e => by
    unfold Sh.of at e
    split at e
    · rename_i k hu
      cases e
      intro n cs x hx h μ I
      obtain ⟨v, rfl, _, hw⟩ := DataW.trod_int hu hx
      exact ⟨h, μ, [.int k v], v, I, Mu.le_refl _, Ex.refl _, .cons (.int k v) .nil, rfl, hw⟩
    · rename_i hu
      cases e
      intro n cs x hx h μ I
      obtain ⟨v, rfl, _⟩ := DataW.trod_bool hu hx
      exact ⟨h, μ, [.bool v], v, I, Mu.le_refl _, Ex.refl _, .cons (.bool v) .nil, rfl⟩
    · rename_i hu
      cases e
      intro n cs x hx h μ I
      obtain ⟨v, rfl, _⟩ := DataW.trod_string hu hx
      exact ⟨h, μ, [.string v], v, I, Mu.le_refl _, Ex.refl _, .cons (.string v) .nil, rfl⟩
    · rename_i el hu
      split at e
      · rename_i s1 hs1
        obtain ⟨e1, e⟩ := condS e
        obtain ⟨e2, e⟩ := condS e
        cases e
        exact opens_slice hu (Nat.eq_of_beq_eq_true e1) (Nat.le_of_ble_eq_true e2) (opens_of f _ _ hs1)
      · cases e
    · rename_i fs hu
      intro n cs x hx h μ I
      obtain ⟨xs, m, _, _, hlen, hxl, hf⟩ := DataW.trod_struct hu hx
      obtain ⟨h', μ', acs, p, g⟩ := opens_fields (opens_of f) (n := m) fs.toList 0 _ s e hlen (fun fd hfd => by
        obtain ⟨i, hi⟩ := List.getElem?_of_mem hfd
        have hi2 : fs[i]? = some fd := by rw [← Array.getElem?_toList]; exact hi
        have := hf i fd hi2
        have hil : i < xs.length := by rw [hxl]; exact (Array.getElem?_eq_some_iff.1 hi2).1
        rw [List.getElem?_eq_getElem hil] at this
        exact ⟨_, this⟩) h μ I
      rw [List.drop_zero] at g
      exact ⟨h', μ', acs, p, g⟩
    · rename_i N el hu
      split at e
      · rename_i s1 hs1
        obtain ⟨e1, e⟩ := condS e
        obtain ⟨e2, e⟩ := condS e
        cases e
        have e1 := Nat.eq_of_beq_eq_true e1
        have e2 := Nat.eq_of_beq_eq_true e2
        intro n cs x hx h μ I
        obtain ⟨xs, m, _, _, hlen, hxl, hf⟩ := DataW.trod_array hu hx
        obtain ⟨h', μ', acs, p, g⟩ := opens_rep (opens_of f _ _ hs1) (n := m) (cs := cs) (N := N) (hlen.trans e2) (fun i hi => by
          have := hf i hi
          rw [e1, List.getElem?_eq_getElem (by omega)] at this
          exact ⟨_, this⟩) N (Nat.le_refl _) h μ I
        rw [Nat.sub_self, Nat.zero_mul, List.drop_zero] at g
        exact ⟨h', μ', acs, p, g⟩
      · cases e
    · cases e
def Sh.flat : Sh → Bool
  | .unit | .pair _ _ => false
  | _ => true
/-- A value of a shape. -/
def Sh.V (s : Sh) (h : Heap) (x : s.T) (v : Value) : Prop := cond s.flat (s.K h x [v]) (∃ acs, v = .agg ⟨acs⟩ ∧ s.K h x acs)
def ArgsT : List Sh → Type
  | [] => Unit
  | s :: l => s.T × ArgsT l
def ArgsK : (l : List Sh) → Heap → ArgsT l → List Value → Prop
  | [], _, _, vs => vs = []
  | s :: l, h, x, vs => ∃ v vr, vs = v :: vr ∧ s.V h x.1 v ∧ ArgsK l h x.2 vr
theorem Sh.V_ex {s : Sh} {h h' : Heap} {x : s.T} {v : Value} (e : Ex h h') (k : s.V h x v) : s.V h' x v := by
  unfold Sh.V at k ⊢
  cases hf : s.flat with
  | true => rw [hf] at k; exact s.K_ex e k
  | false =>
    rw [hf] at k
    obtain ⟨acs, h1, h2⟩ := k
    exact ⟨acs, h1, s.K_ex e h2⟩
end
theorem rep_flat (s : Sh) (n : Nat) : (s.rep n).flat = false := by cases n <;> rfl
theorem fields_flat {g : TypeId → Option Sh} {P : Program} : ∀ {l : List Field} {off all : Nat} {s : Sh}, Sh.fields g P l off all = some s → s.flat = false
  | [], off, all, s, e => by
    unfold Sh.fields at e
    obtain ⟨_, e2⟩ := condS e
    cases e2; rfl
  | fd :: l, off, all, s, e => by
    unfold Sh.fields at e
    split at e
    · obtain ⟨e1, e⟩ := condS e
      obtain ⟨e2, e⟩ := condS e
      split at e
      · cases e; rfl
      · cases e
    · cases e
section
open Go.ChangeShapes Go.WideShapes Go.Deep
variable {H : Type} {enc : TypeId × Value → H} {P : Program} {w : World} {base : Nat} {held : Bool} {r : Reach} {b0 : Nat}
theorem VRels.of_cells {μ : Mu} {v : Value} (hc : v.cells = #[v]) {acs : List Value} (hv : VRels μ acs v.cells.toList) : ∃ a, acs = [a] ∧ VRel μ a v := by
  rw [hc] at hv
  cases hv with
  | cons h1 h2 => cases h2; exact ⟨_, rfl, h1⟩
theorem VRels.of_agg {μ : Mu} {cs : Array Value} {acs : List Value} (hv : VRels μ acs (Value.agg cs).cells.toList) : VRel μ (.agg ⟨acs⟩) (.agg cs) := by
  have hv : VRels μ acs cs.toList := hv
  have e : cs = ⟨cs.toList⟩ := by simp
  rw [e]
  exact .agg hv
theorem opens_arg {f : Nat} {t : TypeId} {s : Sh} (e : Sh.of P f t = some s) {v : Value} (hval : Value.okWide P w r b0 t v) {d : DataW H} {ps : List MemPlace} (hd : DataW.Trod enc P w base (fun _ => true) held t v d ps) :
    ∀ h μ, Ini h μ w → ∃ h' μ' av p, Ini h' μ' w ∧ μ.le μ' ∧ Ex h h' ∧ VRel μ' av v ∧ s.V h' p av := by
  intro h μ I
  obtain ⟨fuel, hf⟩ := hd
  obtain ⟨h', μ', acs, p, I', le, ex, hv, k⟩ := opens_of f t s e _ _ _ hf h μ I
  have one : v.cells = #[v] → s.flat = true → ∃ h' μ' av p, Ini h' μ' w ∧ μ.le μ' ∧ Ex h h' ∧ VRel μ' av v ∧ s.V h' p av := by
    intro hc hfl
    obtain ⟨a, rfl, ha⟩ := VRels.of_cells hc hv
    exact ⟨h', μ', a, p, I', le, ex, ha, by unfold Sh.V; rw [hfl]; exact k⟩
  have many : (∃ cs, v = .agg cs) → s.flat = false → ∃ h' μ' av p, Ini h' μ' w ∧ μ.le μ' ∧ Ex h h' ∧ VRel μ' av v ∧ s.V h' p av := by
    rintro ⟨cs, rfl⟩ hfl
    exact ⟨h', μ', .agg ⟨acs⟩, p, I', le, ex, VRels.of_agg hv, by unfold Sh.V; rw [hfl]; exact ⟨acs, rfl, k⟩⟩
  cases f with
  | zero => cases e
  | succ f =>
  unfold Sh.of at e
  split at e
  · rename_i k' hu
    cases e
    obtain ⟨n, rfl⟩ := okWide_int hu hval
    exact one rfl rfl
  · rename_i hu
    cases e
    obtain ⟨n, rfl⟩ := okWide_bool hu hval
    exact one rfl rfl
  · rename_i hu
    cases e
    obtain ⟨n, rfl⟩ := okWide_string hu hval
    exact one rfl rfl
  · rename_i el hu
    split at e
    · rename_i s1 hs1
      obtain ⟨e1, e⟩ := condS e
      obtain ⟨e2, e⟩ := condS e
      cases e
      obtain ⟨a, n, c, rfl⟩ := okWide_slice hu hval
      exact one rfl rfl
    · cases e
  · rename_i fs hu
    refine many ?_ (fields_flat e)
    unfold Value.okWide at hval
    rw [hu] at hval
    obtain ⟨cs, hc, _⟩ := hval
    exact ⟨cs, hc⟩
  · rename_i N el hu
    split at e
    · rename_i s1 hs1
      obtain ⟨e1, e⟩ := condS e
      obtain ⟨e2, e⟩ := condS e
      cases e
      refine many ?_ (rep_flat _ _)
      unfold Value.okWide at hval
      rw [hu] at hval
      obtain ⟨cs, hc, _⟩ := hval
      exact ⟨cs, hc⟩
    · cases e
  · cases e
theorem opens_args {f : Nat} : ∀ (ts : List TypeId) (ss : List Sh) (vs : List Value) (ds : List (DataW H)) (ps : List MemPlace), ts.map (Sh.of P f) = ss.map some → DataW.TrodAll enc P w base (fun _ => true) held ts vs ds ps →
    (∀ (j : Nat) t v, ts[j]? = some t → vs[j]? = some v → Value.okWide P w r b0 t v) → ∀ h μ, Ini h μ w → ∃ h' μ' avs xs, Ini h' μ' w ∧ μ.le μ' ∧ Ex h h' ∧ VRels μ' avs vs ∧ ArgsK ss h' xs avs
  | [], [], vs, ds, ps, _, hA, _, h, μ, I => by
    cases vs with
    | nil => exact ⟨h, μ, [], (), I, Mu.le_refl _, Ex.refl _, .nil, rfl⟩
    | cons v vs => cases ds <;> exact hA.elim
  | [], s :: ss, vs, ds, ps, e, hA, _, h, μ, I => by cases e
  | t :: ts, [], vs, ds, ps, e, hA, _, h, μ, I => by cases e
  | t :: ts, s :: ss, vs, ds, ps, e, hA, hok, h, μ, I => by
    rw [List.map_cons, List.map_cons] at e
    injection e with e1 e2
    cases vs with
    | nil => cases ds <;> exact hA.elim
    | cons v vs =>
      cases ds with
      | nil => exact hA.elim
      | cons d ds =>
        obtain ⟨p, q, h1, h2, _⟩ := hA
        obtain ⟨h', μ', av, x, I1, le1, ex1, v1, k1⟩ := opens_arg e1 (hok 0 t v rfl rfl) h1 h μ I
        obtain ⟨h'', μ'', avs, xs, I2, le2, ex2, v2, k2⟩ := opens_args ts ss vs ds q e2 h2 (fun j t' v' a b => hok (j + 1) t' v' (by simpa using a) (by simpa using b)) h' μ' I1
        exact ⟨h'', μ'', av :: avs, (x, xs), I2, Mu.le_trans le1 le2, ex1.trans ex2, .cons (v1.mono le2) v2, av, avs, rfl, Sh.V_ex ex2 k1, k2⟩
/-- A call that tells true by the calculus, of any arguments of these shapes: so tells the world. -/
theorem RunF.callsA (hm : P.follows .mixedOrders = true) (hn : noRoutine P = true) {f : FuncId} {F : Nat} {ts : List TypeId} {ss : List Sh} {vs : List Value} {ds : List (DataW H)} {ps : List MemPlace}
    (run : ∀ h xs avs, ArgsK ss h xs avs → RunF P f avs h (fun v _ => v = .bool true))
    (hts : ts.map (Sh.of P F) = ss.map some) (hA : DataW.TrodAll enc P w base (fun _ => true) held ts vs ds ps) (hok : ∀ (j : Nat) t v, ts[j]? = some t → vs[j]? = some v → Value.okWide P w r b0 t v) :
    Calls P f ⟨vs⟩ w fun e w' => e = .returned (.bool true) ∧ Below w.heap.size w w' := by
  obtain ⟨h, μ, avs, xs, I, _, _, hv, hk⟩ := opens_args ts ss vs ds ps hts hA hok _ _ (Ini.nil w)
  obtain ⟨v, h', rfl, N, hN⟩ := run h xs avs hk
  have e := hN N (Nat.le_refl _) N (Nat.le_refl _)
  obtain ⟨_, _, h3⟩ := acall_sound hm (noRoutine_iff hn) (sp := fun _ => none) (fun f s args h v h' e => by cases e) N N f avs _ _ h' e
  refine (h3 μ w ⟨vs⟩ I.rel (fun i hi _ => I.fresh i hi) hv).mono ?_
  rintro e w' ⟨v', ν, rfl, h1, h2⟩
  have hvv := closedV_eq (show closedV (.bool true) = true from rfl) h1
  have hown : ∀ b off, ¬ Own h μ (fun i => h'.low ≤ i) b off := by
    rintro b off ⟨i, o, p, _, g, ho, _⟩
    rw [I.old i o g] at ho; cases ho
  exact ⟨by rw [hvv], h2.keep.os, h2.keep.tape, h2.keep.output, h2.keep.size, fun k hk => h2.keep.block k hk (fun off => hown k off)⟩
end
theorem argInt {k : IntKind} {l : List Sh} {h : Heap} {x : ArgsT (.int k :: l)} {vs : List Value} (a : ArgsK (.int k :: l) h x vs) :
    ∃ (n : Int) (r : ArgsT l) (vr : List Value), vs = .int k n :: vr ∧ (Lit.int k n).wf = true ∧ ArgsK l h r vr := by
  obtain ⟨v, vr, rfl, h1, h2⟩ := a
  obtain ⟨h3, h4⟩ : [v] = [.int k x.1] ∧ (Lit.int k x.1).wf = true := h1
  injection h3 with h3
  subst h3
  exact ⟨x.1, x.2, vr, rfl, h4, h2⟩
theorem argNil {h : Heap} {x : ArgsT []} {vs : List Value} (a : ArgsK [] h x vs) : vs = [] := a
theorem modU (x m : Int) (hm : 0 < m) : 0 ≤ (x % 18446744073709551616).tmod m ∧ (x % 18446744073709551616).tmod m < m := by
  have h := Int.emod_nonneg x (show (18446744073709551616 : Int) ≠ 0 by decide)
  rw [Int.tmod_eq_emod_of_nonneg h]
  exact ⟨Int.emod_nonneg _ (by omega), Int.emod_lt_of_pos _ hm⟩
end Go.Am
end
section
set_option linter.unusedVariables false
namespace Go.Am
open Go.RowKit
/- Slices in any memory. -/
theorem Sl.form {h : Heap} {v : Value} {s n : Nat} {cells : List Value} (r : Sl h v s n cells) :
    ∃ A c, v = .slice A n c ∧ Cp s n c ∧ (0 < n → ∃ b o, A = some ⟨b, o, none⟩ ∧ Rd h ⟨b, o, none⟩ cells) := by
  obtain ⟨hl, hm, ⟨rfl, rfl⟩ | ⟨b, o, c, rfl, hc, rd⟩⟩ := r
  · exact ⟨none, 0, rfl, .inr ⟨rfl, Nat.zero_le _⟩, fun g => absurd g (Nat.lt_irrefl 0)⟩
  · exact ⟨_, c, rfl, hc, fun _ => ⟨b, o, rfl, rd⟩⟩
theorem Sl.nil (h : Heap) (s : Nat) : Sl h (.slice none 0 0) s 0 [] := ⟨by simp, Nat.zero_le _, .inl ⟨rfl, rfl⟩⟩
theorem Rd.sl {h : Heap} {b o c s n : Nat} {cells : List Value} (rd : Rd h ⟨b, o, none⟩ cells) (hl : cells.length = n * s) (hm : n ≤ 9223372036854775807) (hc : Cp s n c) : Sl h (.slice (some ⟨b, o, none⟩) n c) s n cells :=
  ⟨hl, hm, .inr ⟨b, o, c, rfl, hc, rd⟩⟩
theorem Row.sl {lo : Nat} {h : Heap} {v : Value} {s n : Nat} {cells : List Value} (r : Row lo h v s n cells) (hm : n ≤ 9223372036854775807) : Sl h v s n cells := by
  obtain ⟨h1, ⟨rfl, rfl⟩ | ⟨b, _, rfl, ow⟩⟩ := r
  · exact ⟨h1, hm, .inl ⟨rfl, rfl⟩⟩
  · exact ⟨h1, hm, .inr ⟨b, 0, _, rfl, Cp.unkc _ _, ow.all⟩⟩
/-- A slice of one's own, from a block's front to its end. -/
def Osl (lo : Nat) (h : Heap) (v : Value) (s n : Nat) (cells : List Value) : Prop :=
  cells.length = n * s ∧ n ≤ 9223372036854775807 ∧ ((v = .slice none 0 0 ∧ n = 0) ∨ ∃ b c, lo ≤ b ∧ v = .slice (some ⟨b, 0, none⟩) n c ∧ Cp s n c ∧ Ow h b cells)
theorem Osl.sl {lo : Nat} {h : Heap} {v : Value} {s n : Nat} {cells : List Value} (r : Osl lo h v s n cells) : Sl h v s n cells := by
  obtain ⟨h1, hm, ⟨rfl, rfl⟩ | ⟨b, c, _, rfl, hc, ow⟩⟩ := r
  · exact ⟨h1, hm, .inl ⟨rfl, rfl⟩⟩
  · exact ⟨h1, hm, .inr ⟨b, 0, _, rfl, hc, ow.all⟩⟩
theorem Sl.fr0 {h h' : Heap} {v : Value} {s n : Nat} {cs : List Value} (r : Sl h v s n cs) (f : Fr no h h') : Sl h' v s n cs := r.ex f.ex
theorem Sl.nz {h : Heap} {v : Value} {s n : Nat} {cells : List Value} (r : Sl h v s n cells) (hn : 0 < n) : ∃ b o c, v = .slice (some ⟨b, o, none⟩) n c ∧ Cp s n c ∧ Rd h ⟨b, o, none⟩ cells := by
  obtain ⟨h1, hm, ⟨rfl, rfl⟩ | h2⟩ := r
  · exact absurd hn (Nat.lt_irrefl 0)
  · exact h2
/-- An element of a row. -/
def elm (P : Program) (t : TypeId) (cells : List Value) (off : Nat) : Option Value := apart P t cells off
section
variable {P : Program} {n : Nat} {ops rest : List Oper} {E E1 : Env} {h h1 : Heap} {Q : Env → Heap → Prop}
theorem upd2_le {E : Env} {d d2 : Nat} {p u : Value} (he : E d = none) : Le (upd E d2 u) (upd (upd E d p) d2 u) := by
  intro j w hj
  unfold upd at hj ⊢
  cases h2 : Nat.beq j d2 with
  | true => rw [h2] at hj; exact hj
  | false =>
    rw [h2] at hj
    cases h3 : Nat.beq j d with
    | true => rw [Nat.eq_of_beq_eq_true h3] at hj; rw [show E d = some w from hj] at he; cases he
    | false => exact hj
/-- An element looked at: its address, then a load. -/
theorem RunO.at {d d2 : Tmp} {t ty ty2 e : TypeId} {x i : Operand} {pos pos2 : String} {after after2 : Array Edge} {v : Value} {m s k : Nat} {ik : IntKind} {cells : List Value} {u : Value}
    (hx : gE E x = some v) (hi : gE E i = some (.int ik (k : Int))) (sl : Sl h v s m cells) (hu : P.underlying t = some (.slice e)) (hs : sizeOf P e = some s) (hk : k < m) (hv : apart P e cells (k * s) = some u)
    (hd : Nat.ble (Nat.succ d) n = true) (hd2 : Nat.ble (Nat.succ d2) n = true) (hE : E d = none)
    (r : RunO P n ops rest (upd E d2 u) h Q) : RunO P n ops (⟨some d, .indexAddr t x i, ty, pos, after, none⟩ :: ⟨some d2, .load e (.tmp d), ty2, pos2, after2, none⟩ :: rest) E h Q := by
  obtain ⟨b, o, c, rfl, hc, rd⟩ := sl.nz (by omega)
  refine RunO.index hx hi hu hs hk hd ?_
  refine RunO.load (v := u) (a := ⟨b, o + k * s, none⟩) (by show upd E d _ d = _; unfold upd; rw [Nat.beq_refl]; rfl) (rd.part hv) hd2 ?_
  exact r.le (upd2_le hE)
theorem allCells_take : ∀ (k : Nat) (l : List Value), allCells l = true → allCells (l.take k) = true
  | 0, l, _ => rfl
  | k + 1, [], _ => rfl
  | k + 1, x :: l, ha => by
    unfold allCells at ha
    cases hx : isCell x with
    | false => rw [hx] at ha; cases ha
    | true =>
      rw [hx] at ha
      show cond (isCell x) (allCells (l.take k)) false = true
      rw [hx, cond_true]
      exact allCells_take k l ha
theorem copy_zero {t e : TypeId} {A B : Option Addr} {sn dn sc dc : Nat} (hu : P.underlying t = some (.slice e)) (hs : sizeOf P e = some 1) (hm : Nat.min sn dn = 0) :
    acopy P h t (.slice A dn dc) (.slice B sn sc) = some (goInt 0, h) := by
  simp only [acopy, hu, hs, hm]
theorem copy_some {t e : TypeId} {a b : Addr} {sn dn sc dc k : Nat} {cs : List Value} {h1 : Heap} (hu : P.underlying t = some (.slice e)) (hs : sizeOf P e = some 1) (hm : Nat.min sn dn = k + 1) (e1 : aread h b (Nat.succ k) = some cs) (e2 : astoreL h a cs = some h1) :
    acopy P h t (.slice (some a) dn dc) (.slice (some b) sn sc) = some (goInt ((k + 1 : Nat) : Int), h1) := by
  simp only [acopy, hu, hs, hm, e1, e2]
/-- A row copied over a part of one's own. -/
theorem copy_sl {t e : TypeId} {b o dn dc sn k : Nat} {src : Value} {cs news : List Value} (hu : P.underlying t = some (.slice e)) (hs : sizeOf P e = some 1) (ow : Ow h b cs) (sl : Sl h src 1 sn news) (ha : allCells news = true) (hm : min sn dn = k) (hc : o + k ≤ cs.length) :
    ∃ h', acopy P h t (.slice (some ⟨b, o, none⟩) dn dc) src = some (goInt k, h') ∧ Ow h' b (cs.take o ++ news.take k ++ cs.drop (o + k)) ∧ Fr (· = b) h h' ∧ h'.next = h.next := by
  obtain ⟨A, c, rfl, _, hr⟩ := sl.form
  have hl : news.length = sn * 1 := sl.1
  cases k with
  | zero =>
    refine ⟨h, copy_zero hu hs hm, ?_, Fr.refl _ _, rfl⟩
    rw [List.take_zero, List.append_nil, Nat.add_zero, List.take_append_drop]; exact ow
  | succ k =>
    obtain ⟨b2, o2, rfl, rd⟩ := hr (by omega)
    have e1 : aread h ⟨b2, o2, none⟩ (Nat.succ k) = some (news.take (k + 1)) := rd.read0 (m := k + 1) (by omega)
    have e3 : (news.take (k + 1)).length = k + 1 := by rw [List.length_take]; omega
    have e4 := storeL_ow (off := o) ow (allCells_take (k + 1) news ha) (by omega)
    rw [e3] at e4
    exact ⟨_, copy_some hu hs hm e1 e4, Ow.put _ ow.1, Fr.put _ (.inl rfl), rfl⟩
theorem Sl.src0 {v : Value} {s : Nat} {cells : List Value} (sl : Sl h v s 0 cells) : asrc h s v = some (0, []) := by
  obtain ⟨_, _, ⟨rfl, _⟩ | ⟨b, o, c, rfl, _, _, hb, ob, ho, _⟩⟩ := sl
  · rfl
  · have : aread h ⟨b, o, none⟩ (Nat.mul 0 s) = some [] := by
      have hz : Nat.mul 0 s = 0 := Nat.zero_mul s
      have ho : h.get b = some ob := ho
      rw [hz]
      simp only [aread, ho]
      rw [takeN_eq, if_pos (Nat.zero_le _), List.take_zero]
    simp only [asrc, this]
/-- A row that is appended to nothing, or to a row of one's own that is full. -/
theorem RunO.appendOs {d : Tmp} {t ty e : TypeId} {x y : Operand} {pos : String} {after : Array Edge} {i : TypeInfo} {z : Value} {lo s k m : Nat} {xv yv : Value} {cells news : List Value}
    (hx : gE E x = some xv) (hy : gE E y = some yv) (hd : Nat.ble (Nat.succ d) n = true)
    (hu : P.underlying t = some (.slice e)) (hi : P.info? e = some i) (hz : zeroOf P e = some z) (hlz : lenIs (cellsOf z) i.size = true) (hs : i.size = s) (hs1 : 1 ≤ s) (row : Row lo h xv s k cells) (hlo : lo ≤ h.next)
    (sl : Sl h yv s m news) (ha : allCells news = true) (hb : 2 * (k + m) * i.bytes ≤ 281474976710656) (hb2 : k + m ≤ 9223372036854775807)
    (r : ∀ v' h', Row lo h' v' s (k + m) (cells ++ news) → Fr (At xv) h h' → RunO P n ops rest (upd E d v') h' Q) : RunO P n ops (⟨some d, .call ⟨.builtin .append, #[x, y], #[t, t]⟩, ty, pos, after, none⟩ :: rest) E h Q := by
  by_cases hm : 0 < m
  · obtain ⟨b, o, c, rfl, hc, rd⟩ := sl.nz hm
    exact RunO.append hx hy hd hu hi hz hlz hs hs1 row hlo rd sl.1 hm ha hb hb2 r
  · have hm : m = 0 := by omega
    subst hm
    have hn : news = [] := List.eq_nil_of_length_eq_zero (by rw [sl.1, Nat.zero_mul])
    subst hn
    subst hs
    have key : aappend P h t t xv yv = some (xv, h) := by
      have hsrc : asrc h i.size yv = some (0, []) := sl.src0
      rcases row.2 with ⟨rfl, rfl⟩ | ⟨b, _, rfl, ow⟩
      · simp only [aappend, hu, Nat.beq_refl, cond_true, hi, hz, hlz, Nat.ble_eq_true_of_le hs1, hsrc]
      · simp only [aappend, hu, Nat.beq_refl, cond_true, hi, hz, hlz, Nat.ble_eq_true_of_le hs1, hsrc]
    refine RunO.one rfl (v := xv) (h1 := h) ?_ (by simp only [eput, hd, cond_true]) (r xv h (by rw [Nat.add_zero, List.append_nil]; exact row) (Fr.refl _ _))
    simp only [eop, gs, hx, hy, abuiltin, key]
end
theorem allCells_map {α : Type} {f : α → Value} (hf : ∀ x, isCell (f x) = true) : ∀ l : List α, allCells (l.map f) = true
  | [] => rfl
  | x :: l => by show cond (isCell (f x)) (allCells (l.map f)) false = true; rw [hf, cond_true]; exact allCells_map hf l
/-- Is there one of the first n? -/
def anyI (p : Nat → Bool) (n : Nat) : Bool := (List.range n).any p
theorem anyI_true {p : Nat → Bool} {n i : Nat} (hi : i < n) (hp : p i = true) : anyI p n = true := List.any_eq_true.2 ⟨i, List.mem_range.2 hi, hp⟩
theorem anyI_false {p : Nat → Bool} {n : Nat} (hp : ∀ j, j < n → p j = false) : anyI p n = false := by
  unfold anyI
  rw [List.any_eq_false]
  intro x hx
  rw [hp x (List.mem_range.1 hx)]; exact Bool.false_ne_true
theorem anyI_list {α : Type} {p : Nat → Bool} {q : α → Bool} {l : List α} (h : ∀ j x, l[j]? = some x → p j = q x) : anyI p l.length = l.any q := by
  cases e : l.any q with
  | true =>
    obtain ⟨x, hx, hq⟩ := List.any_eq_true.1 e
    obtain ⟨j, hj⟩ := List.getElem?_of_mem hx
    exact anyI_true (List.getElem?_eq_some_iff.1 hj).1 ((h j x hj).trans hq)
  | false =>
    rw [List.any_eq_false] at e
    refine anyI_false (fun j hj => ?_)
    have hx := List.getElem?_eq_getElem hj
    rw [h j _ hx]
    cases hq : q l[j] with
    | false => rfl
    | true => exact absurd hq (e _ (List.getElem_mem hj))
end Go.Am
end
section
set_option linter.unusedVariables false
set_option maxRecDepth 100000
open Go Go.Am
namespace Go.Proofs.Ytijfghknjkegpaa
open Go.Proofs.Try
end Go.Proofs.Ytijfghknjkegpaa
end
section
namespace Go.Proofs.Ytijfghknjkegpaa.Crc
abbrev W := BitVec 32
def poly : W := 0x82F63B78#32
/-- One bit. -/
def Z (v : W) : W := (v >>> 1) ^^^ (if v.getLsbD 0 then poly else 0#32)
def Zn : Nat → W → W
  | 0, v => v
  | n + 1, v => Zn n (Z v)
/-- One byte. -/
def Bs (r c : W) : W := Zn 8 (r ^^^ c)
def fold (r : W) (l : List W) : W := l.foldl Bs r
/-- A byte as a word. -/
def by8 (n : Nat) : W := BitVec.ofNat 32 n
/-- Four bytes, the least one first, as a word. -/
def le4 (c0 c1 c2 c3 : Nat) : W := by8 c0 ^^^ (by8 c1 <<< 8) ^^^ (by8 c2 <<< 16) ^^^ (by8 c3 <<< 24)
end Go.Proofs.Ytijfghknjkegpaa.Crc
end
section
set_option linter.unusedVariables false
set_option maxRecDepth 100000
open Go Go.Am
namespace Go.Proofs.Ytijfghknjkegpaa.Crc
/-- A word's number. -/
def nt (a : W) : Int := a.toNat
/-- The state behind bytes. -/
def st (l : List Int) (v : W) : W := l.foldl (fun s x => Zn 8 (s ^^^ BitVec.ofInt 32 x)) v
/-- The sum of bytes, gone on from a sum. -/
def sum (a : Int) (l : List Int) : Int := nt (~~~ st l (~~~ BitVec.ofInt 32 a))
end Go.Proofs.Ytijfghknjkegpaa.Crc
namespace Go.Proofs.Ytijfghknjkegpaa
open Go.Proofs.Try Crc
end Go.Proofs.Ytijfghknjkegpaa
end
section
set_option linter.unusedVariables false
set_option maxRecDepth 100000
open Go Go.Am
namespace Go.Proofs.Ytijfghknjkegpaa
open Go.Proofs.Try
/-- le.Zeros: are all of from .. to 0? -/
def zerosN (l : List Int) (k m : Nat) : Bool := ((l.drop k).take (m - k)).all (· == 0)
/-- Do bytes end with the sum of those ahead? -/
def goodB (l : List Int) : Bool := (leGet l (l.length - 4) 4).1 == Crc.sum 0 (l.take (l.length - 4))
end Go.Proofs.Ytijfghknjkegpaa
end
section
set_option linter.unusedVariables false
set_option maxRecDepth 100000
open Go Go.Am
namespace Go.Proofs.Ytijfghknjkegpaa
open Go.Proofs.Try
def ns (l : List Nat) : List Value := l.map (fun n => Value.int .i64 (n : Nat))
def is (l : List Int) : List Value := l.map (Value.int .i64)
theorem is_nth {l : List Int} {i : Nat} (h : i < l.length) : nth (is l) i = some (.int .i64 l[i]) := by
  rw [nth_eq, is, List.getElem?_map, List.getElem?_eq_getElem h]; rfl
/-- Fields side by side from a place on. -/
def layF : Nat → List Nat → List (Nat × Nat)
  | _, [] => []
  | a, s :: t => (a, s) :: layF (a + s) t
def fcs : List (Nat × Nat) → List Value
  | [] => []
  | (a, s) :: t => .int .i64 (a : Nat) :: .int .i64 (s : Nat) :: fcs t
end Go.Proofs.Ytijfghknjkegpaa
end
section
set_option linter.unusedVariables false
set_option maxRecDepth 100000
open Go Go.Am
namespace Go.Proofs.Ytijfghknjkegpaa
open Go.Proofs.Try
def layI (l : List Int) (o : Nat) (x : List Int) : List Int := l.take o ++ x ++ l.drop (o + x.length)
def putF (l : List Int) (ps : List ((Nat × Nat) × Int)) : List Int := ps.foldl (fun l p => layI l p.1.1 (leB p.1.2 p.2)) l
/-- The block of a magic and numbers. -/
def makeB (mb : List Int) (fl : List (Nat × Nat)) (nums : List Int) : List Int :=
  (putF (mb ++ List.replicate 60 0) (fl.zip nums)).take 60 ++ leB 4 (Crc.sum 0 ((putF (mb ++ List.replicate 60 0) (fl.zip nums)).take 60))
end Go.Proofs.Ytijfghknjkegpaa
end
section
set_option linter.unusedVariables false
set_option maxRecDepth 100000
open Go Go.Am
namespace Go.Proofs.Ytijfghknjkegpaa
open Go.Proofs.Try
def endF (fl : List (Nat × Nat)) : Nat := fl.foldl (fun _ f => f.1 + f.2) 4
def okF (l : List Int) (f : Nat × Nat) : Bool := (leGet l f.1 f.2).2 == 0
def numsB (fl : List (Nat × Nat)) (l : List Int) : List Int := fl.map (fun f => (leGet l f.1 f.2).1)
/-- Why bytes are no block; 0: they are one. -/
def readB (mb : List Int) (fl : List (Nat × Nat)) (l : List Int) : Int :=
  if l.length ≠ 64 then 2 else if l.take 4 ≠ mb then 4 else if goodB l = false then 5 else if fl.all (okF l) = false then 1 else if zerosN l (endF fl) 60 = false then 1 else 0
end Go.Proofs.Ytijfghknjkegpaa
end
section
set_option linter.unusedVariables false
namespace Go.Am
open Go.RowKit
/- Regions that draw their order, where nothing old is written: then any order does. -/
def okFp : Fp → Bool
  | .none | .rd _ => true
  | .all q => q
  | .wr _ => false
theorem fpOk_ok {f g : Fp} (hf : okFp f = true) (hg : okFp g = true) : fpOk f g = true := by
  cases f <;> cases g <;> simp_all [okFp, fpOk]
def idxOk (N : Nat) : List (Nat × Nat) → Bool
  | [] => true
  | (i, j) :: l => cond (Nat.blt i N) (cond (Nat.blt j N) (idxOk N l) false) false
theorem blt_lt {i N : Nat} (h : Nat.blt i N = true) : i < N := Nat.le_of_ble_eq_true h
theorem pairsOk_ok {fs : List Fp} (hf : ∀ f ∈ fs, okFp f = true) : ∀ (ps : List (Nat × Nat)), idxOk fs.length ps = true → pairsOk fs ps = true
  | [], _ => rfl
  | (i, j) :: l, h => by
    unfold idxOk at h
    cases hi : Nat.blt i fs.length with
    | false => rw [hi] at h; cases h
    | true =>
      rw [hi, cond_true] at h
      cases hj : Nat.blt j fs.length with
      | false => rw [hj] at h; cases h
      | true =>
        rw [hj, cond_true] at h
        have h1 := List.getElem?_eq_getElem (blt_lt hi)
        have h2 := List.getElem?_eq_getElem (blt_lt hj)
        unfold pairsOk
        simp only [nth_eq, h1, h2]
        rw [fpOk_ok (hf _ (List.getElem_mem _)) (hf _ (List.getElem_mem _)), cond_true]
        exact pairsOk_ok hf l h
theorem RunD.mono {P : Program} {n l0 : Nat} {ops rest : List Oper} {E : Env} {h : Heap} {Q Q' : Env → Heap → List Fp → Prop} (r : RunD P n ops rest l0 E h Q) (w : ∀ E h fs, Q E h fs → Q' E h fs) : RunD P n ops rest l0 E h Q' := by
  intro lw hlw
  obtain ⟨E', h', fs, lw', q, k⟩ := r lw hlw
  exact ⟨E', h', fs, lw', w _ _ _ q, k⟩
def RunQ (P : Program) (n : Nat) (ops rest : List Oper) (E : Env) (h : Heap) (Q : Env → Heap → Prop) : Prop :=
  ∀ l0, l0 ≤ h.next → RunD P n ops rest l0 E h (fun E' h' fs => fs.length = rest.length ∧ (∀ f ∈ fs, okFp f = true) ∧ Fg no h h' ∧ Q E' h')
section
variable {P : Program} {n : Nat} {ops rest : List Oper} {E E1 : Env} {h h1 : Heap} {Q : Env → Heap → Prop}
theorem RunQ.nil (q : Q E h) : RunQ P n ops [] E h Q := fun l0 hl => RunD.nil ⟨rfl, (fun f hf => (by cases hf)), ⟨Nat.le_refl _, fun _ _ _ => rfl⟩, q⟩
theorem RunQ.lo {x : Nat} (r : RunQ P n ops rest E h Q) : RunQ P n ops rest E (h.lo x) Q := by
  intro l0 hl
  have := r l0 hl
  intro lw hlw
  obtain ⟨E', h', fs, lw', ⟨q1, q2, q3, q4⟩, k⟩ := this lw hlw
  exact ⟨E', h', fs, lw', ⟨q1, q2, ⟨q3.next, q3.get⟩, q4⟩, k⟩
theorem RunQ.le (l : Le E1 E) (r : RunQ P n ops rest E1 h Q) : RunQ P n ops rest E h Q := by
  intro l0 hl lw hlw
  obtain ⟨E', h', fs, lw', q, k, N, hN⟩ := r l0 hl lw hlw
  exact ⟨E', h', fs, lw', q, k, N, fun d hd K hK T hs => hN d hd K hK T (hs.le l)⟩
theorem RunQ.oneG {o : Oper} {v : Value} {f : Fp} (g : ewanted ops E o = some true) (e : eop P E o (h.lo h.next) = some (v, h1)) (hf : ∀ q, fpE E o q = some f) (ok : okFp f = true) (hfr : Fr no (h.lo h.next) h1) (p : eput n E o.dst v = some E1)
    (r : RunQ P n ops rest E1 h1 Q) : RunQ P n ops (o :: rest) E h Q := by
  intro l0 hl
  refine RunD.oneG g e hf (hfr.from hl (fun _ g => g.elim)) p ?_
  refine (r l0 (Nat.le_trans hl hfr.next)).mono ?_
  rintro E' h' fs ⟨q1, q2, q3, q4⟩
  refine ⟨by rw [List.length_cons, List.length_cons, q1], fun f' hf' => ?_, hfr.fg.quiet q3, q4⟩
  rcases List.mem_cons.1 hf' with rfl | hf'
  · exact ok
  · exact q2 f' hf'
theorem RunQ.offG {o : Oper} (g : ewanted ops E o = some false) (p : eput n E o.dst undef = some E1) (r : RunQ P n ops rest E1 h Q) : RunQ P n ops (o :: rest) E h Q := by
  intro l0 hl
  refine RunD.offG g p ((r l0 hl).mono ?_)
  rintro E' h' fs ⟨q1, q2, q3, q4⟩
  refine ⟨by rw [List.length_cons, List.length_cons, q1], fun f' hf' => ?_, q3, q4⟩
  rcases List.mem_cons.1 hf' with rfl | hf'
  · rfl
  · exact q2 f' hf'
/-- Operations that look at no memory. -/
def epur (P : Program) (E : Env) (o : Oper) : Option Value :=
  match o.op with
  | .move x | .assign x => gE E x
  | .pick c a b => (match gE E c with
    | some (.bool t) => gE E (cond t a b)
    | _ => none)
  | .build t ps => (match gps (gE E) ps.toList with
    | some l => abuild P t l
    | none => none)
  | .binOp op t x y _ => (match gE E x, gE E y with
    | some a, some b => abinop P op t a b
    | _, _ => none)
  | .unOp op _ x => (match gE E x with
    | some a => aunop op a
    | none => none)
  | .convert s d x => (match gE E x with
    | some (.int k a) => aconvert P s d (.int k a)
    | _ => none)
  | .makeFunc (.func f) first captured => (match gs (gE E) first.toList, gs (gE E) captured.toList with
    | some a, some b => some (.func (.func f) ⟨a⟩ ⟨b⟩)
    | _, _ => none)
  | .slice t x lo hi mx => (match gE E x, go (gE E) lo, go (gE E) hi, go (gE E) mx with
    | some v, some a, some b, some c => aslice P t v a b c
    | _, _, _, _ => none)
  | .fieldAddr t x f => (match gE E x with
    | some a => afieldAddr P t a f
    | none => none)
  | .field t x f => (match gE E x with
    | some a => afield P t a f
    | none => none)
  | .indexAddr t x i => (match gE E x, gE E i with
    | some a, some b => aindexAddr P t a b
    | _, _ => none)
  | .index t x i => (match gE E x, gE E i with
    | some a, some b => aindex P t a b
    | _, _ => none)
  | .extract x i => (match gE E x with
    | some (.tuple vs) => nth vs.toList i
    | _ => none)
  | .nilCheck x => (match gE E x with
    | some (.pointer (some a)) => some (.pointer (some a))
    | _ => none)
  | .call c => (match c.callee with
    | .builtin .len => (match gs (gE E) c.args.toList, c.argTypes.toList with
      | some [x], t :: _ => alen P t x
      | _, _ => none)
    | _ => none)
  | _ => none
theorem pureR_of {h : Heap} {x : Option Value} {v : Value} (e : x = some v) : pureR h x = some (v, h) := by rw [e]; rfl
theorem epur_eop {o : Oper} {v : Value} (e : epur P E o = some v) (h : Heap) : eop P E o h = some (v, h) ∧ ∀ q, fpE E o q = some .none := by
  obtain ⟨dst, op, type, pos, after, guard⟩ := o
  by_cases hmf : ∃ fn a b, op = .makeFunc fn a b
  · obtain ⟨fn, x, y, rfl⟩ := hmf
    cases fn <;> simp only [epur] at e <;> first | (cases e; done) | skip
    refine ⟨?_, fun _ => rfl⟩
    simp only [eop]
    split at e
    · rename_i h1 h2; cases e; simp only [h1, h2]
    · cases e
  cases op
  case makeFunc fn a b => exact absurd ⟨fn, a, b, rfl⟩ hmf
  case call c =>
    obtain ⟨callee, args, ats⟩ := c
    cases callee with
    | value g => cases e
    | invoke r m => cases e
    | builtin b =>
      cases b
      case len =>
        refine ⟨?_, fun _ => rfl⟩
        simp only [epur] at e
        simp only [eop]
        split at e
        · rename_i x t tl h1 h2
          simp only [h1]
          unfold abuiltin
          simp only [h2, e]
        · cases e
      all_goals cases e
  case convert s d x =>
    simp only [epur] at e
    simp only [eop, fpE]
    split at e
    · rename_i k a h1
      simp only [h1, e]
      exact ⟨trivial, fun _ => trivial⟩
    · cases e
  all_goals simp only [epur] at e
  all_goals first | (cases e; done) | skip
  all_goals refine ⟨?_, fun _ => rfl⟩
  all_goals simp only [eop]
  case move x => exact pureR_of e
  case assign x => exact pureR_of e
  case pick c a b =>
    split at e
    · rename_i h1; simp only [h1]; exact pureR_of e
    · cases e
  case extract x i =>
    split at e
    · rename_i h1; simp only [h1]; exact pureR_of e
    · cases e
  case nilCheck x =>
    split at e
    · rename_i h1; cases e; simp only [h1]; try rfl
    · cases e
  case slice t x lo hi mx =>
    split at e
    · rename_i h1 h2 h3 h4; simp only [h1, h2, h3, h4]; exact pureR_of e
    · cases e
  all_goals
    split at e
    · first
        | (rename_i h1 h2; simp only [h1, h2]; exact pureR_of e)
        | (rename_i h1; simp only [h1]; exact pureR_of e)
    · cases e
def epst (P : Program) (n : Nat) (ops : List Oper) (E : Env) (o : Oper) : Option Env :=
  match ewanted ops E o with
  | none => none
  | some false => eput n E o.dst undef
  | some true => (match epur P E o with
    | some v => eput n E o.dst v
    | none => none)
def epures (P : Program) (n : Nat) (ops : List Oper) : List Oper → Env → Option Env
  | [], E => some E
  | o :: l, E => match epst P n ops E o with
    | some E' => epures P n ops l E'
    | none => none
theorem RunQ.pures : ∀ (l : List Oper) {E : Env}, epures P n ops l E = some E1 → RunQ P n ops rest E1 h Q → RunQ P n ops (l ++ rest) E h Q
  | [], E, e, r => by cases e; exact r
  | o :: l, E, e, r => by
    unfold epures at e
    split at e
    · rename_i E' hst
      have r2 := RunQ.pures l e r
      unfold epst at hst
      split at hst
      · cases hst
      · rename_i hw
        exact RunQ.offG hw hst r2
      · rename_i hw
        split at hst
        · rename_i v hv
          obtain ⟨h1, h2⟩ := epur_eop hv (h.lo h.next)
          exact RunQ.oneG hw h1 h2 rfl (Fr.refl _ _) hst r2.lo
        · cases hst
    · cases e
theorem RunQ.part (k : Nat) (e : epures P n ops (rest.take k) E = some E1) (r : RunQ P n ops (rest.drop k) E1 h Q) : RunQ P n ops rest E h Q := by
  have := RunQ.pures (rest.take k) e r
  rwa [List.take_append_drop] at this
theorem RunQ.all (e : epures P n ops rest E = some E1) (q : Q E1 h) : RunQ P n ops rest E h Q := by
  have := RunQ.pures (rest := []) rest e (RunQ.nil q)
  rwa [List.append_nil] at this
theorem RunQ.load {d : Tmp} {t ty : TypeId} {x : Operand} {pos : String} {after : Array Edge} {gd : Option (Nat × Bool)} {a : Addr} {v : Value}
    (hw : ewanted ops E ⟨some d, .load t x, ty, pos, after, gd⟩ = some true) (hx : gE E x = some (.pointer (some a))) (hl : aload P h t a = some v) (hd : Nat.ble (Nat.succ d) n = true)
    (r : RunQ P n ops rest (upd E d v) h Q) : RunQ P n ops (⟨some d, .load t x, ty, pos, after, gd⟩ :: rest) E h Q := by
  refine RunQ.oneG (v := v) (f := .rd a.block) (h1 := h.lo h.next) (E1 := upd E d v) hw ?_ ?_ rfl (Fr.refl _ _) (by simp only [eput, hd, cond_true]) r.lo
  · have hl : aload P (h.lo h.next) t a = some v := hl
    simp only [eop, hx, hl, pureR]
  · intro q; simp only [fpE, hx]
theorem RunQ.index {d : Tmp} {t ty : TypeId} {x i : Operand} {pos : String} {after : Array Edge} {gd : Option (Nat × Bool)} {b o len c s k : Nat} {ik : IntKind} {e : TypeId}
    (hw : ewanted ops E ⟨some d, .indexAddr t x i, ty, pos, after, gd⟩ = some true) (hx : gE E x = some (.slice (some ⟨b, o, none⟩) len c)) (hi : gE E i = some (.int ik (k : Int))) (hu : P.underlying t = some (.slice e)) (hs : sizeOf P e = some s) (hk : k < len) (hd : Nat.ble (Nat.succ d) n = true)
    (r : RunQ P n ops rest (upd E d (.pointer (some ⟨b, o + k * s, none⟩))) h Q) : RunQ P n ops (⟨some d, .indexAddr t x i, ty, pos, after, gd⟩ :: rest) E h Q := by
  refine RunQ.oneG (v := .pointer (some ⟨b, o + k * s, none⟩)) (f := .none) (h1 := h.lo h.next) hw ?_ (fun _ => rfl) rfl (Fr.refl _ _) (by simp only [eput, hd, cond_true]) r.lo
  have hi : gE E i = some (.int ik (.ofNat k)) := hi
  simp only [eop, hx, hi, aindexAddr, hu, hs, Nat.ble_eq_true_of_le (show Nat.succ k ≤ len from hk), cond_true]
  rfl
theorem RunQ.call {d : Tmp} {f : Operand} {args : Array Operand} {ats : Array TypeId} {t : TypeId} {pos : String} {after : Array Edge} {gd : Option (Nat × Bool)} {g : FuncId} {vs : List Value} {R : Value → Heap → Prop}
    (hw : ewanted ops E ⟨some d, .call ⟨.value f, args, ats⟩, t, pos, after, gd⟩ = some true) (r : RunF P g vs (h.lo h.next) R) (hq : ∀ v h1, R v h1 → Fr no (h.lo h.next) h1) (hf : gE E f = some (.func (.func g) #[] #[])) (hv : gs (gE E) args.toList = some vs) (hd : Nat.ble (Nat.succ d) n = true)
    (k : ∀ v h1, R v h1 → RunQ P n ops rest (upd E d v) h1 Q) : RunQ P n ops (⟨some d, .call ⟨.value f, args, ats⟩, t, pos, after, gd⟩ :: rest) E h Q := by
  intro l0 hl
  refine RunD.callG hw r hf hv (fun v h1 q => ⟨(hq v h1 q).from hl (fun _ g => g.elim), upd E d v, by simp only [eput, hd, cond_true], ?_⟩)
  refine (k v h1 q l0 (Nat.le_trans hl (hq v h1 q).next)).mono ?_
  rintro E' h' fs ⟨q1, q2, q3, q4⟩
  have hbq : okFp (.all (Nat.ble h.next h1.low)) = true := (hq v h1 q).quietB
  refine ⟨by rw [List.length_cons, List.length_cons, q1], fun f' hf' => ?_, (hq v h1 q).fg.quiet q3, q4⟩
  rcases List.mem_cons.1 hf' with rfl | hf'
  · exact hbq
  · exact q2 f' hf'
def drawQOk (ops : Array Oper) : Bool := match drawOk ops with
  | some (p :: ps) => idxOk ops.toList.length (p :: ps)
  | _ => false
end
end Go.Am
end
section
set_option linter.unusedVariables false
namespace Go.Am
open Go.RowKit
theorem reps_one (z : Value) : ∀ n, reps [z] n = List.replicate n z
  | 0 => rfl
  | n + 1 => by show z :: reps [z] n = _; rw [reps_one z n]; rfl
section
variable {P : Program} {n : Nat} {ops rest : List Oper} {E E1 : Env} {h h1 : Heap} {Q : Env → Heap → Prop}
/-- A row made. -/
theorem make_sl {t e : TypeId} {i : TypeInfo} {z : Value} {m : Nat} {k k' : IntKind} (hu : P.underlying t = some (.slice e)) (hi : P.info? e = some i) (hz : zeroOf P e = some z) (hl : lenIs (cellsOf z) i.size = true) (hb : i.bytes * m ≤ 281474976710656) (hm : m ≤ 9223372036854775807) :
    amakeSlice P h t (.int k (m : Int)) (.int k' (m : Int)) = some (.slice (some ⟨h.next, 0, none⟩) m (exc m), h.push ⟨reps (cellsOf z) m, true⟩) := by
  show (match P.underlying t, Value.int k (.ofNat m), Value.int k' (.ofNat m) with
    | some (.slice e), .int _ (.ofNat n), .int _ (.ofNat m) => _
    | _, _, _ => none) = _
  have e1 : Nat.ble m m = true := Nat.ble_eq_true_of_le (Nat.le_refl _)
  have e2 : Nat.ble (Nat.mul i.bytes m) 281474976710656 = true := Nat.ble_eq_true_of_le hb
  have e3 : Nat.ble m 9223372036854775807 = true := Nat.ble_eq_true_of_le hm
  simp only [hu, hi, hz, hl, cond_true, e1, e2, e3]
theorem RunO.make {d : Tmp} {t ty e : TypeId} {x y : Operand} {pos : String} {after : Array Edge} {i : TypeInfo} {z : Value} {m : Nat} {k k' : IntKind} (hx : gE E x = some (.int k (m : Int))) (hy : gE E y = some (.int k' (m : Int)))
    (hu : P.underlying t = some (.slice e)) (hi : P.info? e = some i) (hz : zeroOf P e = some z) (hl : lenIs (cellsOf z) i.size = true) (hb : i.bytes * m ≤ 281474976710656) (hm : m ≤ 9223372036854775807) (hd : Nat.ble (Nat.succ d) n = true)
    (r : RunO P n ops rest (upd E d (.slice (some ⟨h.next, 0, none⟩) m (exc m))) (h.push ⟨reps (cellsOf z) m, true⟩) Q) : RunO P n ops (⟨some d, .makeSlice t x y, ty, pos, after, none⟩ :: rest) E h Q := by
  refine RunO.one (v := .slice (some ⟨h.next, 0, none⟩) m (exc m)) rfl ?_ (by simp only [eput, hd, cond_true]) r
  simp only [eop, hx, hy]
  exact make_sl hu hi hz hl hb hm
end
end Go.Am
end
section
set_option linter.unusedVariables false
set_option maxRecDepth 100000
open Go Go.Am Go.RowKit
namespace Go.Proofs.Ytijfghknjkegpaa
open Go.Proofs.Try
def inB (a lo hi : Int) : Bool := decide (a ≥ lo) && decide (a ≤ hi)
end Go.Proofs.Ytijfghknjkegpaa
end
section
set_option linter.unusedVariables false
set_option maxRecDepth 100000
open Go Go.Am Go.RowKit
namespace Go.Proofs.Ytijfghknjkegpaa
open Go.Proofs.Try
def ptrB (n : Int) : Bool := n == 0 || (decide (n ≥ 2) && decide (n < 4096))
end Go.Proofs.Ytijfghknjkegpaa
end
section
set_option linter.unusedVariables false
set_option maxRecDepth 100000
open Go Go.Am
namespace Go.Proofs.Ytijfghknjkegpaa
open Go.Proofs.Try
/-- A superblock's cells. -/
def sc (g bl rt sz fi : Int) : List Value := [.int .i64 g, .int .i64 bl, .int .i64 rt, .int .i64 sz, .int .i64 fi]
def superOk (g bl rt sz fi : Int) : Bool :=
  ((inB g 1 1099511627776 && inB bl 4 4096) && inB sz 0 512) && ((rt == 0 || inB rt 2 (fwrap .i64 (bl - 1))) && (fi == 0 || inB fi 2 (fwrap .i64 (bl - 1))))
/-- A superblock's block. -/
def superBlock (g bl rt sz fi : Int) : List Int := makeB [87, 67, 85, 84] (layF 4 [8, 4, 4, 4, 4]) [g, bl, rt, sz, fi]
end Go.Proofs.Ytijfghknjkegpaa
end
section
set_option linter.unusedVariables false
set_option maxRecDepth 100000
open Go Go.Am
namespace Go.Proofs.Ytijfghknjkegpaa
open Go.Proofs.Try
def sLay : List (Nat × Nat) := layF 4 [8, 4, 4, 4, 4]
def sMag : List Int := [87, 67, 85, 84]
def sGet (l : List Int) (k s : Nat) : Int := (leGet l k s).1
/-- Why bytes are no superblock; 0: they are one. -/
def sCode (l : List Int) : Int :=
  if readB sMag sLay l = 0 then (if superOk (sGet l 4 8) (sGet l 12 4) (sGet l 16 4) (sGet l 20 4) (sGet l 24 4) then 0 else 1) else readB sMag sLay l
/-- The superblock that bytes tell, as cells. -/
def sCells (l : List Int) : List Value :=
  if sCode l = 0 then sc (sGet l 4 8) (sGet l 12 4) (sGet l 16 4) (sGet l 20 4) (sGet l 24 4) else sc 0 0 0 0 0
end Go.Proofs.Ytijfghknjkegpaa
end
section
set_option linter.unusedVariables false
set_option maxRecDepth 100000
open Go Go.Am Go.RowKit
namespace Go.Proofs.Ytijfghknjkegpaa
open Go.Proofs.Try
/-- Is a device one? -/
def devOk (n : Nat) : Bool := n % 64 == 0 && (decide (4 ≤ n / 64) && decide (n / 64 ≤ 4096))
theorem devCheck_ok {h : Heap} {A : Option Addr} {c len : Nat} (hm : len ≤ 4611686018427387904) :
    RunF prog 25 [.slice A len c] h fun v h' => v = .tuple #[.int .i64 (if devOk len then (len / 64 : Nat) else (0 : Nat)), .int .i64 (if devOk len then 0 else 2)] ∧ h = h' := by
  refine RunF.walk func25 rfl rfl ?_
  refine RunC.seq (RunC.region (RunO.all rfl ?_))
  refine RunC.seq (RunC.region (RunO.all rfl ?_))
  have e1 : (len : Int).tdiv 64 = ((len / 64 : Nat) : Int) := by rw [Int.tdiv_eq_ediv_of_nonneg (by omega)]; omega
  have e2 : (len : Int).tmod 64 = ((len % 64 : Nat) : Int) := by rw [Int.tmod_eq_emod_of_nonneg (by omega)]; omega
  rw [e1, fw64 (by omega) (by omega)]
  refine RunC.seq (RunC.seq (RunC.region (RunO.part 3 rfl ?_)))
  rw [e2]
  unfold devOk
  by_cases c1 : len % 64 = 0
  · refine RunO.part 2 rfl ?_
    rw [show (((len % 64 : Nat) : Int) != 0) = false by rw [c1]; rfl]
    by_cases c2 : 4 ≤ len / 64
    · refine RunO.part 4 rfl ?_
      rw [show decide (((len / 64 : Nat) : Int) < 4) = false from decide_eq_false (by omega)]
      refine RunO.all rfl ?_
      by_cases c3 : len / 64 ≤ 4096
      · rw [show decide (((len / 64 : Nat) : Int) > 4096) = false from decide_eq_false (by omega)]
        refine RunC.cond rfl (fun g => by cases g) (fun _ => RunC.skip ?_)
        rw [show (len % 64 == 0 && (decide (4 ≤ len / 64) && decide (len / 64 ≤ 4096))) = true by simp [c1, c2, c3]]
        exact RunC.seq (RunC.region (RunO.all rfl (RunC.ret ⟨_, rfl, rfl, rfl⟩)))
      · rw [show decide (((len / 64 : Nat) : Int) > 4096) = true from decide_eq_true (by omega)]
        refine RunC.cond rfl (fun _ => ?_) (fun g => by cases g)
        rw [show (len % 64 == 0 && (decide (4 ≤ len / 64) && decide (len / 64 ≤ 4096))) = false by simp [c3]]
        exact RunC.seq (RunC.region (RunO.all rfl (RunC.ret ⟨_, rfl, rfl, rfl⟩)))
    · refine RunO.part 4 rfl ?_
      rw [show decide (((len / 64 : Nat) : Int) < 4) = true from decide_eq_true (by omega)]
      refine RunO.all rfl ?_
      refine RunC.cond rfl (fun _ => ?_) (fun g => by cases g)
      rw [show (len % 64 == 0 && (decide (4 ≤ len / 64) && decide (len / 64 ≤ 4096))) = false by simp [c2]]
      exact RunC.seq (RunC.region (RunO.all rfl (RunC.ret ⟨_, rfl, rfl, rfl⟩)))
  · refine RunO.part 2 rfl ?_
    rw [show (((len % 64 : Nat) : Int) != 0) = true by simp; omega]
    refine RunO.all rfl ?_
    refine RunC.cond rfl (fun _ => ?_) (fun g => by cases g)
    rw [show (len % 64 == 0 && (decide (4 ≤ len / 64) && decide (len / 64 ≤ 4096))) = false by simp [c1]]
    exact RunC.seq (RunC.region (RunO.all rfl (RunC.ret ⟨_, rfl, rfl, rfl⟩)))
/-- A block of a device. -/
def blkI (l : List Int) (i : Nat) : List Int := (l.drop (i * 64)).take 64
theorem blkI_len {l : List Int} {i : Nat} (h : (i + 1) * 64 ≤ l.length) : (blkI l i).length = 64 := by unfold blkI; rw [List.length_take, List.length_drop]; omega
theorem rdBlk {h : Heap} {b o : Nat} {l : List Int} {i : Nat} (rd : Rd h ⟨b, o, none⟩ (us l)) (hi : (i + 1) * 64 ≤ l.length) : Rd h ⟨b, o + i * 64, none⟩ (us (blkI l i)) := by
  obtain ⟨h1, h2, ob, ho, he⟩ := rd
  refine ⟨rfl, h2, ob, ho, ?_⟩
  have hl := congrArg List.length he
  rw [List.length_take, List.length_drop, us_len] at hl
  simp only at hl he ⊢
  have e : us (blkI l i) = ((us l).drop (i * 64)).take 64 := by unfold blkI us; rw [List.map_take, List.map_drop]
  rw [us_len, blkI_len hi, e]
  apply List.ext_getElem?
  intro j
  rw [List.getElem?_take, List.getElem?_take]
  split
  · rename_i hj
    rw [List.getElem?_drop, List.getElem?_drop]
    conv => rhs; rw [← he]
    rw [us_len, List.getElem?_take, if_pos (by omega), List.getElem?_drop]
    congr 1; omega
  · rfl
theorem devOf_ok {h : Heap} {b o c i : Nat} {l : List Int} (hi : (i + 1) * 64 ≤ l.length) (hm : l.length ≤ 4611686018427387904) (hc : Cp 1 l.length c) :
    RunF prog 42 [.slice (some ⟨b, o, none⟩) l.length c, .int .i64 i] h fun v h' => (∃ c', Cp 1 64 c' ∧ v = .slice (some ⟨b, o + i * 64, none⟩) 64 c') ∧ h = h' := by
  refine RunF.walk func42 rfl rfl ?_
  refine RunC.seq (RunC.region (RunO.all rfl ?_))
  refine RunC.seq (RunC.region (RunO.part 6 rfl ?_))
  rw [fw64 (x := (i : Int) + 1) (by omega) (by omega), fw64 (x := (i : Int) * 64) (by omega) (by omega), fw64 (x := ((i : Int) + 1) * 64) (by omega) (by omega), show (i : Int) * 64 = ((i * 64 : Nat) : Int) by omega, show ((i : Int) + 1) * 64 = (((i + 1) * 64 : Nat) : Int) by omega]
  refine RunO.sliceMid (s := 1) rfl rfl rfl rfl rfl hc (by omega) hi rfl ?_
  intro c' hc'
  have e : (i + 1) * 64 - i * 64 = 64 := by omega
  rw [e] at hc' ⊢
  refine RunO.all rfl (RunC.ret ⟨_, rfl, ⟨c', hc', ?_⟩, rfl⟩)
  rw [Nat.mul_one]
end Go.Proofs.Ytijfghknjkegpaa
end
section
set_option linter.unusedVariables false
set_option maxRecDepth 100000
open Go Go.Am
namespace Go.Proofs.Ytijfghknjkegpaa
open Go.Proofs.Try
abbrev S5 := Int × Int × Int × Int × Int
def sc5 (s : S5) : List Value := sc s.1 s.2.1 s.2.2.1 s.2.2.2.1 s.2.2.2.2
def sVal (l : List Int) : S5 := if sCode l = 0 then (sGet l 4 8, sGet l 12 4, sGet l 16 4, sGet l 20 4, sGet l 24 4) else (0, 0, 0, 0, 0)
/-- A slot looked at. -/
def pickStep (l : List Int) (st : S5 × Int × Bool) (i : Nat) : S5 × Int × Bool :=
  if (sCode (blkI l i) == 0 && ((sVal (blkI l i)).2.1 == ((l.length / 64 : Nat) : Int) && (!st.2.2 || decide ((sVal (blkI l i)).1 > st.1.1)))) = true then (sVal (blkI l i), (i : Int), true) else st
def pickS (l : List Int) : S5 × Int × Bool := (List.range 2).foldl (pickStep l) ((0, 0, 0, 0, 0), 0, false)
/-- Which superblock stands, in which slot; why none does. -/
def pickCode (l : List Int) : Int := if devOk l.length then (if (pickS l).2.2 then 0 else 8) else 2
end Go.Proofs.Ytijfghknjkegpaa
end
section
set_option linter.unusedVariables false
namespace Go.Proofs.Ytijfghknjkegpaa
open Go Go.Am
/- Blocks of numbers: what is made is read. Nothing here names the program. -/
theorem byt_rep (n : Nat) : Byt (List.replicate n 0) := fun x hx => by rw [List.eq_of_mem_replicate hx]; omega
def catB : List Nat → List Int → List Int
  | s :: ss, n :: ns => leB s n ++ catB ss ns
  | _, _ => []
/-- Numbers that fit. -/
def Fits : List Nat → List Int → Prop
  | s :: ss, n :: ns => (0 ≤ n ∧ n < 256 ^ s ∧ n ≤ 4611686018427387903) ∧ Fits ss ns
  | [], [] => True
  | _, _ => False
end Go.Proofs.Ytijfghknjkegpaa
end
section
set_option linter.unusedVariables false
set_option maxRecDepth 100000
open Go Go.Am
namespace Go.Proofs.Ytijfghknjkegpaa
open Go.Proofs.Try
end Go.Proofs.Ytijfghknjkegpaa
end
section
set_option linter.unusedVariables false
set_option maxRecDepth 100000
open Go Go.Am
namespace Go.Proofs.Ytijfghknjkegpaa
open Go.Proofs.Try
end Go.Proofs.Ytijfghknjkegpaa
end
section
set_option linter.unusedVariables false
set_option maxRecDepth 100000
open Go Go.Am
namespace Go.Proofs.Ytijfghknjkegpaa
open Go.Proofs.Try
def idB (n : Int) : Bool := !(decide (n < 1)) && !(decide (n > 4611686018427387903))
def parB (id pa : Int) : Bool := idB id && ((pa != id) && (pa == 0 || idB pa))
/-- A record's cells. -/
def rc (n id pa ro sz ki fr di : Int) : List Value := [.int .i64 n, .int .i64 id, .int .i64 pa, .int .i64 ro, .int .i64 sz, .int .i64 ki, .int .i64 fr, .int .i64 di]
def recIs (n id pa ro sz : Int) : Bool := (((ptrB n && ptrB ro) && parB id pa) && inB sz 0 512)
def recOk (n id pa ro sz ki fr di : Int) : Bool :=
  if ki = 0 then ((recIs n id pa ro sz && fr == 0) && di == 0) else if ki = 1 then ((recIs n id pa ro sz && inB fr 1 65535) && inB di 0 4294967295) else false
end Go.Proofs.Ytijfghknjkegpaa
end
section
set_option linter.unusedVariables false
set_option maxRecDepth 100000
open Go Go.Am
namespace Go.Proofs.Ytijfghknjkegpaa
open Go.Proofs.Try
def rSiz : List Nat := [4, 8, 8, 4, 4, 4, 4, 4]
def rLay : List (Nat × Nat) := layF 4 rSiz
def rMag : List Int := [83, 78, 65, 80]
/-- A record's block. -/
def recBlock (n id pa ro sz ki fr di : Int) : List Int := makeB rMag rLay [n, id, pa, ro, sz, ki, fr, di]
/-- The numbers of a record's block. -/
def rNum (l : List Int) (i : Nat) : Int := (numsB rLay l).getD i 0
def rOkL (l : List Int) : Bool := recOk (rNum l 0) (rNum l 1) (rNum l 2) (rNum l 3) (rNum l 4) (rNum l 5) (rNum l 6) (rNum l 7)
def rCode (l : List Int) : Int := if readB rMag rLay l = 0 then (if rOkL l then 0 else 1) else readB rMag rLay l
def rCells (l : List Int) : List Value := if rCode l = 0 then rc (rNum l 0) (rNum l 1) (rNum l 2) (rNum l 3) (rNum l 4) (rNum l 5) (rNum l 6) (rNum l 7) else rc 0 0 0 0 0 0 0 0
end Go.Proofs.Ytijfghknjkegpaa
end
section
set_option linter.unusedVariables false
set_option maxRecDepth 100000
open Go Go.Am
namespace Go.Proofs.Ytijfghknjkegpaa
open Go.Proofs.Try
end Go.Proofs.Ytijfghknjkegpaa
end
section
set_option linter.unusedVariables false
namespace Go.Am
open Go.RowKit
section
variable {P : Program} {n : Nat} {ops rest : List Oper} {E E1 : Env} {h h1 : Heap} {Q : Env → Heap → Prop}
theorem RunO.step {o : Oper} (e : estep P n ops E h o = some (E1, h1)) (r : RunO P n ops rest E1 h1 Q) : RunO P n ops (o :: rest) E h Q := by
  refine RunO.part (E1 := E1) (h1 := h1) 1 ?_ r
  show eops P n ops [o] E h = _
  simp only [eops, e]
/-- An element looked at under a guard. -/
theorem RunO.atG {d d2 : Tmp} {t ty ty2 e : TypeId} {x i : Operand} {pos pos2 : String} {after after2 : Array Edge} {gd gd2 : Option (Nat × Bool)} {v : Value} {m s k : Nat} {ik : IntKind} {cells : List Value} {u : Value}
    (hw : ewanted ops E ⟨some d, .indexAddr t x i, ty, pos, after, gd⟩ = some true) (hw2 : ∀ p, ewanted ops (upd E d (.pointer p)) ⟨some d2, .load e (.tmp d), ty2, pos2, after2, gd2⟩ = some true)
    (hx : gE E x = some v) (hi : gE E i = some (.int ik (k : Int))) (sl : Sl h v s m cells) (hu : P.underlying t = some (.slice e)) (hs : sizeOf P e = some s) (hk : k < m) (hv : apart P e cells (k * s) = some u)
    (hd : Nat.ble (Nat.succ d) n = true) (hd2 : Nat.ble (Nat.succ d2) n = true) (hE : E d = none)
    (r : RunO P n ops rest (upd E d2 u) h Q) : RunO P n ops (⟨some d, .indexAddr t x i, ty, pos, after, gd⟩ :: ⟨some d2, .load e (.tmp d), ty2, pos2, after2, gd2⟩ :: rest) E h Q := by
  obtain ⟨b, o, c, rfl, hc, rd⟩ := sl.nz (by omega)
  have hi' : gE E i = some (.int ik (.ofNat k)) := hi
  refine RunO.oneG (h1 := h) (v := .pointer (some ⟨b, o + k * s, none⟩)) (E1 := upd E d (.pointer (some ⟨b, o + k * s, none⟩))) hw ?_ (by simp only [eput, hd, cond_true]) ?_
  · simp only [eop, hx, hi', aindexAddr, hu, hs, Nat.ble_eq_true_of_le (show Nat.succ k ≤ m from hk), cond_true]
    rfl
  refine RunO.loadG (v := u) (a := ⟨b, o + k * s, none⟩) (hw2 _) (by show upd E d _ d = _; unfold upd; rw [Nat.beq_refl]; rfl) (rd.part hv) hd2 ?_
  exact r.le (upd2_le hE)
theorem Ow.ld {b off : Nat} {cs : List Value} {t : TypeId} {v : Value} (r : Ow h b cs) (e : apart P t cs off = some v) : aload P h t ⟨b, off, none⟩ = some v := by
  have := r.all.part (k := off) e
  rwa [Nat.zero_add] at this
end
end Go.Am
end
section
set_option linter.unusedVariables false
namespace Go.Am
open Go.RowKit
variable {P : Program}
/-- A row appended to lies in a new block. -/
theorem append_row2 {h : Heap} {t e : TypeId} {i : TypeInfo} {z : Value} {lo s k m c' : Nat} {xv : Value} {cells news : List Value} {a : Addr}
    (hu : P.underlying t = some (.slice e)) (hi : P.info? e = some i) (hz : zeroOf P e = some z) (hlz : lenIs (cellsOf z) i.size = true) (hs : i.size = s) (hs1 : 1 ≤ s) (row : Row lo h xv s k cells)
    (rd : Rd h a news) (hn : news.length = m * s) (hm : 1 ≤ m) (ha : allCells news = true) (hb : 2 * (k + m) * i.bytes ≤ 281474976710656) (hb2 : k + m ≤ 9223372036854775807) :
    ∃ v' h', aappend P h t t xv (.slice (some a) m c') = some (v', h') ∧ Row h.next h' v' s (k + m) (cells ++ news) ∧ Fr (At xv) h h' := by
  have row2 : Row 0 h xv s k cells := ⟨row.1, row.2.imp (fun x => x) (fun ⟨b, _, h2⟩ => ⟨b, Nat.zero_le _, h2⟩)⟩
  have hgen : ∀ lo', Row lo' h xv s k cells → lo' ≤ h.next → ∃ v' h', aappend P h t t xv (.slice (some a) m c') = some (v', h') ∧ Row lo' h' v' s (k + m) (cells ++ news) ∧ Fr (At xv) h h' :=
    fun lo' r hl => append_row hu hi hz hlz hs hs1 r hl rd hn hm ha hb hb2
  rcases row.2 with ⟨rfl, hk⟩ | ⟨b, hb1, rfl, ow⟩
  · exact hgen h.next ⟨row.1, .inl ⟨rfl, hk⟩⟩ (Nat.le_refl _)
  · obtain ⟨v', h', e1, r1, f1⟩ := hgen 0 row2 (Nat.zero_le _)
    refine ⟨v', h', e1, ⟨r1.1, .inr ?_⟩, f1⟩
    obtain ⟨hl, _⟩ := row
    subst hs
    obtain ⟨m, rfl⟩ : ∃ j, m = j + 1 := ⟨m - 1, by omega⟩
    have hr : asrc h i.size (.slice (some a) (m + 1) c') = some (m + 1, news) := by
      have hq : aread h a (Nat.mul (m + 1) i.size) = some (news.take ((m + 1) * i.size)) := rd.read0 (m := (m + 1) * i.size) (by omega)
      simp only [asrc, hq]
      rw [List.take_of_length_le (by omega)]
    have e1' : Nat.ble (Nat.mul (Nat.mul 2 (Nat.add k (Nat.succ m))) i.bytes) 281474976710656 = true := Nat.ble_eq_true_of_le hb
    have e2 : Nat.ble (Nat.add k (Nat.succ m)) 9223372036854775807 = true := Nat.ble_eq_true_of_le hb2
    have e3 : aread h ⟨b, 0, none⟩ (Nat.mul k i.size) = some cells := by
      have := ow.all.read0 (m := k * i.size) (by omega)
      rw [List.take_of_length_le (by omega)] at this
      exact this
    have e4 : lenIs cells (Nat.add 0 (Nat.mul k i.size)) = true := (lenIs_iff _ _).2 (by show _ = 0 + k * i.size; omega)
    have key : aappend P h t t (.slice (some ⟨b, 0, none⟩) k (unkc i.size)) (.slice (some a) (m + 1) c') = some (.slice (some ⟨h.next, 0, none⟩) (k + (m + 1)) (unkc i.size), (h.put b none).push ⟨cells ++ news, true⟩) := by
      simp only [aappend, hu, Nat.beq_refl, cond_true, hi, hz, hlz, Nat.ble_eq_true_of_le hs1, hr, e1', e2, e3, unk_unkc, half_unkc, ow.2, e4, ha]
      rfl
    rw [key] at e1
    cases e1
    exact ⟨h.next, Nat.le_refl _, rfl, Ow.push _ _⟩
section
variable {n : Nat} {ops rest : List Oper} {E E1 : Env} {h h1 : Heap} {Q : Env → Heap → Prop}
end
end Go.Am
end
section
set_option linter.unusedVariables false
namespace Go.Am
open Go.RowKit
/- A region that draws its order: its first operations write nothing old, and only these are drawn; what comes behind may write. -/
theorem aopsC_append {P : Program} {cf : CallF} {n : Nat} {ops : List Oper} : ∀ (pre post : List Oper) {T T1 T2 : Tr Value} {h h1 h2 : Heap} {f1 f2 : List Fp}, aopsC P cf n ops pre T h = some (T1, h1, f1) → aopsC P cf n ops post T1 h1 = some (T2, h2, f2) → aopsC P cf n ops (pre ++ post) T h = some (T2, h2, f1 ++ f2)
  | [], post, T, T1, T2, h, h1, h2, f1, f2, a, b => by
    cases a; exact b
  | o :: l, post, T, T1, T2, h, h1, h2, f1, f2, a, b => by
    rw [List.cons_append]
    unfold aopsC at a ⊢
    split at a
    · rename_i T' h' f hs
      split at a
      · rename_i T'' h'' fs hr
        cases a
        simp only [aopsC_append l post hr b, List.cons_append]
      · cases a
    · cases a
theorem RunD.append {P : Program} {n l0 : Nat} {ops pre post : List Oper} {E : Env} {h : Heap} {Q : Env → Heap → List Fp → Prop}
    (r : RunD P n ops pre l0 E h fun E1 h1 f1 => RunD P n ops post l0 E1 h1 fun E2 h2 f2 => Q E2 h2 (f1 ++ f2)) : RunD P n ops (pre ++ post) l0 E h Q := by
  intro lw hlw
  obtain ⟨E1, h1, f1, lw1, r2, hl1, N1, hN1⟩ := r lw hlw
  obtain ⟨E2, h2, f2, lw2, q, hl2, N2, hN2⟩ := r2 lw1 hl1
  refine ⟨E2, h2, f1 ++ f2, lw2, q, hl2, Nat.max N1 N2, fun d hd K hK T hs => ?_⟩
  obtain ⟨T1, hs1, e1⟩ := hN1 d (Nat.le_trans (Nat.le_max_left _ _) hd) K (Nat.le_trans (Nat.le_max_left _ _) hK) T hs
  obtain ⟨T2, hs2, e2⟩ := hN2 d (Nat.le_trans (Nat.le_max_right _ _) hd) K (Nat.le_trans (Nat.le_max_right _ _) hK) T1 hs1
  exact ⟨T2, hs2, aopsC_append pre post e1 e2⟩
/-- What comes behind: it may write m. -/
def RunT (P : Program) (n : Nat) (ops rest : List Oper) (m : Nat → Prop) (E : Env) (h : Heap) (Q : Env → Heap → Prop) : Prop :=
  ∀ l0, l0 ≤ h.next → (∀ j, m j → l0 ≤ j) → RunD P n ops rest l0 E h (fun E' h' _ => Fg m h h' ∧ Q E' h')
section
variable {P : Program} {n : Nat} {ops rest : List Oper} {m : Nat → Prop} {E E1 : Env} {h h1 : Heap} {Q : Env → Heap → Prop}
theorem RunT.nil (q : Q E h) : RunT P n ops [] m E h Q := fun l0 hl _ => RunD.nil ⟨⟨Nat.le_refl _, fun _ _ _ => rfl⟩, q⟩
theorem RunT.lo {x : Nat} (r : RunT P n ops rest m E h Q) : RunT P n ops rest m E (h.lo x) Q := by
  intro l0 hl hm
  have := r l0 hl hm
  intro lw hlw
  obtain ⟨E', h', fs, lw', ⟨q3, q4⟩, k⟩ := this lw hlw
  exact ⟨E', h', fs, lw', ⟨⟨q3.next, q3.get⟩, q4⟩, k⟩
theorem RunT.oneG {o : Oper} {v : Value} {f : Fp} (g : ewanted ops E o = some true) (e : eop P E o (h.lo h.next) = some (v, h1)) (hf : ∀ q, fpE E o q = some f) (hfr : Fr m (h.lo h.next) h1) (p : eput n E o.dst v = some E1)
    (r : RunT P n ops rest m E1 h1 Q) : RunT P n ops (o :: rest) m E h Q := by
  intro l0 hl hm
  refine RunD.oneG g e hf (hfr.from hl hm) p ?_
  refine (r l0 (Nat.le_trans hl hfr.next) hm).mono ?_
  rintro E' h' fs ⟨q3, q4⟩
  exact ⟨hfr.fg.same q3, q4⟩
theorem low_max (m : Nat → Prop) : ∀ A : Nat, ∃ l0, l0 ≤ A ∧ (∀ j, m j → l0 ≤ j) ∧ ∀ l, l ≤ A → (∀ j, m j → l ≤ j) → l ≤ l0
  | 0 => ⟨0, Nat.le_refl _, fun _ _ => Nat.zero_le _, fun l h _ => h⟩
  | A + 1 => by
    by_cases c : ∀ j, m j → A + 1 ≤ j
    · exact ⟨A + 1, Nat.le_refl _, c, fun l h _ => h⟩
    · obtain ⟨l0, h1, h2, h3⟩ := low_max m A
      refine ⟨l0, Nat.le_succ_of_le h1, h2, fun l hl hm => ?_⟩
      by_cases e : l = A + 1
      · subst e; exact absurd hm c
      · exact h3 l (by omega) hm
theorem nth_append_lt {α : Type} : ∀ (l l2 : List α) (i : Nat), i < l.length → nth (l ++ l2) i = nth l i := by
  intro l l2 i hi
  rw [nth_eq, nth_eq, List.getElem?_append_left hi]
theorem pairsOk_append {fs gs : List Fp} : ∀ (ps : List (Nat × Nat)), idxOk fs.length ps = true → pairsOk fs ps = true → pairsOk (fs ++ gs) ps = true
  | [], _, _ => rfl
  | (i, j) :: l, h, e => by
    unfold idxOk at h
    cases hi : Nat.blt i fs.length with
    | false => rw [hi] at h; cases h
    | true =>
      rw [hi, cond_true] at h
      cases hj : Nat.blt j fs.length with
      | false => rw [hj] at h; cases h
      | true =>
        rw [hj, cond_true] at h
        unfold pairsOk at e ⊢
        rw [nth_append_lt _ _ _ (blt_lt hi), nth_append_lt _ _ _ (blt_lt hj)]
        split at e
        · rename_i a b ha hb
          cases hc : fpOk a b with
          | false => rw [hc] at e; cases e
          | true =>
            rw [hc, cond_true] at e
            rw [cond_true]
            exact pairsOk_append l h e
        · cases e
def drawTOk (k : Nat) (ops : Array Oper) : Bool := match drawOk ops with
  | some (p :: ps) => idxOk (ops.toList.take k).length (p :: ps)
  | _ => false
theorem RunC.drawT (k : Nat) (m : Nat → Prop) {i : Nat} {ops : Array Oper} {Qn : Env → Heap → Prop} {Qx : Nat → Env → Heap → Prop} {Qr : Env → Heap → Prop} (hd : drawTOk k ops = true)
    (r : RunQ P n ops.toList (ops.toList.take k) E h (fun E1 h1 => RunT P n ops.toList (ops.toList.drop k) m E1 h1 fun E' h' => ∀ lw, Fr m h (h'.lo lw) → Qn E' (h'.lo lw))) : RunC P n (.region i ops true) E h Qn Qx Qr := by
  unfold drawTOk at hd
  split at hd
  · rename_i p ps hps
    obtain ⟨l0, z1, z2, z3⟩ := low_max m (min h.low h.next)
    refine RunC.draw (l0 := l0) (Nat.le_trans z1 (Nat.min_le_left _ _)) hps ?_
    have hsp : ops.toList = ops.toList.take k ++ ops.toList.drop k := (List.take_append_drop _ _).symm
    have key : RunD P n ops.toList (ops.toList.take k ++ ops.toList.drop k) l0 E h (fun E' h' fs => pairsOk fs (p :: ps) = true ∧ ∀ lw, l0 ≤ lw → Qn E' (h'.lo lw)) := by
      refine RunD.append ((r l0 (Nat.le_trans z1 (Nat.min_le_right _ _))).mono ?_)
      rintro E1 h1 f1 ⟨q1, q2, q3, q4⟩
      refine (q4 l0 (Nat.le_trans (Nat.le_trans z1 (Nat.min_le_right _ _)) q3.next) z2).mono ?_
      rintro E' h' f2 ⟨g3, g4⟩
      refine ⟨pairsOk_append _ (by rw [q1]; exact hd) (pairsOk_ok q2 _ (by rw [q1]; exact hd)), fun lw hlw => g4 lw ?_⟩
      have fg : Fg m h h' := ⟨Nat.le_trans q3.next g3.next, fun i hi hm => by rw [g3.get i (Nat.lt_of_lt_of_le hi q3.next) hm, q3.get i hi (fun g => g)]⟩
      exact fg.close (fun l x y z => Nat.le_trans (z3 l (Nat.le_min.2 ⟨x, y⟩) z) hlw)
    rwa [← hsp] at key
  · cases hd
end
end Go.Am
end
section
set_option linter.unusedVariables false
namespace Go.Am
open Go.RowKit
section
variable {P : Program} {n : Nat} {ops rest : List Oper} {E E1 : Env} {h h1 : Heap} {Q : Env → Heap → Prop}
theorem upd3_le {E : Env} {d d2 d3 : Tmp} {v w u : Value} (h1 : E d = none) (h2 : E d2 = none) : Le (upd E d3 u) (upd (upd (upd E d v) d2 w) d3 u) := by
  intro t x hx
  unfold upd at hx ⊢
  cases e3 : Nat.beq t d3 with
  | true => rw [e3] at hx; exact hx
  | false =>
    rw [e3] at hx
    have hx : E t = some x := hx
    show (cond (Nat.beq t d2) (some w) (cond (Nat.beq t d) (some v) (E t))) = some x
    cases e2 : Nat.beq t d2 with
    | true => have := Nat.eq_of_beq_eq_true e2; subst this; rw [h2] at hx; cases hx
    | false =>
      cases e1 : Nat.beq t d with
      | true => have := Nat.eq_of_beq_eq_true e1; subst this; rw [h1] at hx; cases hx
      | false => exact hx
end
end Go.Am
end
section
set_option linter.unusedVariables false
namespace Go.Am
open Go.RowKit
section
variable {P : Program} {n : Nat} {ops rest : List Oper} {E E1 : Env} {h h1 : Heap} {Q : Env → Heap → Prop}
theorem Rd.sub {b o : Nat} {cs : List Value} (r : Rd h ⟨b, o, none⟩ cs) {k j : Nat} (hk : k + j ≤ cs.length) : Rd h ⟨b, o + k, none⟩ ((cs.drop k).take j) := by
  obtain ⟨h1, h2, ob, ho, he⟩ := r
  refine ⟨rfl, h2, ob, ho, ?_⟩
  simp only at he ⊢
  have hl : ((cs.drop k).take j).length = j := by rw [List.length_take, List.length_drop]; omega
  rw [hl]
  conv => rhs; rw [← he]
  rw [List.drop_take, List.drop_drop, List.take_take]
  congr 1
  omega
/-- A bound of a slice. -/
inductive Bd : Option Value → Nat → Nat → Prop where
  | none (d : Nat) : Bd none d d
  | some (k : IntKind) (d m : Nat) : Bd (some (.int k (m : Int))) d m
theorem slice_gen {t e : TypeId} {v : Value} {s len k m : Nat} {cells : List Value} {lo hi : Option Value} (hu : P.underlying t = some (.slice e)) (hs : sizeOf P e = some s) (sl : Sl h v s len cells) (hlo : Bd lo 0 k) (hhi : Bd hi len m) (hk : k ≤ m) (hm : m ≤ len) :
    ∃ v', aslice P t v lo hi none = some v' ∧ Sl h v' s (m - k) ((cells.drop (k * s)).take ((m - k) * s)) := by
  have key : ∀ cap, len ≤ cap → abounds len cap lo hi none = some (k, m, cap) := by
    intro cap hc
    have a1 : ∀ (j : IntKind) (x c : Nat), x ≤ c → abound (.int j (x : Int)) c = some x := fun j x c hx => by
      show cond (Nat.ble x c) (some x) none = _
      rw [Nat.ble_eq_true_of_le hx]; rfl
    unfold abounds
    cases hhi with
    | none =>
      cases hlo with
      | none => rfl
      | some j _ _ => simp only [a1 j k _ hk]
    | some j2 _ _ =>
      cases hlo with
      | none => simp only [a1 j2 m cap (by omega)]
      | some j _ _ => simp only [a1 j2 m cap (by omega), a1 j k m hk]
  obtain ⟨hl, hn, ⟨rfl, rfl⟩ | ⟨b, o, c, rfl, hc, rd⟩⟩ := sl
  · obtain rfl : m = 0 := by omega
    obtain rfl : k = 0 := by omega
    refine ⟨.slice none 0 0, ?_, by simp, by omega, .inl ⟨rfl, rfl⟩⟩
    simp only [aslice, hu, hs, key 0 (Nat.le_refl _)]
  · have hms : (m - k) * s + k * s ≤ len * s := by rw [← Nat.add_mul]; exact Nat.mul_le_mul_right _ (by omega)
    have hsub : Rd h ⟨b, o + k * s, none⟩ ((cells.drop (k * s)).take ((m - k) * s)) := rd.sub (by rw [hl]; omega)
    have hlen : ((cells.drop (k * s)).take ((m - k) * s)).length = (m - k) * s := by rw [List.length_take, List.length_drop, hl]; omega
    have hmn : m - k ≤ 9223372036854775807 := by omega
    rcases hc with ⟨h1, h2⟩ | ⟨h1, h2⟩
    · refine ⟨.slice (some ⟨b, o + k * s, none⟩) (m - k) c, ?_, hlen, hmn, .inr ⟨b, o + k * s, c, rfl, .inl ⟨h1, h2⟩, hsub⟩⟩
      simp only [aslice, hu, hs, h1, cond_true, h2, Nat.beq_refl, key len (Nat.le_refl _)]
      rfl
    · by_cases hck : half c = k
      · refine ⟨.slice (some ⟨b, o, none⟩) (m - k) (exc (half c - k)), ?_, hlen, hmn, .inr ⟨b, o, _, rfl, Cp.exc (by omega), ?_⟩⟩
        · simp only [aslice, hu, hs, h1, cond_false, key (half c) h2, beqT hck, cond_true]
          rfl
        · have : (m - k) * s = 0 := by rw [show m - k = 0 by omega, Nat.zero_mul]
          rw [this, List.take_zero]
          obtain ⟨r1, r2, ob, ho, he⟩ := rd
          exact ⟨rfl, r2, ob, ho, rfl⟩
      · refine ⟨.slice (some ⟨b, o + k * s, none⟩) (m - k) (exc (half c - k)), ?_, hlen, hmn, .inr ⟨b, o + k * s, _, rfl, Cp.exc (by omega), hsub⟩⟩
        simp only [aslice, hu, hs, h1, cond_false, key (half c) h2, beqF hck]
        rfl
theorem RunO.sliceSlG {d : Tmp} {t ty e : TypeId} {x : Operand} {y z : Option Operand} {pos : String} {after : Array Edge} {gd : Option (Nat × Bool)} {v : Value} {lo hi : Option Value} {s len k m : Nat} {cells : List Value}
    (hw : ewanted ops E ⟨some d, .slice t x y z none, ty, pos, after, gd⟩ = some true) (hx : gE E x = some v) (hy : go (gE E) y = some lo) (hz : go (gE E) z = some hi) (hu : P.underlying t = some (.slice e)) (hs : sizeOf P e = some s) (sl : Sl h v s len cells) (hlo : Bd lo 0 k) (hhi : Bd hi len m) (hk : k ≤ m) (hm : m ≤ len) (hd : Nat.ble (Nat.succ d) n = true)
    (r : ∀ v', Sl h v' s (m - k) ((cells.drop (k * s)).take ((m - k) * s)) → RunO P n ops rest (upd E d v') h Q) : RunO P n ops (⟨some d, .slice t x y z none, ty, pos, after, gd⟩ :: rest) E h Q := by
  obtain ⟨v', e1, e2⟩ := slice_gen (P := P) hu hs sl hlo hhi hk hm
  refine RunO.oneG hw (v := v') (h1 := h) ?_ (by simp only [eput, hd, cond_true]) (r v' e2)
  have hg : go (gE E) none = some none := rfl
  simp only [eop, hx, hy, hz, hg, e1, pureR]
theorem RunO.sliceSl {d : Tmp} {t ty e : TypeId} {x : Operand} {y z : Option Operand} {pos : String} {after : Array Edge} {v : Value} {lo hi : Option Value} {s len k m : Nat} {cells : List Value}
    (hx : gE E x = some v) (hy : go (gE E) y = some lo) (hz : go (gE E) z = some hi) (hu : P.underlying t = some (.slice e)) (hs : sizeOf P e = some s) (sl : Sl h v s len cells) (hlo : Bd lo 0 k) (hhi : Bd hi len m) (hk : k ≤ m) (hm : m ≤ len) (hd : Nat.ble (Nat.succ d) n = true)
    (r : ∀ v', Sl h v' s (m - k) ((cells.drop (k * s)).take ((m - k) * s)) → RunO P n ops rest (upd E d v') h Q) : RunO P n ops (⟨some d, .slice t x y z none, ty, pos, after, none⟩ :: rest) E h Q :=
  RunO.sliceSlG rfl hx hy hz hu hs sl hlo hhi hk hm hd r
end
theorem Sl.frm {h h' : Heap} {v : Value} {s n : Nat} {cs : List Value} {M : Nat → Prop} (sl : Sl h v s n cs) (hn : ∀ b o c, v = .slice (some ⟨b, o, none⟩) n c → ¬ M b) (f : Fr M h h') : Sl h' v s n cs := by
  refine ⟨sl.1, sl.2.1, sl.2.2.imp (fun y => y) ?_⟩
  rintro ⟨b, o, c, h1, h2, h3⟩
  exact ⟨b, o, c, h1, h2, h3.fr f (hn b o c h1)⟩
theorem Sl.lt {h : Heap} {v : Value} {s n : Nat} {cs : List Value} (sl : Sl h v s n cs) : ∀ b o c, v = .slice (some ⟨b, o, none⟩) n c → b < h.next := by
  intro b o c e
  rcases sl.2.2 with ⟨g1, _⟩ | ⟨b', o', c', g1, _, rd⟩
  · rw [e] at g1; cases g1
  · rw [e] at g1; cases g1; exact rd.2.1
/-- The same slice in every memory where the row can be read. -/
theorem slice_all {P : Program} {h : Heap} {t e : TypeId} {v : Value} {s len k m : Nat} {cells : List Value} {lo hi : Option Value} (hu : P.underlying t = some (.slice e)) (hs : sizeOf P e = some s) (sl : Sl h v s len cells) (hlo : Bd lo 0 k) (hhi : Bd hi len m) (hk : k ≤ m) (hm : m ≤ len) :
    ∃ v', aslice P t v lo hi none = some v' ∧ ∀ h', Sl h' v s len cells → Sl h' v' s (m - k) ((cells.drop (k * s)).take ((m - k) * s)) := by
  obtain ⟨v', e1, _⟩ := slice_gen (P := P) hu hs sl hlo hhi hk hm
  refine ⟨v', e1, fun h' sl' => ?_⟩
  obtain ⟨v2, e2, e3⟩ := slice_gen (P := P) hu hs sl' hlo hhi hk hm
  rw [e1] at e2
  cases e2
  exact e3
theorem RunO.sliceAll {P : Program} {n : Nat} {ops rest : List Oper} {E : Env} {h : Heap} {Q : Env → Heap → Prop} {d : Tmp} {t ty e : TypeId} {x : Operand} {y z : Option Operand} {pos : String} {after : Array Edge} {v : Value} {lo hi : Option Value} {s len k m : Nat} {cells : List Value}
    (hx : gE E x = some v) (hy : go (gE E) y = some lo) (hz : go (gE E) z = some hi) (hu : P.underlying t = some (.slice e)) (hs : sizeOf P e = some s) (sl : Sl h v s len cells) (hlo : Bd lo 0 k) (hhi : Bd hi len m) (hk : k ≤ m) (hm : m ≤ len) (hd : Nat.ble (Nat.succ d) n = true)
    (r : ∀ v', (∀ h', Sl h' v s len cells → Sl h' v' s (m - k) ((cells.drop (k * s)).take ((m - k) * s))) → RunO P n ops rest (upd E d v') h Q) : RunO P n ops (⟨some d, .slice t x y z none, ty, pos, after, none⟩ :: rest) E h Q := by
  obtain ⟨v', e1, e2⟩ := slice_all (P := P) hu hs sl hlo hhi hk hm
  refine RunO.one rfl (v := v') (h1 := h) ?_ (by simp only [eput, hd, cond_true]) (r v' e2)
  have hg : go (gE E) none = some none := rfl
  simp only [eop, hx, hy, hz, hg, e1, pureR]
end Go.Am
end
section
set_option linter.unusedVariables false
namespace Go.Am
open Go.RowKit
/- A region that draws its order and writes m: each operation with its footprint. -/
def RunW (P : Program) (n : Nat) (ops rest : List Oper) (m : Nat → Prop) (E : Env) (h : Heap) (Q : Env → Heap → List Fp → Prop) : Prop :=
  ∀ l0, l0 ≤ h.next → (∀ j, m j → l0 ≤ j) → RunD P n ops rest l0 E h (fun E' h' fs => Fg m h h' ∧ Q E' h' fs)
section
variable {P : Program} {n : Nat} {ops rest : List Oper} {m : Nat → Prop} {E E1 : Env} {h h1 : Heap} {Q : Env → Heap → List Fp → Prop}
end
end Go.Am
end
section
set_option linter.unusedVariables false
set_option maxRecDepth 100000
open Go Go.Am Go.RowKit
namespace Go.Proofs.Ytijfghknjkegpaa
open Go.Proofs.Try
/-- A record. -/
structure R8 where
  nx : Int
  id : Int
  pa : Int
  ro : Int
  sz : Int
  ki : Int
  fr : Int
  di : Int
deriving DecidableEq
def rc8 (r : R8) : List Value := rc r.nx r.id r.pa r.ro r.sz r.ki r.fr r.di
def rPar (l : List Int) : R8 := if rCode l = 0 then ⟨rNum l 0, rNum l 1, rNum l 2, rNum l 3, rNum l 4, rNum l 5, rNum l 6, rNum l 7⟩ else ⟨0, 0, 0, 0, 0, 0, 0, 0⟩
def recCs (l : List R8) : List Value := l.flatMap rc8
/-- May a record be the next one? -/
def mayR (l : List R8) (w : Nat) (r : R8) : Bool := if r.ki == 1 then ((l.length : Int) == 0) else (!(l.any fun x => x.id == r.id) && decide ((w : Int) < 60))
end Go.Proofs.Ytijfghknjkegpaa
end
section
set_option linter.unusedVariables false
set_option maxRecDepth 100000
open Go Go.Am Go.RowKit
namespace Go.Proofs.Ytijfghknjkegpaa
open Go.Proofs.Try
def nodLay : List Nat := [4, 4, 4, 4, 4, 4, 4, 4, 4]
/-- A node's cells: its level, its pointers. -/
def nc (lv : Int) (ps : List Int) : List Value := .int .i64 lv :: is ps
def anyP (ps : List Int) : Bool := ps.any (· != 0)
def nodOk (lv : Int) (ps : List Int) : Bool := ps.all ptrB && (!(decide (lv < 0)) && (!(decide (lv > 2)) && anyP ps))
end Go.Proofs.Ytijfghknjkegpaa
end
section
set_option linter.unusedVariables false
set_option maxRecDepth 100000
open Go Go.Am Go.RowKit
namespace Go.Proofs.Ytijfghknjkegpaa
open Go.Proofs.Try
def nMag : List Int := [78, 79, 68, 69]
def nLay : List (Nat × Nat) := layF 4 nodLay
/-- A node's block. -/
def nodBlock (lv : Int) (ps : List Int) : List Int := makeB nMag nLay (lv :: ps)
end Go.Proofs.Ytijfghknjkegpaa
end
section
set_option linter.unusedVariables false
set_option maxRecDepth 100000
open Go Go.Am Go.RowKit
namespace Go.Proofs.Ytijfghknjkegpaa
open Go.Proofs.Try
def nLv (l : List Int) : Int := (leGet l 4 4).1
def nPs (l : List Int) : List Int := [(leGet l 8 4).1, (leGet l 12 4).1, (leGet l 16 4).1, (leGet l 20 4).1, (leGet l 24 4).1, (leGet l 28 4).1, (leGet l 32 4).1, (leGet l 36 4).1]
def nZero : List Int := [0, 0, 0, 0, 0, 0, 0, 0]
def nCode (l : List Int) : Int := if readB nMag nLay l = 0 then (if nodOk (nLv l) (nPs l) then 0 else 1) else readB nMag nLay l
def nCells (l : List Int) : List Value := if nCode l = 0 then nc (nLv l) (nPs l) else nc 0 nZero
end Go.Proofs.Ytijfghknjkegpaa
end
section
namespace Go.Proofs.Ytijfghknjkegpaa
open Go Go.Am
def bys (l : List Int) : List Crc.W := l.map (fun x => Crc.by8 x.toNat)
end Go.Proofs.Ytijfghknjkegpaa
end
section
namespace Go.Proofs.Ytijfghknjkegpaa
open Go Go.Am
/-- A byte changed. -/
def xb (c x : Int) : Int := IntKind.u8.wrap (BitVec.ofInt IntKind.u8.bits c ^^^ BitVec.ofInt IntKind.u8.bits x).toNat
/-- The list behind so many changes from a place on. -/
def chg (b : List Int) (p : Nat) (x : List Int) : Nat → List Int
  | 0 => b
  | n + 1 => (chg b p x n).set (p + n) (xb ((chg b p x n).getD (p + n) 0) (x.getD n 0))
def bytes (l : List Int) : Prop := ∀ x ∈ l, 0 ≤ x ∧ x < 256
end Go.Proofs.Ytijfghknjkegpaa
end
section
set_option linter.unusedVariables false
set_option maxRecDepth 100000
open Go Go.Am
namespace Go.Proofs.Ytijfghknjkegpaa
open Go.Proofs.Try
theorem beq_take {l m : List Int} {i : Nat} (hi : i < l.length) (hm : i < m.length) (h : l.take i = m.take i) (he : l[i] = m[i]) : l.take (i + 1) = m.take (i + 1) := by
  rw [List.take_succ_eq_append_getElem hi, List.take_succ_eq_append_getElem hm, h, he]
theorem inc64x {j : Nat} (h : j < 9223372036854775807) : some (Value.int .i64 (fwrap .i64 ((j : Int) + 1))) = some (.int .i64 ((j + 1 : Nat) : Int)) := by
  rw [fw64 (by omega) (by omega)]; rfl
theorem keepBytesX_ok {h : Heap} {A B : Option Addr} {c d : Nat} {l m : List Int} (ra : 0 < l.length → ∃ a, A = some a ∧ Rd h a (us l)) (rb : 0 < m.length → ∃ a, B = some a ∧ Rd h a (us m)) (hm : l.length ≤ 9223372036854775807) :
    RunF prog 33 [.slice A l.length c, .slice B m.length d] h fun v h' => v = .bool (l == m) ∧ h = h' := by
  refine RunF.walk func33 rfl rfl ?_
  refine RunC.seq (RunC.region (RunO.all rfl ?_))
  refine RunC.seq (RunC.seq (RunC.region (RunO.all rfl ?_)))
  by_cases hl : l.length = m.length
  case neg =>
    have e : (l == m) = false := beq_eq_false_iff_ne.2 (fun g => hl (by rw [g]))
    rw [show ((l.length : Int) != (m.length : Int)) = true by simp; omega, e]
    refine RunC.cond rfl (fun _ => ?_) (fun g => by cases g)
    exact RunC.seq (RunC.region (RunO.all rfl (RunC.ret ⟨_, rfl, rfl, rfl⟩)))
  rw [show ((l.length : Int) != (m.length : Int)) = false by simp; omega]
  refine RunC.cond rfl (fun g => by cases g) (fun _ => RunC.skip ?_)
  refine RunC.seq (RunC.seq (RunC.region (RunO.all rfl ?_)))
  refine RunC.block ?_
  let I : Nat → Env → Heap → Prop := fun k E h' => ∃ i : Nat, i + k = l.length ∧ l.take i = m.take i ∧ h = h' ∧ Le (upd (upd (upd E0 0 (.slice A l.length c)) 1 (.slice B m.length d)) 5 (.int .i64 i)) E
  refine RunC.loop I ?_ (k := l.length) ?_
  · rintro k E h' ⟨i, hi, ht, rfl, hE⟩
    refine RunC.le hE ?_
    clear hE
    refine RunC.seq (RunC.seq (RunC.region (RunO.all rfl ?_)))
    refine RunC.cond rfl (fun hlt => ?_) (fun hge => ?_)
    · have hlt := of_decide_eq_true hlt
      have h1 : i < l.length := by omega
      have h2 : i < m.length := by omega
      obtain ⟨⟨b1, o1, s1⟩, rfl, rd1⟩ := ra (by omega)
      obtain ⟨⟨b2, o2, s2⟩, rfl, rd2⟩ := rb (by omega)
      have hs1 : s1 = none := rd1.1
      have hs2 : s2 = none := rd2.1
      subst hs1
      subst hs2
      refine RunC.skip ?_
      refine RunC.seq (RunC.block ?_)
      refine RunC.seq (RunC.draw0 rfl (RunO.part 2 rfl ?_))
      refine RunO.index (s := 1) rfl rfl rfl rfl h1 rfl ?_
      refine RunO.load (v := .int .u8 l[i]) rfl (rd1.cell1 (k := i * 1) rfl (by rw [Nat.mul_one]; exact us_nth h1)) rfl ?_
      refine RunO.part 2 rfl ?_
      refine RunO.index (s := 1) rfl rfl rfl rfl h2 rfl ?_
      refine RunO.load (v := .int .u8 m[i]) rfl (rd2.cell1 (k := i * 1) rfl (by rw [Nat.mul_one]; exact us_nth h2)) rfl ?_
      refine RunO.all rfl ?_
      refine RunC.cond rfl (fun hne => ?_) (fun heq => ?_)
      · have hne : l[i] ≠ m[i] := by simpa using hne
        have e : (l == m) = false := beq_eq_false_iff_ne.2 (fun g => hne (by subst g; rfl))
        rw [e]
        exact RunC.seq (RunC.region (RunO.all rfl (RunC.ret ⟨_, rfl, rfl, rfl⟩)))
      · have heq : l[i] = m[i] := by simpa using heq
        refine RunC.skip (RunC.region (RunO.all rfl ?_))
        exact ⟨k - 1, by omega, i + 1, by omega, beq_take h1 h2 ht heq, rfl, Le.cons (inc64x (by omega)) (Le.cons rfl (Le.cons rfl (Le.nil _)))⟩
    · have hge := of_decide_eq_false hge
      refine RunC.exit ?_
      have hi2 : i = l.length := by omega
      have e : l = m := by
        rw [hi2, List.take_length] at ht
        rw [ht, hl, List.take_length]
      rw [show (l == m) = true by rw [e]; exact beq_self_eq_true _]
      exact RunC.seq (RunC.region (RunO.all rfl (RunC.ret ⟨_, rfl, rfl, rfl⟩)))
  · exact ⟨0, by omega, rfl, rfl, Le.cons rfl (Le.cons rfl (Le.cons rfl (Le.nil _)))⟩
theorem keepBytes_ok {h : Heap} {A B : Option Addr} {c d : Nat} {l m : List Int} (ra : 0 < l.length → ∃ a, A = some a ∧ Rd h a (us l)) (rb : 0 < m.length → ∃ a, B = some a ∧ Rd h a (us m)) (hm : l.length ≤ 4611686018427387904) :
    RunF prog 33 [.slice A l.length c, .slice B m.length d] h fun v h' => v = .bool (l == m) ∧ h = h' := keepBytesX_ok ra rb (by omega)
end Go.Proofs.Ytijfghknjkegpaa
end
section
set_option linter.unusedVariables false
set_option maxRecDepth 100000
open Go Go.Am Go.RowKit
namespace Go.Proofs.Ytijfghknjkegpaa
open Go.Proofs.Try
end Go.Proofs.Ytijfghknjkegpaa
end
section
set_option linter.unusedVariables false
set_option maxRecDepth 100000
open Go Go.Am Go.RowKit
namespace Go.Proofs.Ytijfghknjkegpaa
open Go.Proofs.Try
/-- The node that a block tells; none: no pointers. -/
def nodV (l : List Int) : Int × List Int := if nCode l = 0 then (nLv l, nPs l) else (0, nZero)
def atIn (B : Nat) (at_ : Int) : Bool := !(decide (at_ < 2) || decide (at_ ≥ (B : Int)))
def atV (L : List Int) (B : Nat) (at_ : Int) : Int × List Int := if atIn B at_ then nodV (blkI L at_.toNat) else (0, nZero)
def atIs (L : List Int) (B : Nat) (at_ lv : Int) : Bool := atIn B at_ && (nCode (blkI L at_.toNat) == 0 && (atV L B at_).1 == lv)
/-- A walk through a tree: the map, the nodes, is it none? -/
abbrev TS := List Int × List Int × Bool
def tstep (rec_ : Int → Nat → TS → TS) (B : Nat) (leaf : Bool) (w : TS) (p : Int) (to_ : Nat) : TS :=
  if w.2.2 then w else if decide (p ≥ (B : Int)) then (w.1, w.2.1, true) else if p != 0 && leaf then (w.1.set to_ p, w.2.1, w.2.2) else if p != 0 then rec_ p to_ w else w
def tbody (L : List Int) (B lv : Nat) (rec_ : Int → Nat → TS → TS) (at_ : Int) (from_ : Nat) (w : TS) : TS :=
  if !atIs L B at_ (lv : Int) || w.2.1.contains at_ then (w.1, w.2.1, true)
  else (List.range 8).foldl (fun w i => tstep rec_ B (lv == 0) w ((atV L B at_).2.getD i 0) (from_ + i * 8 ^ lv)) (w.1, w.2.1 ++ [at_], w.2.2)
def tgo (L : List Int) (B : Nat) : Nat → Int → Nat → TS → TS
  | 0 => tbody L B 0 (fun _ _ w => w)
  | k + 1 => tbody L B (k + 1) (tgo L B k)
def trec (L : List Int) (B : Nat) : Nat → Int → Nat → TS → TS
  | 0 => fun _ _ w => w
  | k + 1 => tgo L B k
/-- So many nodes at most. -/
def nN : Nat → Nat
  | 0 => 1
  | k + 1 => 1 + 8 * nN k
def rN : Nat → Nat
  | 0 => 0
  | k + 1 => nN k
end Go.Proofs.Ytijfghknjkegpaa
end
section
set_option linter.unusedVariables false
set_option maxRecDepth 100000
open Go Go.Am Go.RowKit
namespace Go.Proofs.Ytijfghknjkegpaa
open Go.Proofs.Try
/-- What a pointer of a level leads to, for a place under it; level 0: a sector's block. -/
def look (L : List Int) (B : Nat) : Nat → Int → Nat → Int
  | 0, p, _ => p
  | k + 1, p, s => if p = 0 then 0 else look L B k ((atV L B p).2.getD (s / 8 ^ k) 0) (s % 8 ^ k)
/-- Along the way to a place each node is one, of its level. -/
def pathOk (L : List Int) (B : Nat) : Nat → Int → Nat → Prop
  | 0, _, _ => True
  | k + 1, p, s => p ≠ 0 → atIs L B p (k : Int) = true ∧ pathOk L B k ((atV L B p).2.getD (s / 8 ^ k) 0) (s % 8 ^ k)
/-- The fold of a node's pointers, as it goes. -/
def tst (L : List Int) (B lv : Nat) (ps : List Int) (f : Nat) (w : TS) (i : Nat) : TS := tstep (trec L B lv) B (lv == 0) w (ps.getD i 0) (f + i * 8 ^ lv)
/-- What a walk that ends well has done. -/
structure TSpec (L : List Int) (B lv : Nat) (a : Int) (f : Nat) (w r : TS) : Prop where
  is_ : atIs L B a (lv : Int) = true
  new : w.2.1.contains a = false
  ns : ∃ t, r.2.1 = w.2.1 ++ a :: t
  nd : w.2.1.Nodup → r.2.1.Nodup
  m : ∀ s, s < 512 → r.1.getD s 0 = if f ≤ s ∧ s < f + 8 ^ (lv + 1) then look L B (lv + 1) a (s - f) else w.1.getD s 0
  path : ∀ s, s < 8 ^ (lv + 1) → pathOk L B (lv + 1) a s
  all : ∀ x ∈ r.2.1, x ∈ w.2.1 ∨ ∃ k, k ≤ lv ∧ atIs L B x (k : Int) = true
  bnd : ∀ x ∈ r.1, x ∈ w.1 ∨ x = 0 ∨ x < B
def SpecAt (L : List Int) (B lv : Nat) : Prop := ∀ (a : Int) (f : Nat) (w : TS), f + 8 ^ (lv + 1) ≤ 512 → w.1.length = 512 → w.2.2 = false → (∀ s, f ≤ s → s < f + 8 ^ (lv + 1) → w.1.getD s 0 = 0) → (tgo L B lv a f w).2.2 = false → TSpec L B lv a f w (tgo L B lv a f w)
structure FSpec (L : List Int) (B lv : Nat) (ps : List Int) (f : Nat) (m ns : List Int) (i : Nat) (r : TS) : Prop where
  len : r.1.length = 512
  tail : ∃ t, r.2.1 = ns ++ t
  nd : ns.Nodup → r.2.1.Nodup
  map : ∀ s, s < 512 → r.1.getD s 0 = if f ≤ s ∧ s < f + i * 8 ^ lv then look L B lv (ps.getD ((s - f) / 8 ^ lv) 0) ((s - f) % 8 ^ lv) else m.getD s 0
  path : ∀ j, j < i → ∀ s, s < 8 ^ lv → pathOk L B lv (ps.getD j 0) s
  all : ∀ x ∈ r.2.1, x ∈ ns ∨ ∃ k, k ≤ lv ∧ atIs L B x (k : Int) = true
  bnd : ∀ x ∈ r.1, x ∈ m ∨ x = 0 ∨ x < B
end Go.Proofs.Ytijfghknjkegpaa
end
section
set_option linter.unusedVariables false
set_option maxRecDepth 100000
open Go Go.Am Go.RowKit
namespace Go.Proofs.Ytijfghknjkegpaa
open Go.Proofs.Try
end Go.Proofs.Ytijfghknjkegpaa
end
section
set_option linter.unusedVariables false
set_option maxRecDepth 100000
open Go Go.Am Go.RowKit
namespace Go.Proofs.Ytijfghknjkegpaa
open Go.Proofs.Try
end Go.Proofs.Ytijfghknjkegpaa
end
section
set_option linter.unusedVariables false
set_option maxRecDepth 100000
open Go Go.Am Go.RowKit
namespace Go.Proofs.Ytijfghknjkegpaa
open Go.Proofs.Try
theorem is_part {l : List Int} {i : Nat} (h : i < l.length) : apart prog 3 (is l) (i * 1) = some (.int .i64 l[i]) := by
  show nth (is l) (i * 1) = _
  rw [Nat.mul_one]; exact is_nth h
theorem keepInts_ok {h : Heap} {v w : Value} {l m : List Int} (sl : Sl h v 1 l.length (is l)) (sm : Sl h w 1 m.length (is m)) (hm : l.length ≤ 4611686018427387904) :
    RunF prog 16 [v, w] h fun v h' => v = .bool (l == m) ∧ h = h' := by
  refine RunF.walk func16 rfl rfl ?_
  obtain ⟨A, c, rfl, hc, _⟩ := sl.form
  obtain ⟨B, d, rfl, hd, _⟩ := sm.form
  refine RunC.seq (RunC.region (RunO.all rfl ?_))
  refine RunC.seq (RunC.seq (RunC.region (RunO.all rfl ?_)))
  by_cases hl : l.length = m.length
  case neg =>
    have e : (l == m) = false := beq_eq_false_iff_ne.2 (fun g => hl (by rw [g]))
    rw [show ((l.length : Int) != (m.length : Int)) = true by simp; omega, e]
    refine RunC.cond rfl (fun _ => ?_) (fun g => by cases g)
    exact RunC.seq (RunC.region (RunO.all rfl (RunC.ret ⟨_, rfl, rfl, rfl⟩)))
  rw [show ((l.length : Int) != (m.length : Int)) = false by simp; omega]
  refine RunC.cond rfl (fun g => by cases g) (fun _ => RunC.skip ?_)
  refine RunC.seq (RunC.seq (RunC.region (RunO.all rfl ?_)))
  refine RunC.block ?_
  let I : Nat → Env → Heap → Prop := fun k E h' => ∃ i : Nat, i + k = l.length ∧ l.take i = m.take i ∧ h = h' ∧ Le (upd (upd (upd E0 0 (.slice A l.length c)) 1 (.slice B m.length d)) 5 (.int .i64 i)) E
  refine RunC.loop I ?_ (k := l.length) ?_
  · rintro k E h' ⟨i, hi, ht, rfl, hE⟩
    refine RunC.le hE ?_
    clear hE
    refine RunC.seq (RunC.seq (RunC.region (RunO.all rfl ?_)))
    refine RunC.cond rfl (fun hlt => ?_) (fun hge => ?_)
    · have hlt := of_decide_eq_true hlt
      have h1 : i < l.length := by omega
      have h2 : i < m.length := by omega
      refine RunC.skip ?_
      refine RunC.seq (RunC.block ?_)
      refine RunC.seq (RunC.draw0 rfl (RunO.part 2 rfl ?_))
      refine RunO.at (s := 1) rfl rfl sl rfl rfl h1 (is_part h1) rfl rfl rfl ?_
      refine RunO.part 2 rfl ?_
      refine RunO.at (s := 1) rfl rfl sm rfl rfl h2 (is_part h2) rfl rfl rfl ?_
      refine RunO.all rfl ?_
      refine RunC.cond rfl (fun hne => ?_) (fun heq => ?_)
      · have hne : l[i] ≠ m[i] := by simpa using hne
        have e : (l == m) = false := beq_eq_false_iff_ne.2 (fun g => hne (by subst g; rfl))
        rw [e]
        exact RunC.seq (RunC.region (RunO.all rfl (RunC.ret ⟨_, rfl, rfl, rfl⟩)))
      · have heq : l[i] = m[i] := by simpa using heq
        refine RunC.skip (RunC.region (RunO.all rfl ?_))
        exact ⟨k - 1, by omega, i + 1, by omega, beq_take h1 h2 ht heq, rfl, Le.cons (inc64 (by omega)) (Le.cons rfl (Le.cons rfl (Le.nil _)))⟩
    · have hge := of_decide_eq_false hge
      refine RunC.exit ?_
      have hi2 : i = l.length := by omega
      have e : l = m := by
        rw [hi2, List.take_length] at ht
        rw [ht, hl, List.take_length]
      rw [show (l == m) = true by rw [e]; exact beq_self_eq_true _]
      exact RunC.seq (RunC.region (RunO.all rfl (RunC.ret ⟨_, rfl, rfl, rfl⟩)))
  · exact ⟨0, by omega, rfl, rfl, Le.cons rfl (Le.cons rfl (Le.cons rfl (Le.nil _)))⟩
theorem twin_ok {h : Heap} {v : Value} {l : List Int} (sl : Sl h v 1 l.length (us l)) (hb : 2 * l.length ≤ 281474976710656) : RunF prog 23 [v] h fun r h' => Row h.next h' r 1 l.length (us l) ∧ Fr no h h' := by
  refine RunF.walk func23 rfl rfl ?_
  refine RunC.seq (RunC.region (RunO.all rfl ?_))
  refine RunC.seq (RunC.region (RunO.all rfl ?_))
  refine RunC.seq (RunC.region (RunO.part 2 rfl ?_))
  refine RunO.appendOs (s := 1) (k := 0) rfl rfl rfl rfl rfl rfl rfl rfl (Nat.le_refl 1) (Row.nil h.next h 1) (Nat.le_refl _) sl (allCells_map (fun _ => rfl) l) (by show 2 * (0 + l.length) * 1 ≤ _; omega) (by omega) ?_
  intro v' h' row f
  rw [Nat.zero_add, List.nil_append] at row
  exact RunO.all rfl (RunC.ret ⟨_, rfl, row, f.weak (fun i g => by obtain ⟨_, _, e⟩ := g; cases e)⟩)
end Go.Proofs.Ytijfghknjkegpaa
end
section
set_option linter.unusedVariables false
set_option maxRecDepth 100000
open Go Go.Am Go.RowKit
namespace Go.Proofs.Ytijfghknjkegpaa
open Go.Proofs.Try
/-- The cells of a walk. -/
def wc (iv : Value) (B : Nat) (mv nv : Value) (bad : Bool) : List Value := [iv, .int .i64 (B : Int), mv, nv, .bool bad]
/-- A walk through a tree, in memory: its own block, the map's, the nodes' row. -/
structure TW (lo : Nat) (h : Heap) (iv : Value) (B wb mb : Nat) (nv : Value) (w : TS) : Prop where
  ow : Ow h wb (wc iv B (.slice (some ⟨mb, 0, none⟩) 512 (exc 512)) nv w.2.2)
  om : Ow h mb (is w.1)
  row : Row lo h nv 1 w.2.1.length (is w.2.1)
  len : w.1.length = 512
  ne : wb ≠ mb
  lw : wb < lo
  lm : mb < lo
  ln : lo ≤ h.next
/-- What a walk writes. -/
def TM (lo wb mb : Nat) : Nat → Prop := fun b => b = wb ∨ b = mb ∨ lo ≤ b
end Go.Proofs.Ytijfghknjkegpaa
end
section
set_option linter.unusedVariables false
set_option maxRecDepth 100000
open Go Go.Am Go.RowKit
namespace Go.Proofs.Ytijfghknjkegpaa
open Go.Proofs.Try
def treeW (L : List Int) (root : Int) : TS := tgo L (L.length / 64) 2 root 0 (List.replicate 512 0, [], false)
/-- Is there a tree at a root of a right device? -/
def treeOk (L : List Int) (root : Int) : Bool := root == 0 || (!(treeW L root).2.2 && !((treeW L root).1.any fun b => (treeW L root).2.1.contains b))
def treeM (L : List Int) (root : Int) : List Int := if root == 0 then List.replicate 512 0 else (treeW L root).1
def treeN (L : List Int) (root : Int) : List Int := if root == 0 then [] else (treeW L root).2.1
/-- A walk that is told. -/
def WK (lo : Nat) (h : Heap) (wb : Nat) (iv : Value) (B : Nat) (m ns : List Int) : Prop :=
  ∃ mb nv, lo ≤ wb ∧ lo ≤ mb ∧ Ow h wb (wc iv B (.slice (some ⟨mb, 0, none⟩) 512 (exc 512)) nv false) ∧ Ow h mb (is m) ∧ Row lo h nv 1 ns.length (is ns) ∧ m.length = 512 ∧ ns.length ≤ 73
theorem Row.lo {lo lo' : Nat} {h : Heap} {v : Value} {s n : Nat} {cells : List Value} (r : Row lo h v s n cells) (hl : lo' ≤ lo) : Row lo' h v s n cells := by
  refine ⟨r.1, r.2.imp (fun x => x) ?_⟩
  rintro ⟨b, h1, h2⟩
  exact ⟨b, by omega, h2⟩
end Go.Proofs.Ytijfghknjkegpaa
end
section
set_option linter.unusedVariables false
set_option maxRecDepth 100000
open Go Go.Am Go.RowKit
namespace Go.Proofs.Ytijfghknjkegpaa
open Go.Proofs.Try
/-- A chain of records, followed: what was met, and the block that is none of them. -/
def folB (B : Nat) (bs : List Int) (a : Int) : Bool := (decide (a < 2) || decide (a ≥ (B : Int))) || bs.contains a
def fol (L : List Int) (B : Nat) : Nat → Int → List R8 → List Int → Nat → List R8 × List Int × Nat × Int
  | 0, a, l, bs, w => (l, bs, w, a)
  | f + 1, a, l, bs, w => if a = 0 then (l, bs, w, 0) else if folB B bs a then (l, bs, w, a) else
    if (rCode (blkI L a.toNat) != 0) || !mayR l w (rPar (blkI L a.toNat)) then (l, bs, w, a) else
      fol L B f (rPar (blkI L a.toNat)).nx (l ++ [rPar (blkI L a.toNat)]) (bs ++ [a]) (if (rPar (blkI L a.toNat)).ki == 0 then w + 1 else w)
def folOf (L : List Int) (a : Int) : List R8 × List Int × Nat × Int := fol L (L.length / 64) (L.length / 64) a [] [] 0
/-- What follow leaves in memory. -/
def FolR (lo : Nat) (h : Heap) (kb : Nat) (x : List R8 × List Int × Nat × Int) : Prop :=
  ∃ lv bv, lo ≤ kb ∧ Ow h kb [lv, bv, .int .i64 (x.2.2.1 : Int), .int .i64 x.2.2.2] ∧ Row lo h lv 8 x.1.length (recCs x.1) ∧ Row lo h bv 1 x.2.1.length (is x.2.1)
end Go.Proofs.Ytijfghknjkegpaa
end
section
set_option linter.unusedVariables false
set_option linter.unusedSectionVars false
set_option maxRecDepth 100000
open Go Go.Am Go.RowKit
namespace Go.Proofs.Ytijfghknjkegpaa
open Go.Proofs.Try
def bo (l : List Bool) : List Value := l.map Value.bool
theorem bo_part {l : List Bool} {i : Nat} (h : i < l.length) : apart prog 4 (bo l) (i * 1) = some (.bool (l.getD i false)) := by
  show nth (bo l) (i * 1) = _
  rw [Nat.mul_one, nth_eq, bo, List.getElem?_map, List.getElem?_eq_getElem h, List.getD_eq_getElem?_getD, List.getElem?_eq_getElem h]; rfl
/-- A tree that was walked: its block, its map, its nodes. -/
abbrev Tr3 : Type := Nat × List Int × List Int
def tps (l : List Tr3) : List Value := l.map fun t => .pointer (some ⟨t.1, 0, none⟩)
/-- It reads so, and is in range. -/
def TrOk (B : Nat) (h : Heap) (t : Tr3) : Prop :=
  ∃ iv mv nv, Ow h t.1 (wc iv B mv nv false) ∧ Sl h mv 1 t.2.1.length (is t.2.1) ∧ Sl h nv 1 t.2.2.length (is t.2.2) ∧ t.2.1.length = 512 ∧ t.2.2.length ≤ 100000 ∧ (∀ x ∈ t.2.1, 0 ≤ x ∧ x < (B : Int)) ∧ ∀ x ∈ t.2.2, 0 ≤ x ∧ x < (B : Int)
/-- The marks. -/
structure CW (h : Heap) (B pb nb rb sb : Nat) (N R S : List Bool) : Prop where
  op : Ow h pb [.slice (some ⟨nb, 0, none⟩) B (exc B), .slice (some ⟨rb, 0, none⟩) B (exc B), .slice (some ⟨sb, 0, none⟩) B (exc B)]
  on : Ow h nb (bo N)
  or : Ow h rb (bo R)
  os : Ow h sb (bo S)
  ln : N.length = B
  lr : R.length = B
  ls : S.length = B
structure CD (pb nb rb sb : Nat) : Prop where
  pn : pb ≠ nb
  pr : pb ≠ rb
  ps : pb ≠ sb
  nr : nb ≠ rb
  ns : nb ≠ sb
  rs : rb ≠ sb
section
variable {h : Heap} {B pb nb rb sb : Nat} {N R S : List Bool} (d : CD pb nb rb sb) (t : CW h B pb nb rb sb N R S)
include d t
end
/-- What a block is of two kinds. -/
def isN (TL : List Tr3) (j : Nat) : Bool := TL.any fun t => t.2.2.contains (j : Int)
def isS (TL : List Tr3) (j : Nat) : Bool := TL.any fun t => decide (j ≠ 0) && t.2.1.contains (j : Int)
def clP (bl : List Int) (TL : List Tr3) (j : Nat) : Bool := (isS TL j && (isN TL j || bl.contains (j : Int))) || (isN TL j && bl.contains (j : Int))
def imC (s5 : List Value) (sl : Value) (rv bv tv : Value) : List Value := s5 ++ [sl, rv, bv, tv]
end Go.Proofs.Ytijfghknjkegpaa
end
section
set_option linter.unusedVariables false
set_option linter.unusedSectionVars false
set_option maxRecDepth 100000
open Go Go.Am Go.RowKit
namespace Go.Proofs.Ytijfghknjkegpaa
open Go.Proofs.Try
/-- The cells of an open image. -/
def imc (s : S5) (slot : Int) (rv bv tv : Value) : List Value := sc5 s ++ [.int .i64 slot, rv, bv, tv]
end Go.Proofs.Ytijfghknjkegpaa
end
section
set_option linter.unusedVariables false
set_option maxRecDepth 100000
open Go Go.Am Go.RowKit
namespace Go.Proofs.Ytijfghknjkegpaa
open Go.Proofs.Try
/-- Why there is no tree. -/
def treeE (L : List Int) (root : Int) : Int := if devOk L.length then (if treeOk L root then 0 else 6) else 2
def secOk (s : Int) : Bool := !(decide (s < 0) || decide (s ≥ 512))
/-- Why a sector has no block. -/
def sectorE (L : List Int) (root s : Int) : Int := if treeE L root = 0 then (if secOk s then 0 else 3) else treeE L root
def sectorV (L : List Int) (root s : Int) : Int := if treeE L root = 0 then (if secOk s then (treeM L root).getD s.toNat 0 else 0) else 0
def offMap (B b : Int) : Bool := b != 0 && (decide (b < 2) || decide (b ≥ B))
/-- Why a map is none. -/
def mapE (m : List Int) (B : Int) : Int := if m.length = 512 then (if m.any (offMap B) then 1 else 0) else 2
end Go.Proofs.Ytijfghknjkegpaa
end
section
set_option linter.unusedVariables false
set_option maxRecDepth 100000
open Go Go.Am
namespace Go.Proofs.Ytijfghknjkegpaa
open Go.Proofs.Try
theorem indexIo_ok {h : Heap} {v : Value} {n : Nat} {acs : List Value} (sl : Sl h v 3 n acs) {u : Nat → Value} (hu : ∀ j, j < n → apart prog 58 acs (j * 3) = some (u j)) {g : FuncId} {cap : List Value} {p : Nat → Bool}
    (hg : ∀ j, j < n → ∀ h1, Fr no h h1 → RunF prog g (u j :: cap) h1 (fun v h2 => v = .bool (p j) ∧ Fr no h1 h2)) (hm : n ≤ 4611686018427387904) :
    RunF prog 47 [v, .func (.func g) #[] ⟨cap⟩] h fun r h' => Fr no h h' ∧ ((∃ i : Nat, i < n ∧ r = .int .i64 (i : Int) ∧ p i = true ∧ ∀ j, j < i → p j = false) ∨ (r = .int .i64 (-1) ∧ ∀ j, j < n → p j = false)) := by
  refine RunF.walk func47 rfl rfl ?_
  obtain ⟨A, c, rfl, hc, _⟩ := sl.form
  refine RunC.seq (RunC.region (RunO.all rfl ?_))
  refine RunC.seq (RunC.seq (RunC.region (RunO.all rfl ?_)))
  refine RunC.block ?_
  let I : Nat → Env → Heap → Prop := fun k E h' => ∃ i : Nat, i + k = n ∧ (∀ j, j < i → p j = false) ∧ Fr no h h' ∧ Le (upd (upd (upd (upd E0 0 (.slice A n c)) 1 (.func (.func g) #[] ⟨cap⟩)) 7 (.int .i64 n)) 8 (.int .i64 i)) E
  refine RunC.loop I ?_ (k := n) ?_
  · rintro k E h' ⟨i, hi, hp, hf, hE⟩
    refine RunC.le hE ?_
    clear hE
    refine RunC.seq (RunC.region (RunO.all rfl ?_))
    refine RunC.seq (RunC.cond rfl (fun hlt => ?_) (fun hge => ?_))
    · have hlt := of_decide_eq_true hlt
      have h1 : i < n := by omega
      refine RunC.skip ?_
      refine RunC.seq (RunC.block ?_)
      refine RunC.seq (RunC.region (RunO.all rfl ?_))
      refine RunC.seq (RunC.region (RunO.part 3 rfl ?_))
      refine RunO.at (s := 3) rfl rfl (sl.fr0 hf) rfl rfl h1 (hu i h1) rfl rfl rfl ?_
      refine RunO.call rfl rfl ?_
      refine RunF.mono (hg i h1 _ hf) ?_
      rintro _ h2 ⟨rfl, f2⟩
      refine ⟨_, rfl, RunO.all rfl ?_⟩
      refine RunC.cond rfl (fun ht => ?_) (fun hn => ?_)
      · refine RunC.seq (RunC.region (RunO.all rfl (RunC.ret ⟨_, rfl, hf.quiet f2, .inl ⟨i, h1, rfl, ht, hp⟩⟩)))
      · refine RunC.skip (RunC.region (RunO.all rfl ?_))
        refine ⟨k - 1, by omega, i + 1, by omega, fun j hj => ?_, hf.quiet f2, Le.cons (inc64 (by omega)) (Le.cons rfl (Le.cons rfl (Le.cons rfl (Le.nil _))))⟩
        rcases Nat.lt_or_ge j i with q | q
        · exact hp j q
        · rw [show j = i by omega]; exact hn
    · have hge := of_decide_eq_false hge
      refine RunC.exit ?_
      exact RunC.seq (RunC.region (RunO.all rfl (RunC.ret ⟨_, rfl, hf, .inr ⟨rfl, fun j hj => hp j (by omega)⟩⟩)))
  · exact ⟨0, by omega, fun j hj => absurd hj (Nat.not_lt_zero _), Fr.refl _ _, Le.cons rfl (Le.cons rfl (Le.cons rfl (Le.cons rfl (Le.nil _))))⟩
theorem containsIo_ok {h : Heap} {v : Value} {n : Nat} {acs : List Value} (sl : Sl h v 3 n acs) {u : Nat → Value} (hu : ∀ j, j < n → apart prog 58 acs (j * 3) = some (u j)) {g : FuncId} {cap : List Value} {p : Nat → Bool}
    (hg : ∀ j, j < n → ∀ h1, Fr no h h1 → RunF prog g (u j :: cap) h1 (fun v h2 => v = .bool (p j) ∧ Fr no h1 h2)) (hm : n ≤ 4611686018427387904) :
    RunF prog 44 [v, .func (.func g) #[] ⟨cap⟩] h fun r h' => r = .bool (anyI p n) ∧ Fr no h h' := by
  refine RunF.walk func44 rfl rfl ?_
  refine RunC.seq (RunC.region (RunO.all rfl ?_))
  refine RunC.seq (RunC.region (RunO.part 2 rfl ?_))
  refine RunO.callD (indexIo_ok sl hu hg hm) rfl rfl rfl ?_
  rintro _ h2 ⟨f2, ⟨i, hi, rfl, hp, _⟩ | ⟨rfl, hp⟩⟩
  · refine RunO.all rfl (RunC.ret ⟨_, rfl, ?_, f2⟩)
    rw [anyI_true hi hp]
    exact congrArg Value.bool (decide_eq_true (Int.natCast_nonneg i))
  · refine RunO.all rfl (RunC.ret ⟨_, rfl, ?_, f2⟩)
    rw [anyI_false hp]; rfl
end Go.Proofs.Ytijfghknjkegpaa
end
section
set_option linter.unusedVariables false
set_option maxRecDepth 100000
open Go Go.Am
namespace Go.Proofs.Ytijfghknjkegpaa
open Go.Proofs.Try
abbrev IoT := Int × Int × List Int × Unit
/-- A device step's cells. -/
def IoK (h : Heap) (x : IoT) (cs : List Value) : Prop := ∃ dv, cs = [.int .i64 x.1, .int .i64 x.2.1, dv] ∧ Sl h dv 1 x.2.2.1.length (us x.2.2.1) ∧ Byt x.2.2.1
/-- A slice of device steps. -/
def Ios (h : Heap) (v : Value) (l : List IoT) : Prop := ∃ acs, Sl h v 3 l.length acs ∧ ∀ (j : Nat) (x : IoT), l[j]? = some x → IoK h x ((acs.drop (j * 3)).take 3)
theorem IoK.ex {h h' : Heap} {x : IoT} {cs : List Value} (k : IoK h x cs) (e : Ex h h') : IoK h' x cs := by
  obtain ⟨dv, h1, h2, h3⟩ := k
  exact ⟨dv, h1, h2.ex e, h3⟩
theorem Ios.ex {h h' : Heap} {v : Value} {l : List IoT} (k : Ios h v l) (e : Ex h h') : Ios h' v l := by
  obtain ⟨acs, h1, h2⟩ := k
  exact ⟨acs, h1.ex e, fun j x hx => (h2 j x hx).ex e⟩
theorem clone8_ok {h : Heap} {v : Value} {l : List Int} (sl : Sl h v 1 l.length (us l)) (hb : 2 * l.length ≤ 281474976710656) :
    RunF prog 41 [v] h fun r h' => Osl h.next h' r 1 l.length (us l) ∧ Fr no h h' ∧ (l.length = 0 → h.next ≤ h'.next) := by
  refine RunF.walk func41 rfl rfl ?_
  refine RunC.seq (RunC.region (RunO.all rfl ?_))
  obtain ⟨hl, hm, ⟨rfl, h0⟩ | ⟨b, o, c, rfl, hc, rd⟩⟩ := sl
  · refine RunC.seq (RunC.seq (RunC.region (RunO.all rfl ?_)))
    refine RunC.cond rfl (fun _ => ?_) (fun g => by cases g)
    exact RunC.seq (RunC.region (RunO.all rfl (RunC.ret ⟨_, rfl, ⟨hl, hm, .inl ⟨rfl, h0⟩⟩, Fr.refl _ _, fun _ => Nat.le_refl _⟩)))
  · refine RunC.seq (RunC.seq (RunC.region (RunO.all rfl ?_)))
    refine RunC.cond rfl (fun g => by cases g) (fun _ => RunC.skip ?_)
    refine RunC.seq (RunC.region (RunO.part 2 (h1 := h.push ⟨[], true⟩) rfl ?_))
    have f1 : Fr no h (h.push ⟨[], true⟩) := Fr.push _ _ _
    have ow : Ow (h.push ⟨[], true⟩) h.next [] := Ow.push _ _
    by_cases hz : l.length = 0
    · have hn : l = [] := List.eq_nil_of_length_eq_zero hz
      subst hn
      have key : aappend prog (h.push ⟨[], true⟩) 44 44 (.slice (some ⟨h.next, 0, none⟩) 0 (exc 0)) (.slice (some ⟨b, o, none⟩) 0 c) = some (.slice (some ⟨h.next, 0, none⟩) 0 (exc 0), h.push ⟨[], true⟩) := by
        have hs : asrc (h.push ⟨[], true⟩) 1 (.slice (some ⟨b, o, none⟩) 0 c) = some (0, []) := ((rd.fr f1 (fun g => g)).sl (s := 1) (n := 0) rfl (Nat.zero_le _) hc).src0
        show (match asrc (h.push ⟨[], true⟩) 1 (.slice (some ⟨b, o, none⟩) 0 c) with
          | some (0, _) => some (Value.slice (some ⟨h.next, 0, none⟩) 0 (exc 0), h.push ⟨[], true⟩)
          | some (m + 1, news) => _
          | none => none) = _
        rw [hs]
      refine RunO.one rfl (v := .slice (some ⟨h.next, 0, none⟩) 0 (exc 0)) (h1 := h.push ⟨[], true⟩) (abuiltin_app key) rfl ?_
      exact RunO.all rfl (RunC.ret ⟨_, rfl, ⟨rfl, hm, .inr ⟨h.next, exc 0, Nat.le_refl _, rfl, Cp.exc (Nat.le_refl _), ow⟩⟩, f1, fun _ => Nat.le_succ _⟩)
    · have key := append_full (P := prog) (t := 44) (e := 5) (s := 1) (k := 0) (m := l.length) (c := exc 0) (c' := c) (olds := []) (news := us l) (b := ⟨h.next, 0, none⟩) (a := ⟨b, o, none⟩) rfl rfl rfl rfl rfl (Nat.le_refl 1) ow.all rfl rfl (by show 0 < 0 + l.length; omega) (rd.fr f1 (fun g => g)) (by rw [us_len, Nat.mul_one]) (by omega)
        (by show 2 * (0 + l.length) * 1 ≤ _; omega) (by omega)
      rw [Nat.zero_add, List.nil_append] at key
      refine RunO.one rfl (abuiltin_app key) rfl ?_
      refine RunO.all rfl (RunC.ret ⟨_, rfl, ⟨hl, hm, .inr ⟨_, _, Nat.le_succ _, rfl, Cp.unkc _ _, Ow.push _ _⟩⟩, f1.same (Fr.push _ _ _), fun _ => Nat.le_succ_of_le (Nat.le_succ _)⟩)
/-- Is a step right? -/
def ioR (k a : Int) (n : Nat) (b : Int) : Bool := if (k == 1) = true then decide (a ≥ 0) && (decide (a < b) && ((n : Int) == 64)) else if (k == 2) = true then a == 0 && ((n : Int) == 0) else false
theorem devRight_ok {h : Heap} {k a b : Int} {A : Option Addr} {n c : Nat} : RunF prog 46 [.agg ⟨[.int .i64 k, .int .i64 a, .slice A n c]⟩, .int .i64 b] h fun v h' => v = .bool (ioR k a n b) ∧ Fr no h h' := by
  refine RunF.walk func46 rfl rfl ?_
  refine RunC.seq (RunC.region (RunO.all (h1 := h.push ⟨[.int .i64 k, .int .i64 a, .slice A n c], true⟩) rfl ?_))
  have ow : Ow (h.push ⟨[.int .i64 k, .int .i64 a, .slice A n c], true⟩) h.next [.int .i64 k, .int .i64 a, .slice A n c] := Ow.push _ _
  have f1 : Fr no h (h.push ⟨[.int .i64 k, .int .i64 a, .slice A n c], true⟩) := Fr.push _ _ _
  generalize h.push ⟨[.int .i64 k, .int .i64 a, .slice A n c], true⟩ = h1 at *
  generalize h.next = p at *
  refine RunC.seq (RunC.seq (RunC.region (RunO.part 1 rfl ?_)))
  refine RunO.load (v := .int .i64 k) rfl (ow.all.cell1 (k := 0) rfl rfl) rfl (RunO.nil ?_)
  refine RunC.block ?_
  refine RunC.seq (RunC.region (RunO.all rfl ?_))
  unfold ioR
  cases (k == 1) with
  | true =>
    refine RunC.cond rfl (fun _ => ?_) (fun g => by cases g)
    refine RunC.seq (RunC.region (RunO.part 1 rfl ?_))
    refine RunO.load (v := .int .i64 a) rfl (ow.all.cell1 (k := 1) rfl rfl) rfl ?_
    refine RunO.part 2 rfl ?_
    cases decide (a ≥ 0) with
    | false => exact RunO.all rfl (RunC.ret ⟨_, rfl, rfl, f1⟩)
    | true =>
      refine RunO.part 1 rfl ?_
      refine RunO.loadG (v := .int .i64 a) rfl rfl (ow.all.cell1 (k := 1) rfl rfl) rfl ?_
      refine RunO.part 4 rfl ?_
      cases decide (a < b) with
      | false => exact RunO.all rfl (RunC.ret ⟨_, rfl, rfl, f1⟩)
      | true =>
        refine RunO.part 1 rfl ?_
        refine RunO.loadG (v := .slice A n c) rfl rfl (ow.all.cell1 (k := 2) rfl rfl) rfl ?_
        exact RunO.all rfl (RunC.ret ⟨_, rfl, rfl, f1⟩)
  | false =>
    refine RunC.cond rfl (fun g => by cases g) (fun _ => ?_)
    refine RunC.seq (RunC.region (RunO.all rfl ?_))
    cases (k == 2) with
    | false =>
      refine RunC.cond rfl (fun g => by cases g) (fun _ => RunC.skip ?_)
      exact RunC.seq (RunC.region (RunO.all rfl (RunC.ret ⟨_, rfl, rfl, f1⟩)))
    | true =>
      refine RunC.cond rfl (fun _ => ?_) (fun g => by cases g)
      refine RunC.seq (RunC.region (RunO.part 1 rfl ?_))
      refine RunO.load (v := .int .i64 a) rfl (ow.all.cell1 (k := 1) rfl rfl) rfl ?_
      refine RunO.part 2 rfl ?_
      cases (a == 0) with
      | false => exact RunO.all rfl (RunC.ret ⟨_, rfl, rfl, f1⟩)
      | true =>
        refine RunO.part 1 rfl ?_
        refine RunO.loadG (v := .slice A n c) rfl rfl (ow.all.cell1 (k := 2) rfl rfl) rfl ?_
        exact RunO.all rfl (RunC.ret ⟨_, rfl, rfl, f1⟩)
theorem devRightC_ok {h : Heap} {k a b : Int} {A : Option Addr} {n c q : Nat} (rd : Rd h ⟨q, 0, none⟩ [.int .i64 b]) : RunF prog 45 [.agg ⟨[.int .i64 k, .int .i64 a, .slice A n c]⟩, .pointer (some ⟨q, 0, none⟩)] h fun v h' => v = .bool (!ioR k a n b) ∧ Fr no h h' := by
  refine RunF.walk func45 rfl rfl ?_
  refine RunC.seq (RunC.region (RunO.all (h1 := h.push ⟨[.int .i64 k, .int .i64 a, .slice A n c], true⟩) rfl ?_))
  have ow : Ow (h.push ⟨[.int .i64 k, .int .i64 a, .slice A n c], true⟩) h.next [.int .i64 k, .int .i64 a, .slice A n c] := Ow.push _ _
  have f1 : Fr no h (h.push ⟨[.int .i64 k, .int .i64 a, .slice A n c], true⟩) := Fr.push _ _ _
  have rd1 := rd.fr f1 (fun g => g)
  generalize h.push ⟨[.int .i64 k, .int .i64 a, .slice A n c], true⟩ = h1 at *
  generalize h.next = p at *
  refine RunC.seq (RunC.region ?_)
  refine RunO.load (v := .agg ⟨[.int .i64 k, .int .i64 a, .slice A n c]⟩) rfl (ow.all.part (k := 0) rfl) rfl ?_
  refine RunO.load (v := .int .i64 b) rfl (rd1.cell1 (k := 0) rfl rfl) rfl ?_
  refine RunO.callD devRight_ok rfl rfl rfl ?_
  rintro _ h2 ⟨rfl, f2⟩
  exact RunO.all rfl (RunC.ret ⟨_, rfl, rfl, f1.same f2⟩)
/-- Why steps are not a device's. -/
def stepsE (n : Nat) (l : List IoT) : Int := if devOk n then (if decide ((l.length : Int) > 1048576) then 2 else if l.any (fun x => !ioR x.1 x.2.1 x.2.2.1.length (n / 64 : Nat)) then 1 else 0) else 2
theorem io_part {acs : List Value} {n j : Nat} (hl : acs.length = n * 3) (hj : j < n) : apart prog 58 acs (j * 3) = some (.agg ⟨(acs.drop (j * 3)).take 3⟩) := by
  show (match takeN 3 (dropN (j * 3) acs) with | some l => some (Value.agg ⟨l⟩) | none => none) = _
  rw [takeN_eq, dropN_eq, if_pos (by rw [List.length_drop]; omega)]
theorem devSteps_ok {h : Heap} {A : Option Addr} {c n : Nat} {v : Value} {l : List IoT} (il : Ios h v l) (hm : n ≤ 4611686018427387904) (hm2 : l.length ≤ 4611686018427387904) :
    RunF prog 32 [.slice A n c, v] h fun r h' => r = .int .i64 (stepsE n l) ∧ Fr no h h' := by
  obtain ⟨acs, sl, hk⟩ := il
  refine RunF.walk func32 rfl rfl ?_
  refine RunC.seq (RunC.region (RunO.all rfl ?_))
  refine RunC.seq (RunC.region (RunO.part 1 rfl ?_))
  refine RunO.callD (devCheck_ok hm) rfl rfl rfl ?_
  rintro _ _ ⟨rfl, rfl⟩
  have hsE : stepsE n l = if devOk n then (if decide ((l.length : Int) > 1048576) then 2 else if l.any (fun x => !ioR x.1 x.2.1 x.2.2.1.length (n / 64 : Nat)) then 1 else 0) else 2 := rfl
  rw [hsE]
  refine RunO.part 4 (h1 := h.push ⟨[.int .i64 0], true⟩) rfl ?_
  refine RunO.store rfl rfl (store1_ow (Ow.push h [.int .i64 0]) rfl rfl rfl (Nat.le_refl 1)) ?_
  change RunO _ _ _ _ _ ((h.push ⟨[.int .i64 0], true⟩).put h.next (some ⟨[.int .i64 (if devOk n then (n / 64 : Nat) else (0 : Nat))], true⟩)) _
  have ow : Ow ((h.push ⟨[.int .i64 0], true⟩).put h.next (some ⟨[.int .i64 (if devOk n then (n / 64 : Nat) else (0 : Nat))], true⟩)) h.next [.int .i64 (if devOk n then (n / 64 : Nat) else (0 : Nat))] := Ow.put _ (Nat.lt_succ_self _)
  have f1 : Fr no h ((h.push ⟨[.int .i64 0], true⟩).put h.next (some ⟨[.int .i64 (if devOk n then (n / 64 : Nat) else (0 : Nat))], true⟩)) := (Fr.push _ _ _).trans (Fr.put (m := (· = h.next)) _ (.inl rfl)) (fun j hj => .inr (by omega))
  generalize (h.push ⟨[.int .i64 0], true⟩).put h.next (some ⟨[.int .i64 (if devOk n then (n / 64 : Nat) else (0 : Nat))], true⟩) = h1 at *
  generalize h.next = p at *
  have sl1 := sl.fr0 f1
  refine RunO.all rfl ?_
  cases hd0 : devOk n with
  | false =>
    refine RunC.seq (RunC.block ?_)
    refine RunC.seq (RunC.region (RunO.all rfl (RunC.cond rfl (fun _ => ?_) (fun g => by cases g))))
    exact RunC.seq (RunC.region (RunO.all rfl (RunC.ret ⟨_, rfl, rfl, f1⟩)))
  | true =>
  rw [hd0, if_pos rfl] at ow
  refine RunC.seq (RunC.block ?_)
  refine RunC.seq (RunC.region (RunO.all rfl (RunC.cond rfl (fun g => by cases g) (fun _ => ?_))))
  obtain ⟨B, d, rfl, hd, _⟩ := sl.form
  refine RunC.seq (RunC.region (RunO.all rfl ?_))
  cases decide ((l.length : Int) > 1048576) with
  | true =>
    refine RunC.cond rfl (fun _ => ?_) (fun g => by cases g)
    exact RunC.seq (RunC.region (RunO.all rfl (RunC.ret ⟨_, rfl, rfl, f1⟩)))
  | false =>
    refine RunC.cond rfl (fun g => by cases g) (fun _ => ?_)
    refine RunC.seq (RunC.region (RunO.part 2 rfl ?_))
    refine RunO.callD (containsIo_ok sl1 (u := fun j => .agg ⟨(acs.drop (j * 3)).take 3⟩) (fun j hj => io_part sl.1 hj) (p := fun j => match l[j]? with | some x => !ioR x.1 x.2.1 x.2.2.1.length (n / 64 : Nat) | none => false) (fun j hj h2 f2 => ?_) hm2) rfl rfl rfl ?_
    · obtain ⟨dv, e1, e2, _⟩ := hk j _ (List.getElem?_eq_getElem hj)
      rw [e1]
      obtain ⟨D, dc, rfl, _, _⟩ := e2.form
      have := devRightC_ok (h := h2) (k := (l[j]).1) (a := (l[j]).2.1) (b := (n / 64 : Nat)) (A := D) (n := (l[j]).2.2.1.length) (c := dc) (q := p) ((ow.fr f2 (fun g => g)).all)
      simp only [List.getElem?_eq_getElem hj]
      exact this
    rintro _ h2 ⟨rfl, f2⟩
    rw [anyI_list (q := fun x : IoT => !ioR x.1 x.2.1 x.2.2.1.length (n / 64 : Nat)) (fun j x hx => by simp only [hx])]
    refine RunO.all rfl ?_
    cases l.any (fun x => !ioR x.1 x.2.1 x.2.2.1.length (n / 64 : Nat)) with
    | true =>
      refine RunC.cond rfl (fun _ => ?_) (fun g => by cases g)
      exact RunC.seq (RunC.region (RunO.all rfl (RunC.ret ⟨_, rfl, rfl, f1.same f2⟩)))
    | false =>
      refine RunC.cond rfl (fun g => by cases g) (fun _ => RunC.skip ?_)
      exact RunC.seq (RunC.region (RunO.all rfl (RunC.ret ⟨_, rfl, rfl, f1.same f2⟩)))
end Go.Proofs.Ytijfghknjkegpaa
end
section
set_option linter.unusedVariables false
set_option maxRecDepth 100000
open Go Go.Am
namespace Go.Proofs.Ytijfghknjkegpaa
open Go.Proofs.Try
/-- A block written over. -/
def setBlk (o : List Int) (i : Nat) (d : List Int) : List Int := o.take (i * 64) ++ d ++ o.drop (i * 64 + 64)
theorem setBlk_len {o d : List Int} {i : Nat} (hi : (i + 1) * 64 ≤ o.length) (hd : d.length = 64) : (setBlk o i d).length = o.length := by
  unfold setBlk
  rw [List.length_append, List.length_append, List.length_take, List.length_drop, hd]; omega
def applyStep (o : List Int) (x : IoT) : List Int := if (x.1 == 1) = true then setBlk o x.2.1.toNat x.2.2.1 else o
def applyL (o : List Int) (l : List IoT) : List Int := l.foldl applyStep o
/-- A step that is right. -/
def ioOk (n : Nat) (x : IoT) : Prop := x.1 = 1 ∧ (∃ a : Nat, x.2.1 = (a : Int) ∧ a < n / 64) ∧ x.2.2.1.length = 64 ∨ x.1 = 2 ∧ x.2.1 = 0 ∧ x.2.2.1 = []
theorem ioR_iff {n : Nat} {x : IoT} : ioR x.1 x.2.1 x.2.2.1.length (n / 64 : Nat) = true ↔ ioOk n x := by
  unfold ioR ioOk
  by_cases h1 : x.1 = 1
  · rw [if_pos (beq_iff_eq.2 h1)]
    simp only [Bool.and_eq_true, decide_eq_true_eq, beq_iff_eq]
    constructor
    · rintro ⟨h2, h3, h4⟩
      exact .inl ⟨h1, ⟨x.2.1.toNat, by omega, by omega⟩, by omega⟩
    · rintro (⟨_, ⟨a, h2, h3⟩, h4⟩ | ⟨h2, _⟩)
      · exact ⟨by omega, by omega, by omega⟩
      · omega
  · rw [if_neg (fun g => h1 (beq_iff_eq.1 g))]
    by_cases h2 : x.1 = 2
    · rw [if_pos (beq_iff_eq.2 h2)]
      simp only [Bool.and_eq_true, beq_iff_eq]
      constructor
      · rintro ⟨h3, h4⟩
        exact .inr ⟨h2, h3, List.eq_nil_of_length_eq_zero (by omega)⟩
      · rintro (⟨h3, _⟩ | ⟨_, h3, h4⟩)
        · omega
        · exact ⟨h3, by rw [h4]; rfl⟩
    · rw [if_neg (fun g => h2 (beq_iff_eq.1 g))]
      constructor
      · intro g; cases g
      · rintro (⟨h3, _⟩ | ⟨h3, _⟩)
        · exact absurd h3 h1
        · exact absurd h3 h2
theorem stepsE_zero {n : Nat} {l : List IoT} (h : stepsE n l = 0) : devOk n = true ∧ l.length ≤ 1048576 ∧ ∀ x ∈ l, ioOk n x := by
  unfold stepsE at h
  split at h
  · rename_i h1
    split at h
    · cases h
    · rename_i h2
      split at h
      · cases h
      · rename_i h3
        refine ⟨h1, ?_, fun x hx => ?_⟩
        · have := of_decide_eq_false (Bool.eq_false_iff.2 h2); omega
        · refine ioR_iff.1 ?_
          cases e : ioR x.1 x.2.1 x.2.2.1.length (n / 64 : Nat) with
          | true => rfl
          | false => exact absurd (List.any_eq_true.2 ⟨x, hx, by rw [e]; rfl⟩) h3
  · cases h
theorem applyStep_len {n : Nat} {o : List Int} {x : IoT} (hn : o.length = n) (hx : ioOk n x) : (applyStep o x).length = n := by
  unfold applyStep
  split
  · rename_i h1
    rcases hx with ⟨_, ⟨a, e, ha⟩, hd⟩ | ⟨h2, _⟩
    · rw [e, Int.toNat_natCast, setBlk_len (by omega) hd, hn]
    · rw [h2] at h1; cases h1
  · exact hn
theorem foldl_take {α β : Type} (f : β → α → β) (b : β) {l : List α} {i : Nat} (hi : i < l.length) : (l.take (i + 1)).foldl f b = f ((l.take i).foldl f b) l[i] := by
  rw [List.take_succ_eq_append_getElem hi, List.foldl_append]; rfl
theorem us_set {o d : List Int} {i : Nat} (hd : d.length = 64) : (us o).take (i * 64) ++ (us d).take 64 ++ (us o).drop (i * 64 + 64) = us (setBlk o i d) := by
  rw [List.take_of_length_le (l := us d) (by rw [us_len, hd]; exact Nat.le_refl _)]
  unfold us setBlk
  rw [List.map_append, List.map_append, List.map_take, List.map_drop]
set_option maxHeartbeats 4000000 in
theorem devApply_ok {h : Heap} {iv v : Value} {L : List Int} {l : List IoT} (si : Sl h iv 1 L.length (us L)) (hL : 2 * L.length ≤ 281474976710656) (il : Ios h v l) (hm2 : l.length ≤ 4611686018427387904) :
    RunF prog 27 [iv, v] h fun r h' => Fr no h h' ∧ ((stepsE L.length l = 0 ∧ ∃ b c, h.next ≤ b ∧ r = .tuple #[.slice (some ⟨b, 0, none⟩) L.length c, .int .i64 0] ∧ Cp 1 L.length c ∧ Ow h' b (us (applyL L l))) ∨ (stepsE L.length l ≠ 0 ∧ r = .tuple #[.slice none 0 0, .int .i64 (stepsE L.length l)])) := by
  refine RunF.walk func27 rfl rfl ?_
  obtain ⟨A, c, rfl, hc, hA⟩ := si.form
  refine RunC.seq (RunC.region (RunO.all rfl ?_))
  refine RunC.seq (RunC.region (RunO.part 2 rfl ?_))
  refine RunO.callD (devSteps_ok il (by omega) hm2) rfl rfl rfl ?_
  rintro _ h1 ⟨rfl, f1⟩
  refine RunO.all rfl ?_
  refine RunC.seq (RunC.seq (RunC.region (RunO.all rfl ?_)))
  by_cases he : stepsE L.length l = 0
  case neg =>
    rw [show (stepsE L.length l != 0) = true from bne_iff_ne.2 he]
    refine RunC.cond rfl (fun _ => ?_) (fun g => by cases g)
    exact RunC.seq (RunC.region (RunO.all rfl (RunC.ret ⟨_, rfl, f1, .inr ⟨he, rfl⟩⟩)))
  rw [he]
  obtain ⟨hdev, hl20, hall⟩ := stepsE_zero he
  have hlen : 256 ≤ L.length := by
    unfold devOk at hdev
    simp at hdev
    omega
  refine RunC.cond rfl (fun g => by cases g) (fun _ => RunC.skip ?_)
  refine RunC.seq (RunC.region (RunO.part 1 rfl ?_))
  refine RunO.callD (clone8_ok (si.fr0 f1) hL) rfl rfl rfl ?_
  rintro w h2 ⟨os, f2, _⟩
  obtain ⟨_, _, ⟨_, h0⟩ | ⟨ob, oc, hob, rfl, hoc, ow⟩⟩ := os
  · omega
  refine RunO.all rfl ?_
  have f12 := f1.same f2
  obtain ⟨acs, sl, hk⟩ := il
  obtain ⟨B, d, rfl, hd, _⟩ := sl.form
  refine RunC.seq (RunC.seq (RunC.region (RunO.all rfl ?_)))
  refine RunC.block ?_
  have hob1 : h.next ≤ ob := Nat.le_trans f1.next hob
  let I : Nat → Env → Heap → Prop := fun k E h' => ∃ i : Nat, i + k = l.length ∧ Fr no h h' ∧ Ow h' ob (us ((l.take i).foldl applyStep L)) ∧ ((l.take i).foldl applyStep L).length = L.length ∧ Le (upd (upd (upd (upd E0 7 (.slice (some ⟨ob, 0, none⟩) L.length oc)) 18 (.slice B l.length d)) 19 (.int .i64 l.length)) 20 (.int .i64 i)) E
  refine RunC.loop I ?_ (k := l.length) ?_
  · rintro k E h' ⟨i, hi, hf, ow', hol, hE⟩
    refine RunC.le hE ?_
    clear hE
    refine RunC.seq (RunC.region (RunO.all rfl ?_))
    refine RunC.seq (RunC.cond rfl (fun hlt => ?_) (fun hge => ?_))
    · have hlt := of_decide_eq_true hlt
      have h1 : i < l.length := by omega
      have hx := hk i _ (List.getElem?_eq_getElem h1)
      have hok := hall _ (List.getElem_mem h1)
      have hstep := foldl_take applyStep L h1
      have hsl := applyStep_len hol hok
      rw [← hstep] at hsl
      obtain ⟨cur1, hc1⟩ : ∃ z, z = (l.take (i + 1)).foldl applyStep L := ⟨_, rfl⟩
      rw [← hc1] at hstep hsl
      generalize (l.take i).foldl applyStep L = cur at *
      have hpart := io_part (acs := acs) sl.1 h1
      obtain ⟨dv, e1, e2, _⟩ := hx
      rw [e1] at hpart
      generalize l[i] = x at *
      obtain ⟨kd, a, dl, u⟩ := x
      simp only at e1 e2 hpart
      refine RunC.skip ?_
      refine RunC.seq (RunC.block ?_)
      obtain ⟨D, dc, rfl, hdc, _⟩ := e2.form
      refine RunC.seq (RunC.region ?_)
      refine RunO.at (s := 3) rfl rfl (sl.fr0 hf) rfl rfl h1 hpart rfl rfl rfl ?_
      refine RunO.part 1 (h1 := h'.push ⟨[.int .i64 0, .int .i64 0, .slice none 0 0], true⟩) rfl ?_
      refine RunO.store rfl rfl (store_ow (s := 3) (Ow.push h' [.int .i64 0, .int .i64 0, .slice none 0 0]) rfl rfl rfl (Nat.le_of_ble_eq_true rfl)) (RunO.nil ?_)
      change RunC _ _ _ _ ((h'.push ⟨[.int .i64 0, .int .i64 0, .slice none 0 0], true⟩).put h'.next (some ⟨[.int .i64 kd, .int .i64 a, .slice D dl.length dc], true⟩)) _ _ _
      have ox : Ow ((h'.push ⟨[.int .i64 0, .int .i64 0, .slice none 0 0], true⟩).put h'.next (some ⟨[.int .i64 kd, .int .i64 a, .slice D dl.length dc], true⟩)) h'.next [.int .i64 kd, .int .i64 a, .slice D dl.length dc] := Ow.put _ (Nat.lt_succ_self _)
      have f4 : Fr no h' ((h'.push ⟨[.int .i64 0, .int .i64 0, .slice none 0 0], true⟩).put h'.next (some ⟨[.int .i64 kd, .int .i64 a, .slice D dl.length dc], true⟩)) := (Fr.push _ _ _).trans (Fr.put (m := (· = h'.next)) _ (.inl rfl)) (fun j hj => .inr (by omega))
      have ow4 := ow'.fr f4 (fun g => g)
      have hf4 := hf.same f4
      have hne : h'.next ≠ ob := by have := ow'.1; omega
      have sd4 := e2.fr0 hf4
      generalize (h'.push ⟨[.int .i64 0, .int .i64 0, .slice none 0 0], true⟩).put h'.next (some ⟨[.int .i64 kd, .int .i64 a, .slice D dl.length dc], true⟩) = h4 at *
      generalize h'.next = p at *
      refine RunC.seq (RunC.region (RunO.part 1 rfl ?_))
      refine RunO.load (v := .int .i64 kd) rfl (ox.all.cell1 (k := 0) rfl rfl) rfl (RunO.all rfl ?_)
      cases hkd : (kd == 1) with
      | false =>
        refine RunC.cond rfl (fun g => by cases g) (fun _ => RunC.skip ?_)
        refine RunC.region (RunO.all rfl ?_)
        have hst : cur1 = cur := by rw [hstep]; unfold applyStep; rw [if_neg (by simp only [hkd]; exact Bool.false_ne_true)]
        rw [← hst] at ow4
        exact ⟨k - 1, by omega, i + 1, by omega, hf4, hc1 ▸ ow4, hc1 ▸ hsl, Le.cons (inc64 (by omega)) (Le.cons rfl (Le.cons rfl (Le.cons rfl (Le.nil _))))⟩
      | true =>
        refine RunC.cond rfl (fun _ => ?_) (fun g => by cases g)
        have hst : cur1 = setBlk cur a.toNat dl := by rw [hstep]; unfold applyStep; rw [if_pos hkd]
        rcases hok with ⟨_, ⟨an, ea, ha⟩, hdl⟩ | ⟨h2, _⟩
        case inr => rw [show kd = 2 from h2] at hkd; cases hkd
        simp only at ea hdl
        subst ea
        rw [Int.toNat_natCast] at hst
        have hal : (an + 1) * 64 ≤ L.length := by omega
        refine RunC.draw (l0 := min (min h4.low h4.next) ob) (Nat.le_trans (Nat.min_le_left _ _) (Nat.min_le_left _ _)) rfl ?_
        have hn : min (min h4.low h4.next) ob ≤ h4.next := Nat.le_trans (Nat.min_le_left _ _) (Nat.min_le_right h4.low h4.next)
        refine RunD.pure hn rfl rfl (fun _ => rfl) rfl ?_
        refine RunD.pure hn rfl rfl (fun _ => rfl) rfl ?_
        refine RunD.load (v := .int .i64 an) hn rfl (ox.all.cell1 (k := 1) rfl rfl) rfl ?_
        have hof := devOf_ok (h := h4.lo h4.next) (b := ob) (o := 0) (c := oc) (i := an) (l := L) hal (by omega) hoc
        refine RunD.callD hof rfl rfl rfl ?_
        rintro _ _ ⟨⟨c', hc', rfl⟩, rfl⟩
        refine ⟨hn, ?_⟩
        refine RunD.pure hn rfl rfl (fun _ => rfl) rfl ?_
        refine RunD.load (v := .slice D dl.length dc) hn rfl (ox.all.cell1 (k := 2) rfl rfl) rfl ?_
        obtain ⟨h5, hcp, ow5, f5, hn5⟩ := copy_sl (P := prog) (t := 44) (h := h4.lo h4.next) (b := ob) (o := 0 + an * 64) (dn := 64) (dc := c') (k := 64) rfl rfl ow4 sd4 (allCells_map (fun _ => rfl) dl) (by rw [hdl]; rfl) (by rw [us_len, hol]; omega)
        rw [Nat.zero_add, us_set hdl, ← hst] at ow5
        rw [Nat.zero_add] at hcp
        have hl5 : min (min h4.low h4.next) ob ≤ h5.low := f5.low _ (Nat.le_trans (Nat.min_le_left _ _) (Nat.min_le_right _ _)) (Nat.le_trans (Nat.min_le_left _ _) (Nat.min_le_right _ _)) (fun j hj => hj ▸ Nat.min_le_right _ _)
        refine RunD.one (v := goInt (64 : Nat)) (f := .wr _) (h1 := h5) rfl (by rw [Nat.zero_add]; exact hcp) (fun _ => rfl) hl5 rfl ?_
        refine RunD.nil ⟨?_, fun lw hlw => ?_⟩
        · rw [show Nat.ble h4.next (h4.lo h4.next).low = true from Nat.ble_eq_true_of_le (Nat.le_refl _)]; rfl
        have f6 : Fr no h (h5.lo lw) := (hf4.fg0.trans f5.fg (fun j e => .inr (e ▸ hob1))).close (fun q a b _ => by
          have := hf4.low q a b (fun _ g => g.elim)
          have := hf4.next
          omega)
        refine RunC.region (RunO.all rfl ?_)
        exact ⟨k - 1, by omega, i + 1, by omega, f6, hc1 ▸ ow5, hc1 ▸ hsl, Le.cons (inc64 (by omega)) (Le.cons rfl (Le.cons rfl (Le.cons rfl (Le.nil _))))⟩
    · have hge := of_decide_eq_false hge
      refine RunC.exit ?_
      have hi2 : i = l.length := by omega
      subst hi2
      rw [List.take_length] at ow'
      exact RunC.seq (RunC.region (RunO.all rfl (RunC.ret ⟨_, rfl, hf, .inl ⟨rfl, ob, oc, hob1, rfl, hoc, ow'⟩⟩)))
  · exact ⟨0, by omega, f12, ow, rfl, Le.cons rfl (Le.cons rfl (Le.cons rfl (Le.cons rfl (Le.nil _))))⟩
end Go.Proofs.Ytijfghknjkegpaa
end
section
set_option linter.unusedVariables false
set_option maxRecDepth 100000
open Go Go.Am Go.RowKit
namespace Go.Proofs.Ytijfghknjkegpaa
open Go.Proofs.Try
theorem blk_get (l : List Int) (i j : Nat) : (blkI l i)[j]? = if j < 64 then l[i * 64 + j]? else none := by
  unfold blkI
  rw [List.getElem?_take, List.getElem?_drop]
theorem setBlk_get {o d : List Int} {i k : Nat} (hi : (i + 1) * 64 ≤ o.length) (hd : d.length = 64) : (setBlk o i d)[k]? = if i * 64 ≤ k ∧ k < i * 64 + 64 then d[k - i * 64]? else o[k]? := by
  unfold setBlk
  have h1 : (o.take (i * 64)).length = i * 64 := by rw [List.length_take]; omega
  by_cases c1 : k < i * 64
  · rw [if_neg (by omega), List.append_assoc, List.getElem?_append_left (by omega), List.getElem?_take, if_pos c1]
  · by_cases c2 : k < i * 64 + 64
    · rw [if_pos (by omega), List.append_assoc, List.getElem?_append_right (by omega), h1, List.getElem?_append_left (by omega)]
    · rw [if_neg (by omega), List.append_assoc, List.getElem?_append_right (by omega), h1, List.getElem?_append_right (by omega), hd, List.getElem?_drop]
      congr 1; omega
theorem blk_set_same {o d : List Int} {i : Nat} (hi : (i + 1) * 64 ≤ o.length) (hd : d.length = 64) : blkI (setBlk o i d) i = d := by
  apply List.ext_getElem?
  intro j
  rw [blk_get, setBlk_get hi hd]
  by_cases c : j < 64
  · rw [if_pos c, if_pos (by omega)]; congr 1; omega
  · rw [if_neg c, List.getElem?_eq_none (by omega)]
theorem blk_set_ne {o d : List Int} {i j : Nat} (hi : (i + 1) * 64 ≤ o.length) (hd : d.length = 64) (hne : j ≠ i) : blkI (setBlk o i d) j = blkI o j := by
  apply List.ext_getElem?
  intro k
  rw [blk_get, blk_get]
  by_cases c : k < 64
  · rw [if_pos c, if_pos c, setBlk_get hi hd, if_neg]
    rcases Nat.lt_or_gt_of_ne hne with g | g <;> omega
  · rw [if_neg c, if_neg c]
theorem setBlk_byt {o d : List Int} {i : Nat} (ho : Byt o) (hd : Byt d) : Byt (setBlk o i d) := by
  intro x hx
  unfold setBlk at hx
  rcases List.mem_append.1 hx with hx | hx
  · rcases List.mem_append.1 hx with hx | hx
    · exact ho x (List.mem_of_mem_take hx)
    · exact hd x hx
  · exact ho x (List.mem_of_mem_drop hx)
/-- A node of one pointer. -/
def oneP (k : Nat) (p : Int) : List Int := nZero.set k p
/-- A device with a tree of one sector, so many nodes of it written: its bytes, what the next one leads to. -/
def chainI (B at_ sec : Nat) (data : Int) : Nat → List Int × Int
  | 0 => (List.replicate (B * 64) 0, data)
  | i + 1 => (setBlk (chainI B at_ sec data i).1 (at_ + i) (nodBlock i (oneP (sec / 8 ^ i % 8) (chainI B at_ sec data i).2)), ((at_ + i : Nat) : Int))
def chain (B at_ sec : Nat) (data : Int) : List Int := (chainI B at_ sec data 3).1
end Go.Proofs.Ytijfghknjkegpaa
end
section
set_option linter.unusedVariables false
set_option maxRecDepth 100000
open Go Go.Am Go.RowKit
namespace Go.Proofs.Ytijfghknjkegpaa
open Go.Proofs.Try
theorem us_zeros (n : Nat) : us (List.replicate n 0) = List.replicate n (Value.int .u8 0) := by unfold us; rw [List.map_replicate]
theorem reps_us (n : Nat) : reps (cellsOf (Value.int .u8 0)) n = us (List.replicate n 0) := by rw [us_zeros]; exact reps_one _ _
end Go.Proofs.Ytijfghknjkegpaa
end
section
open Go Go.Am Go.RowKit
namespace Go.Proofs.Ytijfghknjkegpaa
open Go.Proofs.Try
theorem mixed : prog.follows .mixedOrders = true := by kernel_rfl
theorem routines : noRoutine prog = true := by kernel_rfl
end Go.Proofs.Ytijfghknjkegpaa
end
section
set_option linter.unusedVariables false
set_option maxRecDepth 100000
open Go Go.Am Go.RowKit
namespace Go.Proofs.Ytijfghknjkegpaa
open Go.Proofs.Try
theorem sl_own {h : Heap} {b c n : Nat} {l : List Int} (ow : Ow h b (us l)) (hl : l.length = n) (hc : Cp 1 n c) (hn : n ≤ 9223372036854775807) : Sl h (.slice (some ⟨b, 0, none⟩) n c) 1 l.length (us l) := by
  subst hl
  exact ow.all.sl (by rw [us_len, Nat.mul_one]) hn hc
end Go.Proofs.Ytijfghknjkegpaa
end
section
set_option linter.unusedVariables false
set_option maxRecDepth 100000
open Go Go.Am
namespace Go.Proofs.Ytijfghknjkegpaa
open Go.Proofs.Try
def leNum (l : List Int) : Int × Bool := if leN l > 4611686018427387903 then (0, false) else (leN l, true)
end Go.Proofs.Ytijfghknjkegpaa
end
section
set_option linter.unusedVariables false
set_option maxRecDepth 100000
open Go Go.Am Go.RowKit
namespace Go.Proofs.Ytijfghknjkegpaa
open Go.Proofs.Try
end Go.Proofs.Ytijfghknjkegpaa
end
section
set_option linter.unusedVariables false
set_option maxRecDepth 100000
open Go Go.Am Go.RowKit
namespace Go.Proofs.Ytijfghknjkegpaa
open Go.Proofs.Try
end Go.Proofs.Ytijfghknjkegpaa
end
section
set_option linter.unusedVariables false
set_option maxRecDepth 100000
open Go Go.Am Go.RowKit
namespace Go.Proofs.Ytijfghknjkegpaa
open Go.Proofs.Try
end Go.Proofs.Ytijfghknjkegpaa
end
section
set_option linter.unusedVariables false
set_option maxRecDepth 100000
open Go Go.Am Go.RowKit
namespace Go.Proofs.Ytijfghknjkegpaa
open Go.Proofs.Try
theorem keepBytesS_ok {h : Heap} {v w : Value} {l m : List Int} (sl : Sl h v 1 l.length (us l)) (sm : Sl h w 1 m.length (us m)) (hm : l.length ≤ 4611686018427387904) :
    RunF prog 33 [v, w] h fun v h' => v = .bool (l == m) ∧ h = h' := by
  obtain ⟨A, c, rfl, _, hA⟩ := sl.form
  obtain ⟨B, d, rfl, _, hB⟩ := sm.form
  exact keepBytes_ok (fun hl => by obtain ⟨b, o, rfl, rd⟩ := hA hl; exact ⟨_, rfl, rd⟩) (fun hl => by obtain ⟨b, o, rfl, rd⟩ := hB hl; exact ⟨_, rfl, rd⟩) hm
def mapG (L : List Int) (root : Int) : List Int := if treeE L root = 0 then treeM L root else []
def nodG (L : List Int) (root : Int) : List Int := if treeE L root = 0 then treeN L root else []
end Go.Proofs.Ytijfghknjkegpaa
end
section
set_option linter.unusedVariables false
set_option maxRecDepth 100000
open Go Go.Am Go.RowKit
namespace Go.Proofs.Ytijfghknjkegpaa
open Go.Proofs.Try
/-- A node's pointers; of no node none. -/
def ptrsL (L : List Int) (B : Nat) (p : Int) : List Int := if p = 0 then nZero else (atV L B p).2
/-- The nodes under a pointer, from the top. -/
def nodL (L : List Int) (B : Nat) : Nat → Int → List Int
  | 0, _ => []
  | k + 1, p => if p = 0 then [] else p :: (List.range 8).flatMap fun i => nodL L B k ((ptrsL L B p).getD i 0)
/-- Under a pointer each node is one, of its level. -/
def okA (L : List Int) (B k : Nat) (p : Int) : Prop := ∀ s, s < 8 ^ k → pathOk L B k p s
/-- A walk that ends well has met just the nodes under its pointer. -/
def NodAt (L : List Int) (B lv : Nat) : Prop := ∀ (a : Int) (f : Nat) (w : TS), w.2.2 = false → (tgo L B lv a f w).2.2 = false → (tgo L B lv a f w).2.1 = w.2.1 ++ nodL L B (lv + 1) a
/-- A walk ends well. -/
def FineAt (L : List Int) (B lv : Nat) : Prop := ∀ (a : Int) (f : Nat) (w : TS), w.2.2 = false → a ≠ 0 → okA L B (lv + 1) a → (w.2.1 ++ nodL L B (lv + 1) a).Nodup → (∀ s, s < 8 ^ (lv + 1) → look L B (lv + 1) a s < B) → (tgo L B lv a f w).2.2 = false
/-- What a tree is. -/
structure TreeIs (L : List Int) (root : Int) (m : List Int) : Prop where
  len : m.length = 512
  ok : okA L (L.length / 64) 3 root
  nd : (nodL L (L.length / 64) 3 root).Nodup
  map : ∀ s, s < 512 → look L (L.length / 64) 3 root s = m.getD s 0
  lt : ∀ s, s < 512 → m.getD s 0 < (L.length / 64 : Nat)
  out : ∀ s, s < 512 → ¬ m.getD s 0 ∈ nodL L (L.length / 64) 3 root
end Go.Proofs.Ytijfghknjkegpaa
end
section
set_option linter.unusedVariables false
set_option maxRecDepth 100000
open Go Go.Am Go.RowKit
namespace Go.Proofs.Ytijfghknjkegpaa
open Go.Proofs.Try
/-- The places of a tree's nodes: so far down, so far along. -/
def posL : Nat → List (Nat × Nat)
  | 0 => []
  | k + 1 => (0, 0) :: (List.range 8).flatMap fun i => (posL k).map fun x => (x.1 + 1, i * 8 ^ x.1 + x.2)
end Go.Proofs.Ytijfghknjkegpaa
end
section
set_option linter.unusedVariables false
set_option linter.unusedSectionVars false
set_option maxRecDepth 100000
open Go Go.Am Go.RowKit
namespace Go.Proofs.Ytijfghknjkegpaa
open Go.Proofs.Try
/- An open image: what the page says of the parts. -/
/-- A record is right. -/
def r8Ok (r : R8) : Bool := recOk r.nx r.id r.pa r.ro r.sz r.ki r.fr r.di
end Go.Proofs.Ytijfghknjkegpaa
end
section
set_option linter.unusedVariables false
namespace Go.Am
open Go.RowKit
/-- A slice that grows by append: a row, or one that is full. -/
def Gr (lo : Nat) (h : Heap) (v : Value) (s n : Nat) (cells : List Value) : Prop :=
  cells.length = n * s ∧ ((v = .slice none 0 0 ∧ n = 0) ∨ ∃ b c, lo ≤ b ∧ v = .slice (some ⟨b, 0, none⟩) n c ∧ (c = unkc s ∨ c = exc n) ∧ Ow h b cells)
theorem Row.gr {lo : Nat} {h : Heap} {v : Value} {s n : Nat} {cells : List Value} (r : Row lo h v s n cells) : Gr lo h v s n cells :=
  ⟨r.1, r.2.imp (fun x => x) (fun ⟨b, h1, h2, h3⟩ => ⟨b, _, h1, h2, .inl rfl, h3⟩)⟩
theorem Gr.at {lo : Nat} {h : Heap} {v : Value} {s n b : Nat} {cells : List Value} (r : Gr lo h v s n cells) (a : At v b) : lo ≤ b ∧ b < h.next := by
  obtain ⟨m, c, rfl⟩ := a
  rcases r.2 with ⟨e, _⟩ | ⟨b', c', h1, h2, _, h3⟩
  · cases e
  · cases h2; exact ⟨h1, h3.1⟩
theorem Gr.frm {lo : Nat} {h h' : Heap} {v : Value} {s n : Nat} {cells : List Value} {M : Nat → Prop} (r : Gr lo h v s n cells) (f : Fr M h h') (hm : ∀ b, At v b → ¬ M b) : Gr lo h' v s n cells := by
  refine ⟨r.1, r.2.imp (fun x => x) ?_⟩
  rintro ⟨b, c, h1, h2, h3, h4⟩
  exact ⟨b, c, h1, h2, h3, h4.fr f (hm b ⟨_, _, h2⟩)⟩
theorem Gr.fr0 {lo : Nat} {h h' : Heap} {v : Value} {s n : Nat} {cells : List Value} (r : Gr lo h v s n cells) (f : Fr no h h') : Gr lo h' v s n cells := r.frm f (fun _ _ g => g)
section
variable {P : Program} {n : Nat} {ops rest : List Oper} {m : Nat → Prop} {E E1 : Env} {h h1 : Heap}
theorem append_gr {t e : TypeId} {i : TypeInfo} {z : Value} {lo s k j c' : Nat} {xv : Value} {cells news : List Value} {a : Addr}
    (hu : P.underlying t = some (.slice e)) (hi : P.info? e = some i) (hz : zeroOf P e = some z) (hlz : lenIs (cellsOf z) i.size = true) (hs : i.size = s) (hs1 : 1 ≤ s) (row : Gr lo h xv s k cells)
    (rd : Rd h a news) (hn : news.length = j * s) (hm : 1 ≤ j) (ha : allCells news = true) (hb : 2 * (k + j) * i.bytes ≤ 281474976710656) (hb2 : k + j ≤ 9223372036854775807) :
    ∃ v' h', aappend P h t t xv (.slice (some a) j c') = some (v', h') ∧ Row h.next h' v' s (k + j) (cells ++ news) ∧ Fr (At xv) h h' := by
  rcases row.2 with ⟨rfl, hk⟩ | ⟨b, c, hb1, rfl, hc, ow⟩
  · exact append_row2 (lo := lo) hu hi hz hlz hs hs1 ⟨row.1, .inl ⟨rfl, hk⟩⟩ rd hn hm ha hb hb2
  · rcases hc with rfl | rfl
    · exact append_row2 (lo := lo) hu hi hz hlz hs hs1 ⟨row.1, .inr ⟨b, hb1, rfl, ow⟩⟩ rd hn hm ha hb hb2
    · refine ⟨_, _, append_full hu hi hz hlz hs hs1 ow.all row.1 ?_ ?_ rd hn hm hb hb2, ⟨by rw [List.length_append, row.1, hn, Nat.add_mul], .inr ⟨_, Nat.le_refl _, rfl, Ow.push _ _⟩⟩, Fr.push _ _ _⟩
      · unfold isUnk exc
        show Nat.beq (2 * k % 2) 1 = false
        rw [show 2 * k % 2 = 0 by omega]; rfl
      · unfold half exc
        show 2 * k / 2 < k + j
        omega
end
end Go.Am
end
section
set_option linter.unusedVariables false
set_option linter.unusedSectionVars false
set_option maxRecDepth 100000
open Go Go.Am Go.RowKit
namespace Go.Proofs.Ytijfghknjkegpaa
open Go.Proofs.Try
def bey (m : List Int) (k : Int) : Bool := (m.drop k.toNat).any (· != 0)
def lkS (L : List Int) : S5 := (pickS L).1
def lkF (L : List Int) : List R8 × List Int × Nat × Int := folOf L (lkS L).2.2.2.2
def lkR (L : List Int) : List (Int × Int) := ((lkS L).2.2.1, (lkS L).2.2.2.1) :: (lkF L).1.map fun r => (r.ro, r.sz)
def lkX (L : List Int) (p : Int × Int) : Bool := !treeOk L p.1 || bey (treeM L p.1) p.2
def lkT (L : List Int) : List (List Int × List Int) := (lkR L).map fun p => (treeM L p.1, treeN L p.1)
def clV (B : Nat) (bl : List Int) (T : List (List Int × List Int)) : Int := match (List.range B).find? (clP bl (T.map fun t => (0, t))) with
  | some i => (i : Int)
  | none => 0
def lkC (L : List Int) : Int := clV (L.length / 64) (lkF L).2.1 (lkT L)
def lkM (L : List Int) : Int × Int := match (lkR L).find? (lkX L) with
  | some p => (p.1, 6)
  | none => (lkC L, if lkC L = 0 then 0 else 6)
def lk (L : List Int) : Int × Int := if devOk L.length then (if (pickS L).2.2 then (if (lkF L).2.2.2 = 0 then lkM L else ((lkF L).2.2.2, 7)) else (0, 8)) else (0, 2)
/-- An open image in memory. -/
def LkR (lo : Nat) (h : Heap) (xb : Nat) (L : List Int) : Prop :=
  ∃ rv bv tv TL, lo ≤ xb ∧ Ow h xb (imc (lkS L) (pickS L).2.1 rv bv tv) ∧ Row lo h rv 8 (lkF L).1.length (recCs (lkF L).1) ∧ Row lo h bv 1 (lkF L).2.1.length (is (lkF L).2.1) ∧ Sl h tv 1 TL.length (tps TL) ∧ TL.map (·.2) = lkT L ∧ ∀ t ∈ TL, TrOk (L.length / 64) h t
/-- A tree's blocks, apart from what Look writes. -/
def TrW (B : Nat) (h : Heap) (xb : Nat) (tv : Value) (t : Tr3) : Prop :=
  ∃ iv mb nv, Ow h t.1 (wc iv B (.slice (some ⟨mb, 0, none⟩) 512 (exc 512)) nv false) ∧ Ow h mb (is t.2.1) ∧ Row 0 h nv 1 t.2.2.length (is t.2.2) ∧ t.2.1.length = 512 ∧ t.2.2.length ≤ 73 ∧ (∀ x ∈ t.2.1, 0 ≤ x ∧ x < (B : Int)) ∧ (∀ x ∈ t.2.2, 2 ≤ x ∧ x < (B : Int)) ∧
    (t.1 ≠ xb ∧ ¬ At tv t.1) ∧ (mb ≠ xb ∧ ¬ At tv mb) ∧ ∀ b, At nv b → b ≠ xb ∧ ¬ At tv b
end Go.Proofs.Ytijfghknjkegpaa
end
section
set_option linter.unusedVariables false
set_option linter.unusedSectionVars false
set_option maxRecDepth 100000
open Go Go.Am Go.RowKit
namespace Go.Proofs.Ytijfghknjkegpaa
open Go.Proofs.Try
end Go.Proofs.Ytijfghknjkegpaa
end
section
set_option linter.unusedVariables false
set_option linter.unusedSectionVars false
set_option maxRecDepth 100000
open Go Go.Am Go.RowKit
namespace Go.Proofs.Ytijfghknjkegpaa
open Go.Proofs.Try
def recsE (L : List Int) (a : Int) : Int := if devOk L.length then (if (folOf L a).2.2.2 = 0 then 0 else 7) else 2
/-- A state's cells. -/
def stc (s : S5) (slot : Int) (rv : Value) : List Value := sc5 s ++ [.int .i64 slot, rv]
/-- Is this the whole record of an id? -/
def fdP (id : Int) (r : R8) : Bool := (r.id == id) && (r.ki == 0)
/-- A new image. -/
def newI (B : Nat) : List Int := superBlock 1 (B : Int) 0 0 0 ++ List.replicate (B * 64 - 64) 0
end Go.Proofs.Ytijfghknjkegpaa
end
section
set_option linter.unusedVariables false
set_option linter.unusedSectionVars false
set_option maxRecDepth 100000
open Go Go.Am Go.RowKit
namespace Go.Proofs.Ytijfghknjkegpaa
open Go.Proofs.Try
end Go.Proofs.Ytijfghknjkegpaa
end
section
set_option linter.unusedVariables false
set_option maxRecDepth 100000
open Go Go.Am Go.RowKit
namespace Go.Proofs.Ytijfghknjkegpaa
open Go.Proofs.Try
end Go.Proofs.Ytijfghknjkegpaa
end
section
set_option linter.unusedVariables false
set_option linter.unusedSectionVars false
set_option maxRecDepth 100000
open Go Go.Am Go.RowKit
namespace Go.Proofs.Ytijfghknjkegpaa
open Go.Proofs.Try
/- A chain that was followed to its end. -/
def nxt (a : Int) (l : List R8) (i : Nat) : Int := if i = 0 then a else (l.getD (i - 1) ⟨0, 0, 0, 0, 0, 0, 0, 0⟩).nx
structure FolI (L : List Int) (B : Nat) (a : Int) (l : List R8) (bs : List Int) (cur : Int) : Prop where
  len : l.length = bs.length
  blk : ∀ i (hi : i < l.length), bs.getD i 0 = nxt a l i ∧ 2 ≤ bs.getD i 0 ∧ bs.getD i 0 < (B : Int) ∧ rCode (blkI L (bs.getD i 0).toNat) = 0 ∧ l[i] = rPar (blkI L (bs.getD i 0).toNat)
  apart : ∀ i (hi : i < l.length) j (hj : j < l.length), j < i → l[j].id ≠ l[i].id ∧ l[i].ki ≠ 1
  cur : cur = nxt a l l.length
end Go.Proofs.Ytijfghknjkegpaa
end
section
set_option linter.unusedVariables false
set_option maxRecDepth 100000
open Go Go.Am Go.RowKit
namespace Go.Proofs.Ytijfghknjkegpaa
open Go.Proofs.Try
end Go.Proofs.Ytijfghknjkegpaa
end
section
set_option linter.unusedVariables false
namespace Go.Am
open Go.RowKit
section
variable {P : Program} {n : Nat} {ops rest : List Oper} {E E1 : Env} {h h1 : Heap} {Q : Env → Heap → Prop}
theorem RunO.appendG {d : Tmp} {t ty e : TypeId} {x y : Operand} {pos : String} {after : Array Edge} {i : TypeInfo} {z : Value} {lo s k j c' : Nat} {xv : Value} {cells news : List Value} {a : Addr}
    (hx : gE E x = some xv) (hy : gE E y = some (.slice (some a) j c')) (hd : Nat.ble (Nat.succ d) n = true)
    (hu : P.underlying t = some (.slice e)) (hi : P.info? e = some i) (hz : zeroOf P e = some z) (hlz : lenIs (cellsOf z) i.size = true) (hs : i.size = s) (hs1 : 1 ≤ s) (row : Gr lo h xv s k cells)
    (rd : Rd h a news) (hn : news.length = j * s) (hm : 1 ≤ j) (ha : allCells news = true) (hb : 2 * (k + j) * i.bytes ≤ 281474976710656) (hb2 : k + j ≤ 9223372036854775807)
    (r : ∀ v' h', Row h.next h' v' s (k + j) (cells ++ news) → Fr (At xv) h h' → RunO P n ops rest (upd E d v') h' Q) : RunO P n ops (⟨some d, .call ⟨.builtin .append, #[x, y], #[t, t]⟩, ty, pos, after, none⟩ :: rest) E h Q := by
  obtain ⟨v', h', h1, h2, h3⟩ := append_gr (c' := c') hu hi hz hlz hs hs1 row rd hn hm ha hb hb2
  refine RunO.one rfl (v := v') (h1 := h') ?_ (by simp only [eput, hd, cond_true]) (r v' h' h2 h3)
  simp only [eop, gs, hx, hy, abuiltin, h1]
end
end Go.Am
end
section
set_option linter.unusedVariables false
namespace Go.Am
open Go.RowKit
section
variable {P : Program} {n : Nat} {ops rest : List Oper} {E E1 : Env} {h h1 : Heap} {Q : Env → Heap → Prop}
end
end Go.Am
end
section
set_option linter.unusedVariables false
set_option linter.unusedSectionVars false
set_option maxRecDepth 100000
open Go Go.Am Go.RowKit
namespace Go.Proofs.Ytijfghknjkegpaa
open Go.Proofs.Try

/-- Rows of numbers. -/
def RwsI (h : Heap) (v : Value) (rows : List (List Int)) : Prop :=
  ∃ cs, Sl h v 1 rows.length cs ∧ ∀ (j : Nat) (x : List Int), rows[j]? = some x → ∃ w, cs[j]? = some w ∧ Sl h w 1 x.length (is x)
end Go.Proofs.Ytijfghknjkegpaa
end
section
set_option linter.unusedVariables false
set_option linter.unusedSectionVars false
set_option maxRecDepth 100000
open Go Go.Am Go.RowKit
namespace Go.Proofs.Ytijfghknjkegpaa
open Go.Proofs.Try

/- Steps in a growing slice, of any data. -/
def IoW (lo : Nat) (h : Heap) (lv : Value) (l : List IoT) : Prop := ∃ acs, Row lo h lv 3 l.length acs ∧ ∀ (j : Nat) (x : IoT), l[j]? = some x → ∃ dv, (acs.drop (j * 3)).take 3 = [.int .i64 x.1, .int .i64 x.2.1, dv] ∧ Sl h dv 1 x.2.2.1.length (us x.2.2.1) ∧ Byt x.2.2.1 ∧ ∀ b o c, dv = .slice (some ⟨b, o, none⟩) x.2.2.1.length c → ¬ At lv b
theorem IoW.fr0 {lo : Nat} {h h' : Heap} {lv : Value} {l : List IoT} (r : IoW lo h lv l) (f : Fr no h h') : IoW lo h' lv l := by
  obtain ⟨acs, h1, h2⟩ := r
  refine ⟨acs, h1.fr f (fun _ _ _ g => g), fun j x hx => ?_⟩
  obtain ⟨dv, e, sd, hd⟩ := h2 j x hx
  exact ⟨dv, e, sd.fr0 f, hd⟩
theorem IoW.at {lo : Nat} {h : Heap} {lv : Value} {l : List IoT} (r : IoW lo h lv l) {b : Nat} (g : At lv b) : lo ≤ b ∧ b < h.next := by
  obtain ⟨acs, h1, _⟩ := r
  exact h1.at g
theorem IoW.nil (lo : Nat) (h : Heap) : IoW lo h (.slice none 0 0) [] := ⟨[], Row.nil lo h 3, fun j x hx => by cases hx⟩
theorem IoW.ios {lo : Nat} {h : Heap} {lv : Value} {l : List IoT} (r : IoW lo h lv l) (hl : l.length ≤ 9223372036854775807) : Ios h lv l := by
  obtain ⟨acs, h1, h2⟩ := r
  refine ⟨acs, h1.sl hl, fun j x hx => ?_⟩
  obtain ⟨dv, e, sd, hb, _⟩ := h2 j x hx
  exact ⟨dv, e, sd, hb⟩
theorem IoW.app {lo : Nat} {h h' : Heap} {lv lv' : Value} {l ys : List IoT} {acs news : List Value} (row : Row lo h lv 3 l.length acs)
    (k : ∀ (j : Nat) (x : IoT), l[j]? = some x → ∃ dv, (acs.drop (j * 3)).take 3 = [.int .i64 x.1, .int .i64 x.2.1, dv] ∧ Sl h dv 1 x.2.2.1.length (us x.2.2.1) ∧ Byt x.2.2.1 ∧ ∀ b o c, dv = .slice (some ⟨b, o, none⟩) x.2.2.1.length c → ¬ At lv b)
    (hn : news.length = ys.length * 3)
    (k2 : ∀ (j : Nat) (x : IoT), ys[j]? = some x → ∃ dv, (news.drop (j * 3)).take 3 = [.int .i64 x.1, .int .i64 x.2.1, dv] ∧ Sl h dv 1 x.2.2.1.length (us x.2.2.1) ∧ Byt x.2.2.1 ∧ ∀ b o c, dv = .slice (some ⟨b, o, none⟩) x.2.2.1.length c → ¬ At lv b)
    (row' : Row h.next h' lv' 3 (l.length + ys.length) (acs ++ news)) (f : Fr (At lv) h h') (hlo : lo ≤ h.next) : IoW lo h' lv' (l ++ ys) := by
  have hl : acs.length = l.length * 3 := row.1
  have hnew : ∀ (y : List Int) (u : Value), Sl h u 1 y.length (us y) → ∀ b o c, u = .slice (some ⟨b, o, none⟩) y.length c → ¬ At lv' b := fun y u su b o c e a => by
    have h1 := su.lt b o c e
    have h2 := (row'.at a).1
    omega
  refine ⟨_, by rw [List.length_append]; exact Row.lo row' hlo, fun j y hy => ?_⟩
  by_cases hj : j < l.length
  · rw [List.getElem?_append_left hj] at hy
    obtain ⟨u, e, su, hb, hu⟩ := k j y hy
    refine ⟨u, ?_, su.frm hu f, hb, hnew _ u su⟩
    rw [List.drop_append_of_le_length (by omega), List.take_append_of_le_length (by rw [List.length_drop]; omega)]
    exact e
  · rw [List.getElem?_append_right (by omega)] at hy
    have hj2 := (List.getElem?_eq_some_iff.1 hy).1
    obtain ⟨u, e, su, hb, hu⟩ := k2 _ y hy
    refine ⟨u, ?_, su.frm hu f, hb, hnew _ u su⟩
    rw [List.drop_append, List.drop_eq_nil_of_le (by omega), List.nil_append, show j * 3 - acs.length = (j - l.length) * 3 by rw [hl, Nat.sub_mul]]
    exact e
def placeB (a : Int) : Bool := decide (a ≥ 2) && decide (a < 4096)
def nx0 (x : R8) (a : Int) : R8 := ⟨a, x.id, x.pa, x.ro, x.sz, x.ki, x.fr, x.di⟩
structure MayOk (old : List R8) (bl : List Int) (n : Nat) (x : R8) (w : Bool) (free : List Int) : Prop where
  len : old.length = bl.length
  le : n ≤ old.length
  ok : ∀ r ∈ old, r8Ok r = true
  fst : w = true → r8Ok (nx0 x 0) = true
  pl : ∀ a ∈ bl, placeB a = true
  pf : ∀ a ∈ free, placeB a = true
  up : ∀ i, i + 1 < free.length → free.getD i 0 < free.getD (i + 1) 0
  lo : old.length ≤ 10000
  lf : free.length ≤ 10000
end Go.Proofs.Ytijfghknjkegpaa
end
section
set_option linter.unusedVariables false
set_option linter.unusedSectionVars false
set_option maxRecDepth 100000
open Go Go.Am Go.RowKit
namespace Go.Proofs.Ytijfghknjkegpaa
open Go.Proofs.Try
/-- Whole numbers of an int. -/
def In64 (x : Int) : Prop := -9223372036854775808 ≤ x ∧ x ≤ 9223372036854775807
abbrev I8 : Sh := .int .i64
abbrev ShS5 : Sh := .pair I8 (.pair I8 (.pair I8 (.pair I8 (.pair I8 .unit))))
abbrev ShR8 : Sh := .pair I8 (.pair I8 (.pair I8 (.pair I8 (.pair I8 (.pair I8 (.pair I8 (.pair I8 .unit)))))))
abbrev ShState : Sh := .pair ShS5 (.pair I8 (.pair (.slice ShR8) .unit))
def r8Of (y : ShR8.T) : R8 := ⟨y.1, y.2.1, y.2.2.1, y.2.2.2.1, y.2.2.2.2.1, y.2.2.2.2.2.1, y.2.2.2.2.2.2.1, y.2.2.2.2.2.2.2.1⟩
def R8In (r : R8) : Prop := In64 r.nx ∧ In64 r.id ∧ In64 r.pa ∧ In64 r.ro ∧ In64 r.sz ∧ In64 r.ki ∧ In64 r.fr ∧ In64 r.di
def S5In (s : S5) : Prop := In64 s.1 ∧ In64 s.2.1 ∧ In64 s.2.2.1 ∧ In64 s.2.2.2.1 ∧ In64 s.2.2.2.2
end Go.Proofs.Ytijfghknjkegpaa
end
section
set_option linter.unusedVariables false
open Go Go.Am Go.RowKit
namespace Go.Am
section
variable {P : Program} {n : Nat} {ops rest : List Oper} {m : Nat → Prop} {E E1 : Env} {h h1 : Heap} {Q : Env → Heap → Prop}
theorem RunT.new {o : Oper} {v : Value} {ob : AObj} (g : ewanted ops E o = some true) (e : eop P E o (h.lo h.next) = some (v, (h.lo h.next).push ob)) (hf : ∀ q, fpE E o q = some .none) (p : eput n E o.dst v = some E1)
    (r : RunT P n ops rest m E1 (h.push ob) Q) : RunT P n ops (o :: rest) m E h Q := by
  refine RunT.oneG (f := .none) g e hf (Fr.push _ _ _) p ?_
  exact RunT.lo (x := ((h.lo h.next).push ob).low) (h := h.push ob) r
theorem RunT.pure {o : Oper} {v : Value} (g : ewanted ops E o = some true) (e : eop P E o (h.lo h.next) = some (v, h.lo h.next)) (hf : ∀ q, fpE E o q = some .none) (p : eput n E o.dst v = some E1) (r : RunT P n ops rest m E1 h Q) : RunT P n ops (o :: rest) m E h Q :=
  RunT.oneG (f := .none) g e hf (Fr.refl _ _) p (RunT.lo r)
theorem RunT.appendG {d : Tmp} {t ty e : TypeId} {x y : Operand} {pos : String} {after : Array Edge} {gd : Option (Nat × Bool)} {i : TypeInfo} {z : Value} {lo s k j c' : Nat} {xv : Value} {cells news : List Value} {a : Addr}
    (hw : ewanted ops E ⟨some d, .call ⟨.builtin .append, #[x, y], #[t, t]⟩, ty, pos, after, gd⟩ = some true) (hx : gE E x = some xv) (hy : gE E y = some (.slice (some a) j c')) (hd : Nat.ble (Nat.succ d) n = true)
    (hu : P.underlying t = some (.slice e)) (hi : P.info? e = some i) (hz : zeroOf P e = some z) (hlz : lenIs (cellsOf z) i.size = true) (hs : i.size = s) (hs1 : 1 ≤ s) (row : Gr lo h xv s k cells)
    (rd : Rd h a news) (hn : news.length = j * s) (hm : 1 ≤ j) (ha : allCells news = true) (hb : 2 * (k + j) * i.bytes ≤ 281474976710656) (hb2 : k + j ≤ 9223372036854775807) (hmm : ∀ b, At xv b → m b)
    (r : ∀ v' h', Row h.next h' v' s (k + j) (cells ++ news) → Fr (At xv) h h' → RunT P n ops rest m (upd E d v') h' Q) : RunT P n ops (⟨some d, .call ⟨.builtin .append, #[x, y], #[t, t]⟩, ty, pos, after, gd⟩ :: rest) m E h Q := by
  obtain ⟨v', h', h1, h2, h3⟩ := append_gr (h := h.lo h.next) (c' := c') hu hi hz hlz hs hs1 row rd hn hm ha hb hb2
  refine RunT.oneG (v := v') (f := .wr (idsOf [xv, .slice (some a) j c'])) (h1 := h') (E1 := upd E d v') hw ?_ ?_ (h3.weak (fun b g => .inl (hmm b g))) (by simp only [eput, hd, cond_true]) (r v' h' h2 ?_)
  · simp only [eop, gs, hx, hy, abuiltin, h1]
  · intro q; simp only [fpE, gs, hx, hy, Array.toList]
  · exact ⟨h3.next, h3.get, fun l a b c => h3.low l b b c⟩
theorem RunT.copyAt {d : Tmp} {t t2 ty e : TypeId} {x y : Operand} {pos : String} {after : Array Edge} {gd : Option (Nat × Bool)} {b o dn dc sn k : Nat} {src : Value} {cs news : List Value}
    (hw : ewanted ops E ⟨some d, .call ⟨.builtin .copy, #[x, y], #[t, t2]⟩, ty, pos, after, gd⟩ = some true) (hx : gE E x = some (.slice (some ⟨b, o, none⟩) dn dc)) (hy : gE E y = some src) (hu : P.underlying t = some (.slice e)) (hs : sizeOf P e = some 1) (ow : Ow h b cs) (sl : Sl h src 1 sn news) (ha : allCells news = true) (hm : min sn dn = k) (hc : o + k ≤ cs.length) (hd : Nat.ble (Nat.succ d) n = true) (hmm : m b)
    (r : ∀ h', Ow h' b (cs.take o ++ news.take k ++ cs.drop (o + k)) → Fr (· = b) h h' → RunT P n ops rest m (upd E d (goInt k)) h' Q) : RunT P n ops (⟨some d, .call ⟨.builtin .copy, #[x, y], #[t, t2]⟩, ty, pos, after, gd⟩ :: rest) m E h Q := by
  obtain ⟨h', e1, e2, e3, e4⟩ := copy_sl (P := P) (h := h.lo h.next) (t := t) (dc := dc) hu hs ow sl ha hm hc
  refine RunT.oneG (v := goInt k) (f := .wr (idsOf [.slice (some ⟨b, o, none⟩) dn dc, src])) (h1 := h') (E1 := upd E d (goInt k)) hw ?_ ?_ (e3.weak (fun i g => .inl (by have g : i = b := g; rw [g]; exact hmm))) (by simp only [eput, hd, cond_true]) (r h' e2 ?_)
  · simp only [eop, gs, hx, hy, abuiltin, e1]
  · intro q; simp only [fpE, gs, hx, hy, Array.toList]
  · exact ⟨e3.next, e3.get, fun l a b c => e3.low l b b c⟩
end
end Go.Am
end
section
set_option linter.unusedVariables false
namespace Go.Am
open Go.RowKit
section
variable {P : Program} {n : Nat} {ops rest : List Oper} {E E1 : Env} {h h1 : Heap} {Q : Env → Heap → Prop}
end
end Go.Am
namespace Go.Am
open Go.RowKit
section
variable {P : Program} {n : Nat} {ops rest : List Oper} {E E1 : Env} {h h1 : Heap} {Q : Env → Heap → Prop}
/-- A field of an element looked at, in a region that draws its order. -/
theorem RunQ.fld {d d2 d3 : Tmp} {t ty ty2 ty3 e st : TypeId} {x i : Operand} {f : Nat} {pos pos2 pos3 : String} {after after2 after3 : Array Edge} {gd gd2 gd3 : Option (Nat × Bool)} {v : Value} {m s k off : Nat} {ik : IntKind} {cells : List Value} {u : Value}
    (hw : ewanted ops E ⟨some d, .indexAddr t x i, ty, pos, after, gd⟩ = some true) (hw2 : ∀ p, ewanted ops (upd E d (.pointer p)) ⟨some d2, .fieldAddr st (.tmp d) f, ty2, pos2, after2, gd2⟩ = some true) (hw3 : ∀ p q, ewanted ops (upd (upd E d (.pointer p)) d2 (.pointer q)) ⟨some d3, .load e (.tmp d2), ty3, pos3, after3, gd3⟩ = some true)
    (hx : gE E x = some v) (hi : gE E i = some (.int ik (k : Int))) (sl : Sl h v s m cells) (hu : P.underlying t = some (.slice st)) (hs : sizeOf P st = some s) (hk : k < m)
    (hf : ∀ b o, afieldAddr P st (.pointer (some ⟨b, o, none⟩)) f = some (.pointer (some ⟨b, o + off, none⟩))) (hv : apart P e cells (k * s + off) = some u)
    (hd : Nat.ble (Nat.succ d) n = true) (hd2 : Nat.ble (Nat.succ d2) n = true) (hd3 : Nat.ble (Nat.succ d3) n = true) (hE : E d = none) (hE2 : E d2 = none)
    (r : RunQ P n ops rest (upd E d3 u) h Q) : RunQ P n ops (⟨some d, .indexAddr t x i, ty, pos, after, gd⟩ :: ⟨some d2, .fieldAddr st (.tmp d) f, ty2, pos2, after2, gd2⟩ :: ⟨some d3, .load e (.tmp d2), ty3, pos3, after3, gd3⟩ :: rest) E h Q := by
  obtain ⟨b, o, c, rfl, hc, rd⟩ := sl.nz (by omega)
  refine RunQ.index hw hx hi hu hs hk hd ?_
  have hg : gE (upd E d (.pointer (some ⟨b, o + k * s, none⟩))) (.tmp d) = some (.pointer (some ⟨b, o + k * s, none⟩)) := by show upd E d _ d = _; unfold upd; rw [Nat.beq_refl]; rfl
  refine RunQ.oneG (v := .pointer (some ⟨b, o + k * s + off, none⟩)) (f := .none) (h1 := h.lo h.next) (E1 := upd (upd E d (.pointer (some ⟨b, o + k * s, none⟩))) d2 (.pointer (some ⟨b, o + k * s + off, none⟩))) (hw2 _) ?_ (fun _ => rfl) rfl (Fr.refl _ _) (by simp only [eput, hd2, cond_true]) (RunQ.lo ?_)
  · have := hf b (o + k * s)
    simp only [eop, hg, this]
    rfl
  have hv' : aload P h e ⟨b, o + k * s + off, none⟩ = some u := by
    have := rd.part hv
    rw [← Nat.add_assoc] at this
    exact this
  refine RunQ.load (v := u) (a := ⟨b, o + k * s + off, none⟩) (hw3 _ _) (by show upd _ d2 _ d2 = _; unfold upd; rw [Nat.beq_refl]; rfl) hv' hd3 ?_
  exact r.le (upd3_le hE hE2)
end
end Go.Am
end
section
set_option linter.unusedVariables false
set_option linter.unusedSectionVars false
set_option maxRecDepth 100000
open Go Go.Am Go.RowKit
namespace Go.Proofs.Ytijfghknjkegpaa
open Go.Proofs.Try

theorem io_fld {acs : List Value} {i j : Nat} {x : IoT} {dv : Value} (h : (acs.drop (i * 3)).take 3 = [.int .i64 x.1, .int .i64 x.2.1, dv]) (hj : j < 3) : nth acs (i * 3 + j) = some (([.int .i64 x.1, .int .i64 x.2.1, dv] : List Value).getD j undef) := by
  rw [nth_eq]
  have := congrArg (fun l => l[j]?) h
  simp only [List.getElem?_take, List.getElem?_drop] at this
  rw [if_pos hj] at this
  rw [this, List.getD_eq_getElem?_getD, List.getElem?_eq_getElem (by exact hj)]; rfl
abbrev ShIo : Sh := .pair I8 (.pair I8 (.pair (.slice (.int .u8)) .unit))
theorem Ios.frm0 {h h' : Heap} {v : Value} {l : List IoT} (k : Ios h v l) (f : Fr no h h') : Ios h' v l := k.ex f.ex
set_option maxHeartbeats 4000000 in
theorem twinIos_ok {h : Heap} {v : Value} {l : List IoT} (il : Ios h v l) (hl : l.length ≤ 1000) (hd : ∀ x ∈ l, x.2.2.1.length ≤ 300) : RunF prog 24 [v] h fun r h' => Fr no h h' ∧ IoW h.next h' r l := by
  refine RunF.walk func24 rfl rfl ?_
  obtain ⟨acs, sl, kk⟩ := il
  have sl0 := sl
  obtain ⟨A, c, rfl, _, _⟩ := sl.form
  refine RunC.seq (RunC.region (RunO.all rfl ?_))
  refine RunC.seq (RunC.region (RunO.all rfl ?_))
  refine RunC.seq (RunC.seq (RunC.region (RunO.all rfl ?_)))
  refine RunC.block ?_
  refine RunC.loop (fun d E h' => ∃ (i : Nat) (ov : Value), i + d = l.length ∧ Fr no h h' ∧ IoW h.next h' ov (l.take i) ∧ Le ((upd (upd (upd E0 0 (.slice A l.length c)) 3 (ov)) 4 (.int .i64 (i : Int)))) E) ?st (k := l.length) ?ini
  case ini => exact ⟨0, .slice none 0 0, by omega, Fr.refl _ _, IoW.nil _ _, Le.cons rfl (Le.cons rfl (Le.cons rfl (Le.nil _)))⟩
  rintro d E g1 ⟨i, ov, hi, fg, ios, hE⟩
  refine RunC.le hE ?_
  clear hE
  refine RunC.seq (RunC.seq (RunC.region (RunO.all rfl ?_)))
  refine RunC.cond rfl (fun hlt => RunC.skip ?go) (fun hge => RunC.exit ?ex)
  case ex =>
    have hge := of_decide_eq_false hge
    obtain rfl : i = l.length := by omega
    rw [List.take_length] at ios
    exact RunC.seq (RunC.region (RunO.all rfl (RunC.ret ⟨_, rfl, fg, ios⟩)))
  have hlt := of_decide_eq_true hlt
  have hlt : i < l.length := by omega
  obtain ⟨dv, e, sd, hb⟩ := kk i l[i] (List.getElem?_eq_getElem hlt)
  have hd1 := hd l[i] (List.getElem_mem hlt)
  have e0 : apart prog 3 acs (i * 3 + 0) = some (.int .i64 l[i].1) := io_fld e (j := 0) (by decide)
  have e1 : apart prog 3 acs (i * 3 + 1) = some (.int .i64 l[i].2.1) := io_fld e (j := 1) (by decide)
  have e2 : apart prog 44 acs (i * 3 + 2) = some dv := io_fld e (j := 2) (by decide)
  have htk : l.take (i + 1) = l.take i ++ [l[i]] := List.take_succ_eq_append_getElem hlt
  have htl : (l.take i).length = i := by rw [List.length_take]; omega
  have hov : ∀ b, At ov b → h.next ≤ b := fun b g => (ios.at g).1
  have hov1 : ∀ b, At ov b → b < g1.next := fun b g => (ios.at g).2
  have hng := fg.next
  have sa := sl0.fr0 fg
  refine RunC.seq (RunC.block ?_)
  refine RunC.drawT 17 (fun b => At ov b ∨ g1.next ≤ b) rfl ?_
  refine RunQ.part 3 rfl ?_
  refine RunQ.fld (s := 3) (k := i) (off := 0) rfl (fun _ => rfl) (fun _ _ => rfl) rfl rfl sa rfl rfl hlt (fun _ _ => rfl) e0 rfl rfl rfl rfl rfl ?_
  refine RunQ.part 2 rfl ?_
  refine RunQ.fld (s := 3) (k := i) (off := 1) rfl (fun _ => rfl) (fun _ _ => rfl) rfl rfl sa rfl rfl hlt (fun _ _ => rfl) e1 rfl rfl rfl rfl rfl ?_
  refine RunQ.part 2 rfl ?_
  refine RunQ.fld (s := 3) (k := i) (off := 2) rfl (fun _ => rfl) (fun _ _ => rfl) rfl rfl sa rfl rfl hlt (fun _ _ => rfl) e2 rfl rfl rfl rfl rfl ?_
  have sd2 : Sl (g1.lo g1.next) dv 1 l[i].2.2.1.length (us l[i].2.2.1) := (show Sl g1 dv 1 l[i].2.2.1.length (us l[i].2.2.1) from sd.fr0 fg)
  refine RunQ.call rfl (twin_ok sd2 (by omega)) (fun v h1 q => q.2) rfl rfl rfl ?_
  rintro tv g3 ⟨rt, f7⟩
  have f7 : Fr no g1 g3 := ⟨f7.next, f7.get, fun l a b c => f7.low l b b c⟩
  have rt : Row g1.next g3 tv 1 l[i].2.2.1.length (us l[i].2.2.1) := rt
  have sdv := rt.sl (by omega)
  have hdvb : ∀ b o c, tv = .slice (some ⟨b, o, none⟩) l[i].2.2.1.length c → g1.next ≤ b := fun b o c e => by
    rcases rt.2 with ⟨e', _⟩ | ⟨b', g1', e', _⟩
    · rw [e'] at e; injection e with e1; cases e1
    · rw [e'] at e; injection e with e1; injection e1 with e1; injection e1 with e1; omega
  obtain ⟨dA, dc, rfl, _, _⟩ := sdv.form
  refine RunQ.all rfl ?_
  refine RunT.pure rfl rfl (fun _ => rfl) rfl ?_
  refine RunT.new (ob := ⟨[.int .i64 l[i].1, .int .i64 l[i].2.1, .slice dA l[i].2.2.1.length dc], true⟩) rfl rfl (fun _ => rfl) rfl ?_
  have ot := Ow.push g3 [.int .i64 l[i].1, .int .i64 l[i].2.1, .slice dA l[i].2.2.1.length dc]
  have f8 : Fr no g3 (g3.push ⟨[.int .i64 l[i].1, .int .i64 l[i].2.1, .slice dA l[i].2.2.1.length dc], true⟩) := Fr.push _ _ _
  have ios4 := (ios.fr0 f7).fr0 f8
  have sdv4 := sdv.fr0 f8
  have F4_ := f7.same f8
  generalize g3.push ⟨[.int .i64 l[i].1, .int .i64 l[i].2.1, .slice dA l[i].2.2.1.length dc], true⟩ = g4 at *
  obtain ⟨bcs, row, kk2⟩ := ios4
  refine RunT.appendG (s := 3) (j := 1) rfl rfl rfl rfl rfl rfl rfl rfl rfl (by decide) row.gr ot.all rfl (Nat.le_refl 1) rfl (by show 2 * (_ + 1) * 40 ≤ _; omega) (by omega) (fun b g => .inl g) ?_
  intro ov2 g5 row2 f9
  have hn4 := F4_.next
  have fin := IoW.app (ys := [l[i]]) row kk2 rfl (fun j y hy => by
    match j, hy with
    | 0, hy =>
      cases hy
      exact ⟨_, rfl, sdv4, hb, fun b o c e a => by have := hdvb b o c e; have := hov1 b a; omega⟩
    | j + 1, hy => simp at hy) row2 f9 (fg.same F4_).next
  rw [← htk] at fin
  refine RunT.pure rfl rfl (fun _ => rfl) rfl ?_
  refine RunT.nil ?_
  intro lw F10
  have fin2 : IoW h.next (g5.lo lw) ov2 (l.take (i + 1)) := fin
  have F10 : Fr no h (g5.lo lw) := fg.trans F10 (fun b g => .inr (by rcases g with g | g; exact hov b g; omega))
  generalize g5.lo lw = g6 at *
  refine RunC.region (RunO.all rfl ?_)
  exact ⟨d - 1, by omega, i + 1, ov2, by omega, F10, fin2, Le.cons (inc64 (by omega)) (Le.cons rfl (Le.cons rfl (Le.nil _)))⟩
end Go.Proofs.Ytijfghknjkegpaa
end
section
set_option linter.unusedVariables false
set_option maxRecDepth 100000
open Go Go.Am Go.RowKit
namespace Go.Proofs.Ytijfghknjkegpaa
open Go.Proofs.Try
def wrG (n : Nat) (x : IoT) : Prop := x.1 = 1 ∧ (∃ a : Nat, x.2.1 = (a : Int) ∧ (a + 1) * 64 ≤ n) ∧ x.2.2.1.length = 64 ∧ Byt x.2.2.1
theorem apStep_w {o : List Int} {x : IoT} {n : Nat} (h : wrG n x) {a : Nat} (ha : x.2.1 = (a : Int)) : applyStep o x = setBlk o a x.2.2.1 := by
  unfold applyStep
  rw [h.1, ha]; rfl
end Go.Proofs.Ytijfghknjkegpaa
end
section
set_option linter.unusedVariables false
set_option linter.unusedSectionVars false
set_option maxRecDepth 100000
open Go Go.Am Go.RowKit
namespace Go.Proofs.Ytijfghknjkegpaa
open Go.Proofs.Try
/- A device of records, one behind the other. -/
def rcNx (at_ n i : Nat) : Int := if i + 1 < n then ((at_ + i + 1 : Nat) : Int) else 0
def rcR (at_ n id i : Nat) : R8 := ⟨rcNx at_ n i, ((id + i : Nat) : Int), 0, 0, 0, 0, 0, 0⟩
def r8B (r : R8) : List Int := recBlock r.nx r.id r.pa r.ro r.sz r.ki r.fr r.di
def rcW (at_ n id : Nat) (k : Nat) : List IoT := (List.range k).map fun i => ((1 : Int), ((at_ + i : Nat) : Int), r8B (rcR at_ n id i), ())
def rcF (at_ n : Nat) : Int := if 0 < n then (at_ : Int) else 0
def rcS (at_ n : Nat) : List Int := superBlock 1 20 0 0 (rcF at_ n)
def rcL (at_ n id : Nat) : List IoT := rcW at_ n id n ++ [((1 : Int), 0, rcS at_ n, ())]
def recI (at_ n id : Nat) : List Int := applyL (List.replicate 1280 0) (rcL at_ n id)
section
variable {at_ n id : Nat} (h2 : 2 ≤ at_) (hn : at_ + n ≤ 20) (hi : 1 ≤ id) (hid : id ≤ 90000)
include h2 hn hi hid
end
end Go.Proofs.Ytijfghknjkegpaa
end
section
set_option linter.unusedVariables false
set_option linter.unusedSectionVars false
set_option maxRecDepth 100000
open Go Go.Am Go.RowKit
namespace Go.Proofs.Ytijfghknjkegpaa
open Go.Proofs.Try

def nxA (at0 : Int) (free : List Int) (i : Nat) : Int := if i = 0 then at0 else free.getD (i - 1) 0
def ioA (A : List R8) (free : List Int) (at0 : Int) (i : Nat) : IoT := (1, free.getD i 0, r8B (nx0 (A.getD i ⟨0, 0, 0, 0, 0, 0, 0, 0⟩) (nxA at0 free i)), ())
def wrA (A : List R8) (free : List Int) (at0 : Int) (k : Nat) : List IoT := (List.range k).map (ioA A free at0)
def anewL (old : List R8) (n : Nat) (w : Bool) (x : R8) : List R8 := (old.take (n - 1)).reverse ++ (if w then [x] else [])
def at0L (bl : List Int) (n : Nat) : Int := if n < bl.length then bl.getD n 0 else 0
section
variable {old : List R8} {bl free : List Int} {n : Nat} {x : R8} {w : Bool} (m : MayOk old bl n x w free)
include m
end
end Go.Proofs.Ytijfghknjkegpaa
end
section
set_option linter.unusedVariables false
set_option linter.unusedSectionVars false
set_option maxRecDepth 100000
open Go Go.Am Go.RowKit
namespace Go.Proofs.Ytijfghknjkegpaa
open Go.Proofs.Try

def cmtT (s : S5) (slot root size first : Int) : List IoT := [((2 : Int), (0 : Int), ([] : List Int), ()), ((1 : Int), 1 - slot, superBlock (s.1 + 1) s.2.1 root size first, ()), ((2 : Int), (0 : Int), ([] : List Int), ())]
end Go.Proofs.Ytijfghknjkegpaa
end
section
set_option linter.unusedVariables false
set_option linter.unusedSectionVars false
set_option maxRecDepth 100000
open Go Go.Am Go.RowKit
namespace Go.Proofs.Ytijfghknjkegpaa
open Go.Proofs.Try
end Go.Proofs.Ytijfghknjkegpaa
end
section
set_option linter.unusedVariables false
set_option linter.unusedSectionVars false
set_option maxRecDepth 100000
open Go Go.Am Go.RowKit
namespace Go.Proofs.Ytijfghknjkegpaa
open Go.Proofs.Try

/-- One slot stands, the other one is none, or elder. -/
structure Two (B : Nat) (g : Int) (slot : Nat) (rt sz fi : Int) (X : List Int) : Prop where
  len : X.length = B * 64
  byt : Byt X
  cur : blkI X slot = superBlock g (B : Int) rt sz fi
  oth : sCode (blkI X (1 - slot)) ≠ 0 ∨ ∃ g' rt' sz' fi', g' < g ∧ superOk g' (B : Int) rt' sz' fi' = true ∧ blkI X (1 - slot) = superBlock g' (B : Int) rt' sz' fi'
end Go.Proofs.Ytijfghknjkegpaa
end
section
set_option linter.unusedVariables false
set_option linter.unusedSectionVars false
set_option maxRecDepth 100000
open Go Go.Am Go.RowKit
namespace Go.Proofs.Ytijfghknjkegpaa
open Go.Proofs.Try
/- How often each block is reached. -/
def bmp (c : List Int) (p : Int) : List Int := if p = 0 then c else c.set p.toNat (c.getD p.toNat 0 + 1)
def wPs (L : List Int) (a : Int) : List Int := (nodV (blkI L a.toNat)).2
def nodeB (L : List Int) (st : List Int × List Bool) (a : Int) : List Int × List Bool := if st.2.getD a.toNat false then st else ((wPs L a).foldl bmp st.1, st.2.set a.toNat true)
def treeB (L : List Int) (st : List Int × List Bool) (x : Int × List Int) : List Int × List Bool := x.2.foldl (nodeB L) (bmp st.1 x.1, st.2)
def c0L (B : Nat) (bl : List Int) : List Int := bl.foldl (fun c a => c.set a.toNat 1) (((List.replicate B 0).set 0 1).set 1 1)
def wRs (L : List Int) : List (Int × List Int) := (lkR L).map fun p => (p.1, treeN L p.1)
def cntL (L : List Int) : List Int := ((wRs L).foldl (treeB L) (c0L (L.length / 64) (lkF L).2.1, List.replicate (L.length / 64) false)).1
/-- So long, in bounds. -/
def CB (B : Nat) (k : Int) (c : List Int) : Prop := c.length = B ∧ ∀ x ∈ c, 0 ≤ x ∧ x ≤ k
end Go.Proofs.Ytijfghknjkegpaa
end
section
set_option linter.unusedVariables false
set_option linter.unusedSectionVars false
set_option maxRecDepth 100000
open Go Go.Am Go.RowKit
namespace Go.Proofs.Ytijfghknjkegpaa
open Go.Proofs.Try
end Go.Proofs.Ytijfghknjkegpaa
end
section
set_option linter.unusedVariables false
set_option linter.unusedSectionVars false
set_option maxRecDepth 100000
open Go Go.Am Go.RowKit
namespace Go.Proofs.Ytijfghknjkegpaa
open Go.Proofs.Try
/-- The numbers below n with p, in order. -/
def idxs (p : Nat → Bool) (n : Nat) : List Int := ((List.range n).filter p).map fun (j : Nat) => (j : Int)
def cntI (p : Nat → Bool) (n : Nat) : Nat := ((List.range n).filter p).length
def posP (c : List Int) (j : Nat) : Bool := decide (c.getD j 0 > 0)
def shP (c : List Int) (j : Nat) : Bool := decide ((j : Int) ≥ 2) && decide (c.getD j 0 > 1)
theorem idxs_len (p : Nat → Bool) (n : Nat) : (idxs p n).length = cntI p n := List.length_map _
theorem cntI_le (p : Nat → Bool) (n : Nat) : cntI p n ≤ n := by
  unfold cntI
  have := List.length_filter_le p (List.range n)
  rwa [List.length_range] at this
theorem idxs_yes {p : Nat → Bool} {n : Nat} (h : p n = true) : idxs p (n + 1) = idxs p n ++ [(n : Int)] := by
  unfold idxs
  rw [List.range_succ, List.filter_append, List.map_append, List.filter_cons_of_pos h]; rfl
theorem idxs_no {p : Nat → Bool} {n : Nat} (h : p n = false) : idxs p (n + 1) = idxs p n := by
  unfold idxs
  rw [List.range_succ, List.filter_append, List.map_append, List.filter_cons_of_neg (by rw [h]; decide)]
  exact List.append_nil _
section
variable {h : Heap} {iv : Value} {L : List Int} (sl : Sl h iv 1 L.length (us L)) (hb : Byt L) (hm : L.length ≤ 4611686018427387904)
include sl hb hm
/-- How many are reached. -/
def usedL (L : List Int) : Nat := if (lk L).2 = 0 then cntI (posP (cntL L)) (L.length / 64) else 0
def sharedL (L : List Int) : List Int := if (lk L).2 = 0 then idxs (shP (cntL L)) (L.length / 64) else []
end
end Go.Proofs.Ytijfghknjkegpaa
end
