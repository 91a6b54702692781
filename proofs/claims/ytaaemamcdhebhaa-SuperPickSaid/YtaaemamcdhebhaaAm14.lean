/- Am14: part of a calculus over an abstract machine that stands beside the model, and contracts of functions by it.
Conditions: what each theorem says of its arguments. -/
import Derived.Test.YtaaemamcdhebhaaAm13
set_option linter.unusedVariables false
namespace Go.Am
open Go.RowKit
section
variable {P : Program} {n : Nat} {ops rest : List Oper} {E E1 : Env} {h h1 : Heap} {Q : Env → Heap → Prop}
theorem RunO.le (l : Le E1 E) (r : RunO P n ops rest E1 h Q) : RunO P n ops rest E h Q := by
  obtain ⟨E', h', q, N, hN⟩ := r
  exact ⟨E', h', q, N, fun d hd K hK T hs => hN d hd K hK T (hs.le l)⟩
/-- The first k operations, then the others. -/
theorem RunO.cut (k : Nat) (R : Env → Heap → Prop) (a : RunO P n ops (rest.take k) E h R) (b : ∀ E' h', R E' h' → RunO P n ops (rest.drop k) E' h' Q) : RunO P n ops rest E h Q := by
  obtain ⟨E1, h1, q, N, hN⟩ := a
  obtain ⟨E2, h2, q2, N2, hN2⟩ := b E1 h1 q
  refine ⟨E2, h2, q2, Nat.max N N2, fun d hd K hK T hs => ?_⟩
  obtain ⟨T1, hs1, ha⟩ := hN d (Nat.le_trans (Nat.le_max_left _ _) hd) K (Nat.le_trans (Nat.le_max_left _ _) hK) T hs
  obtain ⟨T2, hs2, hb⟩ := hN2 d (Nat.le_trans (Nat.le_max_right _ _) hd) K (Nat.le_trans (Nat.le_max_right _ _) hK) T1 hs1
  refine ⟨T2, hs2, ?_⟩
  rw [← List.take_append_drop k rest, aops_append _ _ ha]
  exact hb
theorem RunO.cutE (k : Nat) (E1 : Env) (a : RunO P n ops (rest.take k) E h (fun E' h' => h' = h ∧ Le E1 E')) (b : RunO P n ops (rest.drop k) E1 h Q) : RunO P n ops rest E h Q :=
  RunO.cut k _ a (fun E' h' q => by obtain ⟨rfl, l⟩ := q; exact b.le l)
theorem RunO.oneG {o : Oper} {v : Value} (g : ewanted ops E o = some true) (e : eop P E o h = some (v, h1)) (p : eput n E o.dst v = some E1) (r : RunO P n ops rest E1 h1 Q) : RunO P n ops (o :: rest) E h Q := by
  refine RunO.part (E1 := E1) (h1 := h1) 1 ?_ r
  show eops P n ops [o] E h = _
  simp only [eops, estep, g, e, p]
theorem RunO.offG {o : Oper} (g : ewanted ops E o = some false) (p : eput n E o.dst undef = some E1) (r : RunO P n ops rest E1 h Q) : RunO P n ops (o :: rest) E h Q := by
  refine RunO.part (E1 := E1) (h1 := h) 1 ?_ r
  show eops P n ops [o] E h = _
  simp only [eops, estep, g, p]
theorem RunO.callG {dst : Option Tmp} {f : Operand} {args : Array Operand} {ats : Array TypeId} {t : TypeId} {pos : String} {after : Array Edge} {gd : Option (Nat × Bool)} {g : FuncId} {first captured : Array Value} {vs : List Value}
    (hw : ewanted ops E ⟨dst, .call ⟨.value f, args, ats⟩, t, pos, after, gd⟩ = some true) (hf : gE E f = some (.func (.func g) first captured)) (hv : gs (gE E) args.toList = some vs)
    (r : RunF P g (first.toList ++ (vs ++ captured.toList)) h fun v h1 => ∃ E1, eput n E dst v = some E1 ∧ RunO P n ops rest E1 h1 Q) : RunO P n ops (⟨dst, .call ⟨.value f, args, ats⟩, t, pos, after, gd⟩ :: rest) E h Q := by
  obtain ⟨v, h1, ⟨E1, hp, E2, h2, q, N2, hN2⟩, N1, hN1⟩ := r
  refine ⟨E2, h2, q, Nat.max N1 N2, fun d hd K hK T hs => ?_⟩
  obtain ⟨T1, ha, hs1⟩ := eput_le hs hp
  obtain ⟨T2, hs2, hb⟩ := hN2 d (Nat.le_trans (Nat.le_max_right _ _) hd) K (Nat.le_trans (Nat.le_max_right _ _) hK) T1 hs1
  refine ⟨T2, hs2, ?_⟩
  unfold aops astep
  simp only [ewanted_le hs hw, aop, acallv, gE_le hs hf, gs_le hs hv, hN1 d (Nat.le_trans (Nat.le_max_left _ _) hd) K (Nat.le_trans (Nat.le_max_left _ _) hK), ha]
  exact hb
/-- A call with a known end, into a temporary. -/
theorem RunO.callD {d : Tmp} {f : Operand} {args : Array Operand} {ats : Array TypeId} {t : TypeId} {pos : String} {after : Array Edge} {g : FuncId} {vs : List Value} {R : Value → Heap → Prop}
    (r : RunF P g vs h R) (hf : gE E f = some (.func (.func g) #[] #[])) (hv : gs (gE E) args.toList = some vs) (hd : Nat.ble (Nat.succ d) n = true)
    (k : ∀ v h1, R v h1 → RunO P n ops rest (upd E d v) h1 Q) : RunO P n ops (⟨some d, .call ⟨.value f, args, ats⟩, t, pos, after, none⟩ :: rest) E h Q := by
  refine RunO.call hf hv (RunF.mono ?_ (fun v h1 q => ⟨_, by simp only [eput, hd, cond_true], k v h1 q⟩))
  have e : (#[] : Array Value).toList ++ (vs ++ (#[] : Array Value).toList) = vs := by simp
  rw [e]; exact r
theorem RunO.callN {f : Operand} {args : Array Operand} {ats : Array TypeId} {t : TypeId} {pos : String} {after : Array Edge} {g : FuncId} {vs : List Value} {R : Value → Heap → Prop}
    (r : RunF P g vs h R) (hf : gE E f = some (.func (.func g) #[] #[])) (hv : gs (gE E) args.toList = some vs)
    (k : ∀ v h1, R v h1 → RunO P n ops rest E h1 Q) : RunO P n ops (⟨none, .call ⟨.value f, args, ats⟩, t, pos, after, none⟩ :: rest) E h Q := by
  refine RunO.call hf hv (RunF.mono ?_ (fun v h1 q => ⟨_, rfl, k v h1 q⟩))
  have e : (#[] : Array Value).toList ++ (vs ++ (#[] : Array Value).toList) = vs := by simp
  rw [e]; exact r
theorem RunC.seqc {a b : Code} {Qn : Env → Heap → Prop} {Qx : Nat → Env → Heap → Prop} {Qr : Env → Heap → Prop} (Q1 : Env → Heap → Prop) (ra : RunC P n a E h Q1 Qx Qr) (rb : ∀ E' h', Q1 E' h' → RunC P n b E' h' Qn Qx Qr) : RunC P n (.seq a b) E h Qn Qx Qr :=
  RunC.seq (ra.mono (fun E h q => rb E h q) (fun _ _ _ q => q) (fun _ _ q => q))
/-- Code that leaves memory alone, and leaves so much known. -/
theorem RunC.seqE {a b : Code} {Qn : Env → Heap → Prop} {Qx : Nat → Env → Heap → Prop} {Qr : Env → Heap → Prop} (E1 : Env) (ra : RunC P n a E h (fun E' h' => h' = h ∧ Le E1 E') Qx Qr) (rb : RunC P n b E1 h Qn Qx Qr) : RunC P n (.seq a b) E h Qn Qx Qr :=
  RunC.seqc _ ra (fun E' h' q => by obtain ⟨rfl, l⟩ := q; exact rb.le l)
end

theorem Rd.cell1 {P : Program} {h : Heap} {a : Addr} {cs : List Value} (r : Rd h a cs) {t : TypeId} {k : Nat} {v : Value} (ha : isAgg P t = some false) (hk : nth cs k = some v) : aload P h t ⟨a.block, a.off + k, none⟩ = some v :=
  r.part (by simp only [apart, ha]; exact hk)

/- Numbers. -/
theorem inc64 {j : Nat} (h : j < 4611686018427387904) : some (Value.int .i64 (fwrap .i64 ((j : Int) + 1))) = some (.int .i64 ((j + 1 : Nat) : Int)) := by
  rw [fw64 (by omega) (by omega)]; rfl
theorem wrap_u64 (x : Int) : IntKind.u64.wrap x = x % 18446744073709551616 := by unfold IntKind.wrap; simp [IntKind.signed, IntKind.bits]
theorem fwu64 {x : Int} (h : 0 ≤ x) (h2 : x < 18446744073709551616) : fwrap .u64 x = x := by
  cases x with
  | ofNat m =>
    show cond (Nat.ble m 9223372036854775807) (Int.ofNat m) (IntKind.u64.wrap (Int.ofNat m)) = _
    cases Nat.ble m 9223372036854775807 with
    | true => rfl
    | false => rw [cond_false, wrap_u64]; exact Int.emod_eq_of_lt h h2
  | negSucc m => exact absurd h (by omega)
theorem wrap_u32 (x : Int) : IntKind.u32.wrap x = x % 4294967296 := by unfold IntKind.wrap; simp [IntKind.signed, IntKind.bits]
theorem fwu32 {x : Int} : fwrap .u32 x = x % 4294967296 := by
  cases x with
  | ofNat m =>
    show cond (Nat.ble m 4294967295) (Int.ofNat m) (IntKind.u32.wrap (Int.ofNat m)) = _
    cases hb : Nat.ble m 4294967295 with
    | true => have := Nat.le_of_ble_eq_true hb; rw [cond_true]; show (m : Int) = (m : Int) % 4294967296; omega
    | false => rw [cond_false, wrap_u32]
  | negSucc m => exact wrap_u32 _
theorem fwu64' {x : Int} : fwrap .u64 x = x % 18446744073709551616 := by
  cases x with
  | ofNat m =>
    show cond (Nat.ble m 9223372036854775807) (Int.ofNat m) (IntKind.u64.wrap (Int.ofNat m)) = _
    cases hb : Nat.ble m 9223372036854775807 with
    | true => have := Nat.le_of_ble_eq_true hb; rw [cond_true]; show (m : Int) = (m : Int) % 18446744073709551616; omega
    | false => rw [cond_false, wrap_u64]
  | negSucc m => exact wrap_u64 _
theorem or64 {x y : Nat} (h : x < 18446744073709551616) (h2 : y < 18446744073709551616) : abin .or .u64 (x : Int) .u64 (y : Int) = some (.int .u64 ((x ||| y : Nat) : Int)) := by
  show some (Value.int .u64 (IntKind.u64.wrap (((BitVec.ofInt 64 (x : Int) ||| BitVec.ofInt 64 (y : Int) : BitVec 64).toNat : Nat) : Int))) = _
  have e : ((BitVec.ofInt 64 (x : Int) ||| BitVec.ofInt 64 (y : Int) : BitVec 64).toNat) = x ||| y := by
    rw [BitVec.toNat_or, BitVec.ofInt_natCast, BitVec.ofInt_natCast, BitVec.toNat_ofNat, BitVec.toNat_ofNat]
    rw [Nat.mod_eq_of_lt (show x < 2 ^ 64 from h), Nat.mod_eq_of_lt (show y < 2 ^ 64 from h2)]
  rw [e, wrap_u64]
  have : x ||| y < 2 ^ 64 := Nat.or_lt_two_pow h h2
  congr 2
  exact Int.emod_eq_of_lt (Int.natCast_nonneg _) (by have : ((x ||| y : Nat) : Int) < ((2 ^ 64 : Nat) : Int) := Int.ofNat_lt.2 this; exact this)
theorem shl64 {x k : Nat} (hk : k ≤ 64) (h : x * 2 ^ k < 18446744073709551616) : abin .shl .u64 (x : Int) .i64 (k : Int) = some (.int .u64 ((x * 2 ^ k : Nat) : Int)) := by
  show cond (decide ((k : Int) < 0)) none (some (Value.int .u64 (fwrap .u64 ((x : Int) * 2 ^ (min (Int.toNat (k : Int)) 64))))) = _
  rw [decide_eq_false (by omega), cond_false, Int.toNat_natCast, Nat.min_eq_left hk]
  have e : (x : Int) * 2 ^ k = ((x * 2 ^ k : Nat) : Int) := by rw [Int.natCast_mul, Int.natCast_pow]; rfl
  rw [e, fwu64 (by omega) (by omega)]
theorem or_add {x y k : Nat} (h : x < 2 ^ k) : x ||| y * 2 ^ k = x + y * 2 ^ k := by
  rw [Nat.or_comm, ← Nat.shiftLeft_eq, ← Nat.shiftLeft_add_eq_or_of_lt h, Nat.add_comm]
end Go.Am
