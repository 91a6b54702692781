/- Dev: part of a calculus over an abstract machine that stands beside the model, and contracts of functions by it.
Conditions: what each theorem says of its arguments. -/
import Derived.Test.YtaaemamcdhebhaaPick
import Derived.Test.YtaaemamcdhebhaaCfIo
set_option linter.unusedVariables false
set_option maxRecDepth 100000
open Go Go.Am
namespace Go.Proofs.Ytaaemamcdhebhaa
open Go.Proofs.Try
abbrev IoT := Int × Int × List Int × Unit
/-- A device step's cells. -/
def IoK (h : Heap) (x : IoT) (cs : List Value) : Prop := ∃ dv, cs = [.int .i64 x.1, .int .i64 x.2.1, dv] ∧ Sl h dv 1 x.2.2.1.length (us x.2.2.1) ∧ Byt x.2.2.1
/-- A slice of device steps. -/
def Ios (h : Heap) (v : Value) (l : List IoT) : Prop := ∃ acs, Sl h v 3 l.length acs ∧ ∀ (j : Nat) (x : IoT), l[j]? = some x → IoK h x ((acs.drop (j * 3)).take 3)
theorem IoK.ex {h h' : Heap} {x : IoT} {cs : List Value} (k : IoK h x cs) (e : Ex h h') : IoK h' x cs := by
  obtain ⟨dv, h1, h2, h3⟩ := k
  exact ⟨dv, h1, h2.ex e, h3⟩
theorem Ios.ex {h h' : Heap} {v : Value} {l : List IoT} (k : Ios h v l) (e : Ex h h') : Ios h' v l := by
  obtain ⟨acs, h1, h2⟩ := k
  exact ⟨acs, h1.ex e, fun j x hx => (h2 j x hx).ex e⟩
theorem Ios.fr0 {h h' : Heap} {v : Value} {l : List IoT} (k : Ios h v l) (f : Fr no h h') : Ios h' v l := k.ex f.ex
theorem clone8_ok {h : Heap} {v : Value} {l : List Int} (sl : Sl h v 1 l.length (us l)) (hb : 2 * l.length ≤ 281474976710656) :
    RunF prog 66 [v] h fun r h' => Osl h.next h' r 1 l.length (us l) ∧ Fr no h h' ∧ (l.length = 0 → h.next ≤ h'.next) := by
  refine RunF.walk func66 rfl rfl ?_
  refine RunC.seq (RunC.region (RunO.all rfl ?_))
  obtain ⟨hl, hm, ⟨rfl, h0⟩ | ⟨b, o, c, rfl, hc, rd⟩⟩ := sl
  · refine RunC.seq (RunC.seq (RunC.region (RunO.all rfl ?_)))
    refine RunC.cond rfl (fun _ => ?_) (fun g => by cases g)
    exact RunC.seq (RunC.region (RunO.all rfl (RunC.ret ⟨_, rfl, ⟨hl, hm, .inl ⟨rfl, h0⟩⟩, Fr.refl _ _, fun _ => Nat.le_refl _⟩)))
  · refine RunC.seq (RunC.seq (RunC.region (RunO.all rfl ?_)))
    refine RunC.cond rfl (fun g => by cases g) (fun _ => RunC.skip ?_)
    refine RunC.seq (RunC.region (RunO.part 2 (h1 := h.push ⟨[], true⟩) rfl ?_))
    have f1 : Fr no h (h.push ⟨[], true⟩) := Fr.push _ _ _
    have ow : Ow (h.push ⟨[], true⟩) h.next [] := Ow.push _ _
    by_cases hz : l.length = 0
    · have hn : l = [] := List.eq_nil_of_length_eq_zero hz
      subst hn
      have key : aappend prog (h.push ⟨[], true⟩) 24 24 (.slice (some ⟨h.next, 0, none⟩) 0 (exc 0)) (.slice (some ⟨b, o, none⟩) 0 c) = some (.slice (some ⟨h.next, 0, none⟩) 0 (exc 0), h.push ⟨[], true⟩) := by
        have hs : asrc (h.push ⟨[], true⟩) 1 (.slice (some ⟨b, o, none⟩) 0 c) = some (0, []) := ((rd.fr f1 (fun g => g)).sl (s := 1) (n := 0) rfl (Nat.zero_le _) hc).src0
        show (match asrc (h.push ⟨[], true⟩) 1 (.slice (some ⟨b, o, none⟩) 0 c) with
          | some (0, _) => some (Value.slice (some ⟨h.next, 0, none⟩) 0 (exc 0), h.push ⟨[], true⟩)
          | some (m + 1, news) => _
          | none => none) = _
        rw [hs]
      refine RunO.one rfl (v := .slice (some ⟨h.next, 0, none⟩) 0 (exc 0)) (h1 := h.push ⟨[], true⟩) key rfl ?_
      exact RunO.all rfl (RunC.ret ⟨_, rfl, ⟨rfl, hm, .inr ⟨h.next, exc 0, Nat.le_refl _, rfl, Cp.exc (Nat.le_refl _), ow⟩⟩, f1, fun _ => Nat.le_succ _⟩)
    · have key := append_full (P := prog) (t := 24) (e := 5) (s := 1) (k := 0) (m := l.length) (c := exc 0) (c' := c) (olds := []) (news := us l) (b := ⟨h.next, 0, none⟩) (a := ⟨b, o, none⟩) rfl rfl rfl rfl rfl (Nat.le_refl 1) ow.all rfl rfl (by show 0 < 0 + l.length; omega) (rd.fr f1 (fun g => g)) (by rw [us_len, Nat.mul_one]) (by omega)
        (by show 2 * (0 + l.length) * 1 ≤ _; omega) (by omega)
      rw [Nat.zero_add, List.nil_append] at key
      refine RunO.one rfl key rfl ?_
      refine RunO.all rfl (RunC.ret ⟨_, rfl, ⟨hl, hm, .inr ⟨_, _, Nat.le_succ _, rfl, Cp.unkc _ _, Ow.push _ _⟩⟩, f1.same (Fr.push _ _ _), fun _ => Nat.le_succ_of_le (Nat.le_succ _)⟩)
/-- Is a step right? -/
def ioR (k a : Int) (n : Nat) (b : Int) : Bool := if (k == 1) = true then decide (a ≥ 0) && (decide (a < b) && ((n : Int) == 64)) else if (k == 2) = true then a == 0 && ((n : Int) == 0) else false
theorem devRight_ok {h : Heap} {k a b : Int} {A : Option Addr} {n c : Nat} : RunF prog 79 [.agg ⟨[.int .i64 k, .int .i64 a, .slice A n c]⟩, .int .i64 b] h fun v h' => v = .bool (ioR k a n b) ∧ Fr no h h' := by
  refine RunF.walk func79 rfl rfl ?_
  refine RunC.seq (RunC.region (RunO.all (h1 := h.push ⟨[.int .i64 k, .int .i64 a, .slice A n c], true⟩) rfl ?_))
  have ow : Ow (h.push ⟨[.int .i64 k, .int .i64 a, .slice A n c], true⟩) h.next [.int .i64 k, .int .i64 a, .slice A n c] := Ow.push _ _
  have f1 : Fr no h (h.push ⟨[.int .i64 k, .int .i64 a, .slice A n c], true⟩) := Fr.push _ _ _
  generalize h.push ⟨[.int .i64 k, .int .i64 a, .slice A n c], true⟩ = h1 at *
  generalize h.next = p at *
  refine RunC.seq (RunC.seq (RunC.region (RunO.part 1 rfl ?_)))
  refine RunO.load (v := .int .i64 k) rfl (ow.all.cell1 (k := 0) rfl rfl) rfl (RunO.nil ?_)
  refine RunC.block ?_
  refine RunC.seq (RunC.region (RunO.all rfl ?_))
  unfold ioR
  cases (k == 1) with
  | true =>
    refine RunC.cond rfl (fun _ => ?_) (fun g => by cases g)
    refine RunC.seq (RunC.region (RunO.part 1 rfl ?_))
    refine RunO.load (v := .int .i64 a) rfl (ow.all.cell1 (k := 1) rfl rfl) rfl ?_
    refine RunO.part 2 rfl ?_
    cases decide (a ≥ 0) with
    | false => exact RunO.all rfl (RunC.ret ⟨_, rfl, rfl, f1⟩)
    | true =>
      refine RunO.part 1 rfl ?_
      refine RunO.loadG (v := .int .i64 a) rfl rfl (ow.all.cell1 (k := 1) rfl rfl) rfl ?_
      refine RunO.part 4 rfl ?_
      cases decide (a < b) with
      | false => exact RunO.all rfl (RunC.ret ⟨_, rfl, rfl, f1⟩)
      | true =>
        refine RunO.part 1 rfl ?_
        refine RunO.loadG (v := .slice A n c) rfl rfl (ow.all.cell1 (k := 2) rfl rfl) rfl ?_
        exact RunO.all rfl (RunC.ret ⟨_, rfl, rfl, f1⟩)
  | false =>
    refine RunC.cond rfl (fun g => by cases g) (fun _ => ?_)
    refine RunC.seq (RunC.region (RunO.all rfl ?_))
    cases (k == 2) with
    | false =>
      refine RunC.cond rfl (fun g => by cases g) (fun _ => RunC.skip ?_)
      exact RunC.seq (RunC.region (RunO.all rfl (RunC.ret ⟨_, rfl, rfl, f1⟩)))
    | true =>
      refine RunC.cond rfl (fun _ => ?_) (fun g => by cases g)
      refine RunC.seq (RunC.region (RunO.part 1 rfl ?_))
      refine RunO.load (v := .int .i64 a) rfl (ow.all.cell1 (k := 1) rfl rfl) rfl ?_
      refine RunO.part 2 rfl ?_
      cases (a == 0) with
      | false => exact RunO.all rfl (RunC.ret ⟨_, rfl, rfl, f1⟩)
      | true =>
        refine RunO.part 1 rfl ?_
        refine RunO.loadG (v := .slice A n c) rfl rfl (ow.all.cell1 (k := 2) rfl rfl) rfl ?_
        exact RunO.all rfl (RunC.ret ⟨_, rfl, rfl, f1⟩)
theorem devRightC_ok {h : Heap} {k a b : Int} {A : Option Addr} {n c q : Nat} (rd : Rd h ⟨q, 0, none⟩ [.int .i64 b]) : RunF prog 78 [.agg ⟨[.int .i64 k, .int .i64 a, .slice A n c]⟩, .pointer (some ⟨q, 0, none⟩)] h fun v h' => v = .bool (!ioR k a n b) ∧ Fr no h h' := by
  refine RunF.walk func78 rfl rfl ?_
  refine RunC.seq (RunC.region (RunO.all (h1 := h.push ⟨[.int .i64 k, .int .i64 a, .slice A n c], true⟩) rfl ?_))
  have ow : Ow (h.push ⟨[.int .i64 k, .int .i64 a, .slice A n c], true⟩) h.next [.int .i64 k, .int .i64 a, .slice A n c] := Ow.push _ _
  have f1 : Fr no h (h.push ⟨[.int .i64 k, .int .i64 a, .slice A n c], true⟩) := Fr.push _ _ _
  have rd1 := rd.fr f1 (fun g => g)
  generalize h.push ⟨[.int .i64 k, .int .i64 a, .slice A n c], true⟩ = h1 at *
  generalize h.next = p at *
  refine RunC.seq (RunC.region ?_)
  refine RunO.load (v := .agg ⟨[.int .i64 k, .int .i64 a, .slice A n c]⟩) rfl (ow.all.part (k := 0) rfl) rfl ?_
  refine RunO.load (v := .int .i64 b) rfl (rd1.cell1 (k := 0) rfl rfl) rfl ?_
  refine RunO.callD devRight_ok rfl rfl rfl ?_
  rintro _ h2 ⟨rfl, f2⟩
  exact RunO.all rfl (RunC.ret ⟨_, rfl, rfl, f1.same f2⟩)
/-- Why steps are not a device's. -/
def stepsE (n : Nat) (l : List IoT) : Int := if devOk n then (if decide ((l.length : Int) > 1048576) then 2 else if l.any (fun x => !ioR x.1 x.2.1 x.2.2.1.length (n / 64 : Nat)) then 1 else 0) else 2
theorem io_part {acs : List Value} {n j : Nat} (hl : acs.length = n * 3) (hj : j < n) : apart prog 75 acs (j * 3) = some (.agg ⟨(acs.drop (j * 3)).take 3⟩) := by
  show (match takeN 3 (dropN (j * 3) acs) with | some l => some (Value.agg ⟨l⟩) | none => none) = _
  rw [takeN_eq, dropN_eq, if_pos (by rw [List.length_drop]; omega)]
theorem devSteps_ok {h : Heap} {A : Option Addr} {c n : Nat} {v : Value} {l : List IoT} (il : Ios h v l) (hm : n ≤ 4611686018427387904) (hm2 : l.length ≤ 4611686018427387904) :
    RunF prog 65 [.slice A n c, v] h fun r h' => r = .int .i64 (stepsE n l) ∧ Fr no h h' := by
  obtain ⟨acs, sl, hk⟩ := il
  refine RunF.walk func65 rfl rfl ?_
  refine RunC.seq (RunC.region (RunO.all rfl ?_))
  refine RunC.seq (RunC.region (RunO.part 1 rfl ?_))
  refine RunO.callD (devCheck_ok hm) rfl rfl rfl ?_
  rintro _ _ ⟨rfl, rfl⟩
  have hsE : stepsE n l = if devOk n then (if decide ((l.length : Int) > 1048576) then 2 else if l.any (fun x => !ioR x.1 x.2.1 x.2.2.1.length (n / 64 : Nat)) then 1 else 0) else 2 := rfl
  rw [hsE]
  refine RunO.part 4 (h1 := h.push ⟨[.int .i64 0], true⟩) rfl ?_
  refine RunO.store rfl rfl (store1_ow (Ow.push h [.int .i64 0]) rfl rfl rfl (Nat.le_refl 1)) ?_
  change RunO _ _ _ _ _ ((h.push ⟨[.int .i64 0], true⟩).put h.next (some ⟨[.int .i64 (if devOk n then (n / 64 : Nat) else (0 : Nat))], true⟩)) _
  have ow : Ow ((h.push ⟨[.int .i64 0], true⟩).put h.next (some ⟨[.int .i64 (if devOk n then (n / 64 : Nat) else (0 : Nat))], true⟩)) h.next [.int .i64 (if devOk n then (n / 64 : Nat) else (0 : Nat))] := Ow.put _ (Nat.lt_succ_self _)
  have f1 : Fr no h ((h.push ⟨[.int .i64 0], true⟩).put h.next (some ⟨[.int .i64 (if devOk n then (n / 64 : Nat) else (0 : Nat))], true⟩)) := (Fr.push _ _ _).trans (Fr.put (m := (· = h.next)) _ (.inl rfl)) (fun j hj => .inr (by omega))
  generalize (h.push ⟨[.int .i64 0], true⟩).put h.next (some ⟨[.int .i64 (if devOk n then (n / 64 : Nat) else (0 : Nat))], true⟩) = h1 at *
  generalize h.next = p at *
  have sl1 := sl.fr0 f1
  refine RunO.all rfl ?_
  cases hd0 : devOk n with
  | false =>
    refine RunC.seq (RunC.block ?_)
    refine RunC.seq (RunC.region (RunO.all rfl (RunC.cond rfl (fun _ => ?_) (fun g => by cases g))))
    exact RunC.seq (RunC.region (RunO.all rfl (RunC.ret ⟨_, rfl, rfl, f1⟩)))
  | true =>
  rw [hd0, if_pos rfl] at ow
  refine RunC.seq (RunC.block ?_)
  refine RunC.seq (RunC.region (RunO.all rfl (RunC.cond rfl (fun g => by cases g) (fun _ => ?_))))
  obtain ⟨B, d, rfl, hd, _⟩ := sl.form
  refine RunC.seq (RunC.region (RunO.all rfl ?_))
  cases decide ((l.length : Int) > 1048576) with
  | true =>
    refine RunC.cond rfl (fun _ => ?_) (fun g => by cases g)
    exact RunC.seq (RunC.region (RunO.all rfl (RunC.ret ⟨_, rfl, rfl, f1⟩)))
  | false =>
    refine RunC.cond rfl (fun g => by cases g) (fun _ => ?_)
    refine RunC.seq (RunC.region (RunO.part 2 rfl ?_))
    refine RunO.callD (containsIo_ok sl1 (u := fun j => .agg ⟨(acs.drop (j * 3)).take 3⟩) (fun j hj => io_part sl.1 hj) (p := fun j => match l[j]? with | some x => !ioR x.1 x.2.1 x.2.2.1.length (n / 64 : Nat) | none => false) (fun j hj h2 f2 => ?_) hm2) rfl rfl rfl ?_
    · obtain ⟨dv, e1, e2, _⟩ := hk j _ (List.getElem?_eq_getElem hj)
      rw [e1]
      obtain ⟨D, dc, rfl, _, _⟩ := e2.form
      have := devRightC_ok (h := h2) (k := (l[j]).1) (a := (l[j]).2.1) (b := (n / 64 : Nat)) (A := D) (n := (l[j]).2.2.1.length) (c := dc) (q := p) ((ow.fr f2 (fun g => g)).all)
      simp only [List.getElem?_eq_getElem hj]
      exact this
    rintro _ h2 ⟨rfl, f2⟩
    rw [anyI_list (q := fun x : IoT => !ioR x.1 x.2.1 x.2.2.1.length (n / 64 : Nat)) (fun j x hx => by simp only [hx])]
    refine RunO.all rfl ?_
    cases l.any (fun x => !ioR x.1 x.2.1 x.2.2.1.length (n / 64 : Nat)) with
    | true =>
      refine RunC.cond rfl (fun _ => ?_) (fun g => by cases g)
      exact RunC.seq (RunC.region (RunO.all rfl (RunC.ret ⟨_, rfl, rfl, f1.same f2⟩)))
    | false =>
      refine RunC.cond rfl (fun g => by cases g) (fun _ => RunC.skip ?_)
      exact RunC.seq (RunC.region (RunO.all rfl (RunC.ret ⟨_, rfl, rfl, f1.same f2⟩)))
end Go.Proofs.Ytaaemamcdhebhaa
