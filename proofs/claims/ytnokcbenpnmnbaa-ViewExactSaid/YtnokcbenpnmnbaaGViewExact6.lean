/- ViewExact: a calculus over an abstract machine that stands beside the model, and contracts of functions by it (part 6).
Conditions: what each theorem says of its arguments. -/
import Derived.Test.YtnokcbenpnmnbaaGViewExact5
section
set_option linter.unusedVariables false
set_option linter.unusedSectionVars false
set_option maxRecDepth 100000
open Go Go.Am Go.RowKit
namespace Go.Proofs.Ytnokcbenpnmnbaa
open Go.Proofs.Try

theorem mk_eq {l m : List Int} (hl : Byt l) (hm : Byt m) : ((mkStr l).data.toList == (mkStr m).data.toList) = (l == m) := by
  rw [mkStr_data, mkStr_data, Bool.eq_iff_iff, beq_iff_eq, beq_iff_eq]
  have key : ∀ a : List Int, Byt a → (a.map (fun n => UInt8.ofNat n.toNat)).map (fun u : UInt8 => (u.toNat : Int)) = a := by
    intro a ha
    rw [List.map_map]
    conv => rhs; rw [← List.map_id a]
    refine List.map_congr_left (fun x hx => ?_)
    have h1 := ha x hx
    show (((UInt8.ofNat x.toNat).toNat : Nat) : Int) = x
    rw [UInt8.toNat_ofNat', Nat.mod_eq_of_lt (by omega)]
    omega
  constructor
  · intro e
    have := congrArg (List.map (fun u : UInt8 => (u.toNat : Int))) e
    rwa [key l hl, key m hm] at this
  · rintro rfl; rfl
theorem bytesEqual_ok {h : Heap} {v w : Value} {l m : List Int} (sl : Sl h v 1 l.length (us l)) (sm : Sl h w 1 m.length (us m)) (hl : Byt l) (hm : Byt m) :
    RunF prog 85 [v, w] h fun r h' => r = .bool (l == m) ∧ h = h' := by
  refine RunF.walk func85 rfl rfl ?_
  have s1 := strOf_ok sl
  have s2 := strOf_ok sm
  obtain ⟨A, c, rfl, _, _⟩ := sl.form
  obtain ⟨B, d, rfl, _, _⟩ := sm.form
  refine RunC.seq (RunC.region (RunO.all rfl ?_))
  refine RunC.seq (RunC.region (RunO.part 1 rfl ?_))
  refine RunO.one rfl (v := .string (mkStr l)) (E1 := upd _ 6 (.string (mkStr l))) (h1 := h) ?_ rfl ?_
  · show pureR h (abytes prog h 22 9 _) = _
    rw [s1]; rfl
  refine RunO.part 1 rfl ?_
  refine RunO.one rfl (v := .string (mkStr m)) (E1 := upd _ 8 (.string (mkStr m))) (h1 := h) ?_ rfl ?_
  · show pureR h (abytes prog h 22 9 _) = _
    rw [s2]; rfl
  refine RunO.bin (v := .bool (l == m)) rfl rfl ?_ rfl ?_
  · show some (Value.bool ((mkStr l).data.toList == (mkStr m).data.toList)) = _
    rw [mk_eq hl hm]
  exact RunO.all rfl (RunC.ret ⟨_, rfl, rfl, rfl⟩)
/-- Rows, snapshots of bytes. -/
def RwB (l : List (List Int)) : Prop := l.length ≤ 9223372036854775807 ∧ ∀ x ∈ l, x.length ≤ 9223372036854775807 ∧ Byt x
def SB (l : List Sn) : Prop := l.length ≤ 9223372036854775807 ∧ ∀ x ∈ l, RwB x.2.2.1
set_option maxHeartbeats 1600000 in
theorem eqRows_ok {h : Heap} {v w : Value} {l m : List (List Int)} (sl : Rws h v l) (sm : Rws h w m) (hl : RwB l) (hm : RwB m) :
    RunF prog 84 [v, w, .func (.func 85) #[] #[]] h fun v h' => v = .bool (l == m) ∧ Fr no h h' := by
  refine RunF.walk func84 rfl rfl ?_
  have hlen := hl.1
  obtain ⟨cs, s1, k1⟩ := sl
  obtain ⟨ds, s2, k2⟩ := sm
  have s10 := s1
  have s20 := s2
  obtain ⟨A, c, rfl, hc, _⟩ := s1.form
  obtain ⟨B, d, rfl, hd, _⟩ := s2.form
  refine RunC.seq (RunC.region (RunO.all rfl ?_))
  refine RunC.seq (RunC.seq (RunC.region (RunO.all rfl ?_)))
  by_cases hn : l.length = m.length
  case neg =>
    rw [show ((l.length : Int) != (m.length : Int)) = true from bne_iff_ne.2 (by omega)]
    refine RunC.cond rfl (fun _ => ?_) (fun g => by cases g)
    rw [show (l == m) = false from beq_eq_false_iff_ne.2 (fun e => hn (by rw [e]))]
    exact RunC.seq (RunC.region (RunO.all rfl (RunC.ret ⟨_, rfl, rfl, Fr.refl _ _⟩)))
  rw [show ((l.length : Int) != (m.length : Int)) = false from by rw [hn]; exact bne_self_eq_false _]
  refine RunC.cond rfl (fun g => by cases g) (fun _ => RunC.skip ?_)
  refine RunC.seq (RunC.seq (RunC.region (RunO.all rfl ?_)))
  refine RunC.block ?_

  refine RunC.loop (fun k E h' => ∃ i : Nat, i + k = l.length ∧ l.take i = m.take i ∧ Fr no h h' ∧ Le ((upd (upd (upd (upd (upd E0 1 (.slice B m.length d)) 2 (.func (.func 85) #[] #[])) 15 (.slice A l.length c)) 16 (.int .i64 (l.length : Int))) 17 (.int .i64 (i : Int)))) E) ?st (k := l.length) ?ini
  case ini => exact ⟨0, by omega, rfl, Fr.refl _ _, Le.cons rfl (Le.cons rfl (Le.cons rfl (Le.cons rfl (Le.cons rfl (Le.nil _)))))⟩
  rintro k E g ⟨i, hi, ht, fg, hE⟩
  refine RunC.le hE ?_
  clear hE
  refine RunC.seq (RunC.region (RunO.all rfl ?_))
  refine RunC.seq (RunC.cond rfl (fun hlt => RunC.skip ?go) (fun hge => RunC.exit ?ex))
  case go =>
    have hlt := of_decide_eq_true hlt
    have h1 : i < l.length := by omega
    have h2 : i < m.length := by omega
    obtain ⟨w1, e1, sw1⟩ := k1 i l[i] (List.getElem?_eq_getElem h1)
    obtain ⟨w2, e2, sw2⟩ := k2 i m[i] (List.getElem?_eq_getElem h2)
    refine RunC.seq (RunC.block ?_)
    refine RunC.seq (RunC.region (RunO.part 1 rfl ?_))
    refine RunO.at (s := 1) (k := i) rfl rfl (s10.fr0 fg) rfl rfl h1 (row_part e1) rfl rfl rfl (RunO.all rfl ?_)
    refine RunC.seq (RunC.region (RunO.part 2 rfl ?_))
    refine RunO.at (s := 1) (k := i) rfl rfl (s20.fr0 fg) rfl rfl h2 (row_part e2) rfl rfl rfl (RunO.all rfl ?_)
    refine RunC.seq (RunC.region (RunO.part 3 rfl ?_))
    refine RunO.callD (bytesEqual_ok (sw1.fr0 fg) (sw2.fr0 fg) (hl.2 _ (List.getElem_mem h1)).2 (hm.2 _ (List.getElem_mem h2)).2) rfl rfl rfl ?_
    rintro _ _ ⟨rfl, rfl⟩

    by_cases he : l[i] = m[i]
    · rw [show (l[i] == m[i]) = true from beq_iff_eq.2 he]
      refine RunO.all rfl (RunC.cond rfl (fun g => by cases g) (fun _ => RunC.skip ?_))
      refine RunC.region (RunO.all rfl ?_)
      refine ⟨k - 1, by omega, i + 1, by omega, ?_, fg, Le.cons (inc64x (by omega)) (Le.cons rfl (Le.cons rfl (Le.cons rfl (Le.cons rfl (Le.nil _)))))⟩
      rw [List.take_succ_eq_append_getElem h1, List.take_succ_eq_append_getElem h2, ht, he]
    · rw [show (l[i] == m[i]) = false from beq_eq_false_iff_ne.2 he]
      refine RunO.all rfl (RunC.cond rfl (fun _ => ?_) (fun g => by cases g))
      have hlm : (l == m) = false := beq_eq_false_iff_ne.2 (fun e => he (by simp [e]))
      rw [hlm]
      exact RunC.seq (RunC.region (RunO.all rfl (RunC.ret ⟨_, rfl, rfl, fg⟩)))
  have hge := of_decide_eq_false hge
  have hi2 : i = l.length := by omega
  rw [hi2, List.take_length, hn, List.take_length] at ht
  have hlm : (l == m) = true := beq_iff_eq.2 ht
  rw [hlm]
  exact RunC.seq (RunC.region (RunO.all rfl (RunC.ret ⟨_, rfl, rfl, fg⟩)))

theorem alike_ok {h : Heap} {v w : Value} {l m : List (List Int)} (sl : Rws h v l) (sm : Rws h w m) (hl : RwB l) (hm : RwB m) :
    RunF prog 55 [v, w] h fun v h' => v = .bool (l == m) ∧ Fr no h h' := by
  refine RunF.walk func55 rfl rfl ?_
  refine RunC.seq (RunC.region (RunO.all rfl ?_))
  refine RunC.seq (RunC.region (RunO.part 2 rfl ?_))
  refine RunO.callD (eqRows_ok sl sm hl hm) rfl rfl rfl ?_
  rintro _ h1 ⟨rfl, f1⟩
  exact RunO.all rfl (RunC.ret ⟨_, rfl, rfl, f1⟩)
theorem snE_eq (x y : Sn) : (x == y) = (((((x.1 == y.1) && (x.2.1 == y.2.1)) && (x.2.2.2.1 == y.2.2.2.1)) && (x.2.2.2.2 == y.2.2.2.2)) && (x.2.2.1 == y.2.2.1)) := by
  obtain ⟨x1, x2, x3, x4, x5⟩ := x
  obtain ⟨y1, y2, y3, y4, y5⟩ := y
  rw [Bool.eq_iff_iff, Bool.and_eq_true, Bool.and_eq_true, Bool.and_eq_true, Bool.and_eq_true, beq_iff_eq, beq_iff_eq, beq_iff_eq, beq_iff_eq, beq_iff_eq, beq_iff_eq]
  constructor
  · intro e
    cases e
    exact ⟨⟨⟨⟨rfl, rfl⟩, rfl⟩, rfl⟩, rfl⟩
  · rintro ⟨⟨⟨⟨e1, e2⟩, e3⟩, e4⟩, e5⟩
    have e1 : x1 = y1 := e1
    have e2 : x2 = y2 := e2
    have e3 : x4 = y4 := e3
    have e4 : x5 = y5 := e4
    have e5 : x3 = y3 := e5
    rw [e1, e2, e3, e4, e5]
theorem sn_part {cs : List Value} {j : Nat} {l : List Value} (h : (cs.drop (j * 5)).take 5 = l) (hl : l.length = 5) : apart prog 93 cs (j * 5) = some (.agg ⟨l⟩) := by
  show (match takeN 5 (dropN (j * 5) cs) with | some l => some (Value.agg ⟨l⟩) | none => none) = _
  have hk : 5 ≤ (cs.drop (j * 5)).length := by
    have := congrArg List.length h
    rw [List.length_take] at this
    omega
  rw [takeN_eq, dropN_eq, h, if_pos hk]
set_option maxHeartbeats 1600000 in
theorem vwSnap_ok {h : Heap} {w w' : Value} {x y : Sn} (sl : Rws h w x.2.2.1) (sm : Rws h w' y.2.2.1) (b1 : RwB x.2.2.1) (b2 : RwB y.2.2.1) :
    RunF prog 57 [.agg ⟨snC x w⟩, .agg ⟨snC y w'⟩] h fun v h' => v = .bool (x == y) ∧ Fr no h h' := by
  rw [snE_eq]
  obtain ⟨x1, x2, x3, x4, x5⟩ := x
  obtain ⟨y1, y2, y3, y4, y5⟩ := y
  have sl : Rws h w x3 := sl
  have sm : Rws h w' y3 := sm
  have b1 : RwB x3 := b1
  have b2 : RwB y3 := b2
  show RunF prog _ [.agg ⟨[.int .i64 x1, .int .i64 x2, w, .int .i64 x4, .int .i64 x5]⟩, .agg ⟨[.int .i64 y1, .int .i64 y2, w', .int .i64 y4, .int .i64 y5]⟩] h fun v h' => v = .bool (((((x1 == y1) && (x2 == y2)) && (x4 == y4)) && (x5 == y5)) && (x3 == y3)) ∧ Fr no h h'
  refine RunF.walk func57 rfl rfl ?_
  refine RunC.seq (RunC.region (RunO.part 1 (h1 := h.push ⟨[.int .i64 x1, .int .i64 x2, w, .int .i64 x4, .int .i64 x5], true⟩) rfl ?_))
  have o1 := Ow.push h [.int .i64 x1, .int .i64 x2, w, .int .i64 x4, .int .i64 x5]
  have f1 : Fr no h (h.push ⟨[.int .i64 x1, .int .i64 x2, w, .int .i64 x4, .int .i64 x5], true⟩) := Fr.push _ _ _
  generalize h.push ⟨[.int .i64 x1, .int .i64 x2, w, .int .i64 x4, .int .i64 x5], true⟩ = h1 at *
  generalize h.next = p1 at *
  refine RunO.part 1 (h1 := h1.push ⟨[.int .i64 y1, .int .i64 y2, w', .int .i64 y4, .int .i64 y5], true⟩) rfl ?_
  have o2 := Ow.push h1 [.int .i64 y1, .int .i64 y2, w', .int .i64 y4, .int .i64 y5]
  have f2 : Fr no h1 (h1.push ⟨[.int .i64 y1, .int .i64 y2, w', .int .i64 y4, .int .i64 y5], true⟩) := Fr.push _ _ _
  replace o1 := o1.fr f2 (fun g => g)
  have F2 := f1.same f2
  replace sl := sl.fr0 F2
  replace sm := sm.fr0 F2
  generalize h1.push ⟨[.int .i64 y1, .int .i64 y2, w', .int .i64 y4, .int .i64 y5], true⟩ = h2 at *
  generalize h1.next = p2 at *
  refine RunO.all rfl ?_
  refine RunC.seq (RunC.region (RunO.part 1 rfl ?_))
  refine RunO.load (v := .int .i64 x1) rfl (o1.ld rfl) rfl ?_
  refine RunO.part 1 rfl ?_
  refine RunO.load (v := .int .i64 y1) rfl (o2.ld rfl) rfl ?_
  refine RunO.part 2 rfl ?_
  cases (x1 == y1) with
  | false => exact RunO.all rfl (RunC.ret ⟨_, rfl, rfl, F2⟩)
  | true =>
  refine RunO.part 1 rfl ?_
  refine RunO.loadG (v := .int .i64 x2) rfl rfl (o1.ld rfl) rfl ?_
  refine RunO.part 1 rfl ?_
  refine RunO.loadG (v := .int .i64 y2) rfl rfl (o2.ld rfl) rfl ?_
  refine RunO.part 3 rfl ?_
  cases (x2 == y2) with
  | false => exact RunO.all rfl (RunC.ret ⟨_, rfl, rfl, F2⟩)
  | true =>
  refine RunO.part 1 rfl ?_
  refine RunO.loadG (v := .int .i64 x4) rfl rfl (o1.ld rfl) rfl ?_
  refine RunO.part 1 rfl ?_
  refine RunO.loadG (v := .int .i64 y4) rfl rfl (o2.ld rfl) rfl ?_
  refine RunO.part 3 rfl ?_
  cases (x4 == y4) with
  | false => exact RunO.all rfl (RunC.ret ⟨_, rfl, rfl, F2⟩)
  | true =>
  refine RunO.part 1 rfl ?_
  refine RunO.loadG (v := .int .i64 x5) rfl rfl (o1.ld rfl) rfl ?_
  refine RunO.part 1 rfl ?_
  refine RunO.loadG (v := .int .i64 y5) rfl rfl (o2.ld rfl) rfl ?_
  refine RunO.part 3 rfl ?_
  cases (x5 == y5) with
  | false => exact RunO.all rfl (RunC.ret ⟨_, rfl, rfl, F2⟩)
  | true =>
  refine RunO.part 1 rfl ?_
  refine RunO.loadG (v := w) rfl rfl (o1.ld rfl) rfl ?_
  refine RunO.part 1 rfl ?_
  refine RunO.loadG (v := w') rfl rfl (o2.ld rfl) rfl ?_
  refine RunO.callDG rfl (alike_ok sl sm b1 b2) rfl rfl rfl ?_
  rintro _ h3 ⟨rfl, f3⟩
  exact RunO.all rfl (RunC.ret ⟨_, rfl, rfl, F2.same f3⟩)
set_option maxHeartbeats 1600000 in
theorem kpSnap_ok {h : Heap} {w w' : Value} {x y : Sn} (sl : Rws h w x.2.2.1) (sm : Rws h w' y.2.2.1) (b1 : RwB x.2.2.1) (b2 : RwB y.2.2.1) :
    RunF prog 68 [.agg ⟨snC x w⟩, .agg ⟨snC y w'⟩] h fun v h' => v = .bool (x == y) ∧ Fr no h h' := by
  rw [snE_eq]
  obtain ⟨x1, x2, x3, x4, x5⟩ := x
  obtain ⟨y1, y2, y3, y4, y5⟩ := y
  have sl : Rws h w x3 := sl
  have sm : Rws h w' y3 := sm
  have b1 : RwB x3 := b1
  have b2 : RwB y3 := b2
  show RunF prog _ [.agg ⟨[.int .i64 x1, .int .i64 x2, w, .int .i64 x4, .int .i64 x5]⟩, .agg ⟨[.int .i64 y1, .int .i64 y2, w', .int .i64 y4, .int .i64 y5]⟩] h fun v h' => v = .bool (((((x1 == y1) && (x2 == y2)) && (x4 == y4)) && (x5 == y5)) && (x3 == y3)) ∧ Fr no h h'
  refine RunF.walk func68 rfl rfl ?_
  refine RunC.seq (RunC.region (RunO.part 1 (h1 := h.push ⟨[.int .i64 x1, .int .i64 x2, w, .int .i64 x4, .int .i64 x5], true⟩) rfl ?_))
  have o1 := Ow.push h [.int .i64 x1, .int .i64 x2, w, .int .i64 x4, .int .i64 x5]
  have f1 : Fr no h (h.push ⟨[.int .i64 x1, .int .i64 x2, w, .int .i64 x4, .int .i64 x5], true⟩) := Fr.push _ _ _
  generalize h.push ⟨[.int .i64 x1, .int .i64 x2, w, .int .i64 x4, .int .i64 x5], true⟩ = h1 at *
  generalize h.next = p1 at *
  refine RunO.part 1 (h1 := h1.push ⟨[.int .i64 y1, .int .i64 y2, w', .int .i64 y4, .int .i64 y5], true⟩) rfl ?_
  have o2 := Ow.push h1 [.int .i64 y1, .int .i64 y2, w', .int .i64 y4, .int .i64 y5]
  have f2 : Fr no h1 (h1.push ⟨[.int .i64 y1, .int .i64 y2, w', .int .i64 y4, .int .i64 y5], true⟩) := Fr.push _ _ _
  replace o1 := o1.fr f2 (fun g => g)
  have F2 := f1.same f2
  replace sl := sl.fr0 F2
  replace sm := sm.fr0 F2
  generalize h1.push ⟨[.int .i64 y1, .int .i64 y2, w', .int .i64 y4, .int .i64 y5], true⟩ = h2 at *
  generalize h1.next = p2 at *
  refine RunO.all rfl ?_
  refine RunC.seq (RunC.region (RunO.part 1 rfl ?_))
  refine RunO.load (v := .int .i64 x1) rfl (o1.ld rfl) rfl ?_
  refine RunO.part 1 rfl ?_
  refine RunO.load (v := .int .i64 y1) rfl (o2.ld rfl) rfl ?_
  refine RunO.part 2 rfl ?_
  cases (x1 == y1) with
  | false => exact RunO.all rfl (RunC.ret ⟨_, rfl, rfl, F2⟩)
  | true =>
  refine RunO.part 1 rfl ?_
  refine RunO.loadG (v := .int .i64 x2) rfl rfl (o1.ld rfl) rfl ?_
  refine RunO.part 1 rfl ?_
  refine RunO.loadG (v := .int .i64 y2) rfl rfl (o2.ld rfl) rfl ?_
  refine RunO.part 3 rfl ?_
  cases (x2 == y2) with
  | false => exact RunO.all rfl (RunC.ret ⟨_, rfl, rfl, F2⟩)
  | true =>
  refine RunO.part 1 rfl ?_
  refine RunO.loadG (v := .int .i64 x4) rfl rfl (o1.ld rfl) rfl ?_
  refine RunO.part 1 rfl ?_
  refine RunO.loadG (v := .int .i64 y4) rfl rfl (o2.ld rfl) rfl ?_
  refine RunO.part 3 rfl ?_
  cases (x4 == y4) with
  | false => exact RunO.all rfl (RunC.ret ⟨_, rfl, rfl, F2⟩)
  | true =>
  refine RunO.part 1 rfl ?_
  refine RunO.loadG (v := .int .i64 x5) rfl rfl (o1.ld rfl) rfl ?_
  refine RunO.part 1 rfl ?_
  refine RunO.loadG (v := .int .i64 y5) rfl rfl (o2.ld rfl) rfl ?_
  refine RunO.part 3 rfl ?_
  cases (x5 == y5) with
  | false => exact RunO.all rfl (RunC.ret ⟨_, rfl, rfl, F2⟩)
  | true =>
  refine RunO.part 1 rfl ?_
  refine RunO.loadG (v := w) rfl rfl (o1.ld rfl) rfl ?_
  refine RunO.part 1 rfl ?_
  refine RunO.loadG (v := w') rfl rfl (o2.ld rfl) rfl ?_
  refine RunO.callDG rfl (keepRows_ok sl sm b1.1 (fun x hx => (b1.2 x hx).1)) rfl rfl rfl ?_
  rintro _ _ ⟨rfl, rfl⟩
  exact RunO.all rfl (RunC.ret ⟨_, rfl, rfl, F2⟩)

set_option maxHeartbeats 1600000 in
theorem keepSnaps_ok {h : Heap} {v w : Value} {l m : List Sn} (sl : Sns h v l) (sm : Sns h w m) (hl : SB l) (hm : SB m) :
    RunF prog 45 [v, w] h fun v h' => v = .bool (l == m) ∧ Fr no h h' := by
  refine RunF.walk func45 rfl rfl ?_
  have hlen := hl.1
  obtain ⟨cs, s1, k1⟩ := sl
  obtain ⟨ds, s2, k2⟩ := sm
  have s10 := s1
  have s20 := s2
  obtain ⟨A, c, rfl, hc, _⟩ := s1.form
  obtain ⟨B, d, rfl, hd, _⟩ := s2.form
  refine RunC.seq (RunC.region (RunO.all rfl ?_))
  refine RunC.seq (RunC.seq (RunC.region (RunO.all rfl ?_)))
  by_cases hn : l.length = m.length
  case neg =>
    rw [show ((l.length : Int) != (m.length : Int)) = true from bne_iff_ne.2 (by omega)]
    refine RunC.cond rfl (fun _ => ?_) (fun g => by cases g)
    rw [show (l == m) = false from beq_eq_false_iff_ne.2 (fun e => hn (by rw [e]))]
    exact RunC.seq (RunC.region (RunO.all rfl (RunC.ret ⟨_, rfl, rfl, Fr.refl _ _⟩)))
  rw [show ((l.length : Int) != (m.length : Int)) = false from by rw [hn]; exact bne_self_eq_false _]
  refine RunC.cond rfl (fun g => by cases g) (fun _ => RunC.skip ?_)
  refine RunC.seq (RunC.seq (RunC.region (RunO.all rfl ?_)))
  refine RunC.block ?_

  refine RunC.loop (fun k E h' => ∃ i : Nat, i + k = l.length ∧ l.take i = m.take i ∧ Fr no h h' ∧ Le ((upd (upd (upd E0 0 (.slice A l.length c)) 1 (.slice B m.length d)) 5 (.int .i64 (i : Int)))) E) ?st (k := l.length) ?ini
  case ini => exact ⟨0, by omega, rfl, Fr.refl _ _, Le.cons rfl (Le.cons rfl (Le.cons rfl (Le.nil _)))⟩
  rintro k E g ⟨i, hi, ht, fg, hE⟩
  refine RunC.le hE ?_
  clear hE
  refine RunC.seq (RunC.seq (RunC.region (RunO.all rfl ?_)))
  refine RunC.cond rfl (fun hlt => RunC.skip ?go) (fun hge => RunC.exit ?ex)
  case go =>
    have hlt := of_decide_eq_true hlt
    have h1 : i < l.length := by omega
    have h2 : i < m.length := by omega
    obtain ⟨w1, e1, sw1⟩ := k1 i l[i] (List.getElem?_eq_getElem h1)
    obtain ⟨w2, e2, sw2⟩ := k2 i m[i] (List.getElem?_eq_getElem h2)
    refine RunC.seq (RunC.block ?_)
    refine RunC.seq (RunC.draw0 rfl (RunO.part 2 rfl ?_))
    refine RunO.at (s := 5) (k := i) rfl rfl (s10.fr0 fg) rfl rfl h1 (sn_part e1 rfl) rfl rfl rfl ?_
    refine RunO.part 2 rfl ?_
    refine RunO.at (s := 5) (k := i) rfl rfl (s20.fr0 fg) rfl rfl h2 (sn_part e2 rfl) rfl rfl rfl ?_
    refine RunO.callD (kpSnap_ok (sw1.fr0 fg) (sw2.fr0 fg) (hl.2 _ (List.getElem_mem h1)) (hm.2 _ (List.getElem_mem h2))) rfl rfl rfl ?_
    rintro _ g2 ⟨rfl, f2⟩

    by_cases he : l[i] = m[i]
    · rw [show (l[i] == m[i]) = true from beq_iff_eq.2 he]
      refine RunO.all rfl (RunC.cond rfl (fun g => by cases g) (fun _ => RunC.skip ?_))
      refine RunC.region (RunO.all rfl ?_)
      refine ⟨k - 1, by omega, i + 1, by omega, ?_, fg.same f2, Le.cons (inc64x (by omega)) (Le.cons rfl (Le.cons rfl (Le.nil _)))⟩
      rw [List.take_succ_eq_append_getElem h1, List.take_succ_eq_append_getElem h2, ht, he]
    · rw [show (l[i] == m[i]) = false from beq_eq_false_iff_ne.2 he]
      refine RunO.all rfl (RunC.cond rfl (fun _ => ?_) (fun g => by cases g))
      have hlm : (l == m) = false := beq_eq_false_iff_ne.2 (fun e => he (by simp [e]))
      rw [hlm]
      exact RunC.seq (RunC.region (RunO.all rfl (RunC.ret ⟨_, rfl, rfl, fg.same f2⟩)))
  have hge := of_decide_eq_false hge
  have hi2 : i = l.length := by omega
  rw [hi2, List.take_length, hn, List.take_length] at ht
  have hlm : (l == m) = true := beq_iff_eq.2 ht
  rw [hlm]
  exact RunC.seq (RunC.region (RunO.all rfl (RunC.ret ⟨_, rfl, rfl, fg⟩)))

set_option maxHeartbeats 1600000 in
theorem eqSnaps_ok {h : Heap} {v w : Value} {l m : List Sn} (sl : Sns h v l) (sm : Sns h w m) (hl : SB l) (hm : SB m) :
    RunF prog 56 [v, w, .func (.func 57) #[] #[]] h fun v h' => v = .bool (l == m) ∧ Fr no h h' := by
  refine RunF.walk func56 rfl rfl ?_
  have hlen := hl.1
  obtain ⟨cs, s1, k1⟩ := sl
  obtain ⟨ds, s2, k2⟩ := sm
  have s10 := s1
  have s20 := s2
  obtain ⟨A, c, rfl, hc, _⟩ := s1.form
  obtain ⟨B, d, rfl, hd, _⟩ := s2.form
  refine RunC.seq (RunC.region (RunO.all rfl ?_))
  refine RunC.seq (RunC.seq (RunC.region (RunO.all rfl ?_)))
  by_cases hn : l.length = m.length
  case neg =>
    rw [show ((l.length : Int) != (m.length : Int)) = true from bne_iff_ne.2 (by omega)]
    refine RunC.cond rfl (fun _ => ?_) (fun g => by cases g)
    rw [show (l == m) = false from beq_eq_false_iff_ne.2 (fun e => hn (by rw [e]))]
    exact RunC.seq (RunC.region (RunO.all rfl (RunC.ret ⟨_, rfl, rfl, Fr.refl _ _⟩)))
  rw [show ((l.length : Int) != (m.length : Int)) = false from by rw [hn]; exact bne_self_eq_false _]
  refine RunC.cond rfl (fun g => by cases g) (fun _ => RunC.skip ?_)
  refine RunC.seq (RunC.seq (RunC.region (RunO.all rfl ?_)))
  refine RunC.block ?_

  refine RunC.loop (fun k E h' => ∃ i : Nat, i + k = l.length ∧ l.take i = m.take i ∧ Fr no h h' ∧ Le ((upd (upd (upd (upd (upd E0 1 (.slice B m.length d)) 2 (.func (.func 57) #[] #[])) 15 (.slice A l.length c)) 16 (.int .i64 (l.length : Int))) 17 (.int .i64 (i : Int)))) E) ?st (k := l.length) ?ini
  case ini => exact ⟨0, by omega, rfl, Fr.refl _ _, Le.cons rfl (Le.cons rfl (Le.cons rfl (Le.cons rfl (Le.cons rfl (Le.nil _)))))⟩
  rintro k E g ⟨i, hi, ht, fg, hE⟩
  refine RunC.le hE ?_
  clear hE
  refine RunC.seq (RunC.region (RunO.all rfl ?_))
  refine RunC.seq (RunC.cond rfl (fun hlt => RunC.skip ?go) (fun hge => RunC.exit ?ex))
  case go =>
    have hlt := of_decide_eq_true hlt
    have h1 : i < l.length := by omega
    have h2 : i < m.length := by omega
    obtain ⟨w1, e1, sw1⟩ := k1 i l[i] (List.getElem?_eq_getElem h1)
    obtain ⟨w2, e2, sw2⟩ := k2 i m[i] (List.getElem?_eq_getElem h2)
    obtain ⟨wA, wc, hw1⟩ : ∃ a b, w1 = .slice a l[i].2.2.1.length b := by
      obtain ⟨cs, s, _⟩ := sw1
      obtain ⟨a, b, e, _⟩ := s.form
      exact ⟨a, b, e⟩
    obtain ⟨uA, uc, hw2⟩ : ∃ a b, w2 = .slice a m[i].2.2.1.length b := by
      obtain ⟨cs, s, _⟩ := sw2
      obtain ⟨a, b, e, _⟩ := s.form
      exact ⟨a, b, e⟩
    have c1 : isCell w1 = true := by rw [hw1]; rfl
    have c2 : isCell w2 = true := by rw [hw2]; rfl
    refine RunC.seq (RunC.block ?_)
    refine RunC.seq (RunC.region (RunO.part 1 rfl ?_))
    refine RunO.at (s := 5) (k := i) rfl rfl (s10.fr0 fg) rfl rfl h1 (sn_part e1 rfl) rfl rfl rfl ?_
    refine RunO.part 2 (h1 := g.push ⟨[.int .i64 0, .int .i64 0, .slice none 0 0, .int .i64 0, .int .i64 0], true⟩) rfl ?_
    refine RunO.store rfl rfl (store_ow (s := 5) (Ow.push g [.int .i64 0, .int .i64 0, .slice none 0 0, .int .i64 0, .int .i64 0]) rfl rfl (by show cond (isCell w1) true false = true; rw [c1]; rfl) (Nat.le_refl 5)) (RunO.nil ?_)
    have o1 : Ow ((g.push ⟨[.int .i64 0, .int .i64 0, .slice none 0 0, .int .i64 0, .int .i64 0], true⟩).put g.next (some ⟨snC l[i] w1, true⟩)) g.next (snC l[i] w1) := Ow.put _ (Nat.lt_succ_self _)
    have f1 : Fr no g ((g.push ⟨[.int .i64 0, .int .i64 0, .slice none 0 0, .int .i64 0, .int .i64 0], true⟩).put g.next (some ⟨snC l[i] w1, true⟩)) := (Fr.push _ _ _).trans (Fr.put (m := (· = g.next)) _ (.inl rfl)) (fun j hj => .inr (by omega))
    show RunC prog _ _ _ ((g.push ⟨[.int .i64 0, .int .i64 0, .slice none 0 0, .int .i64 0, .int .i64 0], true⟩).put g.next (some ⟨snC l[i] w1, true⟩)) _ _ _
    generalize (g.push ⟨[.int .i64 0, .int .i64 0, .slice none 0 0, .int .i64 0, .int .i64 0], true⟩).put g.next (some ⟨snC l[i] w1, true⟩) = g1 at *
    generalize g.next = p1 at *
    replace fg := fg.same f1
    refine RunC.seq (RunC.region (RunO.part 2 rfl ?_))
    refine RunO.at (s := 5) (k := i) rfl rfl (s20.fr0 fg) rfl rfl h2 (sn_part e2 rfl) rfl rfl rfl ?_
    refine RunO.part 1 (h1 := g1.push ⟨[.int .i64 0, .int .i64 0, .slice none 0 0, .int .i64 0, .int .i64 0], true⟩) rfl ?_
    refine RunO.store rfl rfl (store_ow (s := 5) (Ow.push g1 [.int .i64 0, .int .i64 0, .slice none 0 0, .int .i64 0, .int .i64 0]) rfl rfl (by show cond (isCell w2) true false = true; rw [c2]; rfl) (Nat.le_refl 5)) (RunO.nil ?_)
    have o2 : Ow ((g1.push ⟨[.int .i64 0, .int .i64 0, .slice none 0 0, .int .i64 0, .int .i64 0], true⟩).put g1.next (some ⟨snC m[i] w2, true⟩)) g1.next (snC m[i] w2) := Ow.put _ (Nat.lt_succ_self _)
    have f2 : Fr no g1 ((g1.push ⟨[.int .i64 0, .int .i64 0, .slice none 0 0, .int .i64 0, .int .i64 0], true⟩).put g1.next (some ⟨snC m[i] w2, true⟩)) := (Fr.push _ _ _).trans (Fr.put (m := (· = g1.next)) _ (.inl rfl)) (fun j hj => .inr (by omega))
    show RunC prog _ _ _ ((g1.push ⟨[.int .i64 0, .int .i64 0, .slice none 0 0, .int .i64 0, .int .i64 0], true⟩).put g1.next (some ⟨snC m[i] w2, true⟩)) _ _ _
    generalize (g1.push ⟨[.int .i64 0, .int .i64 0, .slice none 0 0, .int .i64 0, .int .i64 0], true⟩).put g1.next (some ⟨snC m[i] w2, true⟩) = g2 at *
    generalize g1.next = p2 at *
    replace fg := fg.same f2
    replace o1 := o1.fr f2 (fun g => g)
    refine RunC.seq (RunC.region (RunO.part 1 rfl ?_))
    refine RunO.load (v := .agg ⟨snC l[i] w1⟩) rfl (o1.ld rfl) rfl ?_
    refine RunO.load (v := .agg ⟨snC m[i] w2⟩) rfl (o2.ld rfl) rfl ?_
    refine RunO.callD (vwSnap_ok (sw1.fr0 fg) (sw2.fr0 fg) (hl.2 _ (List.getElem_mem h1)) (hm.2 _ (List.getElem_mem h2))) rfl rfl rfl ?_
    rintro _ g3 ⟨rfl, f3⟩

    by_cases he : l[i] = m[i]
    · rw [show (l[i] == m[i]) = true from beq_iff_eq.2 he]
      refine RunO.all rfl (RunC.cond rfl (fun g => by cases g) (fun _ => RunC.skip ?_))
      refine RunC.region (RunO.all rfl ?_)
      refine ⟨k - 1, by omega, i + 1, by omega, ?_, fg.same f3, Le.cons (inc64x (by omega)) (Le.cons rfl (Le.cons rfl (Le.cons rfl (Le.cons rfl (Le.nil _)))))⟩
      rw [List.take_succ_eq_append_getElem h1, List.take_succ_eq_append_getElem h2, ht, he]
    · rw [show (l[i] == m[i]) = false from beq_eq_false_iff_ne.2 he]
      refine RunO.all rfl (RunC.cond rfl (fun _ => ?_) (fun g => by cases g))
      have hlm : (l == m) = false := beq_eq_false_iff_ne.2 (fun e => he (by simp [e]))
      rw [hlm]
      exact RunC.seq (RunC.region (RunO.all rfl (RunC.ret ⟨_, rfl, rfl, fg.same f3⟩)))
  have hge := of_decide_eq_false hge
  have hi2 : i = l.length := by omega
  rw [hi2, List.take_length, hn, List.take_length] at ht
  have hlm : (l == m) = true := beq_iff_eq.2 ht
  rw [hlm]
  exact RunC.seq (RunC.region (RunO.all rfl (RunC.ret ⟨_, rfl, rfl, fg⟩)))
set_option maxHeartbeats 1600000 in
theorem viewSame_ok {h : Heap} {hv sv ov hv' sv' ov' : Value} {H H' : List (List Int)} {S S' O O' : List Sn} (a1 : Rws h hv H) (a2 : Sns h sv S) (a3 : Sns h ov O) (b1 : Rws h hv' H') (b2 : Sns h sv' S') (b3 : Sns h ov' O')
    (c1 : RwB H) (c2 : SB S) (c3 : SB O) (d1 : RwB H') (d2 : SB S') (d3 : SB O') :
    RunF prog 28 [.agg ⟨[hv, sv, ov]⟩, .agg ⟨[hv', sv', ov']⟩] h fun v h' => v = .bool (((H == H') && (S == S')) && (O == O')) ∧ Fr no h h' := by
  refine RunF.walk func28 rfl rfl ?_
  refine RunC.seq (RunC.region (RunO.part 1 (h1 := h.push ⟨[hv, sv, ov], true⟩) rfl ?_))
  have o1 := Ow.push h [hv, sv, ov]
  have f1 : Fr no h (h.push ⟨[hv, sv, ov], true⟩) := Fr.push _ _ _
  generalize h.push ⟨[hv, sv, ov], true⟩ = h1 at *
  generalize h.next = p1 at *
  refine RunO.part 1 (h1 := h1.push ⟨[hv', sv', ov'], true⟩) rfl ?_
  have o2 := Ow.push h1 [hv', sv', ov']
  have f2 : Fr no h1 (h1.push ⟨[hv', sv', ov'], true⟩) := Fr.push _ _ _
  replace o1 := o1.fr f2 (fun g => g)
  have F2 := f1.same f2
  generalize h1.push ⟨[hv', sv', ov'], true⟩ = h2 at *
  generalize h1.next = p2 at *
  refine RunO.all rfl ?_
  refine RunC.seq (RunC.region (RunO.part 1 rfl ?_))
  refine RunO.load (v := hv) rfl (o1.ld rfl) rfl ?_
  refine RunO.part 1 rfl ?_
  refine RunO.load (v := hv') rfl (o2.ld rfl) rfl ?_
  refine RunO.callD (alike_ok (a1.fr0 F2) (b1.fr0 F2) c1 d1) rfl rfl rfl ?_
  rintro _ h2_ ⟨rfl, f2_⟩
  replace F2 := F2.same f2_
  replace o1 := o1.fr f2_ (fun g => g)
  replace o2 := o2.fr f2_ (fun g => g)
  refine RunO.part 1 rfl ?_
  cases (H == H') with
  | false => exact RunO.all rfl (RunC.ret ⟨_, rfl, rfl, F2⟩)
  | true =>
  refine RunO.part 1 rfl ?_
  refine RunO.loadG (v := sv) rfl rfl (o1.ld rfl) rfl ?_
  refine RunO.part 1 rfl ?_
  refine RunO.loadG (v := sv') rfl rfl (o2.ld rfl) rfl ?_
  refine RunO.callDG rfl (eqSnaps_ok (a2.fr0 F2) (b2.fr0 F2) c2 d2) rfl rfl rfl ?_
  rintro _ h3 ⟨rfl, f3⟩
  have F3 := F2.same f3
  refine RunO.part 2 rfl ?_
  cases (S == S') with
  | false => exact RunO.all rfl (RunC.ret ⟨_, rfl, rfl, F3⟩)
  | true =>
  replace o1 := o1.fr f3 (fun g => g)
  replace o2 := o2.fr f3 (fun g => g)
  refine RunO.part 1 rfl ?_
  refine RunO.loadG (v := ov) rfl rfl (o1.ld rfl) rfl ?_
  refine RunO.part 1 rfl ?_
  refine RunO.loadG (v := ov') rfl rfl (o2.ld rfl) rfl ?_
  refine RunO.callDG rfl (eqSnaps_ok (a3.fr0 F3) (b3.fr0 F3) c3 d3) rfl rfl rfl ?_
  rintro _ h4 ⟨rfl, f4⟩
  exact RunO.all rfl (RunC.ret ⟨_, rfl, rfl, F3.same f4⟩)
set_option maxHeartbeats 1600000 in
theorem keepView_ok {h : Heap} {hv sv ov hv' sv' ov' : Value} {H H' : List (List Int)} {S S' O O' : List Sn} (a1 : Rws h hv H) (a2 : Sns h sv S) (a3 : Sns h ov O) (b1 : Rws h hv' H') (b2 : Sns h sv' S') (b3 : Sns h ov' O')
    (c1 : RwB H) (c2 : SB S) (c3 : SB O) (d1 : RwB H') (d2 : SB S') (d3 : SB O') :
    RunF prog 29 [.agg ⟨[hv, sv, ov]⟩, .agg ⟨[hv', sv', ov']⟩] h fun v h' => v = .bool (((H == H') && (S == S')) && (O == O')) ∧ Fr no h h' := by
  refine RunF.walk func29 rfl rfl ?_
  refine RunC.seq (RunC.region (RunO.part 1 (h1 := h.push ⟨[hv, sv, ov], true⟩) rfl ?_))
  have o1 := Ow.push h [hv, sv, ov]
  have f1 : Fr no h (h.push ⟨[hv, sv, ov], true⟩) := Fr.push _ _ _
  generalize h.push ⟨[hv, sv, ov], true⟩ = h1 at *
  generalize h.next = p1 at *
  refine RunO.part 1 (h1 := h1.push ⟨[hv', sv', ov'], true⟩) rfl ?_
  have o2 := Ow.push h1 [hv', sv', ov']
  have f2 : Fr no h1 (h1.push ⟨[hv', sv', ov'], true⟩) := Fr.push _ _ _
  replace o1 := o1.fr f2 (fun g => g)
  have F2 := f1.same f2
  generalize h1.push ⟨[hv', sv', ov'], true⟩ = h2 at *
  generalize h1.next = p2 at *
  refine RunO.all rfl ?_
  refine RunC.seq (RunC.region (RunO.part 1 rfl ?_))
  refine RunO.load (v := hv) rfl (o1.ld rfl) rfl ?_
  refine RunO.part 1 rfl ?_
  refine RunO.load (v := hv') rfl (o2.ld rfl) rfl ?_
  refine RunO.callD (keepRows_ok (a1.fr0 F2) (b1.fr0 F2) c1.1 (fun x hx => (c1.2 x hx).1)) rfl rfl rfl ?_
  rintro _ _ ⟨rfl, rfl⟩
  refine RunO.part 1 rfl ?_
  cases (H == H') with
  | false => exact RunO.all rfl (RunC.ret ⟨_, rfl, rfl, F2⟩)
  | true =>
  refine RunO.part 1 rfl ?_
  refine RunO.loadG (v := sv) rfl rfl (o1.ld rfl) rfl ?_
  refine RunO.part 1 rfl ?_
  refine RunO.loadG (v := sv') rfl rfl (o2.ld rfl) rfl ?_
  refine RunO.callDG rfl (keepSnaps_ok (a2.fr0 F2) (b2.fr0 F2) c2 d2) rfl rfl rfl ?_
  rintro _ h3 ⟨rfl, f3⟩
  have F3 := F2.same f3
  refine RunO.part 2 rfl ?_
  cases (S == S') with
  | false => exact RunO.all rfl (RunC.ret ⟨_, rfl, rfl, F3⟩)
  | true =>
  replace o1 := o1.fr f3 (fun g => g)
  replace o2 := o2.fr f3 (fun g => g)
  refine RunO.part 1 rfl ?_
  refine RunO.loadG (v := ov) rfl rfl (o1.ld rfl) rfl ?_
  refine RunO.part 1 rfl ?_
  refine RunO.loadG (v := ov') rfl rfl (o2.ld rfl) rfl ?_
  refine RunO.callDG rfl (keepSnaps_ok (a3.fr0 F3) (b3.fr0 F3) c3 d3) rfl rfl rfl ?_
  rintro _ h4 ⟨rfl, f4⟩
  exact RunO.all rfl (RunC.ret ⟨_, rfl, rfl, F3.same f4⟩)

end Go.Proofs.Ytnokcbenpnmnbaa
end
section
set_option linter.unusedVariables false
set_option linter.unusedSectionVars false
set_option maxRecDepth 100000
open Go Go.Am Go.RowKit
namespace Go.Proofs.Ytnokcbenpnmnbaa
open Go.Proofs.Try

def vsE (L : List Int) (root size : Int) : Int := if treeE L root = 0 then (if size < 0 ∨ size > 512 then 1 else 0) else treeE L root
theorem treeM_rng {L : List Int} {root : Int} (h : treeE L root = 0) : ∀ x ∈ treeM L root, x = 0 ∨ (0 ≤ x ∧ (x.toNat + 1) * 64 ≤ L.length) := by
  obtain ⟨h1, h2⟩ := treeE_ok h
  have hdl : L.length % 64 = 0 ∧ 4 ≤ L.length / 64 ∧ L.length / 64 ≤ 4096 := by
    unfold devOk at h2
    simpa using h2
  intro x hx
  have := (tree_rng h2 h1).1 x hx
  exact .inr ⟨this.1, by omega⟩
set_option maxHeartbeats 4000000 in
theorem viewSectors_ok {h : Heap} {iv : Value} {L : List Int} {root size : Int} (sl : Sl h iv 1 L.length (us L)) (hb : Byt L) (hm : L.length ≤ 4611686018427387904) :
    RunF prog 27 [iv, .int .i64 root, .int .i64 size] h fun v h' => Fr no h h' ∧ ((vsE L root size = 0 ∧ ∃ rv, v = .tuple #[rv, .int .i64 0] ∧ RwG h.next h' rv (secsL L (treeM L root) size.toNat)) ∨ (vsE L root size ≠ 0 ∧ v = .tuple #[.slice none 0 0, .int .i64 (vsE L root size)])) := by
  refine RunF.walk func27 rfl rfl ?_
  have sl0 := sl
  obtain ⟨A, c, rfl, _, _⟩ := sl.form
  refine RunC.seq (RunC.region (RunO.all rfl ?_))
  refine RunC.seq (RunC.region (RunO.part 2 rfl ?_))
  refine RunO.callD (treeMap_ok sl0 hb hm) rfl rfl rfl ?_
  rintro _ h1 ⟨f1, ⟨e0, mb, hmb, rfl, om⟩ | ⟨e0, rfl⟩⟩
  case inr =>
    have hv : vsE L root size = treeE L root := by unfold vsE; rw [if_neg e0]
    rw [hv]
    generalize treeE L root = e at *
    refine RunO.all rfl ?_
    refine RunC.seq (RunC.block ?_)
    refine RunC.seq (RunC.region (RunO.part 1 rfl ?_))
    refine RunO.part 1 rfl ?_
    rw [show (e != 0) = true from bne_iff_ne.2 e0]
    refine RunO.all rfl (RunC.cond rfl (fun _ => ?_) (fun g => by cases g))
    exact RunC.seq (RunC.region (RunO.all rfl (RunC.ret ⟨_, rfl, f1, .inr ⟨e0, rfl⟩⟩)))
  have hv : vsE L root size = if size < 0 ∨ size > 512 then 1 else 0 := by unfold vsE; rw [if_pos e0]
  rw [hv]
  refine RunO.all rfl ?_
  have hrng := treeM_rng e0
  have hml := treeM_len L root
  have slm : Sl h1 (.slice (some ⟨mb, 0, none⟩) 512 (exc 512)) 1 (treeM L root).length (is (treeM L root)) := sl_owI om hml (Cp.exc (Nat.le_refl _)) (by omega)
  by_cases h0 : size < 0
  · refine RunC.seq (RunC.block ?_)
    refine RunC.seq (RunC.region (RunO.all rfl (RunC.cond rfl (fun g => by cases g) (fun _ => ?_))))
    refine RunC.seq (RunC.region (RunO.part 2 rfl ?_))
    rw [decide_eq_true h0]
    refine RunO.all rfl (RunC.cond rfl (fun _ => ?_) (fun g => by cases g))
    rw [if_pos (.inl h0)]
    exact RunC.seq (RunC.region (RunO.all rfl (RunC.ret ⟨_, rfl, f1, .inr ⟨by decide, rfl⟩⟩)))
  by_cases h5 : size > 512
  · refine RunC.seq (RunC.block ?_)
    refine RunC.seq (RunC.region (RunO.all rfl (RunC.cond rfl (fun g => by cases g) (fun _ => ?_))))
    refine RunC.seq (RunC.region (RunO.part 2 rfl ?_))
    rw [decide_eq_false h0]
    refine RunO.part 3 rfl ?_
    rw [decide_eq_true h5]
    refine RunO.all rfl (RunC.cond rfl (fun _ => ?_) (fun g => by cases g))
    rw [if_pos (.inr h5)]
    exact RunC.seq (RunC.region (RunO.all rfl (RunC.ret ⟨_, rfl, f1, .inr ⟨by decide, rfl⟩⟩)))
  rw [if_neg (fun g => g.elim h0 h5)]
  obtain ⟨n, rfl⟩ := Int.eq_ofNat_of_zero_le (show 0 ≤ size by omega)
  rw [Int.toNat_natCast]
  have hsec := sectors_ok (n := n) (sl0.fr0 f1) slm hrng (by omega) (by omega) hm
  refine RunC.seq (RunC.block ?_)
  refine RunC.seq (RunC.region (RunO.all rfl (RunC.cond rfl (fun g => by cases g) (fun _ => ?_))))
  refine RunC.seq (RunC.region (RunO.part 2 rfl ?_))
  rw [decide_eq_false h0]
  refine RunO.part 3 rfl ?_
  rw [decide_eq_false h5]
  refine RunO.all rfl (RunC.cond rfl (fun g => by cases g) (fun _ => RunC.skip ?_))
  refine RunC.seq (RunC.region (RunO.part 3 rfl ?_))
  refine RunO.callD hsec rfl rfl rfl ?_
  rintro rv h2 ⟨f2, rr⟩
  exact RunO.all rfl (RunC.ret ⟨_, rfl, f1.same f2, .inl ⟨rfl, rv, rfl, by
    obtain ⟨cs, row, k⟩ := rr
    refine ⟨cs, Row.lo row f1.next, fun j x hx => ?_⟩
    obtain ⟨w, e, sw, so, hw⟩ := k j x hx
    exact ⟨w, e, sw, so, fun b o c e => ⟨by have := (hw b o c e).1; have := f1.next; omega, (hw b o c e).2⟩⟩⟩⟩)
theorem secsL_RB {L m : List Int} {n : Nat} (hb : Byt L) (hr : ∀ x ∈ m, x = 0 ∨ (0 ≤ x ∧ (x.toNat + 1) * 64 ≤ L.length)) (hm : m.length ≤ 100000) : RwB (secsL L m n) := by
  refine ⟨?_, fun r hr2 => ?_⟩
  · unfold secsL; rw [List.length_map, List.length_take]; omega
  · unfold secsL at hr2
    obtain ⟨x, hx, rfl⟩ := List.mem_map.1 hr2
    have := hr x (List.mem_of_mem_take hx)
    unfold secB
    split
    · refine ⟨by rw [List.length_replicate]; decide, fun y hy => ?_⟩
      rw [List.eq_of_mem_replicate hy]; decide
    · rename_i h0
      exact ⟨by rw [blkI_len (this.resolve_left h0).2]; decide, byt_blk hb _⟩
theorem Sns.nil (h : Heap) : Sns h (.slice none 0 0) [] := ⟨[], Sl.nil h 5, fun j x hx => by cases hx⟩
theorem RwB.nil : RwB [] := ⟨by decide, fun x hx => by cases hx⟩
theorem SB.nil : SB [] := ⟨by decide, fun x hx => by cases hx⟩
set_option maxHeartbeats 16000000 in
theorem wakes17_ok {h : Heap} : RunF prog 32 [] h fun v h' => v = .bool true ∧ Fr no h h' := by
  refine RunF.walk func32 rfl rfl ?_
  have h4 : 4 ≤ 8 := by decide
  have hB : 8 ≤ 4096 := by decide
  refine RunC.seq (RunC.region (RunO.all rfl ?_))
  refine RunC.seq (RunC.region ?_)
  refine RunO.callD (openNew_ok (B := 8) h4 hB) rfl rfl rfl ?_
  rintro _ h1 ⟨f1, ib, hib, rfl, oi⟩
  obtain ⟨k1, k2, k3⟩ := lk_new h4 hB
  have hl := newI_len (B := 8) (by decide)
  have hby := newI_byt 8
  generalize newI 8 = L at *
  have k0 : (lk L).2 = 0 := by rw [k1]
  have eH : vwH L = [] := by unfold vwH; rw [k3]; rfl
  have eS : vwS L (lkF L).1 = [] := by rw [k2]; rfl
  have eO : vwO L (lkF L).1 = [] := by rw [k2]; rfl
  have sli := sl_own oi hl (Cp.exc (Nat.le_refl _)) (by decide)
  refine RunO.all rfl ?_
  refine RunC.seq (RunC.region (RunO.part 1 rfl ?_))
  refine RunO.callD (viewOf_ok sli hby (by omega)) rfl rfl rfl ?_
  rintro _ h2 ⟨f2, ⟨_, hv, sv, ov, rfl, a1, a2, a3⟩ | ⟨g, _⟩⟩
  case inr => exact absurd k0 g
  rw [eH] at a1
  rw [eS] at a2
  rw [eO] at a3
  obtain ⟨hA, hc, rfl⟩ : ∃ a b, hv = .slice a 0 b := by
    obtain ⟨cs, s, _⟩ := a1
    obtain ⟨a, b, e, _⟩ := s.form
    exact ⟨a, b, e⟩
  obtain ⟨sA, sc_, rfl⟩ : ∃ a b, sv = .slice a 0 b := by
    obtain ⟨cs, s, _⟩ := a2
    obtain ⟨a, b, e, _⟩ := s.form
    exact ⟨a, b, e⟩
  obtain ⟨oA, oc, rfl⟩ : ∃ a b, ov = .slice a 0 b := by
    obtain ⟨cs, s, _⟩ := a3
    obtain ⟨a, b, e, _⟩ := s.form
    exact ⟨a, b, e⟩
  refine RunO.part 4 (h1 := h2.push ⟨[.slice none 0 0, .slice none 0 0, .slice none 0 0], true⟩) rfl ?_
  refine RunO.store rfl rfl (store_ow (s := 3) (Ow.push h2 [.slice none 0 0, .slice none 0 0, .slice none 0 0]) rfl rfl rfl (Nat.le_refl 3)) (RunO.all rfl ?_)
  have ot : Ow ((h2.push ⟨[.slice none 0 0, .slice none 0 0, .slice none 0 0], true⟩).put h2.next (some ⟨[.slice hA 0 hc, .slice sA 0 sc_, .slice oA 0 oc], true⟩)) h2.next [.slice hA 0 hc, .slice sA 0 sc_, .slice oA 0 oc] := Ow.put _ (Nat.lt_succ_self _)
  have f3 : Fr no h2 ((h2.push ⟨[.slice none 0 0, .slice none 0 0, .slice none 0 0], true⟩).put h2.next (some ⟨[.slice hA 0 hc, .slice sA 0 sc_, .slice oA 0 oc], true⟩)) := (Fr.push _ _ _).trans (Fr.put (m := (· = h2.next)) _ (.inl rfl)) (fun j hj => .inr (by omega))
  show RunC prog _ _ _ ((h2.push ⟨[.slice none 0 0, .slice none 0 0, .slice none 0 0], true⟩).put h2.next (some ⟨[.slice hA 0 hc, .slice sA 0 sc_, .slice oA 0 oc], true⟩)) _ _ _
  generalize (h2.push ⟨[.slice none 0 0, .slice none 0 0, .slice none 0 0], true⟩).put h2.next (some ⟨[.slice hA 0 hc, .slice sA 0 sc_, .slice oA 0 oc], true⟩) = h3 at *
  generalize h2.next = tb at *
  have F3 := f2.same f3
  have te : treeE L 0 = 0 := by unfold treeE; rw [hl]; rfl
  refine RunC.seq (RunC.region (RunO.part 1 rfl ?_))
  refine RunO.callD (viewSectors_ok (root := 0) (size := 2) (sli.fr0 F3) hby (by omega)) rfl rfl rfl ?_
  have hvs : vsE L 0 2 = 0 := by unfold vsE; rw [te]; rfl
  rintro _ h4 ⟨f4, ⟨_, rv, rfl, rr⟩ | ⟨g, _⟩⟩
  case inr => exact absurd hvs g
  have eR : secsL L (treeM L 0) (2 : Int).toNat = [List.replicate 64 0, List.replicate 64 0] := rfl
  rw [eR] at rr
  have rw4 := rr.rws (by show 2 ≤ _; decide)
  have rw40 := rw4
  obtain ⟨cs, s4, k4⟩ := rw4
  have s40 := s4
  obtain ⟨w1, e1, sw1⟩ := k4 1 (List.replicate 64 0) rfl
  obtain ⟨wA, wc, rfl, _, _⟩ := sw1.form
  obtain ⟨rA, rc, rfl, _, _⟩ := s4.form
  have s40 : Sl h4 (.slice rA 2 rc) 1 2 cs := s40
  have ot4 := ot.fr f4 (fun g => g)
  refine RunO.all rfl ?_
  refine RunC.seq (RunC.region (RunO.part 8 rfl ?_))
  refine RunO.loadG (v := .slice hA 0 hc) rfl rfl (ot4.ld rfl) rfl ?_
  refine RunO.part 2 rfl ?_
  refine RunO.loadG (v := .slice sA 0 sc_) rfl rfl (ot4.ld rfl) rfl ?_
  refine RunO.part 3 rfl ?_
  refine RunO.loadG (v := .slice oA 0 oc) rfl rfl (ot4.ld rfl) rfl ?_
  refine RunO.part 14 rfl ?_
  refine RunO.part 1 rfl ?_
  refine RunO.atG (s := 1) (k := 1) rfl (fun _ => rfl) rfl rfl s40 rfl rfl (by decide) (row_part e1) rfl rfl rfl ?_
  refine RunO.part 4 rfl ?_
  refine RunO.loadG (v := .agg ⟨[.slice hA 0 hc, .slice sA 0 sc_, .slice oA 0 oc]⟩) rfl rfl (ot4.ld rfl) rfl ?_
  refine RunO.part 1 rfl ?_
  have F4 := f4
  refine RunO.callDG rfl (viewSame_ok ((a1.fr0 f3).fr0 f4) ((a2.fr0 f3).fr0 f4) ((a3.fr0 f3).fr0 f4) (Rws.nil _) (Sns.nil _) (Sns.nil _) RwB.nil SB.nil SB.nil RwB.nil SB.nil SB.nil) rfl rfl rfl ?_
  rintro _ h5 ⟨rfl, f5⟩
  refine RunO.part 2 rfl ?_
  have ot5 := ot4.fr f5 (fun g => g)
  refine RunO.loadG (v := .agg ⟨[.slice hA 0 hc, .slice sA 0 sc_, .slice oA 0 oc]⟩) rfl rfl (ot5.ld rfl) rfl ?_
  refine RunO.part 2 rfl ?_
  have hrb : RwB [List.replicate 64 0, List.replicate 64 0] := ⟨by decide, fun x hx => by
    have : x = List.replicate 64 0 := by simpa using hx
    rw [this]
    exact ⟨by rw [List.length_replicate]; decide, fun y hy => by rw [List.eq_of_mem_replicate hy]; decide⟩⟩
  have F5 := f4.same f5
  refine RunO.callDG rfl (viewSame_ok ((a1.fr0 f3).fr0 F5) ((a2.fr0 f3).fr0 F5) ((a3.fr0 f3).fr0 F5) (rw40.fr0 f5) (Sns.nil _) (Sns.nil _) RwB.nil SB.nil SB.nil hrb SB.nil SB.nil) rfl rfl rfl ?_
  rintro _ h6 ⟨rfl, f6⟩
  exact RunO.all rfl (RunC.ret ⟨_, rfl, rfl, ((f1.same F3).same F5).same f6⟩)
end Go.Proofs.Ytnokcbenpnmnbaa
end
section
set_option linter.unusedVariables false
set_option maxRecDepth 100000
open Go Go.Am
namespace Go.Proofs.Ytnokcbenpnmnbaa
open Go.Proofs.Try
theorem refSuper_ok {h : Heap} {g bl rt sz fi : Int} : RunF prog 108 [.agg ⟨sc g bl rt sz fi⟩] h fun v h' => v = .bool (superOk g bl rt sz fi) ∧ Fr no h h' := by
  refine RunF.walk func108 rfl rfl ?_
  refine RunC.seq (RunC.region (RunO.all (h1 := h.push ⟨sc g bl rt sz fi, true⟩) rfl ?_))
  have ow : Ow (h.push ⟨sc g bl rt sz fi, true⟩) h.next (sc g bl rt sz fi) := Ow.push _ _
  have f1 : Fr no h (h.push ⟨sc g bl rt sz fi, true⟩) := Fr.push _ _ _
  generalize h.push ⟨sc g bl rt sz fi, true⟩ = h1 at *
  generalize h.next = p at *
  unfold superOk
  refine RunC.seq (RunC.region ?_)
  (repeat (first | refine RunO.step rfl ?_ | refine RunO.loadG rfl rfl (Ow.ld (by assumption) (by rfl)) rfl ?_ | refine RunO.nil ?_))
  refine RunO.callDG rfl refIn_ok rfl rfl rfl ?_
  rintro _ _ ⟨rfl, rfl⟩
  (repeat (first | refine RunO.step rfl ?_ | refine RunO.loadG rfl rfl (Ow.ld (by assumption) (by rfl)) rfl ?_ | refine RunO.nil ?_))
  cases inB g 1 1099511627776 with
  | false => (repeat (first | refine RunO.step rfl ?_ | refine RunO.loadG rfl rfl (Ow.ld (by assumption) (by rfl)) rfl ?_ | refine RunO.nil ?_)); exact RunC.ret ⟨_, rfl, rfl, f1⟩
  | true =>
  (repeat (first | refine RunO.step rfl ?_ | refine RunO.loadG rfl rfl (Ow.ld (by assumption) (by rfl)) rfl ?_ | refine RunO.nil ?_))
  refine RunO.callDG rfl refIn_ok rfl rfl rfl ?_
  rintro _ _ ⟨rfl, rfl⟩
  (repeat (first | refine RunO.step rfl ?_ | refine RunO.loadG rfl rfl (Ow.ld (by assumption) (by rfl)) rfl ?_ | refine RunO.nil ?_))
  cases inB bl 4 4096 with
  | false => (repeat (first | refine RunO.step rfl ?_ | refine RunO.loadG rfl rfl (Ow.ld (by assumption) (by rfl)) rfl ?_ | refine RunO.nil ?_)); exact RunC.ret ⟨_, rfl, rfl, f1⟩
  | true =>
  (repeat (first | refine RunO.step rfl ?_ | refine RunO.loadG rfl rfl (Ow.ld (by assumption) (by rfl)) rfl ?_ | refine RunO.nil ?_))
  refine RunO.callDG rfl refIn_ok rfl rfl rfl ?_
  rintro _ _ ⟨rfl, rfl⟩
  (repeat (first | refine RunO.step rfl ?_ | refine RunO.loadG rfl rfl (Ow.ld (by assumption) (by rfl)) rfl ?_ | refine RunO.nil ?_))
  cases inB sz 0 512 with
  | false => (repeat (first | refine RunO.step rfl ?_ | refine RunO.loadG rfl rfl (Ow.ld (by assumption) (by rfl)) rfl ?_ | refine RunO.nil ?_)); exact RunC.ret ⟨_, rfl, rfl, f1⟩
  | true =>
  (repeat (first | refine RunO.step rfl ?_ | refine RunO.loadG rfl rfl (Ow.ld (by assumption) (by rfl)) rfl ?_ | refine RunO.nil ?_))
  refine RunO.callDG rfl refLink_ok rfl rfl rfl ?_
  rintro _ _ ⟨rfl, rfl⟩
  (repeat (first | refine RunO.step rfl ?_ | refine RunO.loadG rfl rfl (Ow.ld (by assumption) (by rfl)) rfl ?_ | refine RunO.nil ?_))
  cases (rt == 0 || inB rt 2 (fwrap .i64 (bl - 1))) with
  | false => (repeat (first | refine RunO.step rfl ?_ | refine RunO.loadG rfl rfl (Ow.ld (by assumption) (by rfl)) rfl ?_ | refine RunO.nil ?_)); exact RunC.ret ⟨_, rfl, rfl, f1⟩
  | true =>
  (repeat (first | refine RunO.step rfl ?_ | refine RunO.loadG rfl rfl (Ow.ld (by assumption) (by rfl)) rfl ?_ | refine RunO.nil ?_))
  refine RunO.callDG rfl refLink_ok rfl rfl rfl ?_
  rintro _ _ ⟨rfl, rfl⟩
  (repeat (first | refine RunO.step rfl ?_ | refine RunO.loadG rfl rfl (Ow.ld (by assumption) (by rfl)) rfl ?_ | refine RunO.nil ?_))
  exact RunC.ret ⟨_, rfl, rfl, f1⟩
set_option maxHeartbeats 4000000 in
theorem refParseSuper_ok {h : Heap} {v : Value} {l : List Int} (sl : Sl h v 1 l.length (us l)) (hb : Byt l) :
    RunF prog 76 [v] h fun r h' => r = .tuple #[.agg ⟨sCells l⟩, .int .i64 (sCode l)] ∧ Fr no h h' := by
  refine RunF.walk func76 rfl rfl ?_
  refine RunC.seq (RunC.region (RunO.all (h1 := h.push ⟨sc 0 0 0 0 0, true⟩) rfl ?_))
  have ow : Ow (h.push ⟨sc 0 0 0 0 0, true⟩) h.next (sc 0 0 0 0 0) := Ow.push _ _
  have f1 : Fr (fun b => h.next ≤ b) h (h.push ⟨sc 0 0 0 0 0, true⟩) := Fr.push _ _ _
  have s1 := sl.fr0 (Fr.push no h ⟨sc 0 0 0 0 0, true⟩)
  generalize h.push ⟨sc 0 0 0 0 0, true⟩ = h1 at *
  have hp : h.next < h1.next := ow.1
  refine RunC.seq (RunC.seq (RunC.region (RunO.part 1 rfl ?_)) )
  refine RunO.callD (refOpen_ok (mb := sMag) rfl s1 hb) rfl rfl rfl ?_
  rintro _ _ ⟨rfl, rfl⟩
  refine RunO.all rfl ?_
  refine RunC.seq (RunC.region (RunO.all rfl ?_))
  have hro := readB_open sMag sLay l
  by_cases he : openE sMag l ≠ 0
  · rw [if_pos he] at hro
    have hc : sCode l = openE sMag l := by unfold sCode; rw [hro, if_neg he]
    have hcells : sCells l = sc 0 0 0 0 0 := by unfold sCells; rw [hc, if_neg he]
    rw [hc, hcells, show (openE sMag l != 0) = true from bne_iff_ne.2 he]
    refine RunC.cond rfl (fun _ => ?_) (fun g => by cases g)
    refine RunC.seq (RunC.region (RunO.part 2 rfl ?_))
    refine RunO.store rfl rfl (store_ow (s := 5) ow rfl rfl rfl (Nat.le_refl 5)) (RunO.all rfl ?_)
    exact RunC.ret ⟨_, eresults_cell rfl ((Ow.put (cs := sc 0 0 0 0 0) ow.1).all.part (k := 0) rfl) rfl, rfl, frNo (f1.same (Fr.put _ (.inl (Nat.le_refl _))))⟩
  have he0 : openE sMag l = 0 := Decidable.not_not.1 he
  have hl : l.length = 64 := by
    unfold openE at he0
    by_cases g : l.length ≠ 64
    · rw [if_pos g] at he0; cases he0
    · exact Decidable.not_not.1 g
  rw [if_neg he] at hro
  rw [he0]
  refine RunC.cond rfl (fun g => by cases g) (fun _ => RunC.skip ?_)
  refine RunC.seq (RunC.region (RunO.part 1 rfl ?_))
  refine RunO.callD (refGet8_ok (k := 4) s1 hb (by omega) (by omega)) rfl rfl rfl ?_
  rintro _ _ ⟨rfl, rfl⟩
  refine RunO.all rfl ?_
  have hro2 : readB sMag sLay l = if ((leGet l 4 8).2 == 0) = false then 1 else if zerosN l 28 60 = false then 1 else 0 := by
    rw [hro]
    have : sLay.all (okF l) = ((leGet l 4 8).2 == 0) := by
      show (((leGet l 4 8).2 == 0) && (((leGet l 12 4).2 == 0) && (((leGet l 16 4).2 == 0) && (((leGet l 20 4).2 == 0) && (((leGet l 24 4).2 == 0) && true))))) = _
      rw [ok4 hb, ok4 hb, ok4 hb, ok4 hb]
      cases ((leGet l 4 8).2 == 0) <;> rfl
    rw [this]; rfl
  clear hro
  have hcd : sCode l = if (((leGet l 4 8).2 == 0) && (superOk (sGet l 4 8) (sGet l 12 4) (sGet l 16 4) (sGet l 20 4) (sGet l 24 4) && zerosN l 28 60)) = true then 0 else 1 := by
    unfold sCode
    rw [hro2]
    cases ((leGet l 4 8).2 == 0) <;> cases zerosN l 28 60 <;> cases superOk (sGet l 4 8) (sGet l 12 4) (sGet l 16 4) (sGet l 20 4) (sGet l 24 4) <;> rfl
  have hcl : sCells l = if sCode l = 0 then sc (sGet l 4 8) (sGet l 12 4) (sGet l 16 4) (sGet l 20 4) (sGet l 24 4) else sc 0 0 0 0 0 := rfl
  refine RunC.seq (RunC.region (RunO.part 2 rfl ?_))
  refine RunO.callD (refGet4_ok (k := 12) s1 hb (by omega) (by omega)) rfl rfl rfl ?_
  rintro _ _ ⟨rfl, rfl⟩
  refine RunO.part 1 rfl ?_
  refine RunO.callD (refGet4_ok (k := 16) s1 hb (by omega) (by omega)) rfl rfl rfl ?_
  rintro _ _ ⟨rfl, rfl⟩
  refine RunO.part 1 rfl ?_
  refine RunO.callD (refGet4_ok (k := 20) s1 hb (by omega) (by omega)) rfl rfl rfl ?_
  rintro _ _ ⟨rfl, rfl⟩
  refine RunO.part 1 rfl ?_
  refine RunO.callD (refGet4_ok (k := 24) s1 hb (by omega) (by omega)) rfl rfl rfl ?_
  rintro _ _ ⟨rfl, rfl⟩
  refine RunO.part 2 (h1 := h1.push ⟨sc 0 0 0 0 0, true⟩) rfl ?_
  refine RunO.store rfl rfl (store_ow (s := 5) (Ow.push h1 (sc 0 0 0 0 0)) rfl rfl rfl (by decide)) (RunO.all rfl ?_)
  change RunC _ _ _ _ ((h1.push ⟨sc 0 0 0 0 0, true⟩).put h1.next (some ⟨sc (sGet l 4 8) (sGet l 12 4) (sGet l 16 4) (sGet l 20 4) (sGet l 24 4), true⟩)) _ _ _
  have os : Ow ((h1.push ⟨sc 0 0 0 0 0, true⟩).put h1.next (some ⟨sc (sGet l 4 8) (sGet l 12 4) (sGet l 16 4) (sGet l 20 4) (sGet l 24 4), true⟩)) h1.next (sc (sGet l 4 8) (sGet l 12 4) (sGet l 16 4) (sGet l 20 4) (sGet l 24 4)) := Ow.put _ (Nat.lt_succ_self _)
  have f4 : Fr no h1 ((h1.push ⟨sc 0 0 0 0 0, true⟩).put h1.next (some ⟨sc (sGet l 4 8) (sGet l 12 4) (sGet l 16 4) (sGet l 20 4) (sGet l 24 4), true⟩)) := (Fr.push _ _ _).trans (Fr.put (m := (· = h1.next)) _ (.inl rfl)) (fun j hj => .inr (by omega))
  generalize (h1.push ⟨sc 0 0 0 0 0, true⟩).put h1.next (some ⟨sc (sGet l 4 8) (sGet l 12 4) (sGet l 16 4) (sGet l 20 4) (sGet l 24 4), true⟩) = h4 at *
  generalize h1.next = q at *
  have ow4 := ow.fr f4 (fun g => g)
  have s4 := s1.fr0 f4
  have f14 := f1.quiet f4
  generalize sGet l 4 8 = g at *
  generalize sGet l 12 4 = bl at *
  generalize sGet l 16 4 = rt at *
  generalize sGet l 20 4 = sz at *
  generalize sGet l 24 4 = fi at *
  refine RunC.seq ?_
  refine RunC.seqc (fun E' h' => Fr no h4 h' ∧ Le (upd (upd (upd (upd E0 0 v) 2 (.pointer (some ⟨h.next, 0, none⟩))) 7 (.pointer (some ⟨q, 0, none⟩))) 40 (.bool (!((leGet l 4 8).2 == 0 && (superOk g bl rt sz fi && zerosN l 28 60))))) E') ?_ ?_
  · refine RunC.region (RunO.part 3 rfl ?_)
    cases ((leGet l 4 8).2 == 0) with
    | false => exact RunO.all rfl ⟨Fr.refl _ _, Le.cons rfl (Le.cons rfl (Le.cons rfl (Le.cons rfl (Le.nil _))))⟩
    | true =>
      refine RunO.loadG (v := .agg ⟨sc g bl rt sz fi⟩) rfl rfl (os.all.part (k := 0) rfl) rfl ?_
      refine RunO.callDG rfl refSuper_ok rfl rfl rfl ?_
      rintro _ h5 ⟨rfl, f5⟩
      refine RunO.part 1 rfl ?_
      cases superOk g bl rt sz fi with
      | false => exact RunO.all rfl ⟨f5, Le.cons rfl (Le.cons rfl (Le.cons rfl (Le.cons rfl (Le.nil _))))⟩
      | true =>
        refine RunO.part 3 rfl ?_
        refine RunO.callDG rfl (refZeros_ok (k := 28) (m := 60) (s4.fr0 f5) (by decide) (by omega) (by omega)) rfl rfl rfl ?_
        rintro _ _ ⟨rfl, rfl⟩
        exact RunO.all rfl ⟨f5, Le.cons rfl (Le.cons rfl (Le.cons rfl (Le.cons rfl (Le.nil _))))⟩
  · rintro E' h5 ⟨f5, hE⟩
    refine RunC.le hE ?_
    clear hE
    have ow5 := ow4.fr f5 (fun g => g)
    have os5 := os.fr f5 (fun g => g)
    have f15 := f14.quiet f5
    rw [hcl, hcd]
    generalize ((leGet l 4 8).2 == 0 && (superOk g bl rt sz fi && zerosN l 28 60)) = B
    cases B with
    | false =>
      refine RunC.cond rfl (fun _ => ?_) (fun g => by cases g)
      refine RunC.seq (RunC.region (RunO.part 1 rfl ?_))
      refine RunO.store rfl rfl (store_ow (s := 5) ow5 rfl rfl rfl (Nat.le_refl 5)) (RunO.all rfl ?_)
      exact RunC.ret ⟨_, eresults_cell rfl ((Ow.put (cs := sc 0 0 0 0 0) ow5.1).all.part (k := 0) rfl) rfl, rfl, frNo (f15.same (Fr.put _ (.inl (Nat.le_refl _))))⟩
    | true =>
      refine RunC.cond rfl (fun g => by cases g) (fun _ => RunC.skip ?_)
      refine RunC.seq (RunC.region ?_)
      refine RunO.load (v := .agg ⟨sc g bl rt sz fi⟩) rfl (os5.all.part (k := 0) rfl) rfl ?_
      refine RunO.store rfl rfl (store_ow (s := 5) ow5 rfl rfl rfl (Nat.le_refl 5)) (RunO.all rfl ?_)
      exact RunC.ret ⟨_, eresults_cell rfl ((Ow.put (cs := sc g bl rt sz fi) ow5.1).all.part (k := 0) rfl) rfl, rfl, frNo (f15.same (Fr.put _ (.inl (Nat.le_refl _))))⟩
end Go.Proofs.Ytnokcbenpnmnbaa
end
section
set_option linter.unusedVariables false
set_option linter.unusedSectionVars false
set_option maxRecDepth 100000
open Go Go.Am
namespace Go.Proofs.Ytnokcbenpnmnbaa
open Go.Proofs.Try
theorem refId_ok {h : Heap} {n : Int} : RunF prog 123 [.int .i64 n] h fun v h' => v = .bool (idB n) ∧ h = h' := by
  refine RunF.walk func123 rfl rfl ?_
  refine RunC.seq (RunC.region (RunO.all rfl ?_))
  refine RunC.seq (RunC.region (RunO.part 1 rfl ?_))
  refine RunO.callD refIn_ok rfl rfl rfl ?_
  rintro _ _ ⟨rfl, rfl⟩
  refine RunO.all rfl (RunC.ret ⟨_, rfl, ?_, rfl⟩)
  unfold idB inB
  have e1 : (!decide (n < 1)) = decide (n ≥ 1) := by
    by_cases c : n < 1
    · rw [decide_eq_true c, decide_eq_false (by omega)]; rfl
    · rw [decide_eq_false c, decide_eq_true (by omega)]; rfl
  have e2 : (!decide (n > 4611686018427387903)) = decide (n ≤ 4611686018427387903) := by
    by_cases c : n > 4611686018427387903
    · rw [decide_eq_true c, decide_eq_false (by omega)]; rfl
    · rw [decide_eq_false c, decide_eq_true (by omega)]; rfl
  rw [e1, e2]
def lnk (n : Int) : Bool := n == 0 || inB n 2 (fwrap .i64 (4096 - 1))
theorem lnk_ptr (n : Int) : lnk n = ptrB n := by
  unfold lnk ptrB inB
  rw [show fwrap .i64 (4096 - 1) = 4095 from rfl]
  have e : decide (n ≤ 4095) = decide (n < 4096) := by
    by_cases c : n < 4096
    · rw [decide_eq_true c, decide_eq_true (by omega)]
    · rw [decide_eq_false c, decide_eq_false (by omega)]
  rw [e]
theorem refRec_eq (n id pa ro sz ki fr di : Int) : recOk n id pa ro sz ki fr di =
    (if (!lnk n || (!lnk ro || (!idB id || ((pa != 0 && !idB pa) || (pa == id || !inB sz 0 512))))) = true then false else
     if ki = 0 then fr == 0 && di == 0 else if ki = 1 then inB fr 1 65535 && inB di 0 4294967295 else false) := by
  unfold recOk recIs parB
  rw [lnk_ptr, lnk_ptr]
  rw [show (pa != 0) = !(pa == 0) from rfl, show (pa != id) = !(pa == id) from rfl]
  cases ptrB n <;> cases ptrB ro <;> cases idB id <;> cases (pa == 0) <;> cases idB pa <;> cases (pa == id) <;> cases inB sz 0 512 <;> simp
set_option maxHeartbeats 8000000 in
theorem refRecord_ok {h : Heap} {n id pa ro sz ki fr di : Int} : RunF prog 109 [.agg ⟨rc n id pa ro sz ki fr di⟩] h fun v h' => v = .bool (recOk n id pa ro sz ki fr di) ∧ Fr no h h' := by
  refine RunF.walk func109 rfl rfl ?_
  refine RunC.seq (RunC.region (RunO.all (h1 := h.push ⟨rc n id pa ro sz ki fr di, true⟩) rfl ?_))
  have ow : Ow (h.push ⟨rc n id pa ro sz ki fr di, true⟩) h.next (rc n id pa ro sz ki fr di) := Ow.push _ _
  have f1 : Fr no h (h.push ⟨rc n id pa ro sz ki fr di, true⟩) := Fr.push _ _ _
  generalize h.push ⟨rc n id pa ro sz ki fr di, true⟩ = h1 at *
  generalize h.next = p at *
  rw [refRec_eq]
  refine RunC.seq (RunC.seqc (fun E' h' => h1 = h' ∧ Le (upd (upd E0 1 (.pointer (some ⟨p, 0, none⟩))) 42 (.bool (!lnk n || (!lnk ro || (!idB id || ((pa != 0 && !idB pa) || (pa == id || !inB sz 0 512))))))) E') ?tst ?nxt)
  case tst =>
    refine RunC.region ?_
    (repeat (first | refine RunO.step rfl ?_ | refine RunO.loadG rfl rfl (Ow.ld (by assumption) (by rfl)) rfl ?_ | refine RunO.nil ?_))
    refine RunO.callDG rfl refLink_ok rfl rfl rfl ?_
    rintro _ _ ⟨rfl, rfl⟩
    rw [show (n == 0 || inB n 2 (fwrap .i64 (4096 - 1))) = lnk n from rfl]
    cases lnk n with
    | false => exact RunO.all rfl ⟨rfl, Le.cons rfl (Le.cons rfl (Le.nil _))⟩
    | true =>
    (repeat (first | refine RunO.step rfl ?_ | refine RunO.loadG rfl rfl (Ow.ld (by assumption) (by rfl)) rfl ?_ | refine RunO.nil ?_))
    refine RunO.callDG rfl refLink_ok rfl rfl rfl ?_
    rintro _ _ ⟨rfl, rfl⟩
    rw [show (ro == 0 || inB ro 2 (fwrap .i64 (4096 - 1))) = lnk ro from rfl]
    cases lnk ro with
    | false => exact RunO.all rfl ⟨rfl, Le.cons rfl (Le.cons rfl (Le.nil _))⟩
    | true =>
    (repeat (first | refine RunO.step rfl ?_ | refine RunO.loadG rfl rfl (Ow.ld (by assumption) (by rfl)) rfl ?_ | refine RunO.nil ?_))
    refine RunO.callDG rfl refId_ok rfl rfl rfl ?_
    rintro _ _ ⟨rfl, rfl⟩
    cases idB id with
    | false => exact RunO.all rfl ⟨rfl, Le.cons rfl (Le.cons rfl (Le.nil _))⟩
    | true =>
    (repeat (first | refine RunO.step rfl ?_ | refine RunO.loadG rfl rfl (Ow.ld (by assumption) (by rfl)) rfl ?_ | refine RunO.nil ?_))
    cases hp0 : (pa != 0) with
    | false =>
      (repeat (first | refine RunO.step rfl ?_ | refine RunO.loadG rfl rfl (Ow.ld (by assumption) (by rfl)) rfl ?_ | refine RunO.nil ?_))
      cases hpi : (pa == id) with
      | true => exact RunO.all rfl ⟨rfl, Le.cons rfl (Le.cons rfl (Le.nil _))⟩
      | false =>
      (repeat (first | refine RunO.step rfl ?_ | refine RunO.loadG rfl rfl (Ow.ld (by assumption) (by rfl)) rfl ?_ | refine RunO.nil ?_))
      refine RunO.callDG rfl refIn_ok rfl rfl rfl ?_
      rintro _ _ ⟨rfl, rfl⟩
      cases inB sz 0 512 with
      | false => exact RunO.all rfl ⟨rfl, Le.cons rfl (Le.cons rfl (Le.nil _))⟩
      | true => exact RunO.all rfl ⟨rfl, Le.cons rfl (Le.cons rfl (Le.nil _))⟩
    | true =>
      (repeat (first | refine RunO.step rfl ?_ | refine RunO.loadG rfl rfl (Ow.ld (by assumption) (by rfl)) rfl ?_ | refine RunO.nil ?_))
      refine RunO.callDG rfl refId_ok rfl rfl rfl ?_
      rintro _ _ ⟨rfl, rfl⟩
      cases idB pa with
      | false => exact RunO.all rfl ⟨rfl, Le.cons rfl (Le.cons rfl (Le.nil _))⟩
      | true =>
      (repeat (first | refine RunO.step rfl ?_ | refine RunO.loadG rfl rfl (Ow.ld (by assumption) (by rfl)) rfl ?_ | refine RunO.nil ?_))
      cases hpi : (pa == id) with
      | true => exact RunO.all rfl ⟨rfl, Le.cons rfl (Le.cons rfl (Le.nil _))⟩
      | false =>
      (repeat (first | refine RunO.step rfl ?_ | refine RunO.loadG rfl rfl (Ow.ld (by assumption) (by rfl)) rfl ?_ | refine RunO.nil ?_))
      refine RunO.callDG rfl refIn_ok rfl rfl rfl ?_
      rintro _ _ ⟨rfl, rfl⟩
      cases inB sz 0 512 with
      | false => exact RunO.all rfl ⟨rfl, Le.cons rfl (Le.cons rfl (Le.nil _))⟩
      | true => exact RunO.all rfl ⟨rfl, Le.cons rfl (Le.cons rfl (Le.nil _))⟩
  rintro E' _ ⟨rfl, hE⟩
  refine RunC.le hE ?_
  clear hE
  generalize (!lnk n || (!lnk ro || (!idB id || ((pa != 0 && !idB pa) || (pa == id || !inB sz 0 512))))) = B
  cases B with
  | true =>
    refine RunC.cond rfl (fun _ => ?_) (fun g => by cases g)
    exact RunC.seq (RunC.region (RunO.all rfl (RunC.ret ⟨_, rfl, rfl, f1⟩)))
  | false =>
  refine RunC.cond rfl (fun g => by cases g) (fun _ => RunC.skip ?_)
  rw [if_neg Bool.false_ne_true]
  refine RunC.seq (RunC.seq (RunC.region ?_))
  (repeat (first | refine RunO.step rfl ?_ | refine RunO.loadG rfl rfl (Ow.ld (by assumption) (by rfl)) rfl ?_ | refine RunO.nil ?_))
  refine RunC.block ?_
  refine RunC.seq (RunC.region ?_)
  by_cases h0 : ki = 0
  · rw [if_pos h0]
    subst h0
    (repeat (first | refine RunO.step rfl ?_ | refine RunO.loadG rfl rfl (Ow.ld (by assumption) (by rfl)) rfl ?_ | refine RunO.nil ?_))
    refine RunC.cond rfl (fun _ => ?_) (fun g => by cases g)
    refine RunC.seq (RunC.region ?_)
    (repeat (first | refine RunO.step rfl ?_ | refine RunO.loadG rfl rfl (Ow.ld (by assumption) (by rfl)) rfl ?_ | refine RunO.nil ?_))
    cases (fr == 0) with
    | false => (repeat (first | refine RunO.step rfl ?_ | refine RunO.loadG rfl rfl (Ow.ld (by assumption) (by rfl)) rfl ?_ | refine RunO.nil ?_)); exact RunC.ret ⟨_, rfl, rfl, f1⟩
    | true =>
      (repeat (first | refine RunO.step rfl ?_ | refine RunO.loadG rfl rfl (Ow.ld (by assumption) (by rfl)) rfl ?_ | refine RunO.nil ?_))
      exact RunC.ret ⟨_, rfl, rfl, f1⟩
  · rw [if_neg h0]
    refine RunO.part 1 rfl ?_
    rw [show (ki == 0) = false from beq_eq_false_iff_ne.2 h0]
    refine RunO.all rfl (RunC.cond rfl (fun g => by cases g) (fun _ => ?_))
    refine RunC.seq (RunC.region (RunO.part 1 rfl ?_))
    by_cases h1_ : ki = 1
    · rw [if_pos h1_]
      subst h1_
      refine RunO.all rfl (RunC.cond rfl (fun _ => ?_) (fun g => by cases g))
      refine RunC.seq (RunC.region ?_)
      (repeat (first | refine RunO.step rfl ?_ | refine RunO.loadG rfl rfl (Ow.ld (by assumption) (by rfl)) rfl ?_ | refine RunO.nil ?_))
      refine RunO.callD refIn_ok rfl rfl rfl ?_
      rintro _ _ ⟨rfl, rfl⟩
      cases inB fr 1 65535 with
      | false => exact RunO.all rfl (RunC.ret ⟨_, rfl, rfl, f1⟩)
      | true =>
        (repeat (first | refine RunO.step rfl ?_ | refine RunO.loadG rfl rfl (Ow.ld (by assumption) (by rfl)) rfl ?_ | refine RunO.nil ?_))
        refine RunO.callDG rfl refIn_ok rfl rfl rfl ?_
        rintro _ _ ⟨rfl, rfl⟩
        exact RunO.all rfl (RunC.ret ⟨_, rfl, rfl, f1⟩)
    · rw [if_neg h1_, show (ki == 1) = false from beq_eq_false_iff_ne.2 h1_]
      refine RunO.all rfl (RunC.cond rfl (fun g => by cases g) (fun _ => RunC.skip ?_))
      exact RunC.seq (RunC.region (RunO.all rfl (RunC.ret ⟨_, rfl, rfl, f1⟩)))
set_option maxHeartbeats 8000000 in
theorem refParseRecord_ok {h : Heap} {v : Value} {l : List Int} (sl : Sl h v 1 l.length (us l)) (hb : Byt l) :
    RunF prog 79 [v] h fun r h' => r = .tuple #[.agg ⟨rCells l⟩, .int .i64 (rCode l)] ∧ Fr no h h' := by
  refine RunF.walk func79 rfl rfl ?_
  refine RunC.seq (RunC.region (RunO.all (h1 := h.push ⟨rc 0 0 0 0 0 0 0 0, true⟩) rfl ?_))
  have ow : Ow (h.push ⟨rc 0 0 0 0 0 0 0 0, true⟩) h.next (rc 0 0 0 0 0 0 0 0) := Ow.push _ _
  have f1 : Fr (fun b => h.next ≤ b) h (h.push ⟨rc 0 0 0 0 0 0 0 0, true⟩) := Fr.push _ _ _
  have s1 := sl.fr0 (Fr.push no h ⟨rc 0 0 0 0 0 0 0 0, true⟩)
  generalize h.push ⟨rc 0 0 0 0 0 0 0 0, true⟩ = h1 at *
  have hp : h.next < h1.next := ow.1
  refine RunC.seq (RunC.seq (RunC.region (RunO.part 1 rfl ?_)) )
  refine RunO.callD (refOpen_ok (mb := rMag) rfl s1 hb) rfl rfl rfl ?_
  rintro _ _ ⟨rfl, rfl⟩
  refine RunO.all rfl ?_
  refine RunC.seq (RunC.region (RunO.all rfl ?_))
  have hro := readB_open rMag rLay l
  by_cases he : openE rMag l ≠ 0
  · rw [if_pos he] at hro
    have hc : rCode l = openE rMag l := by unfold rCode; rw [hro, if_neg he]
    have hcells : rCells l = rc 0 0 0 0 0 0 0 0 := by unfold rCells; rw [hc, if_neg he]
    rw [hc, hcells, show (openE rMag l != 0) = true from bne_iff_ne.2 he]
    refine RunC.cond rfl (fun _ => ?_) (fun g => by cases g)
    refine RunC.seq (RunC.region (RunO.part 2 rfl ?_))
    refine RunO.store rfl rfl (store_ow (s := 8) ow rfl rfl rfl (Nat.le_refl 8)) (RunO.all rfl ?_)
    exact RunC.ret ⟨_, eresults_cell rfl ((Ow.put (cs := rc 0 0 0 0 0 0 0 0) ow.1).all.part (k := 0) rfl) rfl, rfl, frNo (f1.same (Fr.put _ (.inl (Nat.le_refl _))))⟩
  have he0 : openE rMag l = 0 := Decidable.not_not.1 he
  have hl : l.length = 64 := by
    unfold openE at he0
    by_cases g : l.length ≠ 64
    · rw [if_pos g] at he0; cases he0
    · exact Decidable.not_not.1 g
  rw [if_neg he] at hro
  rw [he0]
  refine RunC.cond rfl (fun g => by cases g) (fun _ => RunC.skip ?_)
  refine RunC.seq (RunC.region (RunO.part 1 rfl ?_))
  refine RunO.callD (refGet8_ok (k := 8) s1 hb (by omega) (by omega)) rfl rfl rfl ?_
  rintro _ _ ⟨rfl, rfl⟩
  refine RunO.all rfl ?_
  refine RunC.seq (RunC.region (RunO.part 1 rfl ?_))
  refine RunO.callD (refGet8_ok (k := 16) s1 hb (by omega) (by omega)) rfl rfl rfl ?_
  rintro _ _ ⟨rfl, rfl⟩
  refine RunO.all rfl ?_
  have hro2 : readB rMag rLay l = if ((leGet l 8 8).2 == 0 && (leGet l 16 8).2 == 0) = false then 1 else if zerosN l 44 60 = false then 1 else 0 := by
    rw [hro]
    have : rLay.all (okF l) = ((leGet l 8 8).2 == 0 && (leGet l 16 8).2 == 0) := by
      show (((leGet l 4 4).2 == 0) && (((leGet l 8 8).2 == 0) && (((leGet l 16 8).2 == 0) && (((leGet l 24 4).2 == 0) && (((leGet l 28 4).2 == 0) && (((leGet l 32 4).2 == 0) && (((leGet l 36 4).2 == 0) && (((leGet l 40 4).2 == 0) && true)))))))) = _
      rw [ok4 hb, ok4 hb, ok4 hb, ok4 hb, ok4 hb, ok4 hb]
      cases ((leGet l 8 8).2 == 0) <;> cases ((leGet l 16 8).2 == 0) <;> rfl
    rw [this]; rfl
  clear hro
  have hcd : rCode l = if ((leGet l 8 8).2 == 0 && ((leGet l 16 8).2 == 0 && (recOk (leGet l 4 4).1 (leGet l 8 8).1 (leGet l 16 8).1 (leGet l 24 4).1 (leGet l 28 4).1 (leGet l 32 4).1 (leGet l 36 4).1 (leGet l 40 4).1 && zerosN l 44 60))) = true then 0 else 1 := by
    have e : rOkL l = recOk (leGet l 4 4).1 (leGet l 8 8).1 (leGet l 16 8).1 (leGet l 24 4).1 (leGet l 28 4).1 (leGet l 32 4).1 (leGet l 36 4).1 (leGet l 40 4).1 := rfl
    unfold rCode
    rw [hro2, e]
    cases ((leGet l 8 8).2 == 0) <;> cases ((leGet l 16 8).2 == 0) <;> cases zerosN l 44 60 <;> cases recOk (leGet l 4 4).1 (leGet l 8 8).1 (leGet l 16 8).1 (leGet l 24 4).1 (leGet l 28 4).1 (leGet l 32 4).1 (leGet l 36 4).1 (leGet l 40 4).1 <;> rfl
  have hcl : rCells l = if rCode l = 0 then rc (leGet l 4 4).1 (leGet l 8 8).1 (leGet l 16 8).1 (leGet l 24 4).1 (leGet l 28 4).1 (leGet l 32 4).1 (leGet l 36 4).1 (leGet l 40 4).1 else rc 0 0 0 0 0 0 0 0 := rfl
  refine RunC.seq (RunC.region (RunO.part 1 rfl ?_))
  refine RunO.callD (refGet4_ok (k := 4) s1 hb (by omega) (by omega)) rfl rfl rfl ?_
  rintro _ _ ⟨rfl, rfl⟩
  refine RunO.part 3 rfl ?_
  refine RunO.callD (refGet4_ok (k := 24) s1 hb (by omega) (by omega)) rfl rfl rfl ?_
  rintro _ _ ⟨rfl, rfl⟩
  refine RunO.part 1 rfl ?_
  refine RunO.callD (refGet4_ok (k := 28) s1 hb (by omega) (by omega)) rfl rfl rfl ?_
  rintro _ _ ⟨rfl, rfl⟩
  refine RunO.part 1 rfl ?_
  refine RunO.callD (refGet4_ok (k := 32) s1 hb (by omega) (by omega)) rfl rfl rfl ?_
  rintro _ _ ⟨rfl, rfl⟩
  refine RunO.part 1 rfl ?_
  refine RunO.callD (refGet4_ok (k := 36) s1 hb (by omega) (by omega)) rfl rfl rfl ?_
  rintro _ _ ⟨rfl, rfl⟩
  refine RunO.part 1 rfl ?_
  refine RunO.callD (refGet4_ok (k := 40) s1 hb (by omega) (by omega)) rfl rfl rfl ?_
  rintro _ _ ⟨rfl, rfl⟩
  refine RunO.part 2 (h1 := h1.push ⟨rc 0 0 0 0 0 0 0 0, true⟩) rfl ?_
  refine RunO.store rfl rfl (store_ow (s := 8) (Ow.push h1 (rc 0 0 0 0 0 0 0 0)) rfl rfl rfl (by decide)) (RunO.all rfl ?_)
  change RunC _ _ _ _ ((h1.push ⟨rc 0 0 0 0 0 0 0 0, true⟩).put h1.next (some ⟨rc (leGet l 4 4).1 (leGet l 8 8).1 (leGet l 16 8).1 (leGet l 24 4).1 (leGet l 28 4).1 (leGet l 32 4).1 (leGet l 36 4).1 (leGet l 40 4).1, true⟩)) _ _ _
  have os : Ow ((h1.push ⟨rc 0 0 0 0 0 0 0 0, true⟩).put h1.next (some ⟨rc (leGet l 4 4).1 (leGet l 8 8).1 (leGet l 16 8).1 (leGet l 24 4).1 (leGet l 28 4).1 (leGet l 32 4).1 (leGet l 36 4).1 (leGet l 40 4).1, true⟩)) h1.next (rc (leGet l 4 4).1 (leGet l 8 8).1 (leGet l 16 8).1 (leGet l 24 4).1 (leGet l 28 4).1 (leGet l 32 4).1 (leGet l 36 4).1 (leGet l 40 4).1) := Ow.put _ (Nat.lt_succ_self _)
  have f4 : Fr no h1 ((h1.push ⟨rc 0 0 0 0 0 0 0 0, true⟩).put h1.next (some ⟨rc (leGet l 4 4).1 (leGet l 8 8).1 (leGet l 16 8).1 (leGet l 24 4).1 (leGet l 28 4).1 (leGet l 32 4).1 (leGet l 36 4).1 (leGet l 40 4).1, true⟩)) := (Fr.push _ _ _).trans (Fr.put (m := (· = h1.next)) _ (.inl rfl)) (fun j hj => .inr (by omega))
  generalize (h1.push ⟨rc 0 0 0 0 0 0 0 0, true⟩).put h1.next (some ⟨rc (leGet l 4 4).1 (leGet l 8 8).1 (leGet l 16 8).1 (leGet l 24 4).1 (leGet l 28 4).1 (leGet l 32 4).1 (leGet l 36 4).1 (leGet l 40 4).1, true⟩) = h4 at *
  generalize h1.next = q at *
  have ow4 := ow.fr f4 (fun g => g)
  have s4 := s1.fr0 f4
  have f14 := f1.quiet f4
  generalize (leGet l 4 4).1 = n at *
  generalize (leGet l 8 8).1 = id at *
  generalize (leGet l 16 8).1 = pa at *
  generalize (leGet l 24 4).1 = ro at *
  generalize (leGet l 28 4).1 = sz at *
  generalize (leGet l 32 4).1 = ki at *
  generalize (leGet l 36 4).1 = fr at *
  generalize (leGet l 40 4).1 = di at *
  refine RunC.seq ?_
  refine RunC.seqc (fun E' h' => Fr no h4 h' ∧ Le (upd (upd (upd (upd E0 0 v) 2 (.pointer (some ⟨h.next, 0, none⟩))) 9 (.pointer (some ⟨q, 0, none⟩))) 56 (.bool (!((leGet l 8 8).2 == 0 && ((leGet l 16 8).2 == 0 && (recOk n id pa ro sz ki fr di && zerosN l 44 60)))))) E') ?_ ?_
  · refine RunC.region (RunO.part 3 rfl ?_)
    cases ((leGet l 8 8).2 == 0) with
    | false => exact RunO.all rfl ⟨Fr.refl _ _, Le.cons rfl (Le.cons rfl (Le.cons rfl (Le.cons rfl (Le.nil _))))⟩
    | true =>
      refine RunO.part 4 rfl ?_
      cases ((leGet l 16 8).2 == 0) with
      | false => exact RunO.all rfl ⟨Fr.refl _ _, Le.cons rfl (Le.cons rfl (Le.cons rfl (Le.cons rfl (Le.nil _))))⟩
      | true =>
      (repeat (first | refine RunO.step rfl ?_ | refine RunO.loadG rfl rfl (Ow.ld (by assumption) (by rfl)) rfl ?_ | refine RunO.nil ?_))
      refine RunO.callDG rfl refRecord_ok rfl rfl rfl ?_
      rintro _ h5 ⟨rfl, f5⟩
      refine RunO.part 1 rfl ?_
      cases recOk n id pa ro sz ki fr di with
      | false => exact RunO.all rfl ⟨f5, Le.cons rfl (Le.cons rfl (Le.cons rfl (Le.cons rfl (Le.nil _))))⟩
      | true =>
        refine RunO.part 3 rfl ?_
        refine RunO.callDG rfl (refZeros_ok (k := 44) (m := 60) (s4.fr0 f5) (by decide) (by omega) (by omega)) rfl rfl rfl ?_
        rintro _ _ ⟨rfl, rfl⟩
        exact RunO.all rfl ⟨f5, Le.cons rfl (Le.cons rfl (Le.cons rfl (Le.cons rfl (Le.nil _))))⟩
  · rintro E' h5 ⟨f5, hE⟩
    refine RunC.le hE ?_
    clear hE
    have ow5 := ow4.fr f5 (fun g => g)
    have os5 := os.fr f5 (fun g => g)
    have f15 := f14.quiet f5
    rw [hcl, hcd]
    generalize ((leGet l 8 8).2 == 0 && ((leGet l 16 8).2 == 0 && (recOk n id pa ro sz ki fr di && zerosN l 44 60))) = B
    cases B with
    | false =>
      refine RunC.cond rfl (fun _ => ?_) (fun g => by cases g)
      refine RunC.seq (RunC.region (RunO.part 1 rfl ?_))
      refine RunO.store rfl rfl (store_ow (s := 8) ow5 rfl rfl rfl (Nat.le_refl 8)) (RunO.all rfl ?_)
      exact RunC.ret ⟨_, eresults_cell rfl ((Ow.put (cs := rc 0 0 0 0 0 0 0 0) ow5.1).all.part (k := 0) rfl) rfl, rfl, frNo (f15.same (Fr.put _ (.inl (Nat.le_refl _))))⟩
    | true =>
      refine RunC.cond rfl (fun g => by cases g) (fun _ => RunC.skip ?_)
      refine RunC.seq (RunC.region ?_)
      refine RunO.load (v := .agg ⟨rc n id pa ro sz ki fr di⟩) rfl (os5.all.part (k := 0) rfl) rfl ?_
      refine RunO.store rfl rfl (store_ow (s := 8) ow5 rfl rfl rfl (Nat.le_refl 8)) (RunO.all rfl ?_)
      exact RunC.ret ⟨_, eresults_cell rfl ((Ow.put (cs := rc n id pa ro sz ki fr di) ow5.1).all.part (k := 0) rfl) rfl, rfl, frNo (f15.same (Fr.put _ (.inl (Nat.le_refl _))))⟩
end Go.Proofs.Ytnokcbenpnmnbaa
end
section
set_option linter.unusedVariables false
set_option linter.unusedSectionVars false
set_option maxRecDepth 100000
open Go Go.Am Go.RowKit
namespace Go.Proofs.Ytnokcbenpnmnbaa
open Go.Proofs.Try
theorem refHas_ok {h : Heap} {v : Value} {l : List Int} {n : Int} (sl : Sl h v 1 l.length (is l)) (hm : l.length ≤ 1000000000) : RunF prog 78 [v, .int .i64 n] h fun r h' => r = .bool (l.contains n) ∧ h = h' := by
  have sl0 := sl
  obtain ⟨A, c, rfl, _, _⟩ := sl.form
  refine RunF.walk func78 rfl rfl ?_
  refine RunC.seq (RunC.region (RunO.all rfl ?_))
  refine RunC.seq (RunC.seq (RunC.region (RunO.all rfl ?_)))
  refine RunC.block ?_
  refine RunC.loop (fun d E h' => ∃ i : Nat, i + d = l.length ∧ (l.take i).contains n = false ∧ h = h' ∧ Le (upd (upd (upd E0 0 (.slice A l.length c)) 1 (.int .i64 n)) 5 (.int .i64 (i : Int))) E) ?st (k := l.length) ?ini
  case ini => exact ⟨0, by omega, rfl, rfl, Le.cons rfl (Le.cons rfl (Le.cons rfl (Le.nil _)))⟩
  rintro d E _ ⟨i, hi, hc, rfl, hE⟩
  refine RunC.le hE ?_
  clear hE
  refine RunC.seq (RunC.seq (RunC.region (RunO.all rfl ?_)))
  refine RunC.cond rfl (fun hlt => RunC.skip ?go) (fun hge => RunC.exit ?ex)
  case ex =>
    have hge := of_decide_eq_false hge
    obtain rfl : i = l.length := by omega
    rw [List.take_length] at hc
    exact RunC.seq (RunC.region (RunO.all rfl (RunC.ret ⟨_, rfl, by rw [hc], rfl⟩)))
  have hlt := of_decide_eq_true hlt
  have hlt : i < l.length := by omega
  have hpt := is_part hlt
  refine RunC.seq (RunC.block ?_)
  refine RunC.seq (RunC.region (RunO.part 2 rfl ?_))
  refine RunO.atG (s := 1) (k := i) rfl (fun _ => rfl) rfl rfl sl0 rfl rfl hlt hpt rfl rfl rfl ?_
  refine RunO.part 2 rfl ?_
  have ht : (l.take (i + 1)).contains n = (l[i] == n) := by
    rw [List.take_succ_eq_append_getElem hlt, List.contains_eq_any_beq, List.any_append, ← List.contains_eq_any_beq, hc]
    simp [Bool.beq_comm]
  cases hb : (l[i] == n) with
  | true =>
    refine RunO.all rfl (RunC.cond rfl (fun _ => ?_) (fun g => by cases g))
    have hin : l.contains n = true := List.contains_iff_mem.2 (by rw [← beq_iff_eq.1 hb]; exact List.getElem_mem hlt)
    exact RunC.seq (RunC.region (RunO.all rfl (RunC.ret ⟨_, rfl, by rw [hin], rfl⟩)))
  | false =>
    refine RunO.all rfl (RunC.cond rfl (fun g => by cases g) (fun _ => RunC.skip ?_))
    refine RunC.region (RunO.all rfl ?_)
    exact ⟨d - 1, by omega, i + 1, by omega, by rw [ht, hb], rfl, Le.cons (inc64 (by omega)) (Le.cons rfl (Le.cons rfl (Le.nil _)))⟩
theorem pick_ref (L : List Int) : pickS L =
    (if (sCode (blkI L 0) == 0 && (sVal (blkI L 0)).2.1 == ((L.length / 64 : Nat) : Int)) && (!(sCode (blkI L 1) == 0 && (sVal (blkI L 1)).2.1 == ((L.length / 64 : Nat) : Int)) || decide ((sVal (blkI L 0)).1 ≥ (sVal (blkI L 1)).1)) then (sVal (blkI L 0), 0, true)
     else if (sCode (blkI L 1) == 0 && (sVal (blkI L 1)).2.1 == ((L.length / 64 : Nat) : Int)) then (sVal (blkI L 1), 1, true) else ((0, 0, 0, 0, 0), 0, false)) := by
  rw [pick_two]
  unfold pickStep
  generalize ((L.length / 64 : Nat) : Int) = n
  generalize sVal (blkI L 0) = a
  generalize sVal (blkI L 1) = b
  generalize (sCode (blkI L 0) == 0) = p
  generalize (sCode (blkI L 1) == 0) = q
  have e : decide (b.1 > a.1) = !decide (a.1 ≥ b.1) := by
    by_cases c : a.1 ≥ b.1
    · rw [decide_eq_true c, decide_eq_false (by omega)]; rfl
    · rw [decide_eq_false c, decide_eq_true (by omega)]; rfl
  cases p <;> cases q <;> cases h1 : (a.2.1 == n) <;> cases h2 : (b.2.1 == n) <;> cases h3 : decide (a.1 ≥ b.1) <;> rw [h3] at e <;> simp [h1, h2, h3, e]
set_option maxHeartbeats 8000000 in
theorem refPick_ok {h : Heap} {v : Value} {L : List Int} (sl : Sl h v 1 L.length (us L)) (hb : Byt L) (hd : devOk L.length = true) :
    RunF prog 50 [v] h fun r h' => r = .tuple #[.agg ⟨sc5 (pickS L).1⟩, .int .i64 (pickS L).2.1, .bool (pickS L).2.2] ∧ Fr no h h' := by
  have hdl : L.length % 64 = 0 ∧ 4 ≤ L.length / 64 ∧ L.length / 64 ≤ 4096 := by
    unfold devOk at hd
    simpa using hd
  have hm : L.length ≤ 4611686018427387904 := by omega
  have Z : sc5 (0, 0, 0, 0, 0) = sc 0 0 0 0 0 := rfl
  refine RunF.walk func50 rfl rfl ?_
  refine RunC.seq (RunC.region (RunO.all (h1 := h.push ⟨sc5 (0, 0, 0, 0, 0), true⟩) rfl ?_))
  have ow := Ow.push h (sc5 (0, 0, 0, 0, 0))
  have f1 : Fr (fun b => h.next ≤ b) h (h.push ⟨sc5 (0, 0, 0, 0, 0), true⟩) := Fr.push _ _ _
  have s1 := sl.fr0 (Fr.push no h ⟨sc5 (0, 0, 0, 0, 0), true⟩)
  generalize h.push ⟨sc5 (0, 0, 0, 0, 0), true⟩ = h1 at *
  have hp : h.next < h1.next := ow.1
  refine RunC.seq (RunC.region (RunO.part 1 rfl ?_))
  refine RunO.callD (refBlocks_ok s1 hm) rfl rfl rfl ?_
  rintro _ _ ⟨rfl, rfl⟩
  refine RunO.all rfl ?_
  refine RunC.seq (RunC.region (RunO.part 1 rfl ?_))
  refine RunO.callD (refBlock_ok (i := 0) s1 (by omega) hm) rfl rfl rfl ?_
  rintro b0 _ ⟨sb0, rfl⟩
  have hl0 := blkI_len (l := L) (i := 0) (by omega)
  rw [← hl0] at sb0
  refine RunO.callD (refParseSuper_ok sb0 (byt_blk hb 0)) rfl rfl rfl ?_
  rintro _ h1a ⟨rfl, f1a⟩
  rw [sCells_eq]
  refine RunO.part 4 (h1 := h1a.push ⟨sc5 (0, 0, 0, 0, 0), true⟩) rfl ?_
  refine RunO.store rfl rfl (store_ow (s := 5) (Ow.push h1a (sc5 (0, 0, 0, 0, 0))) rfl rfl rfl (Nat.le_refl 5)) (RunO.all rfl ?_)
  have oa0 : Ow ((h1a.push ⟨sc5 (0, 0, 0, 0, 0), true⟩).put h1a.next (some ⟨sc5 (sVal (blkI L 0)), true⟩)) h1a.next (sc5 (sVal (blkI L 0))) := Ow.put _ (Nat.lt_succ_self _)
  have fa0 : Fr no h1a ((h1a.push ⟨sc5 (0, 0, 0, 0, 0), true⟩).put h1a.next (some ⟨sc5 (sVal (blkI L 0)), true⟩)) := (Fr.push _ _ _).trans (Fr.put (m := (· = h1a.next)) _ (.inl rfl)) (fun j hj => .inr (by omega))
  change RunC _ _ _ _ ((h1a.push ⟨sc5 (0, 0, 0, 0, 0), true⟩).put h1a.next (some ⟨sc5 (sVal (blkI L 0)), true⟩)) _ _ _
  generalize (h1a.push ⟨sc5 (0, 0, 0, 0, 0), true⟩).put h1a.next (some ⟨sc5 (sVal (blkI L 0)), true⟩) = h2 at *
  generalize h1a.next = q0 at *
  have fz0 := f1a.same fa0
  have s2 := s1.fr0 fz0
  replace ow := ow.fr fz0 (fun g => g)
  replace f1 := f1.quiet fz0
  refine RunC.seq (RunC.region (RunO.part 1 rfl ?_))
  refine RunO.callD (refBlock_ok (i := 1) s2 (by omega) hm) rfl rfl rfl ?_
  rintro b1 _ ⟨sb1, rfl⟩
  have hl1 := blkI_len (l := L) (i := 1) (by omega)
  rw [← hl1] at sb1
  refine RunO.callD (refParseSuper_ok sb1 (byt_blk hb 1)) rfl rfl rfl ?_
  rintro _ h2a ⟨rfl, f2a⟩
  rw [sCells_eq]
  refine RunO.part 4 (h1 := h2a.push ⟨sc5 (0, 0, 0, 0, 0), true⟩) rfl ?_
  refine RunO.store rfl rfl (store_ow (s := 5) (Ow.push h2a (sc5 (0, 0, 0, 0, 0))) rfl rfl rfl (Nat.le_refl 5)) (RunO.all rfl ?_)
  have oa1 : Ow ((h2a.push ⟨sc5 (0, 0, 0, 0, 0), true⟩).put h2a.next (some ⟨sc5 (sVal (blkI L 1)), true⟩)) h2a.next (sc5 (sVal (blkI L 1))) := Ow.put _ (Nat.lt_succ_self _)
  have fa1 : Fr no h2a ((h2a.push ⟨sc5 (0, 0, 0, 0, 0), true⟩).put h2a.next (some ⟨sc5 (sVal (blkI L 1)), true⟩)) := (Fr.push _ _ _).trans (Fr.put (m := (· = h2a.next)) _ (.inl rfl)) (fun j hj => .inr (by omega))
  change RunC _ _ _ _ ((h2a.push ⟨sc5 (0, 0, 0, 0, 0), true⟩).put h2a.next (some ⟨sc5 (sVal (blkI L 1)), true⟩)) _ _ _
  generalize (h2a.push ⟨sc5 (0, 0, 0, 0, 0), true⟩).put h2a.next (some ⟨sc5 (sVal (blkI L 1)), true⟩) = h3 at *
  generalize h2a.next = q1 at *
  have fz1 := f2a.same fa1
  have s3 := s2.fr0 fz1
  replace ow := ow.fr fz1 (fun g => g)
  replace f1 := f1.quiet fz1
  replace oa0 := oa0.fr fz1 (fun g => g)
  rw [pick_ref]
  generalize sVal (blkI L 0) = a at *
  generalize sVal (blkI L 1) = b at *
  generalize sCode (blkI L 0) = ca at *
  generalize sCode (blkI L 1) = cb at *
  refine RunC.seqc (fun E' h' => h3 = h' ∧ Le (upd (upd (upd (upd (upd E0 2 (.pointer (some ⟨h.next, 0, none⟩))) 7 (.pointer (some ⟨q0, 0, none⟩))) 9 (.pointer (some ⟨q1, 0, none⟩))) 11 (.bool (ca == 0 && a.2.1 == ((L.length / 64 : Nat) : Int)))) 12 (.bool (cb == 0 && b.2.1 == ((L.length / 64 : Nat) : Int)))) E') ?tst ?nxt
  case tst =>
    refine RunC.draw0 rfl ?_
    refine RunO.part 3 rfl ?_
    cases (ca == 0) with
    | false =>
      refine RunO.part 8 rfl ?_
      cases (cb == 0) with
      | false => exact RunO.all rfl ⟨rfl, Le.cons rfl (Le.cons rfl (Le.cons rfl (Le.cons rfl (Le.cons rfl (Le.nil _)))))⟩
      | true =>
        (repeat (first | refine RunO.step rfl ?_ | refine RunO.loadG rfl rfl (Ow.ld (by assumption) (by rfl)) rfl ?_ | refine RunO.nil ?_))
        exact ⟨rfl, Le.cons rfl (Le.cons rfl (Le.cons rfl (Le.cons rfl (Le.cons rfl (Le.nil _)))))⟩
    | true =>
      (repeat (first | refine RunO.step rfl ?_ | refine RunO.loadG rfl rfl (Ow.ld (by assumption) (by rfl)) rfl ?_ | refine RunO.nil ?_))
      cases (cb == 0) with
      | false => exact RunO.all rfl ⟨rfl, Le.cons rfl (Le.cons rfl (Le.cons rfl (Le.cons rfl (Le.cons rfl (Le.nil _)))))⟩
      | true =>
        (repeat (first | refine RunO.step rfl ?_ | refine RunO.loadG rfl rfl (Ow.ld (by assumption) (by rfl)) rfl ?_ | refine RunO.nil ?_))
        exact ⟨rfl, Le.cons rfl (Le.cons rfl (Le.cons rfl (Le.cons rfl (Le.cons rfl (Le.nil _)))))⟩
  rintro E' _ ⟨rfl, hE⟩
  refine RunC.le hE ?_
  clear hE
  generalize (ca == 0 && a.2.1 == ((L.length / 64 : Nat) : Int)) = one
  generalize (cb == 0 && b.2.1 == ((L.length / 64 : Nat) : Int)) = two
  refine RunC.seq (RunC.block ?_)
  cases one with
  | false =>
    refine RunC.seq (RunC.region (RunO.all rfl ?_))
    refine RunC.cond rfl (fun g => by cases g) (fun _ => ?_)
    refine RunC.seq (RunC.region (RunO.all rfl ?_))
    cases two with
    | true =>
      refine RunC.cond rfl (fun _ => ?_) (fun g => by cases g)
      refine RunC.seq (RunC.region ?_)
      refine RunO.load (v := .agg ⟨sc5 b⟩) rfl (oa1.all.part (k := 0) rfl) rfl ?_
      refine RunO.store rfl rfl (store_ow (s := 5) ow rfl rfl rfl (Nat.le_refl 5)) (RunO.all rfl ?_)
      exact RunC.ret ⟨_, Go.Am.eresults_cell2 rfl ((Ow.put (cs := sc5 b) ow.1).all.part (k := 0) rfl) rfl rfl, rfl, frNo (f1.same (Fr.put _ (.inl (Nat.le_refl _))))⟩
    | false =>
      refine RunC.cond rfl (fun g => by cases g) (fun _ => RunC.skip ?_)
      refine RunC.seq (RunC.region (RunO.part 1 rfl ?_))
      refine RunO.store rfl rfl (store_ow (s := 5) ow rfl rfl rfl (Nat.le_refl 5)) (RunO.all rfl ?_)
      exact RunC.ret ⟨_, Go.Am.eresults_cell2 rfl ((Ow.put (cs := sc5 (0, 0, 0, 0, 0)) ow.1).all.part (k := 0) rfl) rfl rfl, rfl, frNo (f1.same (Fr.put _ (.inl (Nat.le_refl _))))⟩
  | true =>
    refine RunC.seqc (fun E' h' => h3 = h' ∧ Le (upd (upd (upd (upd (upd E0 2 (.pointer (some ⟨h.next, 0, none⟩))) 7 (.pointer (some ⟨q0, 0, none⟩))) 9 (.pointer (some ⟨q1, 0, none⟩))) 12 (.bool two)) 46 (.bool (!two || decide (a.1 ≥ b.1)))) E') ?tst2 ?nxt2
    case tst2 =>
      refine RunC.region ?_
      cases two with
      | false => exact RunO.all rfl ⟨rfl, Le.cons rfl (Le.cons rfl (Le.cons rfl (Le.cons rfl (Le.cons rfl (Le.nil _)))))⟩
      | true =>
        (repeat (first | refine RunO.step rfl ?_ | refine RunO.loadG rfl rfl (Ow.ld (by assumption) (by rfl)) rfl ?_ | refine RunO.nil ?_))
        exact ⟨rfl, Le.cons rfl (Le.cons rfl (Le.cons rfl (Le.cons rfl (Le.cons rfl (Le.nil _)))))⟩
    rintro E' _ ⟨rfl, hE⟩
    refine RunC.le hE ?_
    clear hE
    cases hz : (!two || decide (a.1 ≥ b.1)) with
    | true =>
      refine RunC.cond rfl (fun _ => ?_) (fun g => by cases g)
      refine RunC.seq (RunC.region ?_)
      refine RunO.load (v := .agg ⟨sc5 a⟩) rfl (oa0.all.part (k := 0) rfl) rfl ?_
      refine RunO.store rfl rfl (store_ow (s := 5) ow rfl rfl rfl (Nat.le_refl 5)) (RunO.all rfl ?_)
      exact RunC.ret ⟨_, Go.Am.eresults_cell2 rfl ((Ow.put (cs := sc5 a) ow.1).all.part (k := 0) rfl) rfl rfl, rfl, frNo (f1.same (Fr.put _ (.inl (Nat.le_refl _))))⟩
    | false =>
      have h2 : two = true := by cases two with | true => rfl | false => cases hz
      subst h2
      refine RunC.cond rfl (fun g => by cases g) (fun _ => ?_)
      refine RunC.seq (RunC.region (RunO.all rfl ?_))
      refine RunC.cond rfl (fun _ => ?_) (fun g => by cases g)
      refine RunC.seq (RunC.region ?_)
      refine RunO.load (v := .agg ⟨sc5 b⟩) rfl (oa1.all.part (k := 0) rfl) rfl ?_
      refine RunO.store rfl rfl (store_ow (s := 5) ow rfl rfl rfl (Nat.le_refl 5)) (RunO.all rfl ?_)
      exact RunC.ret ⟨_, Go.Am.eresults_cell2 rfl ((Ow.put (cs := sc5 b) ow.1).all.part (k := 0) rfl) rfl rfl, rfl, frNo (f1.same (Fr.put _ (.inl (Nat.le_refl _))))⟩
end Go.Proofs.Ytnokcbenpnmnbaa
end
section
set_option linter.unusedVariables false
set_option maxRecDepth 100000
open Go Go.Am Go.RowKit
namespace Go.Proofs.Ytnokcbenpnmnbaa
open Go.Proofs.Try
theorem link_ptr (p : Int) : (p == 0 || inB p 2 (fwrap .i64 (4096 - 1))) = ptrB p := by
  have e : fwrap .i64 (4096 - 1) = 4095 := rfl
  rw [e]
  unfold ptrB inB
  have : decide (p ≤ 4095) = decide (p < 4096) := by
    by_cases c : p < 4096
    · rw [decide_eq_true c, decide_eq_true (by omega)]
    · rw [decide_eq_false c, decide_eq_false (by omega)]
  rw [this]
set_option maxHeartbeats 1000000 in
theorem refNode_ok {h : Heap} {lv : Int} {ps : List Int} (hp : ps.length = 8) : RunF prog 82 [.agg ⟨nc lv ps⟩] h fun v h' => v = .bool (nodOk lv ps) ∧ Fr no h h' := by
  refine RunF.walk func82 rfl rfl ?_
  refine RunC.seq (RunC.region (RunO.all (h1 := h.push ⟨nc lv ps, true⟩) rfl ?_))
  have ow : Ow (h.push ⟨nc lv ps, true⟩) h.next (nc lv ps) := Ow.push _ _
  have f1 : Fr no h (h.push ⟨nc lv ps, true⟩) := Fr.push _ _ _
  generalize h.push ⟨nc lv ps, true⟩ = h1 at *
  generalize h.next = p at *
  have hok : nodOk lv ps = (inB lv 0 2 && (ps.all ptrB && anyP ps)) := by
    unfold nodOk inB
    have e1 : (!decide (lv < 0)) = decide (lv ≥ 0) := by
      by_cases c : lv < 0
      · rw [decide_eq_true c, decide_eq_false (by omega)]; rfl
      · rw [decide_eq_false c, decide_eq_true (by omega)]; rfl
    have e2 : (!decide (lv > 2)) = decide (lv ≤ 2) := by
      by_cases c : lv > 2
      · rw [decide_eq_true c, decide_eq_false (by omega)]; rfl
      · rw [decide_eq_false c, decide_eq_true (by omega)]; rfl
    rw [e1, e2]
    cases decide (lv ≥ 0) <;> cases decide (lv ≤ 2) <;> cases ps.all ptrB <;> cases anyP ps <;> rfl
  rw [hok]
  refine RunC.seq (RunC.seq (RunC.region ?_))
  (repeat (first | refine RunO.step rfl ?_ | refine RunO.loadG rfl rfl (Ow.ld (by assumption) (by rfl)) rfl ?_ | refine RunO.nil ?_))
  refine RunO.callD refIn_ok rfl rfl rfl ?_
  rintro _ _ ⟨rfl, rfl⟩
  refine RunO.all rfl ?_
  cases inB lv 0 2 with
  | false =>
    refine RunC.cond rfl (fun _ => ?_) (fun g => by cases g)
    exact RunC.seq (RunC.region (RunO.all rfl (RunC.ret ⟨_, rfl, rfl, f1⟩)))
  | true =>
  refine RunC.cond rfl (fun g => by cases g) (fun _ => RunC.skip ?_)
  refine RunC.seq (RunC.region (RunO.all rfl ?_))
  refine RunC.seq (RunC.seq (RunC.region (RunO.all rfl ?_)))
  refine RunC.block ?_
  let I : Nat → Env → Heap → Prop := fun d E h' => ∃ i : Nat, i + d = 8 ∧ (ps.take i).all ptrB = true ∧ h1 = h' ∧ Le (upd (upd (upd E0 1 (.pointer (some ⟨p, 0, none⟩))) 3 (.bool (anyP (ps.take i)))) 4 (.int .i64 (i : Int))) E
  refine RunC.loop I ?_ (k := 8) ?_
  · rintro d E h' ⟨i, hi, hall, rfl, hE⟩
    refine RunC.le hE ?_
    clear hE
    refine RunC.seq (RunC.seq (RunC.region (RunO.all rfl ?_)))
    refine RunC.cond rfl (fun hlt => ?_) (fun hge => ?_)
    · have hlt := of_decide_eq_true hlt
      have hi8 : i < 8 := by omega
      have hi2 : i < ps.length := by omega
      have hat : anyP (ps.take (i + 1)) = (anyP (ps.take i) || ps[i] != 0) := by
        unfold anyP; rw [List.take_succ_eq_append_getElem hi2, List.any_append]; simp
      have hal : (ps.take (i + 1)).all ptrB = ptrB ps[i] := by
        rw [List.take_succ_eq_append_getElem hi2, List.all_append, hall]; simp
      have hmem := List.getElem_mem hi2
      have hld : apart prog 3 (nc lv ps) (1 + i * 1) = some (.int .i64 ps[i]) := by
        show nth (nc lv ps) (1 + i * 1) = _
        rw [Nat.mul_one, Nat.add_comm]; exact is_nth hi2
      generalize ps[i] = x at *
      refine RunC.skip ?_
      refine RunC.seq (RunC.block ?_)
      refine RunC.seq (RunC.seq (RunC.region (RunO.part 2 rfl ?_)))
      refine RunO.indexA (s := 1) rfl rfl rfl rfl rfl hi8 rfl ?_
      refine RunO.load (v := .int .i64 x) rfl (ow.ld hld) rfl ?_
      refine RunO.callD refLink_ok rfl rfl rfl ?_
      rintro _ _ ⟨rfl, rfl⟩
      rw [link_ptr]
      refine RunO.all rfl ?_
      cases hx : ptrB x with
      | false =>
        have : ps.all ptrB = false := List.all_eq_false.2 ⟨x, hmem, by rw [hx]; exact Bool.false_ne_true⟩
        rw [this]
        refine RunC.cond rfl (fun _ => ?_) (fun g => by cases g)
        exact RunC.seq (RunC.region (RunO.all rfl (RunC.ret ⟨_, rfl, rfl, f1⟩)))
      | true =>
        refine RunC.cond rfl (fun g => by cases g) (fun _ => RunC.skip ?_)
        rw [hx] at hal
        refine RunC.region (RunO.part 2 rfl ?_)
        have fin : ∀ E, Le (upd (upd (upd E0 1 (.pointer (some ⟨p, 0, none⟩))) 3 (.bool (anyP (ps.take (i + 1))))) 4 (.int .i64 ((i + 1 : Nat) : Int))) E → ∃ d', d' < d ∧ I d' E h1 := fun E hE => ⟨d - 1, by omega, i + 1, by omega, hal, rfl, hE⟩
        rw [hat] at fin
        generalize anyP (ps.take i) = an at fin ⊢
        cases an with
        | true =>
          refine RunO.all rfl ?_
          exact RunC.region (RunO.all rfl (fin _ (Le.cons (inc64 (by omega)) (Le.cons rfl (Le.cons rfl (Le.nil _))))))
        | false =>
          refine RunO.part 2 rfl ?_
          refine RunO.oneG (v := .pointer (some ⟨p, 0 + 1 + i * 1, none⟩)) (h1 := h1) rfl ?_ rfl ?_
          · show pureR h1 (cond (Nat.ble (Nat.succ i) 8) (some (Value.pointer (some ⟨p, 0 + 1 + Nat.mul i 1, none⟩))) none) = _
            rw [Nat.ble_eq_true_of_le (by omega)]; rfl
          refine RunO.loadG (v := .int .i64 x) rfl rfl (by rw [Nat.zero_add]; exact ow.ld hld) rfl ?_
          refine RunO.all rfl ?_
          exact RunC.region (RunO.all rfl (fin _ (Le.cons (inc64 (by omega)) (Le.cons rfl (Le.cons rfl (Le.nil _))))))
    · have hge := of_decide_eq_false hge
      obtain rfl : i = 8 := by omega
      rw [← hp, List.take_length] at hall
      rw [hall]
      refine RunC.exit ?_
      refine RunC.seq (RunC.region (RunO.all rfl (RunC.ret ⟨_, rfl, ?_, f1⟩)))
      rw [← hp, List.take_length]; rfl
  · exact ⟨0, by omega, rfl, rfl, Le.cons rfl (Le.cons rfl (Le.cons rfl (Le.nil _)))⟩
theorem nLay_end : endF nLay = 40 := rfl
/-- Why bytes are no node, as the page says it. -/
theorem nCode_open {l : List Int} (hb : Byt l) : nCode l = if openE nMag l ≠ 0 then openE nMag l else if (nodOk (nLv l) (nPs l) && zerosN l 40 60) = true then 0 else 1 := by
  unfold nCode
  rw [readB_open, nLay_end]
  by_cases he : openE nMag l ≠ 0
  · rw [if_pos he, if_pos he, if_neg he]
  · rw [if_neg he, if_neg he]
    have hall : nLay.all (okF l) = true := by
      show (((leGet l 4 4).2 == 0) && (((leGet l 8 4).2 == 0) && (((leGet l 12 4).2 == 0) && (((leGet l 16 4).2 == 0) && (((leGet l 20 4).2 == 0) && (((leGet l 24 4).2 == 0) && (((leGet l 28 4).2 == 0) && (((leGet l 32 4).2 == 0) && (((leGet l 36 4).2 == 0) && true))))))))) = true
      rw [ok4 hb, ok4 hb, ok4 hb, ok4 hb, ok4 hb, ok4 hb, ok4 hb, ok4 hb, ok4 hb]; rfl
    rw [hall]
    cases zerosN l 40 60 <;> cases nodOk (nLv l) (nPs l) <;> rfl
end Go.Proofs.Ytnokcbenpnmnbaa
end
section
set_option linter.unusedVariables false
set_option maxRecDepth 100000
open Go Go.Am Go.RowKit
namespace Go.Proofs.Ytnokcbenpnmnbaa
open Go.Proofs.Try
theorem nPs_get (l : List Int) {i : Nat} (hi : i < 8) : (nPs l).getD i 0 = (leGet l (8 + 4 * i) 4).1 := by
  obtain rfl | rfl | rfl | rfl | rfl | rfl | rfl | rfl : i = 0 ∨ i = 1 ∨ i = 2 ∨ i = 3 ∨ i = 4 ∨ i = 5 ∨ i = 6 ∨ i = 7 := by omega
  all_goals rfl
def firstP (ps : List Int) (i : Nat) : List Int := ps.take i ++ List.replicate (8 - i) 0
theorem firstP_len {ps : List Int} (hp : ps.length = 8) {i : Nat} (hi : i ≤ 8) : (firstP ps i).length = 8 := by
  unfold firstP; rw [List.length_append, List.length_take, List.length_replicate]; omega
theorem firstP_set {ps : List Int} (hp : ps.length = 8) {i : Nat} (hi : i < 8) : (firstP ps i).set i (ps.getD i 0) = firstP ps (i + 1) := by
  apply List.ext_getElem?
  intro j
  have hl : i < (firstP ps i).length := by rw [firstP_len hp (by omega)]; exact hi
  rw [List.getElem?_set]
  unfold firstP at hl ⊢
  by_cases e : i = j
  · subst e
    rw [if_pos rfl, if_pos hl, List.getElem?_append_left (by rw [List.length_take]; omega), List.getElem?_take, if_pos (by omega), List.getD_eq_getElem?_getD, List.getElem?_eq_getElem (by omega)]; rfl
  · rw [if_neg e]
    by_cases c : j < i
    · rw [List.getElem?_append_left (by rw [List.length_take]; omega), List.getElem?_append_left (by rw [List.length_take]; omega), List.getElem?_take, List.getElem?_take, if_pos c, if_pos (by omega)]
    · rw [List.getElem?_append_right (by rw [List.length_take]; omega), List.getElem?_append_right (by rw [List.length_take]; omega), List.getElem?_replicate, List.getElem?_replicate, List.length_take, List.length_take]
      by_cases c2 : j < 8
      · rw [if_pos (by omega), if_pos (by omega)]
      · rw [if_neg (by omega), if_neg (by omega)]
theorem nc_cell (lv : Int) (ps : List Int) : (cellsOf (.agg ⟨nc lv ps⟩)).length = ps.length + 1 ∧ allCells (cellsOf (.agg ⟨nc lv ps⟩)) = true := by
  constructor
  · show (nc lv ps).length = _; simp [nc, is_len]
  · show allCells (.int .i64 lv :: is ps) = true; exact allCells_map (f := Value.int .i64) (fun _ => rfl) ps
/-- A whole node stored. -/
theorem nc_store {P : Program} {t : TypeId} {h : Heap} {b : Nat} {lw lv : Int} {qs ps : List Int} (ow : Ow h b (nc lw qs)) (hq : qs.length = 8) (hp : ps.length = 8) (hs : Go.Am.sizeOf P t = some 9) : astore P h t ⟨b, 0, none⟩ (.agg ⟨nc lv ps⟩) = some (h.put b (some ⟨nc lv ps, true⟩)) := by
  have hl : (nc lw qs).length = 9 := by simp [nc, is_len, hq]
  have hl2 : (nc lv ps).length = 9 := by simp [nc, is_len, hp]
  have := store_ow (P := P) (t := t) (v := .agg ⟨nc lv ps⟩) (off := 0) ow hs (by rw [(nc_cell lv ps).1, hp]) (nc_cell lv ps).2 (by omega)
  rw [this]
  congr 4
  show [] ++ nc lv ps ++ (nc lw qs).drop (0 + 9) = _
  rw [List.drop_of_length_le (by omega)]; simp
set_option maxHeartbeats 4000000 in
theorem refParseNode_ok {h : Heap} {v : Value} {l : List Int} (sl : Sl h v 1 l.length (us l)) (hb : Byt l) :
    RunF prog 52 [v] h fun r h' => r = .tuple #[.agg ⟨nc (nodV l).1 (nodV l).2⟩, .int .i64 (nCode l)] ∧ Fr no h h' := by
  refine RunF.walk func52 rfl rfl ?_
  refine RunC.seq (RunC.region (RunO.part 1 (h1 := h.push ⟨nc 0 nZero, true⟩) rfl (RunO.all rfl ?_)))
  have ow : Ow (h.push ⟨nc 0 nZero, true⟩) h.next (nc 0 nZero) := Ow.push _ _
  have f1 : Fr (fun b => h.next ≤ b) h (h.push ⟨nc 0 nZero, true⟩) := Fr.push _ _ _
  have s1 := sl.fr0 (Fr.push no h ⟨nc 0 nZero, true⟩)
  generalize h.push ⟨nc 0 nZero, true⟩ = h1 at *
  have hp : h.next < h1.next := ow.1
  refine RunC.seq (RunC.seq (RunC.region (RunO.part 1 rfl ?_)))
  refine RunO.callD (refOpen_ok (mb := nMag) rfl s1 hb) rfl rfl rfl ?_
  rintro _ _ ⟨rfl, rfl⟩
  refine RunO.all rfl ?_
  refine RunC.seq (RunC.region (RunO.all rfl ?_))
  have hro := nCode_open hb
  have hvd : nodV l = if nCode l = 0 then (nLv l, nPs l) else (0, nZero) := rfl
  rw [hvd]
  by_cases he : openE nMag l ≠ 0
  · rw [if_pos he] at hro
    rw [hro, if_neg he, show (openE nMag l != 0) = true from bne_iff_ne.2 he]
    refine RunC.cond rfl (fun _ => ?_) (fun g => by cases g)
    refine RunC.seq (RunC.region (RunO.part 2 rfl ?_))
    refine RunO.store rfl rfl (nc_store (lv := 0) (ps := nZero) ow rfl rfl rfl) (RunO.all rfl ?_)
    exact RunC.ret ⟨_, eresults_cell rfl (nc_load rfl (Ow.put (nc 0 nZero) ow.1)) rfl, rfl, frNo (f1.same (Fr.put _ (.inl (Nat.le_refl _))))⟩
  have he0 : openE nMag l = 0 := Decidable.not_not.1 he
  have hl : l.length = 64 := by
    unfold openE at he0
    by_cases g : l.length ≠ 64
    · rw [if_pos g] at he0; cases he0
    · exact Decidable.not_not.1 g
  rw [if_neg he] at hro
  rw [he0, hro]
  refine RunC.cond rfl (fun g => by cases g) (fun _ => RunC.skip ?_)
  refine RunC.seq (RunC.region (RunO.part 1 rfl ?_))
  refine RunO.callD (refGet4_ok (k := 4) s1 hb (by omega) (by omega)) rfl rfl rfl ?_
  rintro _ _ ⟨rfl, rfl⟩
  refine RunO.part 2 (h1 := h1.push ⟨nc 0 nZero, true⟩) rfl ?_
  refine RunO.store rfl rfl (nc_store (lv := nLv l) (ps := nZero) (Ow.push h1 (nc 0 nZero)) rfl rfl rfl) (RunO.nil ?_)
  have on : Ow ((h1.push ⟨nc 0 nZero, true⟩).put h1.next (some ⟨nc (nLv l) nZero, true⟩)) h1.next (nc (nLv l) nZero) := Ow.put _ (Nat.lt_succ_self _)
  have f4 : Fr no h1 ((h1.push ⟨nc 0 nZero, true⟩).put h1.next (some ⟨nc (nLv l) nZero, true⟩)) := (Fr.push _ _ _).trans (Fr.put (m := (· = h1.next)) _ (.inl rfl)) (fun j hj => .inr (by omega))
  have hqn : h.next < h1.next := hp
  generalize (h1.push ⟨nc 0 nZero, true⟩).put h1.next (some ⟨nc (nLv l) nZero, true⟩) = h4 at *
  generalize h1.next = q at *
  have ow4 := ow.fr f4 (fun g => g)
  have s4 := s1.fr0 f4
  have f14 := f1.quiet f4
  have hps : (nPs l).length = 8 := rfl
  have hget := fun i hi => nPs_get l (i := i) hi
  generalize nLv l = lv at *
  generalize nPs l = ps at *
  refine RunC.seq (RunC.seq (RunC.region (RunO.all rfl ?_)))
  refine RunC.block ?_
  let I : Nat → Env → Heap → Prop := fun d E h' => ∃ i : Nat, i + d = 8 ∧ Ow h' q (nc lv (firstP ps i)) ∧ Fr (· = q) h4 h' ∧ Le (upd (upd (upd (upd E0 0 v) 2 (.pointer (some ⟨h.next, 0, none⟩))) 5 (.pointer (some ⟨q, 0, none⟩))) 6 (.int .i64 (i : Int))) E
  refine RunC.loop I ?_ (k := 8) ?_
  · rintro d E h5 ⟨i, hi, on5, f5, hE⟩
    refine RunC.le hE ?_
    clear hE
    have s5 : Sl h5 v 1 l.length (us l) := by
      refine ⟨s4.1, s4.2.1, s4.2.2.imp (fun y => y) ?_⟩
      rintro ⟨b, o, c, h1', h2', h3'⟩
      have hbl : b < h.next := by
        rcases sl.2.2 with ⟨e, _⟩ | ⟨b', o', c', e, _, rd⟩
        · rw [h1'] at e; cases e
        · rw [h1'] at e; cases e; exact rd.2.1
      exact ⟨b, o, c, h1', h2', h3'.fr f5 (show ¬ b = q by omega)⟩
    refine RunC.seq (RunC.seq (RunC.region (RunO.all rfl ?_)))
    refine RunC.cond rfl (fun hlt => ?_) (fun hge => ?_)
    · have hlt := of_decide_eq_true hlt
      have hi8 : i < 8 := by omega
      refine RunC.skip ?_
      refine RunC.seq (RunC.block ?_)
      refine RunC.region (RunO.part 4 rfl ?_)
      rw [fw64 (x := 4 * (i : Int)) (by omega) (by omega)]
      refine RunO.part 1 rfl ?_
      rw [fw64 (x := 8 + 4 * (i : Int)) (by omega) (by omega), show 8 + 4 * (i : Int) = ((8 + 4 * i : Nat) : Int) by omega]
      refine RunO.callD (refGet4_ok (k := 8 + 4 * i) s5 hb (by omega) (by omega)) rfl rfl rfl ?_
      rintro _ _ ⟨rfl, rfl⟩
      rw [← hget i hi8]
      refine RunO.part 1 rfl ?_
      refine RunO.indexA (s := 1) rfl rfl rfl rfl rfl hi8 rfl ?_
      have hfl := firstP_len hps (show i ≤ 8 by omega)
      have on6 := Ow.put (h := h5) (b := q) (nc lv (firstP ps (i + 1))) on5.1
      refine RunO.store (h1 := h5.put q (some ⟨nc lv (firstP ps (i + 1)), true⟩)) rfl rfl ?_ (RunO.nil ?_)
      · rw [Nat.mul_one]
        show astore _ _ _ ⟨q, 1 + i, none⟩ _ = _
        rw [Nat.add_comm 1]
        refine (store1_ow on5 rfl rfl rfl (by show _ < (is _).length + 1; rw [is_len, hfl]; omega)).trans ?_
        rw [← firstP_set hps hi8]
        unfold nc
        rw [List.set_cons_succ]
        unfold is
        rw [List.map_set]
      refine RunC.region (RunO.all rfl ?_)
      exact ⟨d - 1, by omega, i + 1, by omega, on6, f5.same (Fr.put _ (.inl rfl)), Le.cons (inc64 (by omega)) (Le.cons rfl (Le.cons rfl (Le.cons rfl (Le.nil _))))⟩
    · have hge := of_decide_eq_false hge
      obtain rfl : i = 8 := by omega
      have hfin : firstP ps 8 = ps := by unfold firstP; rw [← hps, List.take_length, Nat.sub_self]; simp
      rw [hfin] at on5
      have ow5 := ow4.fr f5 (show ¬ h.next = q by omega)
      have f15 : Fr (fun b => h.next ≤ b) h h5 := f14.trans f5 (fun b e => .inl (by omega))
      refine RunC.exit ?_
      refine RunC.seq ?_
      refine RunC.seqc (fun E' h' => Fr no h5 h' ∧ Le (upd (upd (upd (upd E0 0 v) 2 (.pointer (some ⟨h.next, 0, none⟩))) 5 (.pointer (some ⟨q, 0, none⟩))) 35 (.bool (!(nodOk lv ps && zerosN l 40 60)))) E') ?_ ?_
      · refine RunC.region ?_
        refine RunO.load (v := .agg ⟨nc lv ps⟩) rfl (nc_load hps on5) rfl ?_
        refine RunO.callD (refNode_ok hps) rfl rfl rfl ?_
        rintro _ h6 ⟨rfl, f6⟩
        refine RunO.part 2 rfl ?_
        cases nodOk lv ps with
        | false => exact RunO.all rfl ⟨f6, Le.cons rfl (Le.cons rfl (Le.cons rfl (Le.cons rfl (Le.nil _))))⟩
        | true =>
          refine RunO.part 1 rfl ?_
          refine RunO.callDG rfl (refZeros_ok (k := 40) (m := 60) (s5.fr0 f6) (by decide) (by omega) (by omega)) rfl rfl rfl ?_
          rintro _ _ ⟨rfl, rfl⟩
          exact RunO.all rfl ⟨f6, Le.cons rfl (Le.cons rfl (Le.cons rfl (Le.cons rfl (Le.nil _))))⟩
      rintro E' h6 ⟨f6, hE⟩
      refine RunC.le hE ?_
      clear hE
      have ow6 := ow5.fr f6 (fun g => g)
      have on6 := on5.fr f6 (fun g => g)
      have f16 := f15.quiet f6
      cases (nodOk lv ps && zerosN l 40 60) with
      | false =>
        refine RunC.cond rfl (fun _ => ?_) (fun g => by cases g)
        refine RunC.seq (RunC.region (RunO.part 1 rfl ?_))
        refine RunO.store rfl rfl (nc_store (lv := 0) (ps := nZero) ow6 rfl rfl rfl) (RunO.all rfl ?_)
        exact RunC.ret ⟨_, eresults_cell rfl (nc_load rfl (Ow.put (nc 0 nZero) ow6.1)) rfl, rfl, frNo (f16.same (Fr.put _ (.inl (Nat.le_refl _))))⟩
      | true =>
        refine RunC.cond rfl (fun g => by cases g) (fun _ => RunC.skip ?_)
        refine RunC.seq (RunC.region ?_)
        refine RunO.load (v := .agg ⟨nc lv ps⟩) rfl (nc_load hps on6) rfl ?_
        refine RunO.store rfl rfl (nc_store ow6 rfl hps rfl) (RunO.all rfl ?_)
        exact RunC.ret ⟨_, eresults_cell rfl (nc_load hps (Ow.put (nc lv ps) ow6.1)) rfl, rfl, frNo (f16.same (Fr.put _ (.inl (Nat.le_refl _))))⟩
  · exact ⟨0, by omega, on, Fr.refl _ _, Le.cons rfl (Le.cons rfl (Le.cons rfl (Le.cons rfl (Le.nil _))))⟩
end Go.Proofs.Ytnokcbenpnmnbaa
end
section
set_option linter.unusedVariables false
set_option maxRecDepth 100000
open Go Go.Am Go.RowKit
namespace Go.Proofs.Ytnokcbenpnmnbaa
open Go.Proofs.Try
def bs (l : List Bool) : List Value := l.map Value.bool
theorem bs_len (l : List Bool) : (bs l).length = l.length := List.length_map _
theorem bs_part {l : List Bool} {i : Nat} (h : i < l.length) : apart prog 4 (bs l) (i * 1) = some (.bool l[i]) := by
  show nth (bs l) (i * 1) = _
  rw [Nat.mul_one, nth_eq, bs, List.getElem?_map, List.getElem?_eq_getElem h]; rfl
theorem bs_set (l : List Bool) (i : Nat) (x : Bool) : (bs l).set i (.bool x) = bs (l.set i x) := by unfold bs; rw [List.map_set]
/-- The page's walk through a tree, as cells. -/
def rwc (iv : Value) (B sb db mb : Nat) (nv : Value) (ok : Bool) : List Value := [iv, .int .i64 (B : Int), nv, .slice (some ⟨sb, 0, none⟩) B (exc B), .slice (some ⟨db, 0, none⟩) B (exc B), .slice (some ⟨mb, 0, none⟩) 512 (exc 512), .bool ok]
structure RW (lo : Nat) (h : Heap) (iv : Value) (B wb sb db mb : Nat) (nv : Value) (m ns : List Int) (sn dt : List Bool) (ok : Bool) : Prop where
  ow : Ow h wb (rwc iv B sb db mb nv ok)
  os : Ow h sb (bs sn)
  od : Ow h db (bs dt)
  om : Ow h mb (is m)
  row : Row lo h nv 1 ns.length (is ns)
  lm : m.length = 512
  ls : sn.length = B
  ld : dt.length = B
  ln : lo ≤ h.next
structure RB (lo wb sb db mb : Nat) : Prop where
  w : wb < lo
  s : sb < lo
  d : db < lo
  m : mb < lo
  ws : wb ≠ sb
  wd : wb ≠ db
  wm : wb ≠ mb
  sd : sb ≠ db
  sm : sb ≠ mb
  dm : db ≠ mb
def RM (lo wb sb db mb : Nat) : Nat → Prop := fun b => b = wb ∨ b = sb ∨ b = db ∨ b = mb ∨ lo ≤ b
/-- What a walk writes: its own blocks, the row of the nodes. -/
def RR (wb sb db mb : Nat) (nv : Value) : Nat → Prop := fun b => b = wb ∨ b = sb ∨ b = db ∨ b = mb ∨ At nv b
/-- Seen are the nodes, data the map's. -/
def Cpl (B : Nat) (m ns : List Int) (sn dt : List Bool) : Prop := (∀ i, i < B → sn.getD i false = ns.contains (i : Int)) ∧ ∀ i, 0 < i → i < B → dt.getD i false = m.contains (i : Int)
theorem RW.quiet {lo : Nat} {h h' : Heap} {iv : Value} {B wb sb db mb : Nat} {nv : Value} {m ns : List Int} {sn dt : List Bool} {ok : Bool} (t : RW lo h iv B wb sb db mb nv m ns sn dt ok) (f : Fr no h h') : RW lo h' iv B wb sb db mb nv m ns sn dt ok :=
  ⟨t.ow.fr f (fun g => g), t.os.fr f (fun g => g), t.od.fr f (fun g => g), t.om.fr f (fun g => g), t.row.fr f (fun _ _ _ g => g), t.lm, t.ls, t.ld, Nat.le_trans t.ln f.next⟩
/-- Ok is put down. -/
theorem RW.fail {lo : Nat} {h : Heap} {iv : Value} {B wb sb db mb : Nat} {nv : Value} {m ns : List Int} {sn dt : List Bool} {ok : Bool} (rb : RB lo wb sb db mb) (t : RW lo h iv B wb sb db mb nv m ns sn dt ok) (x : Bool) :
    astore prog h 4 ⟨wb, 6, none⟩ (.bool x) = some (h.put wb (some ⟨rwc iv B sb db mb nv x, true⟩)) ∧ RW lo (h.put wb (some ⟨rwc iv B sb db mb nv x, true⟩)) iv B wb sb db mb nv m ns sn dt x ∧ Fr (RR wb sb db mb nv) h (h.put wb (some ⟨rwc iv B sb db mb nv x, true⟩)) := by
  have f : Fr (· = wb) h (h.put wb (some ⟨rwc iv B sb db mb nv x, true⟩)) := Fr.put _ (.inl rfl)
  refine ⟨store1_ow t.ow rfl rfl rfl (Nat.le_of_ble_eq_true rfl), ⟨Ow.put _ t.ow.1, t.os.fr f (fun e => rb.ws e.symm), t.od.fr f (fun e => rb.wd e.symm), t.om.fr f (fun e => rb.wm e.symm), t.row.fr f (fun b h1 _ e => by have := rb.w; omega), t.lm, t.ls, t.ld, t.ln⟩, f.weak (fun i e => .inl (.inl e))⟩
theorem contains_set0 {m : List Int} {k : Nat} {p : Int} (hk : k < m.length) (h0 : m.getD k 0 = 0) {x : Int} (hx : x ≠ 0) : (m.set k p).contains x = (x == p || m.contains x) := by
  rw [Bool.eq_iff_iff]
  simp only [List.contains_eq_mem, decide_eq_true_eq, Bool.or_eq_true, beq_iff_eq]
  constructor
  · intro h
    rcases List.mem_or_eq_of_mem_set h with g | g
    · exact .inr g
    · exact .inl g
  · rintro (rfl | h)
    · exact List.mem_of_getElem? (List.getElem?_set_self hk)
    · obtain ⟨j, hj⟩ := List.getElem?_of_mem h
      have hne : k ≠ j := by
        intro e; subst e
        rw [List.getD_eq_getElem?_getD, hj] at h0
        exact hx h0
      exact List.mem_of_getElem? (by rw [List.getElem?_set_ne hne]; exact hj)
theorem getD_setB (l : List Bool) (k s : Nat) (p : Bool) (hk : k < l.length) : (l.set k p).getD s false = if s = k then p else l.getD s false := by
  rw [List.getD_eq_getElem?_getD, List.getElem?_set]
  by_cases e : k = s
  · subst e; rw [if_pos rfl, if_pos hk, if_pos rfl]; rfl
  · rw [if_neg e, if_neg (fun g => e g.symm), List.getD_eq_getElem?_getD]
theorem sl_rm {h h' : Heap} {iv : Value} {n s : Nat} {cs : List Value} {M : Nat → Prop} (sl : Sl h iv s n cs) (hn : ∀ b o c, iv = .slice (some ⟨b, o, none⟩) n c → ¬ M b) (f : Fr M h h') : Sl h' iv s n cs := by
  refine ⟨sl.1, sl.2.1, sl.2.2.imp (fun y => y) ?_⟩
  rintro ⟨b, o, c, h1, h2, h3⟩
  exact ⟨b, o, c, h1, h2, h3.fr f (hn b o c h1)⟩
/-- A walk that has failed goes no further. -/
theorem rnode_dead {h : Heap} {lo : Nat} {iv : Value} {B wb sb db mb : Nat} {nv : Value} {m ns : List Int} {sn dt : List Bool} {at_ lv from_ : Int} (rb : RB lo wb sb db mb) (t : RW lo h iv B wb sb db mb nv m ns sn dt false) :
    RunF prog 58 [.pointer (some ⟨wb, 0, none⟩), .int .i64 at_, .int .i64 lv, .int .i64 from_] h fun v h' => v = .tuple #[] ∧ RW lo h' iv B wb sb db mb nv m ns sn dt false ∧ Fr (RR wb sb db mb nv) h h' := by
  refine RunF.walk func58 rfl rfl ?_
  have ow := t.ow
  obtain ⟨e1, e2, e3⟩ := t.fail rb false
  refine RunC.seq (RunC.seq (RunC.region (RunO.part 3 rfl ?_)))
  refine RunO.load (v := .bool false) rfl (ow.ld rfl) rfl (RunO.all rfl ?_)
  refine RunC.cond rfl (fun _ => ?_) (fun g => by cases g)
  refine RunC.seq (RunC.region (RunO.part 3 rfl ?_))
  refine RunO.store rfl rfl e1 (RunO.all rfl ?_)
  exact RunC.ret ⟨_, rfl, rfl, e2, e3⟩
theorem tstep_none {r : Int → Nat → TS → TS} {B : Nat} {leaf : Bool} {w : TS} {t : Nat} (hB : 1 ≤ B) : tstep r B leaf w 0 t = w := by
  unfold tstep
  rw [show decide ((0 : Int) ≥ (B : Int)) = false from decide_eq_false (by omega)]
  cases w.2.2 <;> cases leaf <;> rfl
def RNodeOk (L : List Int) (B lo wb sb db mb : Nat) (iv : Value) (lv : Nat) : Prop := ∀ {h : Heap} {nv : Value} {m ns : List Int} {sn dt : List Bool} {at_ : Int} {from_ : Nat},
    Sl h iv 1 L.length (us L) → RW lo h iv B wb sb db mb nv m ns sn dt true → Cpl B m ns sn dt → ns.length + nN lv ≤ 100000 → from_ + 8 ^ (lv + 1) ≤ 512 → (∀ s, from_ ≤ s → s < from_ + 8 ^ (lv + 1) → m.getD s 0 = 0) →
    RunF prog 58 [.pointer (some ⟨wb, 0, none⟩), .int .i64 at_, .int .i64 (lv : Int), .int .i64 (from_ : Int)] h fun v h' => v = .tuple #[] ∧ Fr (RR wb sb db mb nv) h h' ∧ ∃ nv' m' ns' sn' dt' ok', RW lo h' iv B wb sb db mb nv' m' ns' sn' dt' ok' ∧ (∀ b, At nv' b → At nv b ∨ h.next ≤ b) ∧ ns'.length ≤ ns.length + nN lv ∧
      ok' = !(tgo L B lv at_ from_ (m, ns, false)).2.2 ∧ (ok' = true → tgo L B lv at_ from_ (m, ns, false) = (m', ns', false) ∧ Cpl B m' ns' sn' dt')
theorem refIn10_ok {h : Heap} {a lo hi : Int} : RunF prog 77 [.int .i64 a, .int .i64 lo, .int .i64 hi] h fun v h' => v = .bool (inB a lo hi) ∧ h = h' := by
  refine RunF.walk func77 rfl rfl ?_
  refine RunC.seq (RunC.region (RunO.all rfl ?_))
  refine RunC.seq (RunC.region (RunO.part 4 rfl ?_))
  unfold inB
  cases decide (a ≥ lo) with
  | true => exact RunO.all rfl (RunC.ret ⟨_, rfl, by simp, rfl⟩)
  | false => exact RunO.all rfl (RunC.ret ⟨_, rfl, by simp, rfl⟩)
theorem atIn_inB {B : Nat} {a : Int} (hB : B ≤ 4096) : inB a 2 (fwrap .i64 ((B : Int) - 1)) = atIn B a := by
  rw [fw64 (by omega) (by omega), Bool.eq_iff_iff, inB_iff, atIn_iff]
  omega
set_option maxHeartbeats 16000000 in
theorem rnode_body {L : List Int} {B lo wb sb db mb : Nat} {iv : Value} (hb : Byt L) (hB : B * 64 ≤ L.length) (hB1 : 1 ≤ B) (hB2 : B ≤ 4096) (hm : L.length ≤ 4611686018427387904) (rb : RB lo wb sb db mb) (hiv : ∀ b o c, iv = .slice (some ⟨b, o, none⟩) L.length c → ¬ RM lo wb sb db mb b)
    {lv : Nat} (hlv : lv ≤ 2) (hrec : ∀ k, lv = k + 1 → RNodeOk L B lo wb sb db mb iv k) : RNodeOk L B lo wb sb db mb iv lv := by
  intro h nv m ns sn dt at_ from_ sl t hcp hns hfrom hz
  have hlv8 : 8 ^ lv ≤ 64 := by
    have : 8 ^ lv ≤ 8 ^ 2 := Nat.pow_le_pow_right (by decide) hlv
    exact this
  have hp8 : 8 ^ (lv + 1) = 8 ^ lv * 8 := Nat.pow_succ ..
  have hpos : 1 ≤ 8 ^ lv := Nat.pow_pos (by decide)
  have hgo : tgo L B lv at_ from_ (m, ns, false) = if (!atIs L B at_ (lv : Int) || ns.contains at_) = true then (m, ns, true) else (List.range 8).foldl (tst L B lv (atV L B at_).2 from_) (m, ns ++ [at_], false) := tgo_eq ..
  rw [hgo]
  clear hgo
  have hbad : ∀ {h' : Heap} {nv' : Value} {m' ns' : List Int} {sn' dt' : List Bool} {ok : Bool} {T : TS}, RW lo h' iv B wb sb db mb nv' m' ns' sn' dt' ok → Fr (RR wb sb db mb nv) h h' → (∀ b, At nv' b → At nv b ∨ h.next ≤ b) → ns'.length ≤ ns.length + nN lv → T.2.2 = true →
      ∃ h'', astore prog h' 4 ⟨wb, 6, none⟩ (.bool false) = some h'' ∧ Value.tuple #[] = .tuple #[] ∧ Fr (RR wb sb db mb nv) h h'' ∧ ∃ nv' m' ns' sn' dt' ok', RW lo h'' iv B wb sb db mb nv' m' ns' sn' dt' ok' ∧ (∀ b, At nv' b → At nv b ∨ h.next ≤ b) ∧ ns'.length ≤ ns.length + nN lv ∧ ok' = !T.2.2 ∧ (ok' = true → T = (m', ns', false) ∧ Cpl B m' ns' sn' dt') := by
    intro h' nv' m' ns' sn' dt' ok T t' F' hr' hl' hT
    obtain ⟨e1, e2, e3⟩ := t'.fail rb false
    refine ⟨_, e1, rfl, F'.trans e3 (fun b g => ?_), nv', m', ns', sn', dt', false, e2, hr', hl', by rw [hT]; rfl, fun g => by cases g⟩
    rcases g with g | g | g | g | g
    · exact .inl (.inl g)
    · exact .inl (.inr (.inl g))
    · exact .inl (.inr (.inr (.inl g)))
    · exact .inl (.inr (.inr (.inr (.inl g))))
    · exact (hr' b g).imp (fun g => .inr (.inr (.inr (.inr g)))) id
  refine RunF.walk func58 rfl rfl ?_
  have ow := t.ow
  -- is it one that may be?
  refine RunC.seq (RunC.seqE (upd (upd (upd (upd (upd E0 0 (.pointer (some ⟨wb, 0, none⟩))) 1 (.int .i64 at_)) 2 (.int .i64 (lv : Int))) 3 (.int .i64 (from_ : Int))) 37 (.bool (!atIn B at_ || ns.contains at_))) ?_ ?_)
  · refine RunC.region (RunO.part 3 rfl ?_)
    refine RunO.load (v := .bool true) rfl (ow.ld rfl) rfl ?_
    refine RunO.part 6 rfl ?_
    refine RunO.loadG (v := .int .i64 (B : Int)) rfl rfl (ow.ld rfl) rfl ?_
    refine RunO.part 1 rfl ?_
    refine RunO.callDG rfl refIn10_ok rfl rfl rfl ?_
    rintro _ _ ⟨rfl, rfl⟩
    rw [atIn_inB hB2]
    refine RunO.part 3 rfl ?_
    cases hin : atIn B at_ with
    | false => exact RunO.all rfl ⟨rfl, Le.cons rfl (Le.cons rfl (Le.cons rfl (Le.cons rfl (Le.cons rfl (Le.nil _)))))⟩
    | true =>
      obtain ⟨ha2, haB⟩ := atIn_iff.1 hin
      obtain ⟨a, rfl⟩ := Int.eq_ofNat_of_zero_le (show 0 ≤ at_ by omega)
      have has : a < sn.length := by rw [t.ls]; omega
      have hse : sn[a] = ns.contains (a : Int) := by
        have := hcp.1 a (by omega)
        rwa [List.getD_eq_getElem?_getD, List.getElem?_eq_getElem has] at this
      refine RunO.part 3 rfl ?_
      refine RunO.loadG (v := .slice (some ⟨sb, 0, none⟩) B (exc B)) rfl rfl (ow.ld rfl) rfl ?_
      refine RunO.part 1 rfl ?_
      have sls : Sl h (.slice (some ⟨sb, 0, none⟩) B (exc B)) 1 B (bs sn) := t.os.all.sl (by rw [bs_len, t.ls, Nat.mul_one]) (by omega) (Cp.exc (Nat.le_refl _))
      refine RunO.atG (s := 1) (k := a) (u := .bool (ns.contains (a : Int))) rfl (fun _ => rfl) rfl rfl sls rfl rfl (by omega) (by rw [bs_part has, hse]) rfl rfl rfl ?_
      exact RunO.all rfl ⟨rfl, Le.cons rfl (Le.cons rfl (Le.cons rfl (Le.cons rfl (Le.cons rfl (Le.nil _)))))⟩
  by_cases hmay : (!atIn B at_ || ns.contains at_) = true
  · rw [hmay]
    have hcond : (!atIs L B at_ (lv : Int) || ns.contains at_) = true := by
      unfold atIs
      cases hi : atIn B at_ with
      | false => rfl
      | true => rw [hi, Bool.not_true, Bool.false_or] at hmay; rw [hmay, Bool.or_true]
    rw [if_pos hcond]
    refine RunC.cond rfl (fun _ => ?_) (fun g => by cases g)
    obtain ⟨h2, e1, e2⟩ := hbad (T := (m, ns, true)) t (Fr.refl _ _) (fun b g => .inl g) (by omega) rfl
    refine RunC.seq (RunC.region (RunO.part 3 rfl ?_))
    refine RunO.store rfl rfl e1 (RunO.all rfl ?_)
    exact RunC.ret ⟨_, rfl, e2⟩
  rw [Bool.not_eq_true] at hmay
  rw [hmay]
  rw [Bool.or_eq_false_iff, Bool.not_eq_false'] at hmay
  obtain ⟨hin, hnc⟩ := hmay
  obtain ⟨ha2, haB⟩ := atIn_iff.1 hin
  obtain ⟨a, rfl⟩ := Int.eq_ofNat_of_zero_le (show 0 ≤ at_ by omega)
  have haL : (a + 1) * 64 ≤ L.length := Nat.le_trans (Nat.mul_le_mul_right 64 (by omega)) hB
  refine RunC.cond rfl (fun g => by cases g) (fun _ => RunC.skip ?_)
  refine RunC.seq (RunC.region (RunO.part 3 rfl ?_))
  refine RunO.load (v := iv) rfl (ow.ld rfl) rfl ?_
  refine RunO.part 1 rfl ?_
  refine RunO.callD (refBlock_ok (i := a) sl haL hm) rfl rfl rfl ?_
  rintro bv _ ⟨slb, rfl⟩
  have hbl := blkI_len haL
  refine RunO.callD (refParseNode_ok (by rw [hbl]; exact slb) (byt_blk hb a)) rfl rfl rfl ?_
  rintro _ h1 ⟨rfl, f1⟩
  have hvv : atV L B (a : Int) = nodV (blkI L a) := by unfold atV; rw [hin, if_pos rfl, Int.toNat_natCast]
  have his : atIs L B (a : Int) (lv : Int) = (nCode (blkI L a) == 0 && (nodV (blkI L a)).1 == (lv : Int)) := by unfold atIs; rw [hin, hvv, Int.toNat_natCast, Bool.true_and]
  have hvl := nodV_len (blkI L a)
  have hptr : nCode (blkI L a) = 0 → ∀ x ∈ (nodV (blkI L a)).2, x = 0 ∨ 2 ≤ x := by
    intro hc x hx
    have hv : nodV (blkI L a) = (nLv (blkI L a), nPs (blkI L a)) := by unfold nodV; rw [if_pos hc]
    rw [hv] at hx
    have hok : nodOk (nLv (blkI L a)) (nPs (blkI L a)) = true := by
      unfold nCode at hc
      split at hc
      · split at hc
        · assumption
        · cases hc
      · rename_i h1; exact absurd hc h1
    unfold nodOk at hok
    rw [Bool.and_eq_true, List.all_eq_true] at hok
    have := hok.1 x hx
    unfold ptrB at this
    rw [Bool.or_eq_true, beq_iff_eq, Bool.and_eq_true, decide_eq_true_eq] at this
    omega
  rw [his, hvv, hnc, Bool.or_false]
  generalize nCode (blkI L a) = cd at *
  generalize nodV (blkI L a) = nd at *
  obtain ⟨nl, ps⟩ := nd
  simp only at hvl hptr ⊢
  refine RunO.part 4 (h1 := h1.push ⟨nc 0 nZero, true⟩) rfl ?_
  refine RunO.store rfl rfl (nc_store (lv := nl) (ps := ps) (Ow.push h1 (nc 0 nZero)) rfl hvl rfl) (RunO.all rfl ?_)
  have on : Ow ((h1.push ⟨nc 0 nZero, true⟩).put h1.next (some ⟨nc nl ps, true⟩)) h1.next (nc nl ps) := Ow.put _ (Nat.lt_succ_self _)
  have f2 : Fr no h1 ((h1.push ⟨nc 0 nZero, true⟩).put h1.next (some ⟨nc nl ps, true⟩)) := (Fr.push _ _ _).trans (Fr.put (m := (· = h1.next)) _ (.inl rfl)) (fun j hj => .inr (by omega))
  have f12 := f1.same f2
  have hq : lo ≤ h1.next := Nat.le_trans t.ln f1.next
  have hnv : ∀ b, At nv b → b < h.next := fun b ha => (t.row.at ha).2
  have hnrow : ∀ b, At nv b → b ≠ h1.next := fun b ha => by have := hnv b ha; have := f1.next; omega
  have hqh0 : h.next ≤ h1.next := f1.next
  generalize (h1.push ⟨nc 0 nZero, true⟩).put h1.next (some ⟨nc nl ps, true⟩) = h2 at *
  generalize h1.next = q at *
  have t2 := t.quiet f12
  have F2 : Fr (RR wb sb db mb nv) h h2 := f12.weak (fun _ g => g.elim)
  have hqh : h.next ≤ q := hqh0
  clear t ow
  -- its kind, its level
  refine RunC.seq (RunC.seqE (upd (upd (upd (upd (upd (upd E0 0 (.pointer (some ⟨wb, 0, none⟩))) 1 (.int .i64 (a : Int))) 2 (.int .i64 (lv : Int))) 3 (.int .i64 (from_ : Int))) 8 (.pointer (some ⟨q, 0, none⟩))) 58 (.bool (!(cd == 0 && nl == (lv : Int))))) ?_ ?_)
  · refine RunC.region (RunO.part 3 rfl ?_)
    have e1 : (cd != 0) = !(cd == 0) := rfl
    rw [e1]
    cases (cd == 0) with
    | false => exact RunO.all rfl ⟨rfl, Le.cons rfl (Le.cons rfl (Le.cons rfl (Le.cons rfl (Le.cons rfl (Le.cons rfl (Le.nil _))))))⟩
    | true =>
      refine RunO.part 1 rfl ?_
      refine RunO.loadG (v := .int .i64 nl) rfl rfl (on.ld rfl) rfl ?_
      exact RunO.all rfl ⟨rfl, Le.cons rfl (Le.cons rfl (Le.cons rfl (Le.cons rfl (Le.cons rfl (Le.cons rfl (Le.nil _))))))⟩
  by_cases hone : (cd == 0 && nl == (lv : Int)) = true
  case neg =>
    rw [Bool.not_eq_true] at hone
    rw [hone, if_pos (show (!false) = true from rfl)]
    refine RunC.cond rfl (fun _ => ?_) (fun g => by cases g)
    obtain ⟨h3, e1, e2⟩ := hbad (T := (m, ns, true)) t2 F2 (fun b g => .inl g) (by omega) rfl
    refine RunC.seq (RunC.region (RunO.part 3 rfl ?_))
    refine RunO.store rfl rfl e1 (RunO.all rfl ?_)
    exact RunC.ret ⟨_, rfl, e2⟩
  rw [hone, if_neg (show ¬ (!true) = true by decide)]
  rw [Bool.and_eq_true, beq_iff_eq, beq_iff_eq] at hone
  replace hptr := hptr hone.1
  refine RunC.cond rfl (fun g => by cases g) (fun _ => RunC.skip ?_)
  -- it is seen
  have ow2 := t2.ow
  have has : a < sn.length := by rw [t2.ls]; omega
  refine RunC.seq (RunC.region (RunO.part 3 rfl ?_))
  refine RunO.load (v := .slice (some ⟨sb, 0, none⟩) B (exc B)) rfl (ow2.ld rfl) rfl ?_
  refine RunO.part 1 rfl ?_
  refine RunO.index (s := 1) rfl rfl rfl rfl (show a < B by omega) rfl ?_
  refine RunO.store rfl rfl (store1_ow t2.os rfl rfl rfl (by rw [bs_len]; omega)) (RunO.nil ?_)
  rw [show (bs sn).set (0 + a * 1) (.bool true) = bs (sn.set a true) by rw [Nat.zero_add, Nat.mul_one, bs_set]]
  have fs : Fr (· = sb) h2 (h2.put sb (some ⟨bs (sn.set a true), true⟩)) := Fr.put _ (.inl rfl)
  have t3 : RW lo (h2.put sb (some ⟨bs (sn.set a true), true⟩)) iv B wb sb db mb nv m ns (sn.set a true) dt true :=
    ⟨t2.ow.fr fs rb.ws, Ow.put _ t2.os.1, t2.od.fr fs (fun e => rb.sd e.symm), t2.om.fr fs (fun e => rb.sm e.symm), t2.row.fr fs (fun b h1 _ e => by have := rb.s; omega), t2.lm, by rw [List.length_set]; exact t2.ls, t2.ld, t2.ln⟩
  have on3 := on.fr fs (show ¬ q = sb by have := rb.s; omega)
  have F3 : Fr (RR wb sb db mb nv) h (h2.put sb (some ⟨bs (sn.set a true), true⟩)) := F2.trans fs (fun b e => .inl (.inr (.inl e)))
  have hn3 : (h2.put sb (some ⟨bs (sn.set a true), true⟩)).next = h2.next := rfl
  generalize h2.put sb (some ⟨bs (sn.set a true), true⟩) = h3 at *
  clear t2 ow2 on
  -- one node more
  have ow3 := t3.ow
  refine RunC.seq (RunC.region (RunO.part 4 rfl ?_))
  refine RunO.load (v := nv) rfl (ow3.ld rfl) rfl ?_
  refine RunO.part 2 (h1 := h3.push ⟨is [(a : Int)], true⟩) rfl ?_
  have fp : Fr no h3 (h3.push ⟨is [(a : Int)], true⟩) := Fr.push _ _ _
  have ob := Ow.push h3 (is [(a : Int)])
  have t3p := t3.quiet fp
  have on4 := on3.fr fp (fun g => g)
  generalize h3.push ⟨is [(a : Int)], true⟩ = h4 at *
  refine RunO.append2 (s := 1) (m := 1) rfl rfl rfl rfl rfl rfl rfl rfl (Nat.le_refl 1) t3p.row ob.all rfl (Nat.le_refl 1) rfl (by show 2 * (ns.length + 1) * 8 ≤ _; omega) (by omega) ?_
  intro nv2 h5 row5 f5
  have hat : ∀ b, At nv b → lo ≤ b := fun b ha => (t3p.row.at ha).1
  have ow5 := t3p.ow.fr f5 (fun g => by have := hat _ g; have := rb.w; omega)
  have os5 := t3p.os.fr f5 (fun g => by have := hat _ g; have := rb.s; omega)
  have od5 := t3p.od.fr f5 (fun g => by have := hat _ g; have := rb.d; omega)
  have om5 := t3p.om.fr f5 (fun g => by have := hat _ g; have := rb.m; omega)
  have on5 := on4.fr f5 (fun g => hnrow _ g rfl)
  have hnv2 : ∀ b, At nv2 b → q < b := fun b g => Nat.lt_of_lt_of_le on4.1 (row5.at g).1
  refine RunO.part 2 rfl ?_
  refine RunO.store rfl rfl (store1_ow ow5 rfl row5.cell.1 row5.cell.2 (Nat.le_of_ble_eq_true rfl)) (RunO.all rfl ?_)
  change RunC _ _ _ _ (h5.put wb (some ⟨rwc iv B sb db mb nv2 true, true⟩)) _ _ _
  replace row5 := Row.lo row5 t3p.ln
  rw [← is_app] at row5
  have fw : Fr (· = wb) h5 (h5.put wb (some ⟨rwc iv B sb db mb nv2 true, true⟩)) := Fr.put _ (.inl rfl)
  have t6 : RW lo (h5.put wb (some ⟨rwc iv B sb db mb nv2 true, true⟩)) iv B wb sb db mb nv2 m (ns ++ [(a : Int)]) (sn.set a true) dt true :=
    ⟨Ow.put _ ow5.1, os5.fr fw (fun e => rb.ws e.symm), od5.fr fw (fun e => rb.wd e.symm), om5.fr fw (fun e => rb.wm e.symm), by
      have := row5.fr fw (fun b h1 _ e => by have := rb.w; omega)
      rw [List.length_append]; exact this, t3p.lm, t3p.ls, t3p.ld, Nat.le_trans t3p.ln f5.next⟩
  have on6 := on5.fr fw (show ¬ q = wb by have := rb.w; omega)
  have F6 : Fr (RR wb sb db mb nv) h (h5.put wb (some ⟨rwc iv B sb db mb nv2 true, true⟩)) :=
    ((F3.quiet fp).trans f5 (fun b g => .inl (.inr (.inr (.inr (.inr g)))))).trans fw (fun b e => .inl (.inl e))
  generalize h5.put wb (some ⟨rwc iv B sb db mb nv2 true, true⟩) = h6 at *
  clear t3 t3p ow3 ow5 os5 od5 om5 on3 on4 on5 row5 f5 fp ob fw F3 fs F2 f12 f2 f1
  have hcp6 : Cpl B m (ns ++ [(a : Int)]) (sn.set a true) dt := by
    refine ⟨fun i hi => ?_, hcp.2⟩
    rw [getD_setB _ _ _ _ has, hcp.1 i hi, Bool.eq_iff_iff]
    simp only [List.contains_eq_mem, List.mem_append, List.mem_singleton, decide_eq_true_eq]
    by_cases e : i = a
    · subst e; simp
    · rw [if_neg e]
      simp only [decide_eq_true_eq]
      constructor
      · exact .inl
      · rintro (g | g)
        · exact g
        · exact absurd (by omega) e
  have hn6 : (ns ++ [(a : Int)]).length + 8 * rN lv ≤ 100000 ∧ (ns ++ [(a : Int)]).length + 8 * rN lv = ns.length + nN lv := by
    rw [nN_eq] at hns ⊢
    rw [List.length_append, List.length_singleton]; omega
  generalize ns ++ [(a : Int)] = ns6 at *
  generalize sn.set a true = sn6 at *
  -- the span
  refine RunC.seq (RunC.region (RunO.all rfl ?_))
  refine RunC.seqc (fun E' h' => h' = h6 ∧ Le (upd (upd (upd (upd (upd E0 0 (.pointer (some ⟨wb, 0, none⟩))) 2 (.int .i64 (lv : Int))) 3 (.int .i64 (from_ : Int))) 8 (.pointer (some ⟨q, 0, none⟩))) 10 (.int .i64 ((8 ^ lv : Nat) : Int))) E') ?_ ?_
  · refine RunC.seq (RunC.region (RunO.all rfl ?_))
    refine RunC.block ?_
    let I : Nat → Env → Heap → Prop := fun d E h' => ∃ i : Nat, i + d = lv ∧ h' = h6 ∧ Le (upd (upd (upd (upd (upd (upd E0 0 (.pointer (some ⟨wb, 0, none⟩))) 2 (.int .i64 (lv : Int))) 3 (.int .i64 (from_ : Int))) 8 (.pointer (some ⟨q, 0, none⟩))) 10 (.int .i64 ((8 ^ i : Nat) : Int))) 11 (.int .i64 (i : Int))) E
    refine RunC.loop I ?_ (k := lv) ?_
    · rintro d E h' ⟨i, hi, rfl, hE⟩
      refine RunC.le hE ?_
      clear hE
      refine RunC.seq (RunC.seq (RunC.region (RunO.all rfl ?_)))
      refine RunC.cond rfl (fun hlt => ?_) (fun hge => ?_)
      · have hlt := of_decide_eq_true hlt
        have hi8 : 8 ^ i ≤ 64 := by
          have : 8 ^ i ≤ 8 ^ 2 := Nat.pow_le_pow_right (by decide) (by omega)
          exact this
        have hi0 : 1 ≤ 8 ^ i := Nat.pow_pos (by decide)
        refine RunC.skip ?_
        refine RunC.seq (RunC.block ?_)
        refine RunC.region (RunO.part 2 rfl ?_)
        rw [fw64 (x := ((8 ^ i : Nat) : Int) * 8) (by omega) (by omega), show ((8 ^ i : Nat) : Int) * 8 = ((8 ^ (i + 1) : Nat) : Int) by rw [Nat.pow_succ]; omega]
        refine RunO.all rfl ?_
        refine RunC.region (RunO.all rfl ?_)
        exact ⟨d - 1, by omega, i + 1, by omega, rfl, Le.cons (inc64 (by omega)) (Le.cons rfl (Le.cons rfl (Le.cons rfl (Le.cons rfl (Le.cons rfl (Le.nil _))))))⟩
      · have hge := of_decide_eq_false hge
        obtain rfl : i = lv := by omega
        exact RunC.exit ⟨rfl, Le.cons rfl (Le.cons rfl (Le.cons rfl (Le.cons rfl (Le.cons rfl (Le.nil _)))))⟩
    · exact ⟨0, by omega, rfl, Le.cons rfl (Le.cons rfl (Le.cons rfl (Le.cons rfl (Le.cons rfl (Le.cons rfl (Le.nil _))))))⟩
  rintro E' _ ⟨rfl, hE⟩
  refine RunC.le hE ?_
  clear hE
  refine RunC.seq (RunC.region (RunO.all rfl ?_))
  refine RunC.block ?_
  obtain ⟨T, hT⟩ : ∃ T : Nat → TS, T = fun i => (List.range i).foldl (tst L B lv ps from_) (m, ns6, false) := ⟨_, rfl⟩
  have hT8 : (List.range 8).foldl (tst L B lv ps from_) (m, ns6, false) = T 8 := by rw [hT]
  rw [hT8]
  have hTs : ∀ i, T (i + 1) = tst L B lv ps from_ (T i) i := fun i => by rw [hT]; show List.foldl _ _ (List.range (i + 1)) = _; rw [List.range_succ, List.foldl_append]; rfl
  have hTb : ∀ i, i ≤ 8 → (T i).2.2 = true → (T 8).2.2 = true := fun i hi hbi => by
    cases e : (T 8).2.2 with
    | true => rfl
    | false =>
      rw [← hT8] at e
      have := fold_pre e hi
      rw [hT] at hbi
      rw [this] at hbi; cases hbi
  have hTz : ∀ i, i < 8 → (T i).2.2 = false → ∀ s, from_ + i * 8 ^ lv ≤ s → s < from_ + i * 8 ^ lv + 8 ^ lv → (T i).1.getD s 0 = 0 := fun i hi hbi s h1 h2 => by
    have hle : i * 8 ^ lv + 8 ^ lv ≤ 8 ^ lv * 8 := by rw [← Nat.succ_mul, Nat.mul_comm]; exact Nat.mul_le_mul_left _ hi
    rw [hT] at hbi
    have S := fold_spec (N := i) (fun k _ => tgo_spec L B k) hfrom t6.lm hz (by omega) hbi i (Nat.le_refl i)
    have := S.map s (by omega)
    rw [if_neg (by omega), hz s (by omega) (by omega)] at this
    rw [hT]; exact this
  have hT0 : T 0 = (m, ns6, false) := by rw [hT]; rfl
  clear hT
  let I : Nat → Env → Heap → Prop := fun d E h' => ∃ (i : Nat) (nv' : Value) (m' ns' : List Int) (sn' dt' : List Bool) (ok' : Bool), i + d = 8 ∧ RW lo h' iv B wb sb db mb nv' m' ns' sn' dt' ok' ∧ (∀ b, At nv' b → At nv b ∨ h.next ≤ b) ∧ (∀ b, At nv' b → b ≠ q) ∧ ns'.length ≤ ns6.length + i * rN lv ∧ ok' = !(T i).2.2 ∧ (ok' = true → T i = (m', ns', false) ∧ Cpl B m' ns' sn' dt') ∧ Fr (RR wb sb db mb nv) h h' ∧ Ow h' q (nc nl ps) ∧
    Le (upd (upd (upd (upd (upd (upd E0 0 (.pointer (some ⟨wb, 0, none⟩))) 2 (.int .i64 (lv : Int))) 3 (.int .i64 (from_ : Int))) 8 (.pointer (some ⟨q, 0, none⟩))) 10 (.int .i64 ((8 ^ lv : Nat) : Int))) 12 (.int .i64 (i : Int))) E
  refine RunC.loop I ?_ (k := 8) ?_
  · rintro d E h7 ⟨i, nv7, m7, ns7, sn7, dt7, ok7, hi, t7, hr7, hq7, hl7, hok7, hal7, F7, on7, hE⟩
    refine RunC.le hE ?_
    clear hE
    refine RunC.seq (RunC.seq (RunC.region (RunO.all rfl ?_)))
    refine RunC.cond rfl (fun hlt => ?_) (fun hge => ?_)
    · have hlt := of_decide_eq_true hlt
      have hi8 : i < 8 := by omega
      have hps : i < ps.length := by omega
      have hpi : ps.getD i 0 = ps[i] := by rw [List.getD_eq_getElem?_getD, List.getElem?_eq_getElem hps]; rfl
      have hld : apart prog 3 (nc nl ps) (1 + i * 1) = some (.int .i64 ps[i]) := by
        show nth (nc nl ps) (1 + i * 1) = _
        rw [Nat.mul_one, Nat.add_comm]; exact is_nth hps
      have hp02 := hptr _ (List.getElem_mem hps)
      have hstep := hTs i
      unfold tst at hstep
      rw [hpi] at hstep
      have hzi := hTz i hi8
      have hTbi := hTb i (by omega)
      have hTbi1 := hTb (i + 1) (by omega)
      generalize ps[i] = p at *
      have hto : from_ + i * 8 ^ lv + 8 ^ lv ≤ 512 := by
        have : i * 8 ^ lv + 8 ^ lv ≤ 8 ^ lv * 8 := by rw [← Nat.succ_mul, Nat.mul_comm]; exact Nat.mul_le_mul_left _ hi8
        omega
      obtain ⟨to_, hto_⟩ : ∃ t, t = from_ + i * 8 ^ lv := ⟨_, rfl⟩
      rw [← hto_] at hstep hto hzi
      have hrl : ns7.length + rN lv ≤ 100000 := by
        have : i * rN lv + rN lv ≤ 8 * rN lv := by rw [← Nat.succ_mul]; exact Nat.mul_le_mul_right _ hi8
        omega
      have hsuc : (i + 1) * rN lv = i * rN lv + rN lv := Nat.succ_mul ..
      -- what the loop goes on with
      have next : ∀ (h8 : Heap) (nv8 : Value) (m8 ns8 : List Int) (sn8 dt8 : List Bool) (ok8 : Bool), RW lo h8 iv B wb sb db mb nv8 m8 ns8 sn8 dt8 ok8 → (∀ b, At nv8 b → At nv b ∨ h.next ≤ b) → (∀ b, At nv8 b → b ≠ q) → ns8.length ≤ ns7.length + rN lv → ok8 = !(T (i + 1)).2.2 → (ok8 = true → T (i + 1) = (m8, ns8, false) ∧ Cpl B m8 ns8 sn8 dt8) → Fr (RR wb sb db mb nv) h h8 → Ow h8 q (nc nl ps) →
          ∀ E, Le (upd (upd (upd (upd (upd (upd E0 0 (.pointer (some ⟨wb, 0, none⟩))) 2 (.int .i64 (lv : Int))) 3 (.int .i64 (from_ : Int))) 8 (.pointer (some ⟨q, 0, none⟩))) 10 (.int .i64 ((8 ^ lv : Nat) : Int))) 12 (.int .i64 ((i + 1 : Nat) : Int))) E → ∃ d', d' < d ∧ I d' E h8 := by
        intro h8 nv8 m8 ns8 sn8 dt8 ok8 a1 a2 a3 a4 a5 a6 a7 a8 E a9
        exact ⟨d - 1, by omega, i + 1, nv8, m8, ns8, sn8, dt8, ok8, by omega, a1, a2, a3, by omega, a5, a6, a7, a8, a9⟩
      refine RunC.skip ?_
      refine RunC.seq (RunC.block ?_)
      refine RunC.seq (RunC.region (RunO.part 2 rfl ?_))
      refine RunO.indexA (s := 1) rfl rfl rfl rfl rfl hi8 rfl ?_
      refine RunO.load (v := .int .i64 p) rfl (on7.ld hld) rfl (RunO.all rfl ?_)
      refine RunC.seq (RunC.seq (RunC.region (RunO.all rfl ?_)))
      by_cases hp0 : p = 0
      · subst hp0
        have hT1 : T (i + 1) = T i := by rw [hstep]; exact tstep_none hB1
        rw [← hT1] at hok7 hal7
        refine RunC.cond rfl (fun _ => RunC.exit ?_) (fun g => by cases g)
        exact RunC.region (RunO.all rfl (next h7 nv7 m7 ns7 sn7 dt7 ok7 t7 hr7 hq7 (by omega) hok7 hal7 F7 on7 _ (Le.cons (inc64 (by omega)) (Le.cons rfl (Le.cons rfl (Le.cons rfl (Le.cons rfl (Le.cons rfl (Le.nil _)))))))))
      rw [show (p == 0) = false from beq_eq_false_iff_ne.2 hp0]
      refine RunC.cond rfl (fun g => by cases g) (fun _ => RunC.skip ?_)
      obtain ⟨pn, rfl⟩ := Int.eq_ofNat_of_zero_le (show 0 ≤ p by omega)
      have ow7 := t7.ow
      refine RunC.seq (RunC.seq (RunC.region (RunO.part 4 rfl ?_)))
      refine RunO.load (v := .int .i64 (B : Int)) rfl (ow7.ld rfl) rfl (RunO.all rfl ?_)
      by_cases hpB : B ≤ pn
      · -- beyond the device
        have hbadi : (T (i + 1)).2.2 = true := by
          rw [hstep]
          unfold tstep
          split
          · assumption
          · rw [if_pos (by rw [decide_eq_true_eq]; omega)]
        rw [show decide ((pn : Int) ≥ (B : Int)) = true from decide_eq_true (by omega)]
        refine RunC.cond rfl (fun _ => ?_) (fun g => by cases g)
        obtain ⟨h8, e1, e2⟩ := hbad (T := T 8) t7 F7 hr7 (by
          have : i * rN lv ≤ 8 * rN lv := Nat.mul_le_mul_right _ (by omega)
          omega) (hTbi1 hbadi)
        refine RunC.seq (RunC.region (RunO.part 3 rfl ?_))
        refine RunO.store rfl rfl e1 (RunO.all rfl ?_)
        exact RunC.ret ⟨_, rfl, e2⟩
      rw [show decide ((pn : Int) ≥ (B : Int)) = false from decide_eq_false (by omega)]
      refine RunC.cond rfl (fun g => by cases g) (fun _ => RunC.skip ?_)
      have hgo : (T i).2.2 = false → T (i + 1) = if (lv == 0) = true then ((T i).1.set to_ (pn : Int), (T i).2.1, (T i).2.2) else trec L B lv (pn : Int) to_ (T i) := fun hbi => by
        rw [hstep]
        unfold tstep
        rw [if_neg (by rw [hbi]; exact Bool.false_ne_true), if_neg (by rw [decide_eq_true_eq]; omega), show ((pn : Int) != 0) = true from bne_iff_ne.2 hp0]
        cases (lv == 0) <;> rfl
      have hdead : (T i).2.2 = true → (T (i + 1)).2.2 = true := fun hbi => by
        rw [hstep]
        unfold tstep
        rw [if_pos hbi]; exact hbi
      refine RunC.seq (RunC.seq (RunC.region (RunO.all rfl ?_)))
      cases hl0 : lv == 0 with
      | true =>
        have hl00 : lv = 0 := beq_iff_eq.1 hl0
        rw [show ((lv : Int) == 0) = true from beq_iff_eq.2 (by omega)]
        refine RunC.cond rfl (fun _ => ?_) (fun g => by cases g)
        have e8 : 8 ^ lv = 1 := by rw [hl00]
        have hmt : to_ < m7.length := by rw [t7.lm]; omega
        have htoi : (from_ : Int) + (i : Int) = (to_ : Int) := by rw [hto_, e8]; omega
        refine RunC.seq (RunC.region (RunO.part 3 rfl ?_))
        refine RunO.load (v := .slice (some ⟨mb, 0, none⟩) 512 (exc 512)) rfl (ow7.ld rfl) rfl ?_
        refine RunO.part 3 rfl ?_
        rw [htoi, fw64 (x := (to_ : Int)) (by omega) (by omega)]
        refine RunO.part 1 rfl ?_
        refine RunO.index (s := 1) rfl rfl rfl rfl (by have := t7.lm; omega) rfl ?_
        refine RunO.store rfl rfl (store1_ow t7.om rfl rfl rfl (by rw [is_len]; simpa using hmt)) (RunO.nil ?_)
        have ei : (is m7).set (0 + to_ * 1) (.int .i64 (pn : Int)) = is (m7.set to_ (pn : Int)) := by rw [Nat.zero_add, Nat.mul_one]; unfold is; rw [List.map_set]
        rw [ei]
        have fm : Fr (· = mb) h7 (h7.put mb (some ⟨is (m7.set to_ (pn : Int)), true⟩)) := Fr.put _ (.inl rfl)
        have t8 : RW lo (h7.put mb (some ⟨is (m7.set to_ (pn : Int)), true⟩)) iv B wb sb db mb nv7 (m7.set to_ (pn : Int)) ns7 sn7 dt7 ok7 :=
          ⟨t7.ow.fr fm rb.wm, t7.os.fr fm rb.sm, t7.od.fr fm rb.dm, Ow.put _ t7.om.1, t7.row.fr fm (fun b h1 _ e => by have := rb.m; omega), by rw [List.length_set]; exact t7.lm, t7.ls, t7.ld, t7.ln⟩
        have on8 := on7.fr fm (show ¬ q = mb by have := rb.m; omega)
        have F8 : Fr (RR wb sb db mb nv) h (h7.put mb (some ⟨is (m7.set to_ (pn : Int)), true⟩)) := F7.trans fm (fun b e => .inl (.inr (.inr (.inr (.inl e)))))
        generalize h7.put mb (some ⟨is (m7.set to_ (pn : Int)), true⟩) = h8 at *
        have ow8 := t8.ow
        have hpd : pn < dt7.length := by rw [t8.ld]; omega
        refine RunC.seq (RunC.region (RunO.part 3 rfl ?_))
        refine RunO.load (v := .slice (some ⟨db, 0, none⟩) B (exc B)) rfl (ow8.ld rfl) rfl ?_
        refine RunO.part 1 rfl ?_
        refine RunO.index (s := 1) rfl rfl rfl rfl (show pn < B by omega) rfl ?_
        refine RunO.store rfl rfl (store1_ow t8.od rfl rfl rfl (by rw [bs_len]; omega)) (RunO.nil ?_)
        rw [show (bs dt7).set (0 + pn * 1) (.bool true) = bs (dt7.set pn true) by rw [Nat.zero_add, Nat.mul_one, bs_set]]
        have fd : Fr (· = db) h8 (h8.put db (some ⟨bs (dt7.set pn true), true⟩)) := Fr.put _ (.inl rfl)
        have t9 : RW lo (h8.put db (some ⟨bs (dt7.set pn true), true⟩)) iv B wb sb db mb nv7 (m7.set to_ (pn : Int)) ns7 sn7 (dt7.set pn true) ok7 :=
          ⟨t8.ow.fr fd rb.wd, t8.os.fr fd rb.sd, Ow.put _ t8.od.1, t8.om.fr fd (fun e => rb.dm e.symm), t8.row.fr fd (fun b h1 _ e => by have := rb.d; omega), t8.lm, t8.ls, by rw [List.length_set]; exact t8.ld, t8.ln⟩
        have on9 := on8.fr fd (show ¬ q = db by have := rb.d; omega)
        have F9 : Fr (RR wb sb db mb nv) h (h8.put db (some ⟨bs (dt7.set pn true), true⟩)) := F8.trans fd (fun b e => .inl (.inr (.inr (.inl e))))
        refine RunC.exit ?_
        refine RunC.region (RunO.all rfl (next _ nv7 _ ns7 sn7 _ ok7 t9 hr7 hq7 (by omega) ?_ ?_ F9 on9 _ (Le.cons (inc64 (by omega)) (Le.cons rfl (Le.cons rfl (Le.cons rfl (Le.cons rfl (Le.cons rfl (Le.nil _)))))))))
        · rw [hok7]
          cases hbi : (T i).2.2 with
          | true => rw [hdead hbi]
          | false => rw [hgo hbi, if_pos hl0]; show (!false) = !(T i).2.2; rw [hbi]
        · intro hok
          have hbi : (T i).2.2 = false := by rw [hok] at hok7; cases e : (T i).2.2 with
            | false => rfl
            | true => rw [e] at hok7; cases hok7
          obtain ⟨g1, g2, g3⟩ := hal7 hok
          rw [hgo hbi, if_pos hl0, g1]
          refine ⟨rfl, g2, fun x hx hxB => ?_⟩
          have hz0 : m7.getD to_ 0 = 0 := by
            have := hzi hbi to_ (Nat.le_refl _) (by omega)
            rwa [g1] at this
          rw [getD_setB _ _ _ _ hpd, contains_set0 hmt hz0 (by omega), g3 x hx hxB]
          by_cases e : x = pn
          · subst e; simp
          · rw [if_neg e, show ((x : Int) == (pn : Int)) = false from beq_eq_false_iff_ne.2 (by omega)]; rfl
      | false =>
        obtain ⟨k, rfl⟩ : ∃ k, lv = k + 1 := by
          cases lv with
          | zero => cases hl0
          | succ k => exact ⟨k, rfl⟩
        rw [show (((k + 1 : Nat) : Int) == 0) = false from beq_eq_false_iff_ne.2 (by omega)]
        refine RunC.cond rfl (fun g => by cases g) (fun _ => RunC.skip ?_)
        refine RunC.region (RunO.part 3 rfl ?_)
        refine RunO.part 1 rfl ?_
        rw [fw64 (x := ((k + 1 : Nat) : Int) - 1) (by omega) (by omega), show ((k + 1 : Nat) : Int) - 1 = (k : Int) by omega]
        refine RunO.part 3 rfl ?_
        refine RunO.part 1 rfl ?_
        have hmul : (i : Int) * ((8 ^ (k + 1) : Nat) : Int) = ((i * 8 ^ (k + 1) : Nat) : Int) := by rw [Int.natCast_mul]
        rw [hmul, fw64 (x := ((i * 8 ^ (k + 1) : Nat) : Int)) (by omega) (by omega)]
        refine RunO.part 1 rfl ?_
        rw [fw64 (x := (from_ : Int) + ((i * 8 ^ (k + 1) : Nat) : Int)) (by omega) (by omega), show (from_ : Int) + ((i * 8 ^ (k + 1) : Nat) : Int) = (to_ : Int) by omega]
        cases hok : ok7 with
        | false =>
          rw [hok] at t7 hok7
          have hbi : (T i).2.2 = true := by
            cases e : (T i).2.2 with
            | true => rfl
            | false => rw [e] at hok7; cases hok7
          refine RunO.callD (rnode_dead rb t7) rfl rfl rfl ?_
          rintro _ h8 ⟨rfl, t8, f8⟩
          have on8 := on7.fr f8 (by
            have := rb.w; have := rb.s; have := rb.d; have := rb.m
            rintro (e | e | e | e | e)
            · omega
            · omega
            · omega
            · omega
            · exact hq7 _ e rfl)
          have F8 : Fr (RR wb sb db mb nv) h h8 := F7.trans f8 (fun b g => by
            rcases g with g | g | g | g | g
            · exact .inl (.inl g)
            · exact .inl (.inr (.inl g))
            · exact .inl (.inr (.inr (.inl g)))
            · exact .inl (.inr (.inr (.inr (.inl g))))
            · exact (hr7 b g).imp (fun g => .inr (.inr (.inr (.inr g)))) id)
          refine RunO.all rfl ?_
          exact RunC.region (RunO.all rfl (next h8 nv7 m7 ns7 sn7 dt7 false t8 hr7 hq7 (by omega) (by rw [hdead hbi]; rfl) (fun g => by cases g) F8 on8 _ (Le.cons (inc64 (by omega)) (Le.cons rfl (Le.cons rfl (Le.cons rfl (Le.cons rfl (Le.cons rfl (Le.nil _)))))))))
        | true =>
          rw [hok] at t7 hok7
          have hbi : (T i).2.2 = false := by
            cases e : (T i).2.2 with
            | false => rfl
            | true => rw [e] at hok7; cases hok7
          obtain ⟨g1, g2⟩ := hal7 hok
          have hM : Fr (RM lo wb sb db mb) h h7 := F7.weak (fun b g => by
            rcases g with g | g | g | g | g
            · exact .inl (.inl g)
            · exact .inl (.inr (.inl g))
            · exact .inl (.inr (.inr (.inl g)))
            · exact .inl (.inr (.inr (.inr (.inl g))))
            · exact .inl (.inr (.inr (.inr (.inr (hat b g))))))
          refine RunO.callD (hrec k rfl (at_ := (pn : Int)) (from_ := to_) (sl_rm sl hiv hM) t7 g2 hrl hto (fun s h1 h2 => by have := hzi hbi s h1 h2; rwa [g1] at this)) rfl rfl rfl ?_
          rintro _ h8 ⟨rfl, f8, nv8, m8, ns8, sn8, dt8, ok8, t8, r8, l8, o8, a8⟩
          have hT1 : T (i + 1) = tgo L B k (pn : Int) to_ (m7, ns7, false) := by rw [hgo hbi, if_neg (by rw [hl0]; exact Bool.false_ne_true), g1]; rfl
          rw [← hT1] at o8 a8
          have on8 := on7.fr f8 (by
            have := rb.w; have := rb.s; have := rb.d; have := rb.m
            rintro (e | e | e | e | e)
            · omega
            · omega
            · omega
            · omega
            · exact hq7 _ e rfl)
          have F8 : Fr (RR wb sb db mb nv) h h8 := F7.trans f8 (fun b g => by
            rcases g with g | g | g | g | g
            · exact .inl (.inl g)
            · exact .inl (.inr (.inl g))
            · exact .inl (.inr (.inr (.inl g)))
            · exact .inl (.inr (.inr (.inr (.inl g))))
            · exact (hr7 b g).imp (fun g => .inr (.inr (.inr (.inr g)))) id)
          have hq8 : ∀ b, At nv8 b → b ≠ q := fun b g => by
            rcases r8 b g with e | e
            · exact hq7 b e
            · have := on7.1; omega
          have hr8 : ∀ b, At nv8 b → At nv b ∨ h.next ≤ b := fun b g => by
            rcases r8 b g with e | e
            · exact hr7 b e
            · exact .inr (Nat.le_trans F7.next e)
          refine RunO.all rfl ?_
          exact RunC.region (RunO.all rfl (next h8 nv8 m8 ns8 sn8 dt8 ok8 t8 hr8 hq8 l8 o8 a8 F8 on8 _ (Le.cons (inc64 (by omega)) (Le.cons rfl (Le.cons rfl (Le.cons rfl (Le.cons rfl (Le.cons rfl (Le.nil _)))))))))
    · have hge := of_decide_eq_false hge
      obtain rfl : i = 8 := by omega
      refine RunC.exit ?_
      exact ⟨_, rfl, rfl, F7, nv7, m7, ns7, sn7, dt7, ok7, t7, hr7, by omega, hok7, hal7⟩
  · refine ⟨0, nv2, m, ns6, sn6, dt, true, by omega, t6, fun b g => .inr ?_, fun b g => ?_, by omega, by rw [hT0]; rfl, fun _ => ⟨hT0, hcp6⟩, F6, on6, Le.cons rfl (Le.cons rfl (Le.cons rfl (Le.cons rfl (Le.cons rfl (Le.cons rfl (Le.nil _))))))⟩
    · have := hnv2 b g; omega
    · have := hnv2 b g; omega
theorem rnode_ok {L : List Int} {B lo wb sb db mb : Nat} {iv : Value} (hb : Byt L) (hB : B * 64 ≤ L.length) (hB1 : 1 ≤ B) (hB2 : B ≤ 4096) (hm : L.length ≤ 4611686018427387904) (rb : RB lo wb sb db mb) (hiv : ∀ b o c, iv = .slice (some ⟨b, o, none⟩) L.length c → ¬ RM lo wb sb db mb b) : ∀ (lv : Nat), lv ≤ 2 → RNodeOk L B lo wb sb db mb iv lv := by
  intro lv
  induction lv with
  | zero => intro h; exact rnode_body hb hB hB1 hB2 hm rb hiv h (fun k e => by cases e)
  | succ k ih =>
    intro h
    exact rnode_body hb hB hB1 hB2 hm rb hiv h (fun j e => by cases e; exact ih (by omega))
end Go.Proofs.Ytnokcbenpnmnbaa
end
section
set_option linter.unusedVariables false
set_option linter.unusedSectionVars false
set_option maxRecDepth 100000
open Go Go.Am Go.RowKit
namespace Go.Proofs.Ytnokcbenpnmnbaa
open Go.Proofs.Try

set_option maxHeartbeats 32000000 in
theorem refRecords10_ok {h : Heap} {iv : Value} {L : List Int} {a : Int} (sl : Sl h iv 1 L.length (us L)) (hb : Byt L) (hd : devOk L.length = true) :
    RunF prog 51 [iv, .int .i64 a] h fun v h' => Fr no h h' ∧ (((folOf L a).2.2.2 = 0 ∧ ∃ lv bv, v = .tuple #[lv, bv, .int .i64 0, .bool true] ∧ Gr h.next h' lv 8 (folOf L a).1.length (recCs (folOf L a).1) ∧ Gr h.next h' bv 1 (folOf L a).2.1.length (is (folOf L a).2.1)) ∨
      ((folOf L a).2.2.2 ≠ 0 ∧ v = .tuple #[.slice none 0 0, .slice none 0 0, .int .i64 (folOf L a).2.2.2, .bool false])) := by
  have hdl : L.length % 64 = 0 ∧ 4 ≤ L.length / 64 ∧ L.length / 64 ≤ 4096 := by
    unfold devOk at hd
    simpa using hd
  have hm : L.length ≤ 4611686018427387904 := by omega
  refine RunF.walk func51 rfl rfl ?_
  refine RunC.seq (RunC.region (RunO.all rfl ?_))
  refine RunC.seq (RunC.region (RunO.part 1 rfl ?_))
  refine RunO.callD (refBlocks_ok sl hm) rfl rfl rfl ?_
  rintro _ _ ⟨rfl, rfl⟩
  have hfo : folOf L a = fol L (L.length / 64) (L.length / 64) a [] [] 0 := rfl
  obtain ⟨B, hB⟩ : ∃ B, B = L.length / 64 := ⟨_, rfl⟩
  rw [← hB] at hfo hdl ⊢
  refine RunO.all rfl ?_
  refine RunC.seq (RunC.region (RunO.all rfl ?_))
  refine RunC.seq (RunC.seq (RunC.region (RunO.all rfl ?_)))
  refine RunC.block ?_
  refine RunC.loop (fun d E h' => ∃ (at_ : Int) (l : List R8) (bs : List Int) (w : Nat) (lv bv : Value), d + bs.length = B ∧ l.length = bs.length ∧ bs.Nodup ∧ (∀ x ∈ bs, 2 ≤ x ∧ x < (B : Int)) ∧ w ≤ bs.length ∧ (l = [] → w = 0) ∧ folOf L a = fol L B d at_ l bs w ∧
      Fr no h h' ∧ Gr h.next h' lv 8 l.length (recCs l) ∧ Gr h.next h' bv 1 bs.length (is bs) ∧ (∀ b, At lv b → ¬ At bv b) ∧
      Le ((upd (upd (upd (upd (upd (upd E0 0 (iv)) 8 (.int .i64 (B : Int))) 10 (.int .i64 (w : Int))) 4 (lv)) 5 (bv)) 11 (.int .i64 at_))) E) ?st (k := B) ?ini
  case ini => exact ⟨a, [], [], 0, _, _, by simp, rfl, List.nodup_nil, fun x hx => absurd hx List.not_mem_nil, Nat.le_refl 0, fun _ => rfl, hfo, Fr.refl _ _, (Row.nil _ _ _).gr, (Row.nil _ _ _).gr, (fun b g => by obtain ⟨_, _, e⟩ := g; cases e), Le.cons rfl (Le.cons rfl (Le.cons rfl (Le.cons rfl (Le.cons rfl (Le.cons rfl (Le.nil _))))))⟩
  rintro d E g1 ⟨at_, l, bs, w, lv, bv, hdb, hll, hnd, hbr, hw, hw0, hfo, fg, rl, rb, hx, hE⟩
  refine RunC.le hE ?_
  clear hE
  refine RunC.seq (RunC.seq (RunC.region (RunO.all rfl ?_)))
  by_cases ha0 : at_ = 0
  · subst ha0
    refine RunC.cond rfl (fun g => by cases g) (fun _ => RunC.exit ?_)
    rw [fol_end] at hfo
    refine RunC.seq (RunC.region (RunO.all rfl (RunC.ret ⟨_, rfl, fg, .inl ⟨by rw [hfo], lv, bv, rfl, ?_, ?_⟩⟩)))
    · rw [hfo]; exact rl
    · rw [hfo]; exact rb
  rw [show (at_ != 0) = true from bne_iff_ne.2 ha0]
  refine RunC.cond rfl (fun _ => RunC.skip ?_) (fun g => by cases g)
  have hbl := nd_blocks hnd hbr
  obtain ⟨f, rfl⟩ : ∃ f, d = f + 1 := ⟨d - 1, by omega⟩
  have hstep : fol L B (f + 1) at_ l bs w = if folB B bs at_ then (l, bs, w, at_) else
    if (rCode (blkI L at_.toNat) != 0) || !mayR l w (rPar (blkI L at_.toNat)) then (l, bs, w, at_) else
      fol L B f (rPar (blkI L at_.toNat)).nx (l ++ [rPar (blkI L at_.toNat)]) (bs ++ [at_]) (if (rPar (blkI L at_.toNat)).ki == 0 then w + 1 else w) := by
    show (if at_ = 0 then _ else _) = _
    rw [if_neg ha0]
  rw [hstep] at hfo
  refine RunC.block ?_
  have slb := rb.sl (by omega)
  have sll := rl.sl (by omega)
  have sl1 := sl.fr0 fg
  -- the place
  refine RunC.seq (RunC.seq (RunC.region (RunO.part 2 rfl ?_)))
  refine RunO.part 1 rfl ?_
  rw [fw64 (x := (B : Int) - 1) (by omega) (by omega)]
  refine RunO.callD refIn10_ok rfl rfl rfl ?_
  rintro _ _ ⟨rfl, rfl⟩
  have hF : folB B bs at_ = (!inB at_ 2 ((B : Int) - 1) || bs.contains at_) := by
    unfold folB inB
    have e1 : decide (at_ < 2) = !decide (at_ ≥ 2) := by
      by_cases c : at_ < 2
      · rw [decide_eq_true c, decide_eq_false (by omega)]; rfl
      · rw [decide_eq_false c, decide_eq_true (by omega)]; rfl
    have e2 : decide (at_ ≥ (B : Int)) = !decide (at_ ≤ (B : Int) - 1) := by
      by_cases c : at_ ≥ (B : Int)
      · rw [decide_eq_true c, decide_eq_false (by omega)]; rfl
      · rw [decide_eq_false c, decide_eq_true (by omega)]; rfl
    rw [e1, e2]
    cases decide (at_ ≥ 2) <;> cases decide (at_ ≤ (B : Int) - 1) <;> rfl
  rw [hF] at hfo
  cases h2 : inB at_ 2 ((B : Int) - 1) with
  | false =>
    rw [h2, if_pos (by rfl)] at hfo
    refine RunO.all rfl (RunC.cond rfl (fun _ => ?_) (fun g => by cases g))
    exact RunC.seq (RunC.region (RunO.all rfl (RunC.ret ⟨_, rfl, fg, .inr ⟨by rw [hfo]; exact ha0, by rw [hfo]⟩⟩)))
  | true =>
  rw [h2] at hfo
  refine RunO.part 4 rfl ?_
  refine RunO.callDG rfl (refHas_ok slb (by omega)) rfl rfl rfl ?_
  rintro _ _ ⟨rfl, rfl⟩
  cases h4 : bs.contains at_ with
  | true =>
    rw [h4, if_pos (by rfl)] at hfo
    refine RunO.all rfl (RunC.cond rfl (fun _ => ?_) (fun g => by cases g))
    exact RunC.seq (RunC.region (RunO.all rfl (RunC.ret ⟨_, rfl, fg, .inr ⟨by rw [hfo]; exact ha0, by rw [hfo]⟩⟩)))
  | false =>
  rw [h4, if_neg (by simp)] at hfo
  refine RunO.all rfl (RunC.cond rfl (fun g => by cases g) (fun _ => RunC.skip ?_))
  obtain ⟨i1, i2⟩ := (inB_iff _ _ _).1 h2
  obtain ⟨an, han⟩ := Int.eq_ofNat_of_zero_le (show 0 ≤ at_ by omega)
  subst han
  rw [Int.toNat_natCast] at hfo
  have haL : (an + 1) * 64 ≤ L.length := by
    have : an + 1 ≤ B := by omega
    have := Nat.mul_le_mul_right 64 this
    omega
  -- the record
  refine RunC.seq (RunC.region (RunO.part 2 rfl ?_))
  refine RunO.callD (refBlock_ok sl1 haL hm) rfl rfl rfl ?_
  rintro b0 _ ⟨sb0, rfl⟩
  have hbl2 := blkI_len haL
  rw [← hbl2] at sb0
  have hparse := refParseRecord_ok sb0 (byt_blk hb an)
  rw [rCells_eq] at hparse
  have hok8 : rCode (blkI L an) = 0 → r8Ok (rPar (blkI L an)) = true := fun e => rPar_ok e
  refine RunO.callD hparse rfl rfl rfl ?_
  rintro _ g3 ⟨rfl, f3⟩
  generalize rPar (blkI L an) = r at *
  generalize rCode (blkI L an) = rcd at *
  refine RunO.part 4 (h1 := g3.push ⟨rc8 ⟨0, 0, 0, 0, 0, 0, 0, 0⟩, true⟩) rfl ?_
  refine RunO.store rfl rfl (store_ow (s := 8) (Ow.push g3 (rc8 ⟨0, 0, 0, 0, 0, 0, 0, 0⟩)) rfl rfl rfl (Nat.le_refl 8)) (RunO.all rfl ?_)
  have e8 : (rc8 ⟨0, 0, 0, 0, 0, 0, 0, 0⟩).take 0 ++ cellsOf (.agg ⟨rc8 r⟩) ++ (rc8 ⟨0, 0, 0, 0, 0, 0, 0, 0⟩).drop (0 + 8) = rc8 r := rfl
  rw [e8]
  have on : Ow ((g3.push ⟨rc8 ⟨0, 0, 0, 0, 0, 0, 0, 0⟩, true⟩).put g3.next (some ⟨rc8 r, true⟩)) g3.next (rc8 r) := Ow.put _ (Nat.lt_succ_self _)
  have f4 : Fr no g3 ((g3.push ⟨rc8 ⟨0, 0, 0, 0, 0, 0, 0, 0⟩, true⟩).put g3.next (some ⟨rc8 r, true⟩)) := (Fr.push _ _ _).trans (Fr.put (m := (· = g3.next)) _ (.inl rfl)) (fun j hj => .inr (by omega))
  have f34 := f3.same f4
  have hgn : h.next ≤ g3.next := Nat.le_trans fg.next f3.next
  have hlx : ∀ b, At lv b → b < g3.next := fun b g => by have := (rl.at g).2; have := f3.next; omega
  have hbx : ∀ b, At bv b → b < g3.next := fun b g => by have := (rb.at g).2; have := f3.next; omega
  replace rl := rl.fr0 f34
  replace rb := rb.fr0 f34
  replace fg := fg.same f34
  replace sll := sll.fr0 f34
  generalize (g3.push ⟨rc8 ⟨0, 0, 0, 0, 0, 0, 0, 0⟩, true⟩).put g3.next (some ⟨rc8 r, true⟩) = g4 at *
  obtain ⟨pb, hpb⟩ : ∃ q, q = g3.next := ⟨_, rfl⟩
  rw [← hpb] at on hlx hbx ⊢
  have hfn : h.next ≤ pb := by omega
  obtain ⟨lA, lc, rfl, _, _⟩ := sll.form
  obtain ⟨bA, bc, rfl, _, _⟩ := slb.form
  -- is it one
  refine RunC.seq (RunC.seq (RunC.region (RunO.part 3 rfl ?_)))
  by_cases hc0 : rcd = 0
  case neg =>
    rw [show (rcd != 0) = true from bne_iff_ne.2 hc0] at hfo ⊢
    rw [Bool.true_or, if_pos rfl] at hfo
    refine RunO.all rfl (RunC.cond rfl (fun _ => ?_) (fun g => by cases g))
    exact RunC.seq (RunC.region (RunO.all rfl (RunC.ret ⟨_, rfl, fg, .inr ⟨by rw [hfo]; exact ha0, by rw [hfo]⟩⟩)))
  subst hc0
  have hok8 := hok8 rfl
  rw [show ((0 : Int) != 0) = false from rfl, Bool.false_or] at hfo
  have hki : r.ki = 0 ∨ r.ki = 1 := by
    have h : recOk r.nx r.id r.pa r.ro r.sz r.ki r.fr r.di = true := hok8
    unfold recOk at h
    by_cases e0 : r.ki = 0
    · exact .inl e0
    · rw [if_neg e0] at h
      by_cases e1 : r.ki = 1
      · exact .inr e1
      · rw [if_neg e1] at h; cases h
  have hM : mayR l w r = if r.ki == 1 then ((l.length : Int) == 0) else (!(l.any fun x => x.id == r.id) && decide ((w : Int) < 60)) := rfl
  refine RunO.mono (Q := fun E' h' => g4 = h' ∧ Le ((upd (upd (upd (upd (upd (upd (upd (upd E0 0 (iv)) 8 (.int .i64 (B : Int))) 10 (.int .i64 (w : Int))) 4 (.slice lA l.length lc)) 5 (.slice bA bs.length bc)) 11 (.int .i64 (an : Int))) 12 (.pointer (some ⟨pb, 0, none⟩))) 52 (.bool (r.ki == 1 && decide ((l.length : Int) > 0))))) E') ?tst ?nx
  case tst =>
    refine RunO.part 1 rfl ?_
    refine RunO.loadG (v := .int .i64 r.ki) rfl rfl (on.ld rfl) rfl ?_
    refine RunO.part 1 rfl ?_
    cases (r.ki == 1) with
    | false => exact RunO.all rfl ⟨rfl, Le.cons rfl (Le.cons rfl (Le.cons rfl (Le.cons rfl (Le.cons rfl (Le.cons rfl (Le.cons rfl (Le.cons rfl (Le.nil _))))))))⟩
    | true =>
      refine RunO.part 4 rfl ?_
      exact RunO.all rfl ⟨rfl, Le.cons rfl (Le.cons rfl (Le.cons rfl (Le.cons rfl (Le.cons rfl (Le.cons rfl (Le.cons rfl (Le.cons rfl (Le.nil _))))))))⟩
  rintro E' _ ⟨rfl, hE⟩
  refine RunC.le hE ?_
  clear hE
  cases hT : (r.ki == 1 && decide ((l.length : Int) > 0)) with
  | true =>
    rw [Bool.and_eq_true] at hT
    have hmf : mayR l w r = false := by
      rw [hM, hT.1, if_pos rfl]
      exact beq_eq_false_iff_ne.2 (by have := of_decide_eq_true hT.2; omega)
    rw [hmf, if_pos (by rfl)] at hfo
    refine RunC.cond rfl (fun _ => ?_) (fun g => by cases g)
    exact RunC.seq (RunC.region (RunO.all rfl (RunC.ret ⟨_, rfl, fg, .inr ⟨by rw [hfo]; exact ha0, by rw [hfo]⟩⟩)))
  | false =>
  refine RunC.cond rfl (fun g => by cases g) (fun _ => RunC.skip ?_)
  have hl1 : r.ki = 1 → l = [] := fun e => by
    rw [beq_iff_eq.2 e, Bool.true_and] at hT
    have := of_decide_eq_false hT
    exact List.eq_nil_of_length_eq_zero (by omega)
  -- how many are whole
  obtain ⟨w2, hw2⟩ : ∃ w2, w2 = if r.ki == 0 then w + 1 else w := ⟨_, rfl⟩
  have hw2l : w2 ≤ w + 1 := by rw [hw2]; split <;> omega
  refine RunC.seqc (fun E' h' => g4 = h' ∧ Le ((upd (upd (upd (upd (upd (upd (upd E0 0 (iv)) 8 (.int .i64 (B : Int))) 10 (.int .i64 (w2 : Int))) 4 (.slice lA l.length lc)) 5 (.slice bA bs.length bc)) 11 (.int .i64 (an : Int))) 12 (.pointer (some ⟨pb, 0, none⟩)))) E') ?wh ?go
  case wh =>
    refine RunC.seq (RunC.region (RunO.part 1 rfl ?_))
    refine RunO.load (v := .int .i64 r.ki) rfl (on.ld rfl) rfl (RunO.all rfl ?_)
    cases hk : (r.ki == 0) with
    | true =>
      rw [hk, if_pos rfl] at hw2
      refine RunC.cond rfl (fun _ => ?_) (fun g => by cases g)
      refine RunC.region (RunO.part 2 rfl ?_)
      rw [fw64 (x := (w : Int) + 1) (by omega) (by omega), show (w : Int) + 1 = (w2 : Int) by omega]
      exact RunO.all rfl ⟨rfl, Le.cons rfl (Le.cons rfl (Le.cons rfl (Le.cons rfl (Le.cons rfl (Le.cons rfl (Le.cons rfl (Le.nil _)))))))⟩
    | false =>
      rw [hk, if_neg Bool.false_ne_true] at hw2
      subst hw2
      exact RunC.cond rfl (fun g => by cases g) (fun _ => RunC.skip ⟨rfl, Le.cons rfl (Le.cons rfl (Le.cons rfl (Le.cons rfl (Le.cons rfl (Le.cons rfl (Le.cons rfl (Le.nil _)))))))⟩)
  rintro E' _ ⟨rfl, hE⟩
  refine RunC.le hE ?_
  clear hE
  -- is its id new
  refine RunC.seq (RunC.seq (RunC.region (RunO.all rfl ?_)))
  refine RunC.block ?_
  refine RunC.loop (fun d E h' => ∃ i : Nat, i + d = l.length ∧ ((l.take i).any fun x => x.id == r.id) = false ∧ g4 = h' ∧ Le ((upd (upd (upd (upd (upd (upd (upd (upd E0 0 (iv)) 8 (.int .i64 (B : Int))) 10 (.int .i64 (w2 : Int))) 4 (.slice lA l.length lc)) 5 (.slice bA bs.length bc)) 11 (.int .i64 (an : Int))) 12 (.pointer (some ⟨pb, 0, none⟩))) 14 (.int .i64 (i : Int)))) E) ?st2 (k := l.length) ?ini2
  case ini2 => exact ⟨0, by omega, rfl, rfl, Le.cons rfl (Le.cons rfl (Le.cons rfl (Le.cons rfl (Le.cons rfl (Le.cons rfl (Le.cons rfl (Le.cons rfl (Le.nil _))))))))⟩
  rintro d2 E _ ⟨i, hi, hany, rfl, hE⟩
  refine RunC.le hE ?_
  clear hE
  refine RunC.seq (RunC.seq (RunC.region (RunO.all rfl ?_)))
  refine RunC.cond rfl (fun hlt => RunC.skip ?go2) (fun hge => RunC.exit ?ex2)
  case go2 =>
    have hlt := of_decide_eq_true hlt
    have hlt : i < l.length := by omega
    have hfld := recCs_fld (l := l) (i := i) (j := 1) hlt (by decide)
    have hfld : apart prog 3 (recCs l) (i * 8 + 1) = some (.int .i64 l[i].id) := hfld
    have hat : ((l.take (i + 1)).any fun x => x.id == r.id) = (l[i].id == r.id) := by
      rw [List.take_succ_eq_append_getElem hlt, List.any_append, hany]; simp
    have hmem := List.getElem_mem hlt
    refine RunC.seq (RunC.block ?_)
    refine RunC.seq (RunC.draw0 rfl (RunO.part 2 rfl ?_))
    refine RunO.fldG (k := i) (off := 1) rfl (fun _ => rfl) (fun _ _ => rfl) rfl rfl sll rfl rfl hlt (fun _ _ => rfl) hfld rfl rfl rfl rfl rfl ?_
    generalize l[i] = y at *
    refine RunO.part 1 rfl ?_
    refine RunO.loadG (v := .int .i64 r.id) rfl rfl (on.ld rfl) rfl ?_
    refine RunO.part 1 rfl ?_
    cases hb : (y.id == r.id) with
    | true =>
      have hmf : mayR l w r = false := by
        have h1 : (r.ki == 1) = false := beq_eq_false_iff_ne.2 (fun e => by rw [hl1 e] at hmem; cases hmem)
        have h2 : (l.any fun x => x.id == r.id) = true := List.any_eq_true.2 ⟨y, hmem, hb⟩
        rw [hM, h1, h2]; rfl
      rw [hmf, if_pos (by rfl)] at hfo
      refine RunO.all rfl (RunC.cond rfl (fun _ => ?_) (fun g => by cases g))
      exact RunC.seq (RunC.region (RunO.all rfl (RunC.ret ⟨_, rfl, fg, .inr ⟨by rw [hfo]; exact ha0, by rw [hfo]⟩⟩)))
    | false =>
      refine RunO.all rfl (RunC.cond rfl (fun g => by cases g) (fun _ => RunC.skip ?_))
      refine RunC.region (RunO.all rfl ?_)
      exact ⟨d2 - 1, by omega, i + 1, by omega, by rw [hat, hb], rfl, Le.cons (inc64 (by omega)) (Le.cons rfl (Le.cons rfl (Le.cons rfl (Le.cons rfl (Le.cons rfl (Le.cons rfl (Le.cons rfl (Le.nil _))))))))⟩
  have hge := of_decide_eq_false hge
  obtain rfl : i = l.length := by omega
  rw [List.take_length] at hany
  refine RunC.seq (RunC.seq (RunC.region (RunO.all rfl ?_)))
  by_cases hw60 : (w2 : Int) > 60
  · have hmf : mayR l w r = false := by
      have h1 : (r.ki == 1) = false := beq_eq_false_iff_ne.2 (fun e => by
        have := hw0 (hl1 e)
        rw [e] at hw2
        have hw2 : w2 = w := hw2
        omega)
      rw [hM, h1, hany, decide_eq_false (by omega)]; rfl
    rw [hmf, if_pos (by rfl)] at hfo
    rw [decide_eq_true hw60]
    refine RunC.cond rfl (fun _ => ?_) (fun g => by cases g)
    exact RunC.seq (RunC.region (RunO.all rfl (RunC.ret ⟨_, rfl, fg, .inr ⟨by rw [hfo]; exact ha0, by rw [hfo]⟩⟩)))
  rw [decide_eq_false hw60]
  refine RunC.cond rfl (fun g => by cases g) (fun _ => RunC.skip ?_)
  have hmt : mayR l w r = true := by
    rcases hki with e | e
    · rw [hM, e, hany, decide_eq_true]
      · rfl
      · rw [e] at hw2
        have hw2 : w2 = w + 1 := hw2
        omega
    · rw [hM, e, hl1 e]; rfl
  rw [hmt, if_neg (by decide), ← hw2] at hfo
  -- it is taken up
  refine RunC.seq (RunC.region (RunO.part 1 rfl ?_))
  refine RunO.load (v := .agg ⟨rc8 r⟩) rfl (on.ld rfl) rfl ?_
  refine RunO.part 1 (h1 := g4.push ⟨rc8 r, true⟩) rfl ?_
  have ot := Ow.push g4 (rc8 r)
  have f5 : Fr no g4 (g4.push ⟨rc8 r, true⟩) := Fr.push _ _ _
  have rl5 := rl.fr0 f5
  have rb5 := rb.fr0 f5
  have on5 := on.fr f5 (fun g => g)
  have fg5 := fg.same f5
  generalize g4.push ⟨rc8 r, true⟩ = g5 at *
  refine RunO.appendG (s := 8) (j := 1) rfl rfl rfl rfl rfl rfl rfl rfl (by decide) rl5 ot.all rfl (Nat.le_refl 1) rfl (by show 2 * (_ + 1) * 64 ≤ _; omega) (by omega) ?_
  intro lv2 g6 rl6 f6
  have hat5 : ∀ b, At (.slice lA l.length lc) b → h.next ≤ b ∧ b < pb := fun b g => ⟨(rl.at g).1, hlx b g⟩
  have hbt5 : ∀ b, At (.slice bA bs.length bc) b → h.next ≤ b ∧ b < pb := fun b g => ⟨(rb.at g).1, hbx b g⟩
  have rb6 := rb5.frm f6 (fun b g e => hx b e g)
  have on6 := on5.fr f6 (fun g => by have := (hat5 pb g).2; omega)
  have fg6 : Fr no h g6 := fg5.trans f6 (fun b g => .inr (hat5 b g).1)
  have hn6 := f6.next
  refine RunO.part 2 rfl ?_
  refine RunO.part 1 (h1 := g6.push ⟨is [(an : Int)], true⟩) rfl ?_
  have ot2 := Ow.push g6 (is [(an : Int)])
  have f7 : Fr no g6 (g6.push ⟨is [(an : Int)], true⟩) := Fr.push _ _ _
  have rl7 := rl6.fr f7 (fun _ _ _ g => g)
  have rb7 := rb6.fr0 f7
  have on7 := on6.fr f7 (fun g => g)
  have fg7 := fg6.same f7
  have hn7 := f7.next
  generalize g6.push ⟨is [(an : Int)], true⟩ = g7 at *
  refine RunO.appendG (s := 1) (j := 1) rfl rfl rfl rfl rfl rfl rfl rfl (by decide) rb7 ot2.all rfl (Nat.le_refl 1) rfl (by show 2 * (_ + 1) * 8 ≤ _; omega) (by omega) ?_
  intro bv2 g8 rb8 f8
  have hpg5 : pb < g5.next := on5.1
  have rl8 := rl7.frm f8 (fun b g e => by have := (rl6.at g).1; have := (hbt5 b e).2; omega)
  have on8 := on7.fr f8 (fun g => by have := (hbt5 pb g).2; omega)
  have fg8 : Fr no h g8 := fg7.trans f8 (fun b g => .inr (hbt5 b g).1)
  refine RunO.all rfl ?_
  refine RunC.region (RunO.part 1 rfl ?_)
  refine RunO.load (v := .int .i64 r.nx) rfl (on8.ld rfl) rfl (RunO.all rfl ?_)
  have hg5n := fg5.next
  refine ⟨f, by omega, r.nx, l ++ [r], bs ++ [(an : Int)], w2, lv2, bv2, ?_, ?_, nodup_snoc hnd ?_, ?_, ?_, fun e => ?_, hfo, fg8, ?_, ?_, ?_, Le.cons rfl (Le.cons rfl (Le.cons rfl (Le.cons rfl (Le.cons rfl (Le.cons rfl (Le.nil _))))))⟩
  · rw [List.length_append, List.length_singleton]; omega
  · rw [List.length_append, List.length_append, hll]; rfl
  · intro g
    rw [List.contains_iff_mem.2 g] at h4; cases h4
  · intro x g
    rcases List.mem_append.1 g with g | g
    · exact hbr x g
    · rw [List.mem_singleton.1 g]; omega
  · rw [List.length_append, List.length_singleton]; omega
  · exact absurd e (by simp)
  · have e1 : recCs l ++ rc8 r = recCs (l ++ [r]) := by rw [recCs_app]; show _ = _ ++ (rc8 r ++ []); rw [List.append_nil]
    rw [← e1, List.length_append]
    exact (Row.lo rl8 (by omega)).gr
  · have e1 : is bs ++ is [(an : Int)] = is (bs ++ [(an : Int)]) := (List.map_append ..).symm
    rw [← e1, List.length_append]
    exact (Row.lo rb8 (by omega)).gr
  · intro b g g2
    have := (rl6.at g).2
    have := (rb8.at g2).1
    omega
end Go.Proofs.Ytnokcbenpnmnbaa
end
section
set_option linter.unusedVariables false
set_option maxRecDepth 100000
open Go Go.Am Go.RowKit
namespace Go.Proofs.Ytnokcbenpnmnbaa
open Go.Proofs.Try
theorem reps_bs (n : Nat) : reps (cellsOf (Value.bool false)) n = bs (List.replicate n false) := by
  rw [show cellsOf (Value.bool false) = [.bool false] from rfl, reps_one]; unfold bs; rw [List.map_replicate]
theorem reps_is0 (n : Nat) : reps (cellsOf (Value.int .i64 0)) n = is (List.replicate n 0) := by
  rw [show cellsOf (Value.int .i64 0) = [.int .i64 0] from rfl, reps_one]; unfold is; rw [List.map_replicate]
theorem getD_rep {α : Type} (x d : α) (n i : Nat) (h : x = d) : (List.replicate n x).getD i d = d := by
  rw [List.getD_eq_getElem?_getD, List.getElem?_replicate]; split
  · exact h
  · rfl
def rz : List Value := [.slice none 0 0, .int .i64 0, .slice none 0 0, .slice none 0 0, .slice none 0 0, .slice none 0 0, .bool false]
/-- No block is a node's and a sector's. -/
def apartB (sn dt : List Bool) (i : Nat) : Bool := !sn.getD i false || !dt.getD i false
theorem treeApart {L : List Int} {B : Nat} {root : Int} {m ns : List Int} {sn dt : List Bool} (S : TSpec L B 2 root 0 (List.replicate 512 0, [], false) (m, ns, false)) (c : Cpl B m ns sn dt) : (!false && !(m.any fun b => ns.contains b)) = (true && (List.range B).all (apartB sn dt)) := by
  rw [Bool.not_false, Bool.true_and, Bool.true_and, Bool.eq_iff_iff, Bool.not_eq_true', List.any_eq_false, List.all_eq_true]
  have hns : ∀ x, x ∈ ns → 2 ≤ x ∧ x < B := fun x hx => by
    rcases S.all x hx with g | ⟨k, _, g⟩
    · cases g
    · exact atIs_ne g
  constructor
  · intro H i hi
    rw [List.mem_range] at hi
    unfold apartB
    rw [c.1 i hi]
    cases hc : ns.contains (i : Int) with
    | false => rfl
    | true =>
      have hin : (i : Int) ∈ ns := by simpa using hc
      rw [c.2 i (by have := hns _ hin; omega) hi]
      cases hd : m.contains (i : Int) with
      | false => rfl
      | true =>
        have him : (i : Int) ∈ m := by simpa using hd
        exact absurd hc (H _ him)
  · intro H x hx hc
    have hin : x ∈ ns := by simpa using hc
    have hb := hns x hin
    obtain ⟨i, rfl⟩ := Int.eq_ofNat_of_zero_le (show 0 ≤ x by omega)
    have := H i (List.mem_range.2 (by omega))
    unfold apartB at this
    rw [c.1 i (by omega), c.2 i (by omega) (by omega), hc, show m.contains (i : Int) = true by simpa using hx] at this
    cases this
set_option maxHeartbeats 8000000 in
theorem refTree_ok {h : Heap} {iv : Value} {L : List Int} {root : Int} (sl : Sl h iv 1 L.length (us L)) (hb : Byt L) (hd : devOk L.length = true) :
    RunF prog 33 [iv, .int .i64 root] h fun v h' => Fr no h h' ∧ ((treeOk L root = true ∧ ∃ mb nv, h.next ≤ mb ∧ v = .tuple #[.slice (some ⟨mb, 0, none⟩) 512 (exc 512), nv, .bool true] ∧ Ow h' mb (is (treeM L root)) ∧ Row h.next h' nv 1 (treeN L root).length (is (treeN L root))) ∨ (treeOk L root = false ∧ v = .tuple #[.slice none 0 0, .slice none 0 0, .bool false])) := by
  have hdl : L.length % 64 = 0 ∧ 4 ≤ L.length / 64 ∧ L.length / 64 ≤ 4096 := by
    unfold devOk at hd
    simpa using hd
  have hm : L.length ≤ 4611686018427387904 := by omega
  refine RunF.walk func33 rfl rfl ?_
  have sl0 := sl
  obtain ⟨A, c, rfl, hc, hA⟩ := sl.form
  have hAlt : ∀ b o c', Value.slice A L.length c = .slice (some ⟨b, o, none⟩) L.length c' → b < h.next := fun b o c' e => by
    obtain ⟨b', o', rfl, rd⟩ := hA (by omega)
    cases e; exact rd.2.1
  refine RunC.seq (RunC.region (RunO.all rfl ?_))
  refine RunC.seq (RunC.region (RunO.part 1 rfl ?_))
  refine RunO.callD (refBlocks_ok sl hm) rfl rfl rfl ?_
  rintro _ _ ⟨rfl, rfl⟩
  refine RunO.all rfl ?_
  have hTW : ∀ x, treeW L x = tgo L (L.length / 64) 2 x 0 (List.replicate 512 0, [], false) := fun x => rfl
  obtain ⟨B, hBe⟩ : ∃ B, B = L.length / 64 := ⟨_, rfl⟩
  rw [← hBe] at hdl hTW ⊢
  refine RunC.seq (RunC.draw0 rfl ?_)
  refine RunO.part 3 rfl ?_
  refine RunO.make (m := B) rfl rfl rfl rfl rfl rfl (show 1 * B ≤ _ by omega) (by omega) rfl ?_
  rw [reps_bs]
  have os := Ow.push h (bs (List.replicate B false))
  have f1 : Fr no h (h.push ⟨bs (List.replicate B false), true⟩) := Fr.push _ _ _
  have hn1 : (h.push ⟨bs (List.replicate B false), true⟩).next = h.next + 1 := rfl
  generalize h.push ⟨bs (List.replicate B false), true⟩ = h1 at *
  generalize hsb : h.next = sb at os hn1 ⊢
  refine RunO.part 1 rfl ?_
  refine RunO.make (m := B) rfl rfl rfl rfl rfl rfl (show 1 * B ≤ _ by omega) (by omega) rfl ?_
  rw [reps_bs]
  have od := Ow.push h1 (bs (List.replicate B false))
  have f2 : Fr no h1 (h1.push ⟨bs (List.replicate B false), true⟩) := Fr.push _ _ _
  have hn2 : (h1.push ⟨bs (List.replicate B false), true⟩).next = h1.next + 1 := rfl
  replace os := os.fr f2 (fun g => g)
  generalize h1.push ⟨bs (List.replicate B false), true⟩ = h2 at *
  generalize hdb : h1.next = db at od hn2 ⊢
  refine RunO.make (m := 512) rfl rfl rfl rfl rfl rfl (Nat.le_of_ble_eq_true rfl) (by decide) rfl ?_
  rw [reps_is0]
  have om := Ow.push h2 (is (List.replicate 512 0))
  have f3 : Fr no h2 (h2.push ⟨is (List.replicate 512 0), true⟩) := Fr.push _ _ _
  have hn3 : (h2.push ⟨is (List.replicate 512 0), true⟩).next = h2.next + 1 := rfl
  replace os := os.fr f3 (fun g => g)
  replace od := od.fr f3 (fun g => g)
  generalize h2.push ⟨is (List.replicate 512 0), true⟩ = h3 at *
  generalize hmb : h2.next = mb at om hn3 ⊢
  refine RunO.part 2 (h1 := h3.push ⟨rz, true⟩) rfl ?_
  obtain ⟨iv, hive⟩ : ∃ iv, iv = Value.slice A L.length c := ⟨_, rfl⟩
  rw [← hive] at sl0 hAlt ⊢
  have hcl : (cellsOf (.agg ⟨rwc iv B sb db mb (.slice none 0 0) true⟩)).length = 7 := rfl
  have hac : allCells (cellsOf (.agg ⟨rwc iv B sb db mb (.slice none 0 0) true⟩)) = true := by
    rw [hive]; rfl
  refine RunO.store rfl rfl (store_ow (s := 7) (v := .agg ⟨rwc iv B sb db mb (.slice none 0 0) true⟩) (Ow.push h3 rz) rfl hcl hac (Nat.le_refl 7)) (RunO.nil ?_)
  change RunC _ _ _ _ ((h3.push ⟨rz, true⟩).put h3.next (some ⟨rwc iv B sb db mb (.slice none 0 0) true, true⟩)) _ _ _
  have ow : Ow ((h3.push ⟨rz, true⟩).put h3.next (some ⟨rwc iv B sb db mb (.slice none 0 0) true, true⟩)) h3.next (rwc iv B sb db mb (.slice none 0 0) true) := Ow.put _ (Nat.lt_succ_self _)
  have f4 : Fr no h3 ((h3.push ⟨rz, true⟩).put h3.next (some ⟨rwc iv B sb db mb (.slice none 0 0) true, true⟩)) := (Fr.push _ _ _).trans (Fr.put (m := (· = h3.next)) _ (.inl rfl)) (fun j hj => .inr (by omega))
  have hn4 : ((h3.push ⟨rz, true⟩).put h3.next (some ⟨rwc iv B sb db mb (.slice none 0 0) true, true⟩)).next = h3.next + 1 := rfl
  replace os := os.fr f4 (fun g => g)
  replace od := od.fr f4 (fun g => g)
  replace om := om.fr f4 (fun g => g)
  have f14 := ((f1.same f2).same f3).same f4
  generalize (h3.push ⟨rz, true⟩).put h3.next (some ⟨rwc iv B sb db mb (.slice none 0 0) true, true⟩) = h4 at *
  generalize h3.next = wb at *
  have rb : RB h4.next wb sb db mb := ⟨by omega, by omega, by omega, by omega, by omega, by omega, by omega, by omega, by omega, by omega⟩
  have t4 : RW h4.next h4 iv B wb sb db mb (.slice none 0 0) (List.replicate 512 0) [] (List.replicate B false) (List.replicate B false) true := ⟨ow, os, od, om, Row.nil _ _ _, List.length_replicate, List.length_replicate, List.length_replicate, Nat.le_refl _⟩
  have hiv : ∀ b o c, iv = .slice (some ⟨b, o, none⟩) L.length c → ¬ RM h4.next wb sb db mb b := fun b o c e => by
    have := hAlt b o c e
    rintro (e | e | e | e | e) <;> omega
  have hcp : Cpl B (List.replicate 512 0) [] (List.replicate B false) (List.replicate B false) := by
    refine ⟨fun i hi => getD_rep _ _ _ _ rfl, fun i h0 hi => ?_⟩
    rw [getD_rep _ _ _ _ rfl, eq_comm, ← Bool.not_eq_true]
    simp only [List.contains_eq_mem, decide_eq_true_eq, List.mem_replicate]
    omega
  have sl4 := sl0.fr0 f14
  refine RunC.seq (RunC.seq (RunC.region (RunO.all rfl ?_)))
  by_cases hr : root = 0
  · have h1 : treeOk L root = true := by unfold treeOk; rw [hr]; rfl
    have h2 : treeM L root = List.replicate 512 0 := by unfold treeM; rw [hr]; rfl
    have h3' : treeN L root = [] := by unfold treeN; rw [hr]; rfl
    rw [h1, h2, h3']
    subst hr
    refine RunC.cond rfl (fun _ => ?_) (fun g => by cases g)
    refine RunC.seq (RunC.region (RunO.part 1 rfl ?_))
    refine RunO.load (v := .slice (some ⟨mb, 0, none⟩) 512 (exc 512)) rfl (ow.ld rfl) rfl (RunO.all rfl ?_)
    exact RunC.ret ⟨_, rfl, f14, .inl ⟨rfl, mb, _, by omega, rfl, om, Row.nil _ _ _⟩⟩
  rw [show (root == 0) = false from beq_eq_false_iff_ne.2 hr]
  refine RunC.cond rfl (fun g => by cases g) (fun _ => RunC.skip ?_)
  have hTok : treeOk L root = (!(treeW L root).2.2 && !((treeW L root).1.any fun b => (treeW L root).2.1.contains b)) := by unfold treeOk; rw [show (root == 0) = false from beq_eq_false_iff_ne.2 hr]; rfl
  have hTm : treeM L root = (treeW L root).1 := by unfold treeM; rw [show (root == 0) = false from beq_eq_false_iff_ne.2 hr]; rfl
  have hTn : treeN L root = (treeW L root).2.1 := by unfold treeN; rw [show (root == 0) = false from beq_eq_false_iff_ne.2 hr]; rfl
  rw [hTok, hTm, hTn, hTW]
  have hspec := tgo_spec L B 2 root 0 (List.replicate 512 0, [], false) (by decide) List.length_replicate rfl (fun s _ _ => getD_rep _ _ _ _ rfl)
  refine RunC.seq (RunC.region (RunO.part 1 rfl ?_))
  refine RunO.callD (rnode_ok hb (by omega) (by omega) hdl.2.2 hm rb hiv 2 (by decide) (at_ := root) (from_ := 0) sl4 t4 hcp (by decide) (by decide) (fun s _ _ => getD_rep _ _ _ _ rfl)) rfl rfl rfl ?_
  rintro _ h5 ⟨rfl, f5, nv, m, ns, sn, dt, ok, t5, hr5, hl5, hok, hal⟩
  refine RunO.nil ?_
  have F5 : Fr no h h5 := f14.trans f5 (fun b g => .inr (by
    rcases g with e | e | e | e | ⟨n, c, e⟩
    · omega
    · omega
    · omega
    · omega
    · cases e))
  have hw : wb < h5.next := t5.ow.1
  -- what is to be found
  have goal : (!(tgo L B 2 root 0 (List.replicate 512 0, [], false)).2.2 && !((tgo L B 2 root 0 (List.replicate 512 0, [], false)).1.any fun b => (tgo L B 2 root 0 (List.replicate 512 0, [], false)).2.1.contains b)) = (ok && (List.range B).all (apartB sn dt)) := by
    rw [← hok]
    cases hk : ok with
    | false => rfl
    | true =>
      obtain ⟨g1, g2⟩ := hal hk
      have S := hspec (by rw [hk] at hok; cases e : (tgo L B 2 root 0 (List.replicate 512 0, [], false)).2.2 with
        | false => rfl
        | true => rw [e] at hok; cases hok)
      rw [g1] at S ⊢
      exact treeApart S g2
  rw [goal]
  have hmn : ok = true → (tgo L B 2 root 0 (List.replicate 512 0, [], false)).1 = m ∧ (tgo L B 2 root 0 (List.replicate 512 0, [], false)).2.1 = ns := fun hk => by rw [(hal hk).1]; exact ⟨rfl, rfl⟩
  generalize tgo L B 2 root 0 (List.replicate 512 0, [], false) = TT at *
  refine RunC.seqc (fun E' h' => ∃ ok', RW h4.next h' iv B wb sb db mb nv m ns sn dt ok' ∧ ok' = (ok && (List.range B).all (apartB sn dt)) ∧ Fr (· = wb) h5 h' ∧ Le (upd (upd E0 7 (.int .i64 (B : Int))) 9 (.pointer (some ⟨wb, 0, none⟩))) E') ?_ ?_
  · refine RunC.seq (RunC.region (RunO.all rfl ?_))
    refine RunC.block ?_
    let I : Nat → Env → Heap → Prop := fun d E h' => ∃ (i : Nat) (ok' : Bool), i + d = B ∧ RW h4.next h' iv B wb sb db mb nv m ns sn dt ok' ∧ ok' = (ok && (List.range i).all (apartB sn dt)) ∧ Fr (· = wb) h5 h' ∧ Le (upd (upd (upd E0 7 (.int .i64 (B : Int))) 9 (.pointer (some ⟨wb, 0, none⟩))) 10 (.int .i64 (i : Int))) E
    refine RunC.loop I ?_ (k := B) ?_
    · rintro d E h6 ⟨i, ok', hi, t6, ho, F6, hE⟩
      refine RunC.le hE ?_
      clear hE
      have ow6 := t6.ow
      refine RunC.seq (RunC.seq (RunC.region (RunO.part 4 rfl ?_)))
      by_cases hlt : i < B
      case neg =>
        rw [show decide ((i : Int) < (B : Int)) = false from decide_eq_false (by omega)]
        refine RunO.all rfl ?_
        obtain rfl : i = B := by omega
        exact RunC.cond rfl (fun g => by cases g) (fun _ => RunC.exit ⟨ok', t6, ho, F6, Le.cons rfl (Le.cons rfl (Le.nil _))⟩)
      rw [show decide ((i : Int) < (B : Int)) = true from decide_eq_true (by omega)]
      refine RunO.part 1 rfl ?_
      refine RunO.loadG (v := .bool ok') rfl rfl (ow6.ld rfl) rfl (RunO.all rfl ?_)
      cases hk : ok' with
      | false =>
        refine RunC.cond rfl (fun g => by cases g) (fun _ => RunC.exit ⟨false, hk ▸ t6, ?_, F6, Le.cons rfl (Le.cons rfl (Le.nil _))⟩)
        rw [hk] at ho
        cases ok with
        | false => rfl
        | true =>
          rw [Bool.true_and] at ho ⊢
          have := List.all_eq_false.1 ho.symm
          obtain ⟨x, hx, hx2⟩ := this
          exact (List.all_eq_false.2 ⟨x, List.mem_range.2 (by have := List.mem_range.1 hx; omega), hx2⟩).symm
      | true =>
        rw [hk] at t6 ho
        refine RunC.cond rfl (fun _ => RunC.skip ?_) (fun g => by cases g)
        have hs : i < sn.length := by rw [t6.ls]; exact hlt
        have hdl' : i < dt.length := by rw [t6.ld]; exact hlt
        have sls : Sl h6 (.slice (some ⟨sb, 0, none⟩) B (exc B)) 1 B (bs sn) := t6.os.all.sl (by rw [bs_len, t6.ls, Nat.mul_one]) (by omega) (Cp.exc (Nat.le_refl _))
        have sld : Sl h6 (.slice (some ⟨db, 0, none⟩) B (exc B)) 1 B (bs dt) := t6.od.all.sl (by rw [bs_len, t6.ld, Nat.mul_one]) (by omega) (Cp.exc (Nat.le_refl _))
        have hap : apartB sn dt i = (!sn[i] || !dt[i]) := by
          unfold apartB
          rw [List.getD_eq_getElem?_getD, List.getElem?_eq_getElem hs, List.getD_eq_getElem?_getD, List.getElem?_eq_getElem hdl']; rfl
        have ho2 : (!sn[i] || !dt[i]) = (ok && (List.range (i + 1)).all (apartB sn dt)) := by
          rw [List.range_succ, List.all_append, ← Bool.and_assoc, ← ho, Bool.true_and]
          show _ = (apartB sn dt i && true)
          rw [Bool.and_true, hap]
        obtain ⟨e1, e2, e3⟩ := t6.fail rb (!sn[i] || !dt[i])
        have f7 : Fr (· = wb) h5 (h6.put wb (some ⟨rwc iv B sb db mb nv (!sn[i] || !dt[i]), true⟩)) := F6.same (Fr.put _ (.inl rfl))
        have hI : ∀ E, Le (upd (upd (upd E0 7 (.int .i64 (B : Int))) 9 (.pointer (some ⟨wb, 0, none⟩))) 10 (.int .i64 ((i + 1 : Nat) : Int))) E → ∃ d', d' < d ∧ I d' E (h6.put wb (some ⟨rwc iv B sb db mb nv (!sn[i] || !dt[i]), true⟩)) :=
          fun E hE => ⟨d - 1, by omega, i + 1, _, by omega, e2, ho2, f7, hE⟩
        have hbs := bs_part hs
        have hbd := bs_part hdl'
        clear ho2 hap e2 e3
        refine RunC.seq (RunC.block ?_)
        refine RunC.region (RunO.part 1 rfl ?_)
        refine RunO.load (v := .slice (some ⟨sb, 0, none⟩) B (exc B)) rfl (ow6.ld rfl) rfl ?_
        refine RunO.part 1 rfl ?_
        refine RunO.at (s := 1) (k := i) (u := .bool sn[i]) rfl rfl sls rfl rfl hlt hbs rfl rfl rfl ?_
        refine RunO.part 2 rfl ?_
        generalize sn[i] = x at *
        generalize dt[i] = y at *
        cases x with
        | false =>
          refine RunO.part 7 rfl ?_
          refine RunO.part 1 rfl ?_
          refine RunO.store rfl rfl e1 (RunO.nil ?_)
          exact RunC.region (RunO.all rfl (hI _ (Le.cons (inc64 (by omega)) (Le.cons rfl (Le.cons rfl (Le.nil _))))))
        | true =>
          refine RunO.part 1 rfl ?_
          refine RunO.loadG (v := .slice (some ⟨db, 0, none⟩) B (exc B)) rfl rfl (ow6.ld rfl) rfl ?_
          refine RunO.part 1 rfl ?_
          refine RunO.atG (s := 1) (k := i) (u := .bool y) rfl (fun _ => rfl) rfl rfl sld rfl rfl hlt hbd rfl rfl rfl ?_
          refine RunO.part 3 rfl ?_
          refine RunO.store rfl rfl e1 (RunO.nil ?_)
          exact RunC.region (RunO.all rfl (hI _ (Le.cons (inc64 (by omega)) (Le.cons rfl (Le.cons rfl (Le.nil _))))))
    · exact ⟨0, ok, by omega, t5, by simp, Fr.refl _ _, Le.cons rfl (Le.cons rfl (Le.cons rfl (Le.nil _)))⟩
  rintro E' h6 ⟨ok', t6, ho, F6, hE⟩
  refine RunC.le hE ?_
  clear hE
  have ow6 := t6.ow
  rw [← ho]
  have F06 : Fr no h h6 := F5.trans F6 (fun b e => .inr (by omega))
  refine RunC.seq (RunC.seq (RunC.region (RunO.part 1 rfl ?_)))
  refine RunO.load (v := .bool ok') rfl (ow6.ld rfl) rfl (RunO.all rfl ?_)
  cases hk : ok' with
  | false =>
    refine RunC.cond rfl (fun _ => ?_) (fun g => by cases g)
    exact RunC.seq (RunC.region (RunO.all rfl (RunC.ret ⟨_, rfl, F06, .inr ⟨rfl, rfl⟩⟩)))
  | true =>
    refine RunC.cond rfl (fun g => by cases g) (fun _ => RunC.skip ?_)
    have hkk : ok = true := by
      rw [hk] at ho
      cases ok with
      | true => rfl
      | false => cases ho
    obtain ⟨g1, g2⟩ := hmn hkk
    rw [g1, g2]
    refine RunC.seq (RunC.draw0 rfl ?_)
    refine RunO.part 1 rfl ?_
    refine RunO.load (v := .slice (some ⟨mb, 0, none⟩) 512 (exc 512)) rfl (ow6.ld rfl) rfl ?_
    refine RunO.part 1 rfl ?_
    refine RunO.load (v := nv) rfl (ow6.ld rfl) rfl (RunO.all rfl ?_)
    exact RunC.ret ⟨_, rfl, F06, .inl ⟨rfl, mb, nv, by omega, rfl, t6.om, Row.lo t6.row (by omega)⟩⟩
end Go.Proofs.Ytnokcbenpnmnbaa
end
section
set_option linter.unusedVariables false
set_option linter.unusedSectionVars false
set_option maxRecDepth 100000
open Go Go.Am Go.RowKit
namespace Go.Proofs.Ytnokcbenpnmnbaa
open Go.Proofs.Try
/-- The cells of the page's image. -/
def imx (s : S5) (slot : Int) (rv bv mv nv : Value) : List Value := sc5 s ++ [.int .i64 slot, rv, bv, mv, nv]
/-- Rows of numbers, by the cells that hold them. -/
def JEl (N : Nat → Prop) (h : Heap) (cs : List Value) (rows : List (List Int)) : Prop :=
  cs.length = rows.length ∧ ∀ (j : Nat) (x : List Int), rows[j]? = some x → ∃ w, cs[j]? = some w ∧ Sl h w 1 x.length (is x) ∧ ∀ b o c, w = .slice (some ⟨b, o, none⟩) x.length c → N b
theorem JEl.frm {N M : Nat → Prop} {h h' : Heap} {cs : List Value} {rows : List (List Int)} (r : JEl N h cs rows) (f : Fr M h h') (hn : ∀ b, N b → ¬ M b) : JEl N h' cs rows := by
  refine ⟨r.1, fun j x hx => ?_⟩
  obtain ⟨w, e, sw, hw⟩ := r.2 j x hx
  exact ⟨w, e, sw.frm (fun b o c e => hn b (hw b o c e)) f, hw⟩
theorem JEl.fr0 {N : Nat → Prop} {h h' : Heap} {cs : List Value} {rows : List (List Int)} (r : JEl N h cs rows) (f : Fr no h h') : JEl N h' cs rows := r.frm f (fun _ _ g => g)
theorem JEl.weak {N M : Nat → Prop} {h : Heap} {cs : List Value} {rows : List (List Int)} (r : JEl N h cs rows) (hn : ∀ b, b < h.next → N b → M b) : JEl M h cs rows := by
  refine ⟨r.1, fun j x hx => ?_⟩
  obtain ⟨w, e, sw, hw⟩ := r.2 j x hx
  exact ⟨w, e, sw, fun b o c e => hn b (sw.lt b o c e) (hw b o c e)⟩
theorem JEl.nil (N : Nat → Prop) (h : Heap) : JEl N h [] [] := ⟨rfl, fun j x hx => by cases hx⟩
theorem JEl.snoc {N : Nat → Prop} {h : Heap} {cs : List Value} {rows : List (List Int)} {w : Value} {x : List Int} (r : JEl N h cs rows) (sw : Sl h w 1 x.length (is x)) (hw : ∀ b o c, w = .slice (some ⟨b, o, none⟩) x.length c → N b) : JEl N h (cs ++ [w]) (rows ++ [x]) := by
  refine ⟨by rw [List.length_append, List.length_append, r.1]; rfl, fun j y hy => ?_⟩
  by_cases hj : j < rows.length
  · rw [List.getElem?_append_left hj] at hy
    obtain ⟨u, e, su⟩ := r.2 j y hy
    exact ⟨u, by rw [List.getElem?_append_left (by rw [r.1]; exact hj)]; exact e, su⟩
  · have hj2 : j = rows.length := by
      have := (List.getElem?_eq_some_iff.1 hy).1
      rw [List.length_append, List.length_singleton] at this
      omega
    subst hj2
    rw [List.getElem?_append_right (Nat.le_refl _), Nat.sub_self] at hy
    have hy : some x = some y := hy
    cases hy
    exact ⟨w, by rw [List.getElem?_append_right (by rw [r.1]; exact Nat.le_refl _), r.1, Nat.sub_self]; rfl, sw, hw⟩
def isF (bl NS SS : List Int) (j : Nat) : Int := (if NS.contains (j : Int) then 1 else 0) + (if bl.contains (j : Int) then 2 else 0) + (if SS.contains (j : Int) then 4 else 0)
def isA (B : Nat) (bl NS SS : List Int) : List Int := (List.range B).map (isF bl NS SS)
def cfP (bl NS SS : List Int) (j : Nat) : Bool := (SS.contains (j : Int) && (NS.contains (j : Int) || bl.contains (j : Int))) || (NS.contains (j : Int) && bl.contains (j : Int))
structure BadI (B : Nat) (bl NS SS : List Int) (bad : Nat) : Prop where
  le : bad ≤ B
  lo : ∀ j, j < B → cfP bl NS SS j = true → bad ≤ j
  is : bad < B → cfP bl NS SS bad = true
theorem isA_len (B : Nat) (bl NS SS : List Int) : (isA B bl NS SS).length = B := by unfold isA; rw [List.length_map, List.length_range]
theorem isA_get {B : Nat} {bl NS SS : List Int} {a : Nat} (h : a < B) : (isA B bl NS SS)[a]? = some (isF bl NS SS a) := by unfold isA; rw [List.getElem?_map, List.getElem?_range h]; rfl
theorem cont_snoc (l : List Int) (a b : Int) : (l ++ [a]).contains b = (l.contains b || b == a) := by
  rw [List.contains_eq_any_beq, List.contains_eq_any_beq, List.any_append]; simp
theorem isA_set {B : Nat} {bl NS SS NS' SS' bl' : List Int} {a : Nat} (h : a < B) (hj : ∀ j, j ≠ a → isF bl' NS' SS' j = isF bl NS SS j) : (isA B bl NS SS).set a (isF bl' NS' SS' a) = isA B bl' NS' SS' := by
  apply List.ext_getElem?
  intro j
  rw [List.getElem?_set]
  split
  · rename_i e
    subst e
    rw [if_pos (by rw [isA_len]; exact h), isA_get h]
  · rename_i e
    by_cases hB : j < B
    · rw [isA_get hB, isA_get hB, hj j (fun g => e g.symm)]
    · rw [List.getElem?_eq_none (by rw [isA_len]; omega), List.getElem?_eq_none (by rw [isA_len]; omega)]
theorem isA_same {B : Nat} {bl NS SS NS' SS' : List Int} (hj : ∀ j, isF bl NS' SS' j = isF bl NS SS j) : isA B bl NS SS = isA B bl NS' SS' := by
  unfold isA
  exact List.map_congr_left (fun j _ => (hj j).symm)
theorem isF_node {bl NS SS : List Int} {a j : Nat} (h : j ≠ a) : isF bl (NS ++ [(a : Int)]) SS j = isF bl NS SS j := by
  unfold isF
  rw [cont_snoc, show ((j : Int) == (a : Int)) = false from beq_eq_false_iff_ne.2 (by omega), Bool.or_false]
theorem isF_sec {bl NS SS : List Int} {a j : Nat} (h : j ≠ a) : isF bl NS (SS ++ [(a : Int)]) j = isF bl NS SS j := by
  unfold isF
  rw [cont_snoc, show ((j : Int) == (a : Int)) = false from beq_eq_false_iff_ne.2 (by omega), Bool.or_false]
theorem cfP_node {bl NS SS : List Int} {a j : Nat} (h : j ≠ a) : cfP bl (NS ++ [(a : Int)]) SS j = cfP bl NS SS j := by
  unfold cfP
  rw [cont_snoc, show ((j : Int) == (a : Int)) = false from beq_eq_false_iff_ne.2 (by omega), Bool.or_false]
theorem cfP_sec {bl NS SS : List Int} {a j : Nat} (h : j ≠ a) : cfP bl NS (SS ++ [(a : Int)]) j = cfP bl NS SS j := by
  unfold cfP
  rw [cont_snoc, show ((j : Int) == (a : Int)) = false from beq_eq_false_iff_ne.2 (by omega), Bool.or_false]
theorem cfP_nodeA (bl NS SS : List Int) (a : Nat) : cfP bl (NS ++ [(a : Int)]) SS a = (SS.contains (a : Int) || bl.contains (a : Int)) := by
  unfold cfP
  rw [cont_snoc, beq_self_eq_true, Bool.or_true]
  cases SS.contains (a : Int) <;> cases bl.contains (a : Int) <;> rfl
theorem cfP_secA (bl NS SS : List Int) (a : Nat) : cfP bl NS (SS ++ [(a : Int)]) a = (NS.contains (a : Int) || bl.contains (a : Int)) := by
  unfold cfP
  rw [cont_snoc, beq_self_eq_true, Bool.or_true]
  cases NS.contains (a : Int) <;> cases bl.contains (a : Int) <;> rfl
theorem BadI.step {B : Nat} {bl NS SS NS' SS' : List Int} {bad a : Nat} {t : Bool} (b : BadI B bl NS SS bad) (ha : a < B) (hj : ∀ j, j ≠ a → cfP bl NS' SS' j = cfP bl NS SS j) (ht : cfP bl NS' SS' a = t) (hm : cfP bl NS SS a = true → t = true) : BadI B bl NS' SS' (if t then min bad a else bad) := by
  have h1 := b.le
  refine ⟨by split <;> omega, fun j hjB hc => ?_, fun hlt => ?_⟩
  · by_cases e : j = a
    · subst e
      rw [ht] at hc
      rw [if_pos hc]; omega
    · rw [hj j e] at hc
      have := b.lo j hjB hc
      split <;> omega
  · cases t with
    | true =>
      rw [if_pos rfl] at hlt ⊢
      by_cases e : min bad a = a
      · rw [e]; exact ht
      · have e2 : min bad a = bad := by omega
        rw [e2] at hlt ⊢
        rw [hj bad (by omega)]
        exact b.is hlt
    | false =>
      rw [if_neg Bool.false_ne_true] at hlt ⊢
      by_cases e : bad = a
      · subst e
        have := hm (b.is hlt)
        cases this
      · rw [hj bad e]
        exact b.is hlt
theorem cfP_mono_node {bl NS SS : List Int} {a : Nat} (h : cfP bl NS SS a = true) : (SS.contains (a : Int) || bl.contains (a : Int)) = true := by
  unfold cfP at h
  revert h
  cases SS.contains (a : Int) <;> cases bl.contains (a : Int) <;> cases NS.contains (a : Int) <;> simp
theorem cfP_mono_sec {bl NS SS : List Int} {a : Nat} (h : cfP bl NS SS a = true) : (NS.contains (a : Int) || bl.contains (a : Int)) = true := by
  unfold cfP at h
  revert h
  cases SS.contains (a : Int) <;> cases bl.contains (a : Int) <;> cases NS.contains (a : Int) <;> simp
/- What the page's tests say. -/
theorem isF_t1 (bl NS SS : List Int) (a : Nat) : (((isF bl NS SS a).tdiv 2).tmod 2 == 1) = bl.contains (a : Int) := by
  unfold isF
  cases NS.contains (a : Int) <;> cases bl.contains (a : Int) <;> cases SS.contains (a : Int) <;> rfl
theorem isF_t2 (bl NS SS : List Int) (a : Nat) : ((isF bl NS SS a).tdiv 4 == 1) = SS.contains (a : Int) := by
  unfold isF
  cases NS.contains (a : Int) <;> cases bl.contains (a : Int) <;> cases SS.contains (a : Int) <;> rfl
theorem isF_t3 (bl NS SS : List Int) (a : Nat) : ((isF bl NS SS a).tmod 2 == 0) = !NS.contains (a : Int) := by
  unfold isF
  cases NS.contains (a : Int) <;> cases bl.contains (a : Int) <;> cases SS.contains (a : Int) <;> rfl
theorem isF_t4 (bl NS SS : List Int) (a : Nat) : ((isF bl NS SS a).tmod 4 != 0) = (NS.contains (a : Int) || bl.contains (a : Int)) := by
  unfold isF
  cases NS.contains (a : Int) <;> cases bl.contains (a : Int) <;> cases SS.contains (a : Int) <;> rfl
theorem isF_t5 (bl NS SS : List Int) (a : Nat) : ((isF bl NS SS a).tdiv 4 == 0) = !SS.contains (a : Int) := by
  unfold isF
  cases NS.contains (a : Int) <;> cases bl.contains (a : Int) <;> cases SS.contains (a : Int) <;> rfl
theorem isF_rng (bl NS SS : List Int) (a : Nat) : 0 ≤ isF bl NS SS a ∧ isF bl NS SS a ≤ 7 := by
  unfold isF
  cases NS.contains (a : Int) <;> cases bl.contains (a : Int) <;> cases SS.contains (a : Int) <;> decide
theorem isF_addN {bl NS SS : List Int} {a : Nat} (h : NS.contains (a : Int) = false) : isF bl NS SS a + 1 = isF bl (NS ++ [(a : Int)]) SS a := by
  unfold isF
  rw [cont_snoc, beq_self_eq_true, Bool.or_true, h, if_pos rfl, if_neg Bool.false_ne_true]; omega
theorem isF_sameN {bl NS SS : List Int} {a : Nat} (h : NS.contains (a : Int) = true) (j : Nat) : isF bl (NS ++ [(a : Int)]) SS j = isF bl NS SS j := by
  by_cases e : j = a
  · subst e; unfold isF; rw [cont_snoc, beq_self_eq_true, Bool.or_true, h]
  · exact isF_node e
theorem isF_addS {bl NS SS : List Int} {a : Nat} (h : SS.contains (a : Int) = false) : isF bl NS SS a + 4 = isF bl NS (SS ++ [(a : Int)]) a := by
  unfold isF
  rw [cont_snoc, beq_self_eq_true, Bool.or_true, h, if_pos rfl, if_neg Bool.false_ne_true]; omega
theorem isF_sameS {bl NS SS : List Int} {a : Nat} (h : SS.contains (a : Int) = true) (j : Nat) : isF bl NS (SS ++ [(a : Int)]) j = isF bl NS SS j := by
  by_cases e : j = a
  · subst e; unfold isF; rw [cont_snoc, beq_self_eq_true, Bool.or_true, h]
  · exact isF_sec e
theorem isv_set (l : List Int) (i : Nat) (x : Int) : (is l).set (0 + i * 1) (.int .i64 x) = is (l.set i x) := by unfold is; rw [List.map_set, Nat.zero_add, Nat.mul_one]
/-- The first block that is two things. -/
theorem badI_cl {B : Nat} {bl NS SS : List Int} {T : List (List Int × List Int)} {bad : Nat} (b : BadI B bl NS SS bad) (hc : ∀ j, cfP bl NS SS j = clP bl (T.map fun t => (0, t)) j) : clV B bl T = if bad < B then (bad : Int) else 0 := by
  unfold clV
  by_cases h : bad < B
  · rw [if_pos h]
    have hb := b.is h
    rw [hc] at hb
    have := find_first (p := clP bl (T.map fun t => (0, t))) (l := List.range B) (i := bad) (by rw [List.length_range]; exact h) (fun j hj hjb => by
      rw [List.getElem_range]
      cases e : clP bl (T.map fun t => (0, t)) j with
      | false => rfl
      | true =>
        rw [← hc] at e
        have := b.lo j (by omega) e
        omega) (by rw [List.getElem_range]; exact hb)
    rw [this, List.getElem_range]
  · rw [if_neg h, List.find?_eq_none.2 (fun j hj => by
      have hj := List.mem_range.1 hj
      intro e
      rw [← hc] at e
      have := b.lo j hj e
      have := b.le
      omega)]
def nsO (L : List Int) (T : List (Int × Int)) : List Int := T.flatMap fun p => treeN L p.1
def ssO (L : List Int) (T : List (Int × Int)) : List Int := T.flatMap fun p => (treeM L p.1).filter (· != 0)
theorem cf_cl (L : List Int) (bl : List Int) (T : List (Int × Int)) (j : Nat) : cfP bl (nsO L T) (ssO L T) j = clP bl ((T.map fun p => (treeM L p.1, treeN L p.1)).map fun t => (0, t)) j := by
  have e1 : (nsO L T).contains (j : Int) = isN ((T.map fun p => (treeM L p.1, treeN L p.1)).map fun t => (0, t)) j := by
    unfold nsO isN
    rw [List.map_map, List.any_map, List.contains_eq_any_beq, List.any_flatMap]
    refine congrArg (T.any ·) (funext fun p => ?_)
    show _ = (treeN L p.1).contains (j : Int)
    rw [List.contains_eq_any_beq]
  have e2 : (ssO L T).contains (j : Int) = isS ((T.map fun p => (treeM L p.1, treeN L p.1)).map fun t => (0, t)) j := by
    unfold ssO isS
    rw [List.map_map, List.any_map, List.contains_eq_any_beq, List.any_flatMap]
    refine congrArg (T.any ·) (funext fun p => ?_)
    show _ = (decide (j ≠ 0) && (treeM L p.1).contains (j : Int))
    rw [List.any_filter, List.contains_eq_any_beq]
    by_cases h0 : j = 0
    · subst h0
      rw [show decide ((0 : Nat) ≠ 0) = false from rfl, Bool.false_and, List.any_eq_false]
      intro x _
      by_cases hx : x = 0
      · subst hx; decide
      · have : ((((0 : Nat) : Int)) == x) = false := beq_eq_false_iff_ne.2 (fun e => hx e.symm)
        rw [this]; simp
    · rw [decide_eq_true h0, Bool.true_and]
      refine congrArg ((treeM L p.1).any ·) (funext fun x => ?_)
      by_cases hx : x = 0
      · subst hx
        have : ((j : Int) == 0) = false := beq_eq_false_iff_ne.2 (by omega)
        rw [this]; rfl
      · rw [show (x != 0) = true from bne_iff_ne.2 hx, Bool.true_and]
  unfold cfP clP
  rw [e1, e2]
theorem isF_w1 (bl NS SS : List Int) (a : Nat) : fwrap .i64 ((isF bl NS SS a).tdiv 2) = (isF bl NS SS a).tdiv 2 := by
  unfold isF
  cases NS.contains (a : Int) <;> cases bl.contains (a : Int) <;> cases SS.contains (a : Int) <;> rfl
theorem isF_w2 (bl NS SS : List Int) (a : Nat) : fwrap .i64 ((isF bl NS SS a).tdiv 4) = (isF bl NS SS a).tdiv 4 := by
  unfold isF
  cases NS.contains (a : Int) <;> cases bl.contains (a : Int) <;> cases SS.contains (a : Int) <;> rfl
theorem isA_zero (B : Nat) : isA B [] [] [] = List.replicate B 0 := by
  unfold isA
  apply List.ext_getElem?
  intro j
  rw [List.getElem?_map, List.getElem?_replicate]
  by_cases h : j < B
  · rw [List.getElem?_range h, if_pos h]; rfl
  · rw [List.getElem?_eq_none (by rw [List.length_range]; omega), if_neg h]; rfl
theorem isA_bl {B : Nat} {bl : List Int} {i a : Nat} (hi : i < bl.length) (ha : bl[i] = (a : Int)) (hB : a < B) : (isA B (bl.take i) [] []).set a 2 = isA B (bl.take (i + 1)) [] [] := by
  have e : bl.take (i + 1) = bl.take i ++ [(a : Int)] := by rw [List.take_succ_eq_append_getElem hi, ha]
  have h2 : isF (bl.take (i + 1)) [] [] a = 2 := by
    unfold isF
    rw [e, cont_snoc, beq_self_eq_true, Bool.or_true]; rfl
  rw [← h2]
  refine isA_set hB (fun j hj => ?_)
  unfold isF
  rw [e, cont_snoc, show ((j : Int) == (a : Int)) = false from beq_eq_false_iff_ne.2 (by omega), Bool.or_false]
theorem minNat (a b : Nat) : (cond (decide ((b : Int) < (a : Int))) (b : Int) (a : Int)) = ((min a b : Nat) : Int) := by
  by_cases h : b < a
  · rw [decide_eq_true (by omega)]; show (b : Int) = _; omega
  · rw [decide_eq_false (by omega)]; show (a : Int) = _; omega
theorem badI_init (B : Nat) (bl : List Int) : BadI B bl [] [] B := ⟨Nat.le_refl _, fun j hj hc => by unfold cfP at hc; simp at hc, fun h => absurd h (Nat.lt_irrefl _)⟩
theorem nth_sl {cs : List Value} {i : Nat} {w : Value} (h : cs[i]? = some w) : apart prog 27 cs (i * 1) = some w := by
  show nth cs (i * 1) = _
  rw [Nat.mul_one, nth_eq, h]
end Go.Proofs.Ytnokcbenpnmnbaa
end
