/- SuperExact: a calculus over an abstract machine that stands beside the model, and contracts of functions by it (part 4).
Conditions: what each theorem says of its arguments. -/
import Derived.Test.YtaaemamcdhebhaaGSuperExact3
section
set_option linter.unusedVariables false
set_option maxRecDepth 100000
open Go Go.Am
namespace Go.Proofs.Ytaaemamcdhebhaa
open Go.Proofs.Try
abbrev S5 := Int × Int × Int × Int × Int
def sc5 (s : S5) : List Value := sc s.1 s.2.1 s.2.2.1 s.2.2.2.1 s.2.2.2.2
def sVal (l : List Int) : S5 := if sCode l = 0 then (sGet l 4 8, sGet l 12 4, sGet l 16 4, sGet l 20 4, sGet l 24 4) else (0, 0, 0, 0, 0)
theorem sCells_eq (l : List Int) : sCells l = sc5 (sVal l) := by unfold sCells sVal; split <;> rfl
/-- A slot looked at. -/
def pickStep (l : List Int) (st : S5 × Int × Bool) (i : Nat) : S5 × Int × Bool :=
  if (sCode (blkI l i) == 0 && ((sVal (blkI l i)).2.1 == ((l.length / 64 : Nat) : Int) && (!st.2.2 || decide ((sVal (blkI l i)).1 > st.1.1)))) = true then (sVal (blkI l i), (i : Int), true) else st
def pickS (l : List Int) : S5 × Int × Bool := (List.range 2).foldl (pickStep l) ((0, 0, 0, 0, 0), 0, false)
/-- Which superblock stands, in which slot; why none does. -/
def pickCode (l : List Int) : Int := if devOk l.length then (if (pickS l).2.2 then 0 else 8) else 2
theorem superPick_ok {h : Heap} {A : Option Addr} {c : Nat} {l : List Int} (ra : devOk l.length = true → ∃ a, A = some a ∧ Rd h a (us l)) (hb : Byt l) (hc : Cp 1 l.length c) (hm : l.length ≤ 4611686018427387904) :
    RunF prog 34 [.slice A l.length c] h fun v h' => v = .tuple #[.agg ⟨sc5 (if pickCode l = 0 then (pickS l).1 else (0, 0, 0, 0, 0))⟩, .int .i64 (if pickCode l = 0 then (pickS l).2.1 else 0), .int .i64 (pickCode l)] ∧ Fr no h h' := by
  refine RunF.walk func34 rfl rfl ?_
  refine RunC.seq (RunC.region (RunO.all (h1 := h.push ⟨sc 0 0 0 0 0, true⟩) rfl ?_))
  have ow : Ow (h.push ⟨sc 0 0 0 0 0, true⟩) h.next (sc 0 0 0 0 0) := Ow.push _ _
  have f1 : Fr (fun b => h.next ≤ b) h (h.push ⟨sc 0 0 0 0 0, true⟩) := Fr.push _ _ _
  generalize h.push ⟨sc 0 0 0 0 0, true⟩ = h1 at *
  refine RunC.seq (RunC.region (RunO.part 1 rfl ?_))
  refine RunO.callD (devCheck_ok hm) rfl rfl rfl ?_
  rintro _ _ ⟨rfl, rfl⟩
  refine RunO.all rfl ?_
  cases hd : devOk l.length with
  | false =>
    have hp : pickCode l = 2 := by unfold pickCode; rw [hd]; rfl
    rw [hp]
    refine RunC.seq (RunC.seq (RunC.region (RunO.all rfl (RunC.cond rfl (fun _ => ?_) (fun g => by cases g)))))
    refine RunC.seq (RunC.region (RunO.part 2 rfl ?_))
    refine RunO.store rfl rfl (store_ow (s := 5) ow rfl rfl rfl (Nat.le_refl 5)) ?_
    refine RunO.all rfl ?_
    refine RunC.ret ⟨_, eresults_cell2 rfl ((Ow.put (cs := sc 0 0 0 0 0) ow.1).all.part (k := 0) rfl) rfl rfl, rfl, ?_⟩
    exact frNo (f1.same (Fr.put _ (.inl (Nat.le_refl _))))
  | true =>
  obtain ⟨⟨b, o, sp⟩, rfl, rd⟩ := ra hd
  have hsp : sp = none := rd.1
  subst hsp
  have hb0 : b < h.next := rd.2.1
  have hp : pickCode l = if (pickS l).2.2 then 0 else 8 := by unfold pickCode; rw [hd]; rfl
  have hlen : 256 ≤ l.length := by
    unfold devOk at hd
    simp at hd
    omega
  refine RunC.seq (RunC.seq (RunC.region (RunO.all rfl (RunC.cond rfl (fun g => by cases g) (fun _ => RunC.skip ?_)))))
  refine RunC.seq (RunC.region (RunO.all rfl ?_))
  refine RunC.seq (RunC.seq (RunC.region (RunO.all rfl ?_)))
  refine RunC.block ?_
  let I : Nat → Env → Heap → Prop := fun d E h' => ∃ (i : Nat) (st : S5 × Int × Bool), i + d = 2 ∧ st = (List.range i).foldl (pickStep l) ((0, 0, 0, 0, 0), 0, false) ∧ Ow h' h.next (sc5 st.1) ∧ Fr (fun b => h.next ≤ b) h h' ∧ Le (upd (upd (upd (upd (upd (upd E0 0 (.slice (some ⟨b, o, none⟩) l.length c)) 2 (.pointer (some ⟨h.next, 0, none⟩))) 3 (.int .i64 st.2.1)) 5 (.int .i64 (l.length / 64 : Nat))) 6 (.bool st.2.2)) 19 (.int .i64 i)) E
  refine RunC.loop I ?_ (k := 2) ?_
  · rintro d E h' ⟨i, ⟨sv, slot, met⟩, hi, hst, ow, hf, hE⟩
    refine RunC.le hE ?_
    clear hE
    refine RunC.seq (RunC.region (RunO.all rfl ?_))
    refine RunC.seq (RunC.cond rfl (fun hlt => ?_) (fun hge => ?_))
    · have hlt := of_decide_eq_true hlt
      have hlt2 : i < 2 := by omega
      have hstep : (List.range (i + 1)).foldl (pickStep l) ((0, 0, 0, 0, 0), 0, false) = pickStep l (sv, slot, met) i := by rw [foldl_range_succ, ← hst]
      have hil : (i + 1) * 64 ≤ l.length := by omega
      refine RunC.skip ?_
      refine RunC.seq (RunC.block ?_)
      refine RunC.seq (RunC.region (RunO.all rfl ?_))
      refine RunC.seq (RunC.region (RunO.part 2 rfl ?_))
      refine RunO.callD (devOf_ok hil hm hc) rfl rfl rfl ?_
      rintro _ _ ⟨⟨c', hc', rfl⟩, rfl⟩
      have hbl := blkI_len hil
      have rdb := rdBlk (rd.fr hf (by show ¬ h.next ≤ b; omega)) hil
      have hparse := superParse_ok (A := some ⟨b, o + i * 64, none⟩) (c := c') (fun _ => ⟨_, rfl, rdb⟩) (byt_blk hb i) (by rw [hbl]; exact hc')
      rw [hbl] at hparse
      refine RunO.callD hparse rfl rfl rfl ?_
      rintro v h2 ⟨rfl, hf2⟩
      have ow2 := ow.fr hf2 (fun g => g)
      have hfh2 := hf.quiet hf2
      rw [sCells_eq]
      have hps : pickStep l (sv, slot, met) i = if (sCode (blkI l i) == 0 && ((sVal (blkI l i)).2.1 == ((l.length / 64 : Nat) : Int) && (!met || decide ((sVal (blkI l i)).1 > sv.1)))) = true then (sVal (blkI l i), (i : Int), true) else (sv, slot, met) := rfl
      generalize sVal (blkI l i) = x at *
      generalize sCode (blkI l i) = cd at *
      obtain ⟨xg, xb, xr, xs, xf⟩ := x
      change RunO _ _ _ _ (upd _ 26 (.tuple #[.agg ⟨sc xg xb xr xs xf⟩, .int .i64 cd])) _ _
      refine RunO.part 4 (h1 := h2.push ⟨sc 0 0 0 0 0, true⟩) rfl ?_
      refine RunO.store rfl rfl (store_ow (s := 5) (Ow.push h2 (sc 0 0 0 0 0)) rfl rfl rfl (by decide)) ?_
      change RunO _ _ _ _ _ ((h2.push ⟨sc 0 0 0 0 0, true⟩).put h2.next (some ⟨sc xg xb xr xs xf, true⟩)) _
      have ow4 : Ow ((h2.push ⟨sc 0 0 0 0 0, true⟩).put h2.next (some ⟨sc xg xb xr xs xf, true⟩)) h2.next (sc xg xb xr xs xf) := Ow.put _ (Nat.lt_succ_self _)
      have f4 : Fr no h2 ((h2.push ⟨sc 0 0 0 0 0, true⟩).put h2.next (some ⟨sc xg xb xr xs xf, true⟩)) := (Fr.push _ _ _).trans (Fr.put (m := (· = h2.next)) _ (.inl rfl)) (fun j hj => .inr (by omega))
      generalize (h2.push ⟨sc 0 0 0 0 0, true⟩).put h2.next (some ⟨sc xg xb xr xs xf, true⟩) = h4 at *
      have ow5 := ow2.fr f4 (fun g => g)
      have hfh4 := hfh2.quiet f4
      have hn2 : h.next ≤ h2.next := hfh2.next
      have hne : h2.next ≠ h.next := by have := ow2.1; omega
      generalize h2.next = p at *
      refine RunO.all rfl ?_
      refine RunC.seqE (upd (upd (upd (upd (upd (upd (upd (upd (upd E0 0 (.slice (some ⟨b, o, none⟩) l.length c)) 2 (.pointer (some ⟨h.next, 0, none⟩))) 3 (.int .i64 slot)) 5 (.int .i64 (l.length / 64 : Nat))) 6 (.bool met)) 7 (.int .i64 i)) 8 (.pointer (some ⟨p, 0, none⟩))) 19 (.int .i64 i)) 47 (.bool (cd == 0 && (xb == ((l.length / 64 : Nat) : Int) && (!met || decide (xg > sv.1)))))) ?_ ?_
      · refine RunC.region (RunO.part 3 rfl ?_)
        cases (cd == 0) with
        | false => exact RunO.all rfl ⟨rfl, Le.cons rfl (Le.cons rfl (Le.cons rfl (Le.cons rfl (Le.cons rfl (Le.cons rfl (Le.cons rfl (Le.cons rfl (Le.cons rfl (Le.nil _)))))))))⟩
        | true =>
          refine RunO.part 1 rfl ?_
          refine RunO.loadG (v := .int .i64 xb) rfl rfl (ow4.all.cell1 (k := 1) rfl rfl) rfl ?_
          refine RunO.part 2 rfl ?_
          cases (xb == ((l.length / 64 : Nat) : Int)) with
          | false => exact RunO.all rfl ⟨rfl, Le.cons rfl (Le.cons rfl (Le.cons rfl (Le.cons rfl (Le.cons rfl (Le.cons rfl (Le.cons rfl (Le.cons rfl (Le.cons rfl (Le.nil _)))))))))⟩
          | true =>
            refine RunO.part 2 rfl ?_
            cases met with
            | false => exact RunO.all rfl ⟨rfl, Le.cons rfl (Le.cons rfl (Le.cons rfl (Le.cons rfl (Le.cons rfl (Le.cons rfl (Le.cons rfl (Le.cons rfl (Le.cons rfl (Le.nil _)))))))))⟩
            | true =>
              refine RunO.part 4 rfl ?_
              refine RunO.loadG (v := .int .i64 xg) rfl rfl (ow4.all.cell1 (k := 0) rfl rfl) rfl ?_
              refine RunO.part 1 rfl ?_
              refine RunO.loadG (v := .int .i64 sv.1) rfl rfl (ow5.all.cell1 (k := 0) rfl rfl) rfl ?_
              exact RunO.all rfl ⟨rfl, Le.cons rfl (Le.cons rfl (Le.cons rfl (Le.cons rfl (Le.cons rfl (Le.cons rfl (Le.cons rfl (Le.cons rfl (Le.cons rfl (Le.nil _)))))))))⟩
      change pickStep l (sv, slot, met) i = if (cd == 0 && (xb == ((l.length / 64 : Nat) : Int) && (!met || decide (xg > sv.1)))) = true then ((xg, xb, xr, xs, xf), (i : Int), true) else (sv, slot, met) at hps
      generalize (cd == 0 && (xb == ((l.length / 64 : Nat) : Int) && (!met || decide (xg > sv.1)))) = B at *
      cases B with
      | true =>
        refine RunC.cond rfl (fun _ => ?_) (fun g => by cases g)
        refine RunC.region ?_
        refine RunO.load (v := .agg ⟨sc xg xb xr xs xf⟩) rfl (ow4.all.part (k := 0) rfl) rfl ?_
        refine RunO.part 1 rfl ?_
        refine RunO.store rfl rfl (store_ow (s := 5) ow5 rfl rfl rfl (Nat.le_refl 5)) ?_
        refine RunO.all rfl ?_
        refine RunC.region (RunO.all rfl ?_)
        refine ⟨d - 1, by omega, i + 1, _, by omega, rfl, ?_, ?_, ?_⟩
        · rw [hstep, hps]; exact Ow.put _ ow5.1
        · exact hfh4.same (Fr.put _ (.inl (Nat.le_refl _)))
        · rw [hstep, hps]
          exact Le.cons (inc64 (by omega)) (Le.cons rfl (Le.cons rfl (Le.cons rfl (Le.cons rfl (Le.cons rfl (Le.nil _))))))
      | false =>
        refine RunC.cond rfl (fun g => by cases g) (fun _ => RunC.skip ?_)
        refine RunC.region (RunO.all rfl ?_)
        refine ⟨d - 1, by omega, i + 1, _, by omega, rfl, ?_, ?_, ?_⟩
        · rw [hstep, hps]; exact ow5
        · exact hfh4
        · rw [hstep, hps]
          exact Le.cons (inc64 (by omega)) (Le.cons rfl (Le.cons rfl (Le.cons rfl (Le.cons rfl (Le.cons rfl (Le.nil _))))))
    · have hge := of_decide_eq_false hge
      refine RunC.exit ?_
      have hi2 : i = 2 := by omega
      subst hi2
      have hpk : pickS l = (sv, slot, met) := hst.symm
      rw [hp, hpk]
      cases met with
      | false =>
        refine RunC.seq (RunC.seq (RunC.region (RunO.all rfl (RunC.cond rfl (fun _ => ?_) (fun g => by cases g)))))
        refine RunC.seq (RunC.region (RunO.part 1 rfl ?_))
        refine RunO.store rfl rfl (store_ow (s := 5) ow rfl rfl rfl (Nat.le_refl 5)) ?_
        refine RunO.all rfl ?_
        refine RunC.ret ⟨_, eresults_cell2 rfl ((Ow.put (cs := sc 0 0 0 0 0) ow.1).all.part (k := 0) rfl) rfl rfl, rfl, ?_⟩
        exact frNo (hf.same (Fr.put _ (.inl (Nat.le_refl _))))
      | true =>
        refine RunC.seq (RunC.seq (RunC.region (RunO.all rfl (RunC.cond rfl (fun g => by cases g) (fun _ => RunC.skip ?_)))))
        refine RunC.seq (RunC.region ?_)
        refine RunO.load (v := .agg ⟨sc5 sv⟩) rfl (ow.all.part (k := 0) rfl) rfl ?_
        refine RunO.part 1 rfl ?_
        refine RunO.store rfl rfl (store_ow (s := 5) ow rfl rfl rfl (Nat.le_refl 5)) ?_
        refine RunO.all rfl ?_
        refine RunC.ret ⟨_, eresults_cell2 rfl ((Ow.put (cs := sc5 sv) ow.1).all.part (k := 0) rfl) rfl rfl, rfl, ?_⟩
        exact frNo (hf.same (Fr.put _ (.inl (Nat.le_refl _))))
  · exact ⟨0, ((0, 0, 0, 0, 0), 0, false), by omega, rfl, ow, f1, Le.cons rfl (Le.cons rfl (Le.cons rfl (Le.cons rfl (Le.cons rfl (Le.cons rfl (Le.nil _))))))⟩
end Go.Proofs.Ytaaemamcdhebhaa
end
section
set_option linter.unusedVariables false
set_option maxRecDepth 100000
open Go Go.Am
namespace Go.Proofs.Ytaaemamcdhebhaa
open Go.Proofs.Try
theorem super_eq (a b c d e a' b' c' d' e' : Int) : abinop prog .eql 56 (.agg ⟨sc a b c d e⟩) (.agg ⟨sc a' b' c' d' e'⟩) = some (.bool (a == a' && (b == b' && (c == c' && (d == d' && e == e'))))) := by
  have h : abinop prog .eql 56 (.agg ⟨sc a b c d e⟩) (.agg ⟨sc a' b' c' d' e'⟩) = eqOp .eql (match some (a == a') with
    | some true => (match some (b == b') with
      | some true => (match some (c == c') with
        | some true => (match some (d == d') with
          | some true => (match some (e == e') with
            | some true => some true
            | some false => some false
            | none => none)
          | some false => some false
          | none => none)
        | some false => some false
        | none => none)
      | some false => some false
      | none => none)
    | some false => some false
    | none => none) := by kernel_rfl
  rw [h]
  cases (a == a') <;> cases (b == b') <;> cases (c == c') <;> cases (d == d') <;> cases (e == e') <;> rfl
theorem super_ne (a b c d e a' b' c' d' e' : Int) : abinop prog .neq 56 (.agg ⟨sc a b c d e⟩) (.agg ⟨sc a' b' c' d' e'⟩) = some (.bool (!(a == a' && (b == b' && (c == c' && (d == d' && e == e')))))) := by
  have h : eqOp .eql (aequal prog 56 (.agg ⟨sc a b c d e⟩) (.agg ⟨sc a' b' c' d' e'⟩)) = some (.bool (a == a' && (b == b' && (c == c' && (d == d' && e == e'))))) := super_eq a b c d e a' b' c' d' e'
  show eqOp .neq (aequal prog 56 (.agg ⟨sc a b c d e⟩) (.agg ⟨sc a' b' c' d' e'⟩)) = _
  generalize aequal prog 56 (.agg ⟨sc a b c d e⟩) (.agg ⟨sc a' b' c' d' e'⟩) = r at h ⊢
  match r, h with
  | some x, h =>
    have h : some (Value.bool x) = _ := h
    cases h; rfl
  | none, h => cases h
end Go.Proofs.Ytaaemamcdhebhaa
end
section
set_option linter.unusedVariables false
set_option maxRecDepth 100000
open Go Go.Am
namespace Go.Proofs.Ytaaemamcdhebhaa
open Go.Proofs.Try
theorem superOk_iff (g bl rt sz fi : Int) : superOk g bl rt sz fi = true ↔ (1 ≤ g ∧ g ≤ 1099511627776) ∧ (4 ≤ bl ∧ bl ≤ 4096) ∧ (0 ≤ sz ∧ sz ≤ 512) ∧ (rt = 0 ∨ 2 ≤ rt ∧ rt ≤ bl - 1) ∧ (fi = 0 ∨ 2 ≤ fi ∧ fi ≤ bl - 1) := by
  unfold superOk
  rw [Bool.and_eq_true, Bool.and_eq_true, Bool.and_eq_true, Bool.and_eq_true, Bool.or_eq_true, Bool.or_eq_true, inB_iff, inB_iff, inB_iff, inB_iff, inB_iff, beq_iff_eq, beq_iff_eq]
  constructor
  · rintro ⟨⟨⟨h1, h2⟩, h3⟩, h4, h5⟩
    rw [fw64 (by omega) (by omega)] at h4 h5
    exact ⟨h1, h2, h3, h4, h5⟩
  · rintro ⟨h1, h2, h3, h4, h5⟩
    rw [fw64 (by omega) (by omega)]
    exact ⟨⟨⟨h1, h2⟩, h3⟩, h4, h5⟩
theorem super_fits {g bl rt sz fi : Int} (h : superOk g bl rt sz fi = true) : Fits [8, 4, 4, 4, 4] [g, bl, rt, sz, fi] := by
  rw [superOk_iff] at h
  obtain ⟨h1, h2, h3, h4, h5⟩ := h
  have e8 : (256 : Int) ^ 8 = 18446744073709551616 := by decide
  have e4 : (256 : Int) ^ 4 = 4294967296 := by decide
  refine ⟨⟨by omega, by rw [e8]; omega, by omega⟩, ⟨by omega, by rw [e4]; omega, by omega⟩, ⟨by omega, by rw [e4]; omega, by omega⟩, ⟨by omega, by rw [e4]; omega, by omega⟩, ⟨by omega, by rw [e4]; omega, by omega⟩, trivial⟩
theorem superBlock_len (g bl rt sz fi : Int) : (superBlock g bl rt sz fi).length = 64 := makeB_len rfl rfl (by decide)
theorem superBlock_byt (g bl rt sz fi : Int) : Byt (superBlock g bl rt sz fi) := makeB_byt (by unfold Byt; decide) rfl rfl (by decide)
/-- What is written is read. -/
theorem super_back {g bl rt sz fi : Int} (h : superOk g bl rt sz fi = true) : sCode (superBlock g bl rt sz fi) = 0 ∧ sVal (superBlock g bl rt sz fi) = (g, bl, rt, sz, fi) := by
  obtain ⟨h1, h2⟩ := read_make (mb := [87, 67, 85, 84]) rfl (super_fits h) (by decide)
  have h1 : readB sMag sLay (superBlock g bl rt sz fi) = 0 := h1
  have h2 : [sGet (superBlock g bl rt sz fi) 4 8, sGet (superBlock g bl rt sz fi) 12 4, sGet (superBlock g bl rt sz fi) 16 4, sGet (superBlock g bl rt sz fi) 20 4, sGet (superBlock g bl rt sz fi) 24 4] = [g, bl, rt, sz, fi] := h2
  simp only [List.cons.injEq, and_true] at h2
  obtain ⟨e0, e1, e2, e3, e4⟩ := h2
  have hc : sCode (superBlock g bl rt sz fi) = 0 := by
    unfold sCode
    rw [if_pos h1, e0, e1, e2, e3, e4, h]; rfl
  refine ⟨hc, ?_⟩
  unfold sVal
  rw [if_pos hc, e0, e1, e2, e3, e4]
theorem rep_blk (n i : Nat) (h : (i + 1) * 64 ≤ n) : blkI (List.replicate n 0) i = List.replicate 64 0 := by
  unfold blkI
  rw [List.drop_replicate, List.take_replicate]
  congr 1; omega
theorem sCode_zeros : sCode (List.replicate 64 0) = 4 := by
  have h : readB sMag sLay (List.replicate 64 0) = 4 := by
    unfold readB
    rw [if_neg (by simp), if_pos (by decide)]
  unfold sCode
  rw [h]; rfl
theorem pick_zeros : pickCode (List.replicate 256 0) = 8 := by
  have h : pickS (List.replicate 256 0) = ((0, 0, 0, 0, 0), 0, false) := by
    unfold pickS
    rw [show List.range 2 = [0, 1] by decide]
    simp only [List.foldl]
    unfold pickStep
    rw [rep_blk 256 0 (by decide), rep_blk 256 1 (by decide), sCode_zeros]
    rfl
  unfold pickCode
  rw [h]; rfl
theorem wakes06_ok {h : Heap} : RunF prog 40 [] h fun v h' => v = .bool true ∧ Fr no h h' := by
  refine RunF.walk func40 rfl rfl ?_
  refine RunC.seq (RunC.region (RunO.all rfl ?_))
  refine RunC.seq (RunC.region (RunO.part 2 (h1 := h.push ⟨sc 0 0 0 0 0, true⟩) rfl ?_))
  refine RunO.store rfl rfl (store_ow (s := 5) (Ow.push h (sc 0 0 0 0 0)) rfl rfl rfl (by decide)) (RunO.nil ?_)
  change RunC _ _ _ _ ((h.push ⟨sc 0 0 0 0 0, true⟩).put h.next (some ⟨sc 5 4 0 3 0, true⟩)) _ _ _
  have ow1 : Ow ((h.push ⟨sc 0 0 0 0 0, true⟩).put h.next (some ⟨sc 5 4 0 3 0, true⟩)) h.next (sc 5 4 0 3 0) := Ow.put _ (Nat.lt_succ_self _)
  have f1 : Fr no h ((h.push ⟨sc 0 0 0 0 0, true⟩).put h.next (some ⟨sc 5 4 0 3 0, true⟩)) := (Fr.push _ _ _).trans (Fr.put (m := (· = h.next)) _ (.inl rfl)) (fun j hj => .inr (by omega))
  generalize (h.push ⟨sc 0 0 0 0 0, true⟩).put h.next (some ⟨sc 5 4 0 3 0, true⟩) = h1 at *
  generalize h.next = p1 at *
  refine RunC.seq (RunC.region ?_)
  refine RunO.load (v := .agg ⟨sc 5 4 0 3 0⟩) rfl (ow1.all.part (k := 0) rfl) rfl ?_
  refine RunO.callD superBytes_ok rfl rfl rfl ?_
  rintro v h2 ⟨f2, hv⟩
  have hok : superOk 5 4 0 3 0 = true := by decide
  rcases hv with ⟨_, b, hb, rfl, ob⟩ | ⟨hno, _⟩
  case inr => rw [hok] at hno; cases hno
  have ow2 := ow1.fr f2 (fun g => g)
  have f12 := f1.same f2
  refine RunO.all rfl ?_
  have hback := super_back hok
  refine RunC.seq (RunC.region (RunO.part 1 rfl ?_))
  have hparse := superParse_ok (h := h2) (A := some ⟨b, 0, none⟩) (c := exc 64) (l := superBlock 5 4 0 3 0) (fun _ => ⟨_, rfl, ob.all⟩) (superBlock_byt _ _ _ _ _) (Cp.exc (by rw [superBlock_len]; exact Nat.le_refl _))
  rw [superBlock_len] at hparse
  refine RunO.callD hparse rfl rfl rfl ?_
  rintro v h3 ⟨rfl, f3⟩
  rw [sCells_eq, hback.1, hback.2]
  have ow3 := ow2.fr f3 (fun g => g)
  have f13 := f12.same f3
  refine RunO.part 4 (h1 := h3.push ⟨sc 0 0 0 0 0, true⟩) rfl ?_
  refine RunO.store rfl rfl (store_ow (s := 5) (Ow.push h3 (sc 0 0 0 0 0)) rfl rfl rfl (by decide)) ?_
  refine RunO.all rfl ?_
  change RunC _ _ _ _ ((h3.push ⟨sc 0 0 0 0 0, true⟩).put h3.next (some ⟨sc 5 4 0 3 0, true⟩)) _ _ _
  have ow4 : Ow ((h3.push ⟨sc 0 0 0 0 0, true⟩).put h3.next (some ⟨sc 5 4 0 3 0, true⟩)) h3.next (sc 5 4 0 3 0) := Ow.put _ (Nat.lt_succ_self _)
  have f4 : Fr no h3 ((h3.push ⟨sc 0 0 0 0 0, true⟩).put h3.next (some ⟨sc 5 4 0 3 0, true⟩)) := (Fr.push _ _ _).trans (Fr.put (m := (· = h3.next)) _ (.inl rfl)) (fun j hj => .inr (by omega))
  generalize (h3.push ⟨sc 0 0 0 0 0, true⟩).put h3.next (some ⟨sc 5 4 0 3 0, true⟩) = h4 at *
  generalize h3.next = p3 at *
  have ow14 := ow3.fr f4 (fun g => g)
  have f14 := f13.same f4
  refine RunC.seq (RunC.region (RunO.part 1 (h1 := h4.push ⟨us (List.replicate 256 0), true⟩) rfl ?_))
  have oz := Ow.push h4 (us (List.replicate 256 0))
  have f5 : Fr no h4 (h4.push ⟨us (List.replicate 256 0), true⟩) := Fr.push _ _ _
  generalize h4.push ⟨us (List.replicate 256 0), true⟩ = h5 at *
  have ow15 := ow14.fr f5 (fun g => g)
  have ow45 := ow4.fr f5 (fun g => g)
  have f15 := f14.same f5
  have hpick := superPick_ok (h := h5) (A := some ⟨h4.next, 0, none⟩) (c := exc 256) (l := List.replicate 256 0) (fun _ => ⟨_, rfl, oz.all⟩) (byt_rep _) (Cp.exc (by rw [List.length_replicate]; exact Nat.le_refl _)) (by rw [List.length_replicate]; omega)
  rw [List.length_replicate, pick_zeros] at hpick
  generalize h4.next = p4 at *
  refine RunO.callD hpick rfl rfl rfl ?_
  rintro v h6 ⟨rfl, f6⟩
  have ow16 := ow15.fr f6 (fun g => g)
  have ow46 := ow45.fr f6 (fun g => g)
  have f16 := f15.same f6
  refine RunO.part 5 (h1 := h6.push ⟨sc 0 0 0 0 0, true⟩) rfl ?_
  refine RunO.store rfl rfl (store_ow (s := 5) (Ow.push h6 (sc 0 0 0 0 0)) rfl rfl rfl (by decide)) ?_
  refine RunO.all rfl ?_
  have f7 : Fr no h6 ((h6.push ⟨sc 0 0 0 0 0, true⟩).put h6.next (some ⟨sc 0 0 0 0 0, true⟩)) := (Fr.push _ _ _).trans (Fr.put (m := (· = h6.next)) _ (.inl rfl)) (fun j hj => .inr (by omega))
  change RunC _ _ _ _ ((h6.push ⟨sc 0 0 0 0 0, true⟩).put h6.next (some ⟨sc 0 0 0 0 0, true⟩)) _ _ _
  generalize (h6.push ⟨sc 0 0 0 0 0, true⟩).put h6.next (some ⟨sc 0 0 0 0 0, true⟩) = h7 at *
  have ow17 := ow16.fr f7 (fun g => g)
  have ow47 := ow46.fr f7 (fun g => g)
  have f17 := f16.same f7
  refine RunC.seq (RunC.region (RunO.part 12 rfl ?_))
  refine RunO.loadG (v := .agg ⟨sc 5 4 0 3 0⟩) rfl rfl (ow47.all.part (k := 0) rfl) rfl ?_
  refine RunO.loadG (v := .agg ⟨sc 5 4 0 3 0⟩) rfl rfl (ow17.all.part (k := 0) rfl) rfl ?_
  refine RunO.oneG (v := .bool true) (E1 := upd _ 40 (.bool true)) (h1 := h7) rfl (by show pureR h7 (abinop prog .eql 56 (.agg ⟨sc 5 4 0 3 0⟩) (.agg ⟨sc 5 4 0 3 0⟩)) = _; rw [super_eq]; rfl) rfl ?_
  refine RunO.part 7 rfl ?_
  refine RunO.callDG rfl (superCheck_ok (g := 0) (bl := 0) (rt := 0) (sz := 0) (fi := 0)) rfl rfl rfl ?_
  rintro v h8 ⟨rfl, f8⟩
  rw [show (if superOk 0 0 0 0 0 then (0 : Int) else 1) = 1 by decide]
  refine RunO.all rfl (RunC.ret ⟨_, rfl, rfl, f17.same f8⟩)
end Go.Proofs.Ytaaemamcdhebhaa
end
section
set_option linter.unusedVariables false
set_option maxRecDepth 100000
open Go Go.Am
namespace Go.Proofs.Ytaaemamcdhebhaa
open Go.Proofs.Try
theorem refSuper_ok {h : Heap} {g bl rt sz fi : Int} : RunF prog 36 [.agg ⟨sc g bl rt sz fi⟩] h fun v h' => v = .bool (superOk g bl rt sz fi) ∧ Fr no h h' := by
  refine RunF.walk func36 rfl rfl ?_
  refine RunC.seq (RunC.region (RunO.all (h1 := h.push ⟨sc g bl rt sz fi, true⟩) rfl ?_))
  have ow : Ow (h.push ⟨sc g bl rt sz fi, true⟩) h.next (sc g bl rt sz fi) := Ow.push _ _
  have f1 : Fr no h (h.push ⟨sc g bl rt sz fi, true⟩) := Fr.push _ _ _
  generalize h.push ⟨sc g bl rt sz fi, true⟩ = h1 at *
  generalize h.next = p at *
  unfold superOk
  refine RunC.seq (RunC.region ?_)
  (repeat (first | refine RunO.step rfl ?_ | refine RunO.loadG rfl rfl (Ow.ld (by assumption) (by rfl)) rfl ?_ | refine RunO.nil ?_))
  refine RunO.callDG rfl refIn_ok rfl rfl rfl ?_
  rintro _ _ ⟨rfl, rfl⟩
  (repeat (first | refine RunO.step rfl ?_ | refine RunO.loadG rfl rfl (Ow.ld (by assumption) (by rfl)) rfl ?_ | refine RunO.nil ?_))
  cases inB g 1 1099511627776 with
  | false => (repeat (first | refine RunO.step rfl ?_ | refine RunO.loadG rfl rfl (Ow.ld (by assumption) (by rfl)) rfl ?_ | refine RunO.nil ?_)); exact RunC.ret ⟨_, rfl, rfl, f1⟩
  | true =>
  (repeat (first | refine RunO.step rfl ?_ | refine RunO.loadG rfl rfl (Ow.ld (by assumption) (by rfl)) rfl ?_ | refine RunO.nil ?_))
  refine RunO.callDG rfl refIn_ok rfl rfl rfl ?_
  rintro _ _ ⟨rfl, rfl⟩
  (repeat (first | refine RunO.step rfl ?_ | refine RunO.loadG rfl rfl (Ow.ld (by assumption) (by rfl)) rfl ?_ | refine RunO.nil ?_))
  cases inB bl 4 4096 with
  | false => (repeat (first | refine RunO.step rfl ?_ | refine RunO.loadG rfl rfl (Ow.ld (by assumption) (by rfl)) rfl ?_ | refine RunO.nil ?_)); exact RunC.ret ⟨_, rfl, rfl, f1⟩
  | true =>
  (repeat (first | refine RunO.step rfl ?_ | refine RunO.loadG rfl rfl (Ow.ld (by assumption) (by rfl)) rfl ?_ | refine RunO.nil ?_))
  refine RunO.callDG rfl refIn_ok rfl rfl rfl ?_
  rintro _ _ ⟨rfl, rfl⟩
  (repeat (first | refine RunO.step rfl ?_ | refine RunO.loadG rfl rfl (Ow.ld (by assumption) (by rfl)) rfl ?_ | refine RunO.nil ?_))
  cases inB sz 0 512 with
  | false => (repeat (first | refine RunO.step rfl ?_ | refine RunO.loadG rfl rfl (Ow.ld (by assumption) (by rfl)) rfl ?_ | refine RunO.nil ?_)); exact RunC.ret ⟨_, rfl, rfl, f1⟩
  | true =>
  (repeat (first | refine RunO.step rfl ?_ | refine RunO.loadG rfl rfl (Ow.ld (by assumption) (by rfl)) rfl ?_ | refine RunO.nil ?_))
  refine RunO.callDG rfl refLink_ok rfl rfl rfl ?_
  rintro _ _ ⟨rfl, rfl⟩
  (repeat (first | refine RunO.step rfl ?_ | refine RunO.loadG rfl rfl (Ow.ld (by assumption) (by rfl)) rfl ?_ | refine RunO.nil ?_))
  cases (rt == 0 || inB rt 2 (fwrap .i64 (bl - 1))) with
  | false => (repeat (first | refine RunO.step rfl ?_ | refine RunO.loadG rfl rfl (Ow.ld (by assumption) (by rfl)) rfl ?_ | refine RunO.nil ?_)); exact RunC.ret ⟨_, rfl, rfl, f1⟩
  | true =>
  (repeat (first | refine RunO.step rfl ?_ | refine RunO.loadG rfl rfl (Ow.ld (by assumption) (by rfl)) rfl ?_ | refine RunO.nil ?_))
  refine RunO.callDG rfl refLink_ok rfl rfl rfl ?_
  rintro _ _ ⟨rfl, rfl⟩
  (repeat (first | refine RunO.step rfl ?_ | refine RunO.loadG rfl rfl (Ow.ld (by assumption) (by rfl)) rfl ?_ | refine RunO.nil ?_))
  exact RunC.ret ⟨_, rfl, rfl, f1⟩
set_option maxHeartbeats 4000000 in
theorem refParseSuper_ok {h : Heap} {v : Value} {l : List Int} (sl : Sl h v 1 l.length (us l)) (hb : Byt l) :
    RunF prog 35 [v] h fun r h' => r = .tuple #[.agg ⟨sCells l⟩, .int .i64 (sCode l)] ∧ Fr no h h' := by
  refine RunF.walk func35 rfl rfl ?_
  refine RunC.seq (RunC.region (RunO.all (h1 := h.push ⟨sc 0 0 0 0 0, true⟩) rfl ?_))
  have ow : Ow (h.push ⟨sc 0 0 0 0 0, true⟩) h.next (sc 0 0 0 0 0) := Ow.push _ _
  have f1 : Fr (fun b => h.next ≤ b) h (h.push ⟨sc 0 0 0 0 0, true⟩) := Fr.push _ _ _
  have s1 := sl.fr0 (Fr.push no h ⟨sc 0 0 0 0 0, true⟩)
  generalize h.push ⟨sc 0 0 0 0 0, true⟩ = h1 at *
  have hp : h.next < h1.next := ow.1
  refine RunC.seq (RunC.seq (RunC.region (RunO.part 1 rfl ?_)) )
  refine RunO.callD (refOpen_ok (mb := sMag) rfl s1 hb) rfl rfl rfl ?_
  rintro _ _ ⟨rfl, rfl⟩
  refine RunO.all rfl ?_
  refine RunC.seq (RunC.region (RunO.all rfl ?_))
  have hro := readB_open sMag sLay l
  by_cases he : openE sMag l ≠ 0
  · rw [if_pos he] at hro
    have hc : sCode l = openE sMag l := by unfold sCode; rw [hro, if_neg he]
    have hcells : sCells l = sc 0 0 0 0 0 := by unfold sCells; rw [hc, if_neg he]
    rw [hc, hcells, show (openE sMag l != 0) = true from bne_iff_ne.2 he]
    refine RunC.cond rfl (fun _ => ?_) (fun g => by cases g)
    refine RunC.seq (RunC.region (RunO.part 2 rfl ?_))
    refine RunO.store rfl rfl (store_ow (s := 5) ow rfl rfl rfl (Nat.le_refl 5)) (RunO.all rfl ?_)
    exact RunC.ret ⟨_, eresults_cell rfl ((Ow.put (cs := sc 0 0 0 0 0) ow.1).all.part (k := 0) rfl) rfl, rfl, frNo (f1.same (Fr.put _ (.inl (Nat.le_refl _))))⟩
  have he0 : openE sMag l = 0 := Decidable.not_not.1 he
  have hl : l.length = 64 := by
    unfold openE at he0
    by_cases g : l.length ≠ 64
    · rw [if_pos g] at he0; cases he0
    · exact Decidable.not_not.1 g
  rw [if_neg he] at hro
  rw [he0]
  refine RunC.cond rfl (fun g => by cases g) (fun _ => RunC.skip ?_)
  refine RunC.seq (RunC.region (RunO.part 1 rfl ?_))
  refine RunO.callD (refGet8_ok (k := 4) s1 hb (by omega) (by omega)) rfl rfl rfl ?_
  rintro _ _ ⟨rfl, rfl⟩
  refine RunO.all rfl ?_
  have hro2 : readB sMag sLay l = if ((leGet l 4 8).2 == 0) = false then 1 else if zerosN l 28 60 = false then 1 else 0 := by
    rw [hro]
    have : sLay.all (okF l) = ((leGet l 4 8).2 == 0) := by
      show (((leGet l 4 8).2 == 0) && (((leGet l 12 4).2 == 0) && (((leGet l 16 4).2 == 0) && (((leGet l 20 4).2 == 0) && (((leGet l 24 4).2 == 0) && true))))) = _
      rw [ok4 hb, ok4 hb, ok4 hb, ok4 hb]
      cases ((leGet l 4 8).2 == 0) <;> rfl
    rw [this]; rfl
  clear hro
  have hcd : sCode l = if (((leGet l 4 8).2 == 0) && (superOk (sGet l 4 8) (sGet l 12 4) (sGet l 16 4) (sGet l 20 4) (sGet l 24 4) && zerosN l 28 60)) = true then 0 else 1 := by
    unfold sCode
    rw [hro2]
    cases ((leGet l 4 8).2 == 0) <;> cases zerosN l 28 60 <;> cases superOk (sGet l 4 8) (sGet l 12 4) (sGet l 16 4) (sGet l 20 4) (sGet l 24 4) <;> rfl
  have hcl : sCells l = if sCode l = 0 then sc (sGet l 4 8) (sGet l 12 4) (sGet l 16 4) (sGet l 20 4) (sGet l 24 4) else sc 0 0 0 0 0 := rfl
  refine RunC.seq (RunC.region (RunO.part 2 rfl ?_))
  refine RunO.callD (refGet4_ok (k := 12) s1 hb (by omega) (by omega)) rfl rfl rfl ?_
  rintro _ _ ⟨rfl, rfl⟩
  refine RunO.part 1 rfl ?_
  refine RunO.callD (refGet4_ok (k := 16) s1 hb (by omega) (by omega)) rfl rfl rfl ?_
  rintro _ _ ⟨rfl, rfl⟩
  refine RunO.part 1 rfl ?_
  refine RunO.callD (refGet4_ok (k := 20) s1 hb (by omega) (by omega)) rfl rfl rfl ?_
  rintro _ _ ⟨rfl, rfl⟩
  refine RunO.part 1 rfl ?_
  refine RunO.callD (refGet4_ok (k := 24) s1 hb (by omega) (by omega)) rfl rfl rfl ?_
  rintro _ _ ⟨rfl, rfl⟩
  refine RunO.part 2 (h1 := h1.push ⟨sc 0 0 0 0 0, true⟩) rfl ?_
  refine RunO.store rfl rfl (store_ow (s := 5) (Ow.push h1 (sc 0 0 0 0 0)) rfl rfl rfl (by decide)) (RunO.all rfl ?_)
  change RunC _ _ _ _ ((h1.push ⟨sc 0 0 0 0 0, true⟩).put h1.next (some ⟨sc (sGet l 4 8) (sGet l 12 4) (sGet l 16 4) (sGet l 20 4) (sGet l 24 4), true⟩)) _ _ _
  have os : Ow ((h1.push ⟨sc 0 0 0 0 0, true⟩).put h1.next (some ⟨sc (sGet l 4 8) (sGet l 12 4) (sGet l 16 4) (sGet l 20 4) (sGet l 24 4), true⟩)) h1.next (sc (sGet l 4 8) (sGet l 12 4) (sGet l 16 4) (sGet l 20 4) (sGet l 24 4)) := Ow.put _ (Nat.lt_succ_self _)
  have f4 : Fr no h1 ((h1.push ⟨sc 0 0 0 0 0, true⟩).put h1.next (some ⟨sc (sGet l 4 8) (sGet l 12 4) (sGet l 16 4) (sGet l 20 4) (sGet l 24 4), true⟩)) := (Fr.push _ _ _).trans (Fr.put (m := (· = h1.next)) _ (.inl rfl)) (fun j hj => .inr (by omega))
  generalize (h1.push ⟨sc 0 0 0 0 0, true⟩).put h1.next (some ⟨sc (sGet l 4 8) (sGet l 12 4) (sGet l 16 4) (sGet l 20 4) (sGet l 24 4), true⟩) = h4 at *
  generalize h1.next = q at *
  have ow4 := ow.fr f4 (fun g => g)
  have s4 := s1.fr0 f4
  have f14 := f1.quiet f4
  generalize sGet l 4 8 = g at *
  generalize sGet l 12 4 = bl at *
  generalize sGet l 16 4 = rt at *
  generalize sGet l 20 4 = sz at *
  generalize sGet l 24 4 = fi at *
  refine RunC.seq ?_
  refine RunC.seqc (fun E' h' => Fr no h4 h' ∧ Le (upd (upd (upd (upd E0 0 v) 2 (.pointer (some ⟨h.next, 0, none⟩))) 7 (.pointer (some ⟨q, 0, none⟩))) 40 (.bool (!((leGet l 4 8).2 == 0 && (superOk g bl rt sz fi && zerosN l 28 60))))) E') ?_ ?_
  · refine RunC.region (RunO.part 3 rfl ?_)
    cases ((leGet l 4 8).2 == 0) with
    | false => exact RunO.all rfl ⟨Fr.refl _ _, Le.cons rfl (Le.cons rfl (Le.cons rfl (Le.cons rfl (Le.nil _))))⟩
    | true =>
      refine RunO.loadG (v := .agg ⟨sc g bl rt sz fi⟩) rfl rfl (os.all.part (k := 0) rfl) rfl ?_
      refine RunO.callDG rfl refSuper_ok rfl rfl rfl ?_
      rintro _ h5 ⟨rfl, f5⟩
      refine RunO.part 1 rfl ?_
      cases superOk g bl rt sz fi with
      | false => exact RunO.all rfl ⟨f5, Le.cons rfl (Le.cons rfl (Le.cons rfl (Le.cons rfl (Le.nil _))))⟩
      | true =>
        refine RunO.part 3 rfl ?_
        refine RunO.callDG rfl (refZeros_ok (k := 28) (m := 60) (s4.fr0 f5) (by decide) (by omega) (by omega)) rfl rfl rfl ?_
        rintro _ _ ⟨rfl, rfl⟩
        exact RunO.all rfl ⟨f5, Le.cons rfl (Le.cons rfl (Le.cons rfl (Le.cons rfl (Le.nil _))))⟩
  · rintro E' h5 ⟨f5, hE⟩
    refine RunC.le hE ?_
    clear hE
    have ow5 := ow4.fr f5 (fun g => g)
    have os5 := os.fr f5 (fun g => g)
    have f15 := f14.quiet f5
    rw [hcl, hcd]
    generalize ((leGet l 4 8).2 == 0 && (superOk g bl rt sz fi && zerosN l 28 60)) = B
    cases B with
    | false =>
      refine RunC.cond rfl (fun _ => ?_) (fun g => by cases g)
      refine RunC.seq (RunC.region (RunO.part 1 rfl ?_))
      refine RunO.store rfl rfl (store_ow (s := 5) ow5 rfl rfl rfl (Nat.le_refl 5)) (RunO.all rfl ?_)
      exact RunC.ret ⟨_, eresults_cell rfl ((Ow.put (cs := sc 0 0 0 0 0) ow5.1).all.part (k := 0) rfl) rfl, rfl, frNo (f15.same (Fr.put _ (.inl (Nat.le_refl _))))⟩
    | true =>
      refine RunC.cond rfl (fun g => by cases g) (fun _ => RunC.skip ?_)
      refine RunC.seq (RunC.region ?_)
      refine RunO.load (v := .agg ⟨sc g bl rt sz fi⟩) rfl (os5.all.part (k := 0) rfl) rfl ?_
      refine RunO.store rfl rfl (store_ow (s := 5) ow5 rfl rfl rfl (Nat.le_refl 5)) (RunO.all rfl ?_)
      exact RunC.ret ⟨_, eresults_cell rfl ((Ow.put (cs := sc g bl rt sz fi) ow5.1).all.part (k := 0) rfl) rfl, rfl, frNo (f15.same (Fr.put _ (.inl (Nat.le_refl _))))⟩
/-- A block that the page makes. -/
theorem seal_make {mb : List Int} {ss : List Nat} {ns : List Int} (hm : mb.length = 4) (hn : ns.length = ss.length) (hs : ss.sum ≤ 56) : sealB (mb ++ catB ss ns) = makeB mb (layF 4 ss) ns := by
  rw [makeB_eq hm hn hs]
  unfold sealB
  rw [List.length_append, hm, catB_len ss ns hn, show 60 - (4 + ss.sum) = 56 - ss.sum by omega]
end Go.Proofs.Ytaaemamcdhebhaa
end
section
set_option linter.unusedVariables false
set_option maxRecDepth 100000
open Go Go.Am Go.RowKit
namespace Go.Proofs.Ytaaemamcdhebhaa
open Go.Proofs.Try
def ptrB (n : Int) : Bool := n == 0 || (decide (n ≥ 2) && decide (n < 4096))
end Go.Proofs.Ytaaemamcdhebhaa
end
section
set_option linter.unusedVariables false
set_option maxRecDepth 100000
open Go Go.Am
namespace Go.Proofs.Ytaaemamcdhebhaa
open Go.Proofs.Try
def idB (n : Int) : Bool := !(decide (n < 1)) && !(decide (n > 4611686018427387903))
def parB (id pa : Int) : Bool := idB id && ((pa != id) && (pa == 0 || idB pa))
/-- A record's cells. -/
def rc (n id pa ro sz ki fr di : Int) : List Value := [.int .i64 n, .int .i64 id, .int .i64 pa, .int .i64 ro, .int .i64 sz, .int .i64 ki, .int .i64 fr, .int .i64 di]
def recIs (n id pa ro sz : Int) : Bool := (((ptrB n && ptrB ro) && parB id pa) && inB sz 0 512)
def recOk (n id pa ro sz ki fr di : Int) : Bool :=
  if ki = 0 then ((recIs n id pa ro sz && fr == 0) && di == 0) else if ki = 1 then ((recIs n id pa ro sz && inB fr 1 65535) && inB di 0 4294967295) else false
end Go.Proofs.Ytaaemamcdhebhaa
end
section
set_option linter.unusedVariables false
set_option maxRecDepth 100000
open Go Go.Am
namespace Go.Proofs.Ytaaemamcdhebhaa
open Go.Proofs.Try
def rSiz : List Nat := [4, 8, 8, 4, 4, 4, 4, 4]
def rLay : List (Nat × Nat) := layF 4 rSiz
def rMag : List Int := [83, 78, 65, 80]
/-- A record's block. -/
def recBlock (n id pa ro sz ki fr di : Int) : List Int := makeB rMag rLay [n, id, pa, ro, sz, ki, fr, di]
/-- The numbers of a record's block. -/
def rNum (l : List Int) (i : Nat) : Int := (numsB rLay l).getD i 0
def rOkL (l : List Int) : Bool := recOk (rNum l 0) (rNum l 1) (rNum l 2) (rNum l 3) (rNum l 4) (rNum l 5) (rNum l 6) (rNum l 7)
def rCode (l : List Int) : Int := if readB rMag rLay l = 0 then (if rOkL l then 0 else 1) else readB rMag rLay l
def rCells (l : List Int) : List Value := if rCode l = 0 then rc (rNum l 0) (rNum l 1) (rNum l 2) (rNum l 3) (rNum l 4) (rNum l 5) (rNum l 6) (rNum l 7) else rc 0 0 0 0 0 0 0 0
end Go.Proofs.Ytaaemamcdhebhaa
end
section
set_option linter.unusedVariables false
set_option maxRecDepth 100000
open Go Go.Am
namespace Go.Proofs.Ytaaemamcdhebhaa
open Go.Proofs.Try
theorem beq_take {l m : List Int} {i : Nat} (hi : i < l.length) (hm : i < m.length) (h : l.take i = m.take i) (he : l[i] = m[i]) : l.take (i + 1) = m.take (i + 1) := by
  rw [List.take_succ_eq_append_getElem hi, List.take_succ_eq_append_getElem hm, h, he]
theorem keepBytes_ok {h : Heap} {A B : Option Addr} {c d : Nat} {l m : List Int} (ra : 0 < l.length → ∃ a, A = some a ∧ Rd h a (us l)) (rb : 0 < m.length → ∃ a, B = some a ∧ Rd h a (us m)) (hm : l.length ≤ 4611686018427387904) :
    RunF prog 18 [.slice A l.length c, .slice B m.length d] h fun v h' => v = .bool (l == m) ∧ h = h' := by
  refine RunF.walk func18 rfl rfl ?_
  refine RunC.seq (RunC.region (RunO.all rfl ?_))
  refine RunC.seq (RunC.seq (RunC.region (RunO.all rfl ?_)))
  by_cases hl : l.length = m.length
  case neg =>
    have e : (l == m) = false := beq_eq_false_iff_ne.2 (fun g => hl (by rw [g]))
    rw [show ((l.length : Int) != (m.length : Int)) = true by simp; omega, e]
    refine RunC.cond rfl (fun _ => ?_) (fun g => by cases g)
    exact RunC.seq (RunC.region (RunO.all rfl (RunC.ret ⟨_, rfl, rfl, rfl⟩)))
  rw [show ((l.length : Int) != (m.length : Int)) = false by simp; omega]
  refine RunC.cond rfl (fun g => by cases g) (fun _ => RunC.skip ?_)
  refine RunC.seq (RunC.seq (RunC.region (RunO.all rfl ?_)))
  refine RunC.block ?_
  let I : Nat → Env → Heap → Prop := fun k E h' => ∃ i : Nat, i + k = l.length ∧ l.take i = m.take i ∧ h = h' ∧ Le (upd (upd (upd E0 0 (.slice A l.length c)) 1 (.slice B m.length d)) 5 (.int .i64 i)) E
  refine RunC.loop I ?_ (k := l.length) ?_
  · rintro k E h' ⟨i, hi, ht, rfl, hE⟩
    refine RunC.le hE ?_
    clear hE
    refine RunC.seq (RunC.seq (RunC.region (RunO.all rfl ?_)))
    refine RunC.cond rfl (fun hlt => ?_) (fun hge => ?_)
    · have hlt := of_decide_eq_true hlt
      have h1 : i < l.length := by omega
      have h2 : i < m.length := by omega
      obtain ⟨⟨b1, o1, s1⟩, rfl, rd1⟩ := ra (by omega)
      obtain ⟨⟨b2, o2, s2⟩, rfl, rd2⟩ := rb (by omega)
      have hs1 : s1 = none := rd1.1
      have hs2 : s2 = none := rd2.1
      subst hs1
      subst hs2
      refine RunC.skip ?_
      refine RunC.seq (RunC.block ?_)
      refine RunC.seq (RunC.draw0 rfl (RunO.part 2 rfl ?_))
      refine RunO.index (s := 1) rfl rfl rfl rfl h1 rfl ?_
      refine RunO.load (v := .int .u8 l[i]) rfl (rd1.cell1 (k := i * 1) rfl (by rw [Nat.mul_one]; exact us_nth h1)) rfl ?_
      refine RunO.part 2 rfl ?_
      refine RunO.index (s := 1) rfl rfl rfl rfl h2 rfl ?_
      refine RunO.load (v := .int .u8 m[i]) rfl (rd2.cell1 (k := i * 1) rfl (by rw [Nat.mul_one]; exact us_nth h2)) rfl ?_
      refine RunO.all rfl ?_
      refine RunC.cond rfl (fun hne => ?_) (fun heq => ?_)
      · have hne : l[i] ≠ m[i] := by simpa using hne
        have e : (l == m) = false := beq_eq_false_iff_ne.2 (fun g => hne (by subst g; rfl))
        rw [e]
        exact RunC.seq (RunC.region (RunO.all rfl (RunC.ret ⟨_, rfl, rfl, rfl⟩)))
      · have heq : l[i] = m[i] := by simpa using heq
        refine RunC.skip (RunC.region (RunO.all rfl ?_))
        exact ⟨k - 1, by omega, i + 1, by omega, beq_take h1 h2 ht heq, rfl, Le.cons (inc64 (by omega)) (Le.cons rfl (Le.cons rfl (Le.nil _)))⟩
    · have hge := of_decide_eq_false hge
      refine RunC.exit ?_
      have hi2 : i = l.length := by omega
      have e : l = m := by
        rw [hi2, List.take_length] at ht
        rw [ht, hl, List.take_length]
      rw [show (l == m) = true by rw [e]; exact beq_self_eq_true _]
      exact RunC.seq (RunC.region (RunO.all rfl (RunC.ret ⟨_, rfl, rfl, rfl⟩)))
  · exact ⟨0, by omega, rfl, rfl, Le.cons rfl (Le.cons rfl (Le.cons rfl (Le.nil _)))⟩
end Go.Proofs.Ytaaemamcdhebhaa
end
section
namespace Go.Proofs.Ytaaemamcdhebhaa
open Go Go.Am
def bys (l : List Int) : List Crc.W := l.map (fun x => Crc.by8 x.toNat)
end Go.Proofs.Ytaaemamcdhebhaa
end
section
namespace Go.Proofs.Ytaaemamcdhebhaa
open Go Go.Am
/-- A byte changed. -/
def xb (c x : Int) : Int := IntKind.u8.wrap (BitVec.ofInt IntKind.u8.bits c ^^^ BitVec.ofInt IntKind.u8.bits x).toNat
/-- The list behind so many changes from a place on. -/
def chg (b : List Int) (p : Nat) (x : List Int) : Nat → List Int
  | 0 => b
  | n + 1 => (chg b p x n).set (p + n) (xb ((chg b p x n).getD (p + n) 0) (x.getD n 0))
def bytes (l : List Int) : Prop := ∀ x ∈ l, 0 ≤ x ∧ x < 256
end Go.Proofs.Ytaaemamcdhebhaa
end
section
set_option linter.unusedVariables false
set_option maxRecDepth 100000
open Go Go.Am Go.RowKit
namespace Go.Proofs.Ytaaemamcdhebhaa
open Go.Proofs.Try
end Go.Proofs.Ytaaemamcdhebhaa
end
section
set_option linter.unusedVariables false
namespace Go.Am
open Go.RowKit
variable {P : Program}
/-- A row appended to lies in a new block. -/
theorem append_row2 {h : Heap} {t e : TypeId} {i : TypeInfo} {z : Value} {lo s k m c' : Nat} {xv : Value} {cells news : List Value} {a : Addr}
    (hu : P.underlying t = some (.slice e)) (hi : P.info? e = some i) (hz : zeroOf P e = some z) (hlz : lenIs (cellsOf z) i.size = true) (hs : i.size = s) (hs1 : 1 ≤ s) (row : Row lo h xv s k cells)
    (rd : Rd h a news) (hn : news.length = m * s) (hm : 1 ≤ m) (ha : allCells news = true) (hb : 2 * (k + m) * i.bytes ≤ 281474976710656) (hb2 : k + m ≤ 9223372036854775807) :
    ∃ v' h', aappend P h t t xv (.slice (some a) m c') = some (v', h') ∧ Row h.next h' v' s (k + m) (cells ++ news) ∧ Fr (At xv) h h' := by
  have row2 : Row 0 h xv s k cells := ⟨row.1, row.2.imp (fun x => x) (fun ⟨b, _, h2⟩ => ⟨b, Nat.zero_le _, h2⟩)⟩
  have hgen : ∀ lo', Row lo' h xv s k cells → lo' ≤ h.next → ∃ v' h', aappend P h t t xv (.slice (some a) m c') = some (v', h') ∧ Row lo' h' v' s (k + m) (cells ++ news) ∧ Fr (At xv) h h' :=
    fun lo' r hl => append_row hu hi hz hlz hs hs1 r hl rd hn hm ha hb hb2
  rcases row.2 with ⟨rfl, hk⟩ | ⟨b, hb1, rfl, ow⟩
  · exact hgen h.next ⟨row.1, .inl ⟨rfl, hk⟩⟩ (Nat.le_refl _)
  · obtain ⟨v', h', e1, r1, f1⟩ := hgen 0 row2 (Nat.zero_le _)
    refine ⟨v', h', e1, ⟨r1.1, .inr ?_⟩, f1⟩
    obtain ⟨hl, _⟩ := row
    subst hs
    obtain ⟨m, rfl⟩ : ∃ j, m = j + 1 := ⟨m - 1, by omega⟩
    have hr : asrc h i.size (.slice (some a) (m + 1) c') = some (m + 1, news) := by
      have hq : aread h a (Nat.mul (m + 1) i.size) = some (news.take ((m + 1) * i.size)) := rd.read0 (m := (m + 1) * i.size) (by omega)
      simp only [asrc, hq]
      rw [List.take_of_length_le (by omega)]
    have e1' : Nat.ble (Nat.mul (Nat.mul 2 (Nat.add k (Nat.succ m))) i.bytes) 281474976710656 = true := Nat.ble_eq_true_of_le hb
    have e2 : Nat.ble (Nat.add k (Nat.succ m)) 9223372036854775807 = true := Nat.ble_eq_true_of_le hb2
    have e3 : aread h ⟨b, 0, none⟩ (Nat.mul k i.size) = some cells := by
      have := ow.all.read0 (m := k * i.size) (by omega)
      rw [List.take_of_length_le (by omega)] at this
      exact this
    have e4 : lenIs cells (Nat.add 0 (Nat.mul k i.size)) = true := (lenIs_iff _ _).2 (by show _ = 0 + k * i.size; omega)
    have key : aappend P h t t (.slice (some ⟨b, 0, none⟩) k (unkc i.size)) (.slice (some a) (m + 1) c') = some (.slice (some ⟨h.next, 0, none⟩) (k + (m + 1)) (unkc i.size), (h.put b none).push ⟨cells ++ news, true⟩) := by
      simp only [aappend, hu, Nat.beq_refl, cond_true, hi, hz, hlz, Nat.ble_eq_true_of_le hs1, hr, e1', e2, e3, unk_unkc, half_unkc, ow.2, e4, ha]
      rfl
    rw [key] at e1
    cases e1
    exact ⟨h.next, Nat.le_refl _, rfl, Ow.push _ _⟩
section
variable {n : Nat} {ops rest : List Oper} {E E1 : Env} {h h1 : Heap} {Q : Env → Heap → Prop}
end
end Go.Am
end
section
set_option linter.unusedVariables false
namespace Go.Am
open Go.RowKit
/- A region that draws its order: its first operations write nothing old, and only these are drawn; what comes behind may write. -/
/-- What comes behind: it may write m. -/
def RunT (P : Program) (n : Nat) (ops rest : List Oper) (m : Nat → Prop) (E : Env) (h : Heap) (Q : Env → Heap → Prop) : Prop :=
  ∀ l0, l0 ≤ h.next → (∀ j, m j → l0 ≤ j) → RunD P n ops rest l0 E h (fun E' h' _ => Fg m h h' ∧ Q E' h')
section
variable {P : Program} {n : Nat} {ops rest : List Oper} {m : Nat → Prop} {E E1 : Env} {h h1 : Heap} {Q : Env → Heap → Prop}
def drawTOk (k : Nat) (ops : Array Oper) : Bool := match drawOk ops with
  | some (p :: ps) => idxOk (ops.toList.take k).length (p :: ps)
  | _ => false
end
end Go.Am
end
section
set_option linter.unusedVariables false
namespace Go.Am
open Go.RowKit
section
variable {P : Program} {n : Nat} {ops rest : List Oper} {E E1 : Env} {h h1 : Heap} {Q : Env → Heap → Prop}
end
end Go.Am
end
section
set_option linter.unusedVariables false
namespace Go.Am
open Go.RowKit
section
variable {P : Program} {n : Nat} {ops rest : List Oper} {E E1 : Env} {h h1 : Heap} {Q : Env → Heap → Prop}
/-- A bound of a slice. -/
inductive Bd : Option Value → Nat → Nat → Prop where
  | none (d : Nat) : Bd none d d
  | some (k : IntKind) (d m : Nat) : Bd (some (.int k (m : Int))) d m
end
end Go.Am
end
section
set_option linter.unusedVariables false
namespace Go.Am
open Go.RowKit
/- A region that draws its order and writes m: each operation with its footprint. -/
def RunW (P : Program) (n : Nat) (ops rest : List Oper) (m : Nat → Prop) (E : Env) (h : Heap) (Q : Env → Heap → List Fp → Prop) : Prop :=
  ∀ l0, l0 ≤ h.next → (∀ j, m j → l0 ≤ j) → RunD P n ops rest l0 E h (fun E' h' fs => Fg m h h' ∧ Q E' h' fs)
section
variable {P : Program} {n : Nat} {ops rest : List Oper} {m : Nat → Prop} {E E1 : Env} {h h1 : Heap} {Q : Env → Heap → List Fp → Prop}
end
end Go.Am
end
section
set_option linter.unusedVariables false
namespace Go.Am
open Go.RowKit
/-- A slice that grows by append: a row, or one that is full. -/
def Gr (lo : Nat) (h : Heap) (v : Value) (s n : Nat) (cells : List Value) : Prop :=
  cells.length = n * s ∧ ((v = .slice none 0 0 ∧ n = 0) ∨ ∃ b c, lo ≤ b ∧ v = .slice (some ⟨b, 0, none⟩) n c ∧ (c = unkc s ∨ c = exc n) ∧ Ow h b cells)
theorem Row.gr {lo : Nat} {h : Heap} {v : Value} {s n : Nat} {cells : List Value} (r : Row lo h v s n cells) : Gr lo h v s n cells :=
  ⟨r.1, r.2.imp (fun x => x) (fun ⟨b, h1, h2, h3⟩ => ⟨b, _, h1, h2, .inl rfl, h3⟩)⟩
theorem Gr.full {lo n s b : Nat} {h : Heap} {cells : List Value} (ow : Ow h b cells) (hl : cells.length = n * s) (hb : lo ≤ b) : Gr lo h (.slice (some ⟨b, 0, none⟩) n (exc n)) s n cells := ⟨hl, .inr ⟨b, _, hb, rfl, .inr rfl, ow⟩⟩
theorem Gr.at {lo : Nat} {h : Heap} {v : Value} {s n b : Nat} {cells : List Value} (r : Gr lo h v s n cells) (a : At v b) : lo ≤ b ∧ b < h.next := by
  obtain ⟨m, c, rfl⟩ := a
  rcases r.2 with ⟨e, _⟩ | ⟨b', c', h1, h2, _, h3⟩
  · cases e
  · cases h2; exact ⟨h1, h3.1⟩
theorem Gr.frm {lo : Nat} {h h' : Heap} {v : Value} {s n : Nat} {cells : List Value} {M : Nat → Prop} (r : Gr lo h v s n cells) (f : Fr M h h') (hm : ∀ b, At v b → ¬ M b) : Gr lo h' v s n cells := by
  refine ⟨r.1, r.2.imp (fun x => x) ?_⟩
  rintro ⟨b, c, h1, h2, h3, h4⟩
  exact ⟨b, c, h1, h2, h3, h4.fr f (hm b ⟨_, _, h2⟩)⟩
theorem Gr.fr0 {lo : Nat} {h h' : Heap} {v : Value} {s n : Nat} {cells : List Value} (r : Gr lo h v s n cells) (f : Fr no h h') : Gr lo h' v s n cells := r.frm f (fun _ _ g => g)
theorem Gr.lo {lo lo' : Nat} {h : Heap} {v : Value} {s n : Nat} {cells : List Value} (r : Gr lo h v s n cells) (hl : lo' ≤ lo) : Gr lo' h v s n cells := by
  refine ⟨r.1, r.2.imp (fun x => x) ?_⟩
  rintro ⟨b, c, h1, h2⟩
  exact ⟨b, c, Nat.le_trans hl h1, h2⟩
section
variable {P : Program} {n : Nat} {ops rest : List Oper} {m : Nat → Prop} {E E1 : Env} {h h1 : Heap}
theorem append_gr {t e : TypeId} {i : TypeInfo} {z : Value} {lo s k j c' : Nat} {xv : Value} {cells news : List Value} {a : Addr}
    (hu : P.underlying t = some (.slice e)) (hi : P.info? e = some i) (hz : zeroOf P e = some z) (hlz : lenIs (cellsOf z) i.size = true) (hs : i.size = s) (hs1 : 1 ≤ s) (row : Gr lo h xv s k cells)
    (rd : Rd h a news) (hn : news.length = j * s) (hm : 1 ≤ j) (ha : allCells news = true) (hb : 2 * (k + j) * i.bytes ≤ 281474976710656) (hb2 : k + j ≤ 9223372036854775807) :
    ∃ v' h', aappend P h t t xv (.slice (some a) j c') = some (v', h') ∧ Row h.next h' v' s (k + j) (cells ++ news) ∧ Fr (At xv) h h' := by
  rcases row.2 with ⟨rfl, hk⟩ | ⟨b, c, hb1, rfl, hc, ow⟩
  · exact append_row2 (lo := lo) hu hi hz hlz hs hs1 ⟨row.1, .inl ⟨rfl, hk⟩⟩ rd hn hm ha hb hb2
  · rcases hc with rfl | rfl
    · exact append_row2 (lo := lo) hu hi hz hlz hs hs1 ⟨row.1, .inr ⟨b, hb1, rfl, ow⟩⟩ rd hn hm ha hb hb2
    · refine ⟨_, _, append_full hu hi hz hlz hs hs1 ow.all row.1 ?_ ?_ rd hn hm hb hb2, ⟨by rw [List.length_append, row.1, hn, Nat.add_mul], .inr ⟨_, Nat.le_refl _, rfl, Ow.push _ _⟩⟩, Fr.push _ _ _⟩
      · unfold isUnk exc
        show Nat.beq (2 * k % 2) 1 = false
        rw [show 2 * k % 2 = 0 by omega]; rfl
      · unfold half exc
        show 2 * k / 2 < k + j
        omega
end
end Go.Am
end
section
set_option linter.unusedVariables false
namespace Go.Am
open Go.RowKit
section
variable {P : Program} {n : Nat} {ops rest : List Oper} {E E1 : Env} {h h1 : Heap} {Q : Env → Heap → Prop}
theorem RunO.appendG {d : Tmp} {t ty e : TypeId} {x y : Operand} {pos : String} {after : Array Edge} {i : TypeInfo} {z : Value} {lo s k j c' : Nat} {xv : Value} {cells news : List Value} {a : Addr}
    (hx : gE E x = some xv) (hy : gE E y = some (.slice (some a) j c')) (hd : Nat.ble (Nat.succ d) n = true)
    (hu : P.underlying t = some (.slice e)) (hi : P.info? e = some i) (hz : zeroOf P e = some z) (hlz : lenIs (cellsOf z) i.size = true) (hs : i.size = s) (hs1 : 1 ≤ s) (row : Gr lo h xv s k cells)
    (rd : Rd h a news) (hn : news.length = j * s) (hm : 1 ≤ j) (ha : allCells news = true) (hb : 2 * (k + j) * i.bytes ≤ 281474976710656) (hb2 : k + j ≤ 9223372036854775807)
    (r : ∀ v' h', Row h.next h' v' s (k + j) (cells ++ news) → Fr (At xv) h h' → RunO P n ops rest (upd E d v') h' Q) : RunO P n ops (⟨some d, .call ⟨.builtin .append, #[x, y], #[t, t]⟩, ty, pos, after, none⟩ :: rest) E h Q := by
  obtain ⟨v', h', h1, h2, h3⟩ := append_gr (c' := c') hu hi hz hlz hs hs1 row rd hn hm ha hb hb2
  refine RunO.one rfl (v := v') (h1 := h') ?_ (by simp only [eput, hd, cond_true]) (r v' h' h2 h3)
  simp only [eop, gs, hx, hy, abuiltin, h1]
end
end Go.Am
end
section
set_option linter.unusedVariables false
namespace Go.Am
open Go.RowKit
section
variable {P : Program} {n : Nat} {ops rest : List Oper} {E E1 : Env} {h h1 : Heap} {Q : Env → Heap → Prop}
/-- A constant string's bytes, turned to their own type. -/
theorem RunO.mark {d : Tmp} {t ty e : TypeId} {x : Operand} {pos : String} {after : Array Edge} {b off k c : Nat} {cells : List Value}
    (hx : gE E x = some (.slice (some ⟨b, off, none⟩) k c)) (hc : isUnk c = false) (hu : P.underlying t = some (.slice e)) (he : P.underlying e = some (.int .u8)) (ow : Ow h b cells) (hn : ∃ y l, cells = y :: l) (hd : Nat.ble (Nat.succ d) n = true)
    (r : ∀ h', Ow h' b cells → Fr (· = b) h h' → RunO P n ops rest (upd E d (.slice (some ⟨b, off, none⟩) k c)) h' Q) : RunO P n ops (⟨some d, .convert t t x, ty, pos, after, none⟩ :: rest) E h Q := by
  obtain ⟨y, l, rfl⟩ := hn
  have e1 : aconvert P t t (.slice (some ⟨b, off, none⟩) k c) = none := by simp only [aconvert, hu]
  have e2 : amark P h t t (.slice (some ⟨b, off, none⟩) k c) = some (.slice (some ⟨b, off, none⟩) k c, h.put b (some ⟨y :: l, true⟩)) := by
    simp only [amark, Nat.beq_refl, cond_true, hc, cond_false, hu, he, ow.2]
  refine RunO.one (v := .slice (some ⟨b, off, none⟩) k c) (h1 := h.put b (some ⟨y :: l, true⟩)) rfl ?_ (by simp only [eput, hd, cond_true]) (r _ (Ow.put _ ow.1) (Fr.put _ (.inl rfl)))
  simp only [eop, hx, e1, e2]
end
theorem Row.lo2 {lo lo2 : Nat} {h : Heap} {v : Value} {s n : Nat} {cells : List Value} (r : Row lo h v s n cells) (hl : lo2 ≤ lo) : Row lo2 h v s n cells :=
  ⟨r.1, r.2.imp (fun x => x) (fun ⟨b, h1, h2⟩ => ⟨b, Nat.le_trans hl h1, h2⟩)⟩
end Go.Am
end
section
set_option linter.unusedVariables false
set_option linter.unusedSectionVars false
set_option maxRecDepth 100000
open Go Go.Am Go.RowKit
namespace Go.Proofs.Ytaaemamcdhebhaa
open Go.Proofs.Try
set_option maxHeartbeats 4000000 in
theorem refSuperBytes_ok {h : Heap} {g bl rt sz fi : Int} (hok : superOk g bl rt sz fi = true) : RunF prog 38 [.agg ⟨sc g bl rt sz fi⟩] h fun r h' => Row h.next h' r 1 64 (us (superBlock g bl rt sz fi)) ∧ Fr no h h' := by
  refine RunF.walk func38 rfl rfl ?_
  refine RunC.seq (RunC.region (RunO.all (h1 := h.push ⟨sc g bl rt sz fi, true⟩) rfl ?_))
  have ow := Ow.push h (sc g bl rt sz fi)
  have f1 : Fr no h (h.push ⟨sc g bl rt sz fi, true⟩) := Fr.push _ _ _
  generalize h.push ⟨sc g bl rt sz fi, true⟩ = h1 at *
  obtain ⟨qb, hqb⟩ : ∃ q, q = h.next := ⟨_, rfl⟩
  rw [← hqb] at ow ⊢
  have hp1 : qb < h1.next := ow.1
  obtain ⟨hg, hbl, hsz, hrt, hfi⟩ := (superOk_iff _ _ _ _ _).1 hok
  refine RunC.seq (RunC.region (RunO.part 1 (h1 := h1.push ⟨us [87, 67, 85, 84], true⟩) rfl ?_))
  have om := Ow.push h1 (us [87, 67, 85, 84])
  have fm : Fr no h1 (h1.push ⟨us [87, 67, 85, 84], true⟩) := Fr.push _ _ _
  generalize h1.push ⟨us [87, 67, 85, 84], true⟩ = h1b at *
  obtain ⟨mp, hmp⟩ : ∃ q, q = h1.next := ⟨_, rfl⟩
  rw [← hmp] at om ⊢
  refine RunO.mark rfl rfl rfl rfl om ⟨_, _, rfl⟩ rfl ?_
  intro h2 om2 fm2
  have g0 : Gr mp h2 (.slice (some ⟨mp, 0, none⟩) 4 (exc 4)) 1 4 (us [87, 67, 85, 84]) := Gr.full om2 rfl (Nat.le_refl _)
  replace g0 := g0.lo (show qb + 1 ≤ mp by omega)
  replace ow := (ow.fr fm (fun g => g)).fr fm2 (fun g => by have g : qb = mp := g; omega)
  replace f1 := (f1.same fm).trans fm2 (fun b g => .inr (by have g : b = mp := g; have := f1.next; omega))
  clear om om2 fm fm2
  refine RunO.all rfl ?_
  refine RunC.seq (RunC.region (RunO.part 2 rfl ?_))
  refine RunO.load (v := .int .i64 g) rfl (ow.all.cell1 (k := 0) rfl rfl) rfl ?_
  refine RunO.callD (refBytes_ok (s := 8) (v := g) (by decide) (by omega) (by omega)) rfl rfl rfl ?_
  rintro _ a0 ⟨row, f2⟩
  have hq0 := ow.1
  have hr0 := f2.next
  replace ow := ow.fr f2 (fun g => g)
  replace g0 := g0.fr0 f2
  replace f1 := f1.same f2
  have hm0 := f1.next
  obtain ⟨b_, o_, c_, rfl, _, rd⟩ := (row.sl (by decide)).nz (by decide)
  refine RunO.appendG (s := 1) (j := 8) rfl rfl rfl rfl rfl rfl rfl rfl (by decide) g0 rd (by rw [us_len, leB_len]) (by decide) (allCells_map (f := Value.int .u8) (fun _ => rfl) _) (by decide) (by decide) ?_
  intro w0 c0 row0 f3
  replace ow := ow.fr f3 (fun g => by have := (g0.at g).1; omega)
  replace f1 := f1.trans f3 (fun b a => .inr (by have := (g0.at a).1; omega))
  have hn0 := f3.next
  have g1 : Gr (qb + 1) c0 w0 1 (4 + 8) (us ([87, 67, 85, 84] ++ leB 8 g)) := by rw [us_app]; exact row0.gr.lo (by omega)
  clear rd row f2 f3 g0
  have g0 := g1
  clear g1
  refine RunO.all rfl ?_
  clear row0
  refine RunC.seq (RunC.region (RunO.part 2 rfl ?_))
  refine RunO.load (v := .int .i64 bl) rfl (ow.all.cell1 (k := 1) rfl rfl) rfl ?_
  refine RunO.callD (refBytes_ok (s := 4) (v := bl) (by decide) (by omega) (by omega)) rfl rfl rfl ?_
  rintro _ a1 ⟨row, f2⟩
  have hq1 := ow.1
  have hr1 := f2.next
  replace ow := ow.fr f2 (fun g => g)
  replace g0 := g0.fr0 f2
  replace f1 := f1.same f2
  have hm1 := f1.next
  obtain ⟨b_, o_, c_, rfl, _, rd⟩ := (row.sl (by decide)).nz (by decide)
  refine RunO.appendG (s := 1) (j := 4) rfl rfl rfl rfl rfl rfl rfl rfl (by decide) g0 rd (by rw [us_len, leB_len]) (by decide) (allCells_map (f := Value.int .u8) (fun _ => rfl) _) (by decide) (by decide) ?_
  intro w1 c1 row1 f3
  replace ow := ow.fr f3 (fun g => by have := (g0.at g).1; omega)
  replace f1 := f1.trans f3 (fun b a => .inr (by have := (g0.at a).1; omega))
  have hn1 := f3.next
  have g1 : Gr (qb + 1) c1 w1 1 (4 + 8 + 4) (us (([87, 67, 85, 84] ++ leB 8 g) ++ leB 4 bl)) := by rw [us_app]; exact row1.gr.lo (by omega)
  clear rd row f2 f3 g0
  have g0 := g1
  clear g1
  refine RunO.all rfl ?_
  clear row1
  refine RunC.seq (RunC.region (RunO.part 2 rfl ?_))
  refine RunO.load (v := .int .i64 rt) rfl (ow.all.cell1 (k := 2) rfl rfl) rfl ?_
  refine RunO.callD (refBytes_ok (s := 4) (v := rt) (by decide) (by omega) (by omega)) rfl rfl rfl ?_
  rintro _ a2 ⟨row, f2⟩
  have hq2 := ow.1
  have hr2 := f2.next
  replace ow := ow.fr f2 (fun g => g)
  replace g0 := g0.fr0 f2
  replace f1 := f1.same f2
  have hm2 := f1.next
  obtain ⟨b_, o_, c_, rfl, _, rd⟩ := (row.sl (by decide)).nz (by decide)
  refine RunO.appendG (s := 1) (j := 4) rfl rfl rfl rfl rfl rfl rfl rfl (by decide) g0 rd (by rw [us_len, leB_len]) (by decide) (allCells_map (f := Value.int .u8) (fun _ => rfl) _) (by decide) (by decide) ?_
  intro w2 c2 row2 f3
  replace ow := ow.fr f3 (fun g => by have := (g0.at g).1; omega)
  replace f1 := f1.trans f3 (fun b a => .inr (by have := (g0.at a).1; omega))
  have hn2 := f3.next
  have g1 : Gr (qb + 1) c2 w2 1 (4 + 8 + 4 + 4) (us ((([87, 67, 85, 84] ++ leB 8 g) ++ leB 4 bl) ++ leB 4 rt)) := by rw [us_app]; exact row2.gr.lo (by omega)
  clear rd row f2 f3 g0
  have g0 := g1
  clear g1
  refine RunO.all rfl ?_
  clear row2
  refine RunC.seq (RunC.region (RunO.part 2 rfl ?_))
  refine RunO.load (v := .int .i64 sz) rfl (ow.all.cell1 (k := 3) rfl rfl) rfl ?_
  refine RunO.callD (refBytes_ok (s := 4) (v := sz) (by decide) (by omega) (by omega)) rfl rfl rfl ?_
  rintro _ a3 ⟨row, f2⟩
  have hq3 := ow.1
  have hr3 := f2.next
  replace ow := ow.fr f2 (fun g => g)
  replace g0 := g0.fr0 f2
  replace f1 := f1.same f2
  have hm3 := f1.next
  obtain ⟨b_, o_, c_, rfl, _, rd⟩ := (row.sl (by decide)).nz (by decide)
  refine RunO.appendG (s := 1) (j := 4) rfl rfl rfl rfl rfl rfl rfl rfl (by decide) g0 rd (by rw [us_len, leB_len]) (by decide) (allCells_map (f := Value.int .u8) (fun _ => rfl) _) (by decide) (by decide) ?_
  intro w3 c3 row3 f3
  replace ow := ow.fr f3 (fun g => by have := (g0.at g).1; omega)
  replace f1 := f1.trans f3 (fun b a => .inr (by have := (g0.at a).1; omega))
  have hn3 := f3.next
  have g1 : Gr (qb + 1) c3 w3 1 (4 + 8 + 4 + 4 + 4) (us (((([87, 67, 85, 84] ++ leB 8 g) ++ leB 4 bl) ++ leB 4 rt) ++ leB 4 sz)) := by rw [us_app]; exact row3.gr.lo (by omega)
  clear rd row f2 f3 g0
  have g0 := g1
  clear g1
  refine RunO.all rfl ?_
  clear row3
  refine RunC.seq (RunC.region (RunO.part 2 rfl ?_))
  refine RunO.load (v := .int .i64 fi) rfl (ow.all.cell1 (k := 4) rfl rfl) rfl ?_
  refine RunO.callD (refBytes_ok (s := 4) (v := fi) (by decide) (by omega) (by omega)) rfl rfl rfl ?_
  rintro _ a4 ⟨row, f2⟩
  have hq4 := ow.1
  have hr4 := f2.next
  replace ow := ow.fr f2 (fun g => g)
  replace g0 := g0.fr0 f2
  replace f1 := f1.same f2
  have hm4 := f1.next
  obtain ⟨b_, o_, c_, rfl, _, rd⟩ := (row.sl (by decide)).nz (by decide)
  refine RunO.appendG (s := 1) (j := 4) rfl rfl rfl rfl rfl rfl rfl rfl (by decide) g0 rd (by rw [us_len, leB_len]) (by decide) (allCells_map (f := Value.int .u8) (fun _ => rfl) _) (by decide) (by decide) ?_
  intro w4 c4 row4 f3
  replace ow := ow.fr f3 (fun g => by have := (g0.at g).1; omega)
  replace f1 := f1.trans f3 (fun b a => .inr (by have := (g0.at a).1; omega))
  have hn4 := f3.next
  have g1 : Gr (qb + 1) c4 w4 1 (4 + 8 + 4 + 4 + 4 + 4) (us ((((([87, 67, 85, 84] ++ leB 8 g) ++ leB 4 bl) ++ leB 4 rt) ++ leB 4 sz) ++ leB 4 fi)) := by rw [us_app]; exact row4.gr.lo (by omega)
  clear rd row f2 f3 g0
  have g0 := g1
  clear g1
  have e : sealB ((((([87, 67, 85, 84] ++ leB 8 g) ++ leB 4 bl) ++ leB 4 rt) ++ leB 4 sz) ++ leB 4 fi) = superBlock g bl rt sz fi := by
    have := seal_make (mb := [87, 67, 85, 84]) (ss := [8, 4, 4, 4, 4]) (ns := [g, bl, rt, sz, fi]) rfl rfl (by decide)
    rw [← List.append_nil ((((([87, 67, 85, 84] ++ leB 8 g) ++ leB 4 bl) ++ leB 4 rt) ++ leB 4 sz) ++ leB 4 fi)]
    have e2 : ((((([87, 67, 85, 84] ++ leB 8 g) ++ leB 4 bl) ++ leB 4 rt) ++ leB 4 sz) ++ leB 4 fi) ++ [] = [87, 67, 85, 84] ++ catB [8, 4, 4, 4, 4] [g, bl, rt, sz, fi] := by simp only [catB, List.append_assoc, List.append_nil]
    rw [e2, this]; rfl
  have rr : Row a4.next c4 w4 1 (4 + 8 + 4 + 4 + 4 + 4) (us ((((([87, 67, 85, 84] ++ leB 8 g) ++ leB 4 bl) ++ leB 4 rt) ++ leB 4 sz) ++ leB 4 fi)) := by rw [us_app]; exact row4
  refine RunO.callD (refSeal_ok rr (by simp only [List.length_append, leB_len]; decide) (by simp only [List.length_append, leB_len]; rfl) hn4) rfl rfl rfl ?_
  rintro _ h9 ⟨row9, f9⟩
  rw [e] at row9
  exact RunO.all rfl (RunC.ret ⟨_, rfl, Row.lo2 row9 (by omega), f1.trans f9 (fun b g => .inr (by have : a4.next ≤ b := g; omega))⟩)
end Go.Proofs.Ytaaemamcdhebhaa
end
section
set_option linter.unusedVariables false
set_option linter.unusedSectionVars false
set_option maxRecDepth 100000
open Go Go.Am
namespace Go.Proofs.Ytaaemamcdhebhaa
open Go.Proofs.Try
def lnk (n : Int) : Bool := n == 0 || inB n 2 (fwrap .i64 (4096 - 1))
end Go.Proofs.Ytaaemamcdhebhaa
end
section
set_option linter.unusedVariables false
set_option maxRecDepth 100000
open Go Go.Am Go.RowKit
namespace Go.Proofs.Ytaaemamcdhebhaa
open Go.Proofs.Try
theorem refBlocks_ok {h : Heap} {v : Value} {L : List Int} (sl : Sl h v 1 L.length (us L)) (hm : L.length ≤ 4611686018427387904) : RunF prog 39 [v] h fun r h' => r = .tuple #[.int .i64 ((L.length / 64 : Nat) : Int), .bool (devOk L.length)] ∧ h = h' := by
  refine RunF.walk func39 rfl rfl ?_
  obtain ⟨A, c, rfl, hc, _⟩ := sl.form
  have e1 : (L.length : Int).tdiv 64 = ((L.length / 64 : Nat) : Int) := by rw [Int.tdiv_eq_ediv_of_nonneg (by omega)]; omega
  have e2 : (L.length : Int).tmod 64 = ((L.length % 64 : Nat) : Int) := by rw [Int.tmod_eq_emod_of_nonneg (by omega)]; omega
  refine RunC.seq (RunC.region (RunO.all rfl ?_))
  refine RunC.seq (RunC.region (RunO.part 2 rfl ?_))
  refine RunO.part 1 rfl ?_
  rw [e1, fw64 (by omega) (by omega)]
  refine RunO.all rfl ?_
  refine RunC.seq (RunC.region (RunO.part 4 rfl ?_))
  rw [e2]
  refine RunO.part 2 rfl ?_
  have hd : devOk L.length = ((((L.length % 64 : Nat) : Int) == 0) && inB ((L.length / 64 : Nat) : Int) 4 4096) := by
    unfold devOk inB
    rw [Bool.eq_iff_iff]
    simp only [Bool.and_eq_true, beq_iff_eq, decide_eq_true_eq]
    omega
  rw [hd]
  cases (((L.length % 64 : Nat) : Int) == 0) with
  | false => exact RunO.all rfl (RunC.ret ⟨_, rfl, rfl, rfl⟩)
  | true =>
    refine RunO.part 1 rfl ?_
    refine RunO.callDG rfl refIn_ok rfl rfl rfl ?_
    rintro _ _ ⟨rfl, rfl⟩
    exact RunO.all rfl (RunC.ret ⟨_, rfl, rfl, rfl⟩)
theorem refBlock_ok {h : Heap} {v : Value} {L : List Int} {i : Nat} (sl : Sl h v 1 L.length (us L)) (hi : (i + 1) * 64 ≤ L.length) (hm : L.length ≤ 4611686018427387904) :
    RunF prog 64 [v, .int .i64 (i : Int)] h fun r h' => Sl h r 1 64 (us (blkI L i)) ∧ h = h' := by
  refine RunF.walk func64 rfl rfl ?_
  refine RunC.seq (RunC.region (RunO.all rfl ?_))
  refine RunC.seq (RunC.region (RunO.part 6 rfl ?_))
  rw [fw64 (x := (i : Int) * 64) (by omega) (by omega), fw64 (x := (i : Int) * 64 + 64) (by omega) (by omega), show (i : Int) * 64 = ((i * 64 : Nat) : Int) by omega, show ((i * 64 : Nat) : Int) + 64 = ((i * 64 + 64 : Nat) : Int) by omega]
  obtain ⟨v', h1, h2⟩ := sl_part sl (k := i * 64) (m := i * 64 + 64) (by omega) (by omega) .i64 .i64
  rw [show i * 64 + 64 - i * 64 = 64 by omega] at h2
  have hl : ((L.drop (i * 64)).take 64).length = 64 := blkI_len hi
  rw [hl] at h2
  refine RunO.one (v := v') (h1 := h) rfl (by show pureR h _ = _; exact congrArg (pureR h) h1) rfl ?_
  exact RunO.all rfl (RunC.ret ⟨_, rfl, h2, rfl⟩)
/-- A device alone: is it more than is played? -/
theorem heavy_ok {h : Heap} {v : Value} {L : List Int} (sl : Sl h v 1 L.length (us L)) : RunF prog 31 [v, .slice none 0 0] h fun r h' => r = .bool (decide ((L.length : Int) > 19200)) ∧ h = h' := by
  refine RunF.walk func31 rfl rfl ?_
  obtain ⟨A, c, rfl, hc, _⟩ := sl.form
  refine RunC.seq (RunC.region (RunO.all rfl ?_))
  refine RunC.seq (RunC.seq (RunC.region (RunO.part 4 rfl ?_)))
  cases decide ((L.length : Int) > 19200) with
  | true =>
    refine RunO.all rfl (RunC.cond rfl (fun _ => ?_) (fun g => by cases g))
    exact RunC.seq (RunC.region (RunO.all rfl (RunC.ret ⟨_, rfl, rfl, rfl⟩)))
  | false =>
    refine RunO.all rfl (RunC.cond rfl (fun g => by cases g) (fun _ => RunC.skip ?_))
    refine RunC.seq (RunC.seq (RunC.region (RunO.all rfl ?_)))
    refine RunC.block ?_
    let I : Nat → Env → Heap → Prop := fun d E h' => h = h' ∧ Le (upd (upd E0 1 (.slice none 0 0)) 5 (.int .i64 0)) E
    refine RunC.loop I ?_ (k := 0) ?_
    · rintro d E h' ⟨rfl, hE⟩
      refine RunC.le hE ?_
      clear hE
      refine RunC.seq (RunC.seq (RunC.region (RunO.all rfl ?_)))
      refine RunC.cond rfl (fun g => by cases g) (fun _ => RunC.exit ?_)
      exact RunC.seq (RunC.region (RunO.all rfl (RunC.ret ⟨_, rfl, rfl, rfl⟩)))
    · exact ⟨rfl, Le.cons rfl (Le.cons rfl (Le.nil _))⟩
end Go.Proofs.Ytaaemamcdhebhaa
end
section
set_option linter.unusedVariables false
set_option maxRecDepth 100000
open Go Go.Am
namespace Go.Proofs.Ytaaemamcdhebhaa
open Go.Proofs.Try
end Go.Proofs.Ytaaemamcdhebhaa
end
section
set_option linter.unusedVariables false
set_option maxRecDepth 100000
open Go Go.Am
namespace Go.Proofs.Ytaaemamcdhebhaa
open Go.Proofs.Try
end Go.Proofs.Ytaaemamcdhebhaa
end
section
set_option linter.unusedVariables false
set_option maxRecDepth 100000
open Go Go.Am Go.RowKit
namespace Go.Proofs.Ytaaemamcdhebhaa
open Go.Proofs.Try
/-- A record. -/
structure R8 where
  nx : Int
  id : Int
  pa : Int
  ro : Int
  sz : Int
  ki : Int
  fr : Int
  di : Int
deriving DecidableEq
def rc8 (r : R8) : List Value := rc r.nx r.id r.pa r.ro r.sz r.ki r.fr r.di
def rPar (l : List Int) : R8 := if rCode l = 0 then ⟨rNum l 0, rNum l 1, rNum l 2, rNum l 3, rNum l 4, rNum l 5, rNum l 6, rNum l 7⟩ else ⟨0, 0, 0, 0, 0, 0, 0, 0⟩
def recCs (l : List R8) : List Value := l.flatMap rc8
/-- May a record be the next one? -/
def mayR (l : List R8) (w : Nat) (r : R8) : Bool := if r.ki == 1 then ((l.length : Int) == 0) else (!(l.any fun x => x.id == r.id) && decide ((w : Int) < 60))
end Go.Proofs.Ytaaemamcdhebhaa
end
section
set_option linter.unusedVariables false
set_option maxRecDepth 100000
open Go Go.Am Go.RowKit
namespace Go.Proofs.Ytaaemamcdhebhaa
open Go.Proofs.Try
def nodLay : List Nat := [4, 4, 4, 4, 4, 4, 4, 4, 4]
/-- A node's cells: its level, its pointers. -/
def nc (lv : Int) (ps : List Int) : List Value := .int .i64 lv :: is ps
def anyP (ps : List Int) : Bool := ps.any (· != 0)
def nodOk (lv : Int) (ps : List Int) : Bool := ps.all ptrB && (!(decide (lv < 0)) && (!(decide (lv > 2)) && anyP ps))
end Go.Proofs.Ytaaemamcdhebhaa
end
section
set_option linter.unusedVariables false
set_option maxRecDepth 100000
open Go Go.Am Go.RowKit
namespace Go.Proofs.Ytaaemamcdhebhaa
open Go.Proofs.Try
def nMag : List Int := [78, 79, 68, 69]
def nLay : List (Nat × Nat) := layF 4 nodLay
/-- A node's block. -/
def nodBlock (lv : Int) (ps : List Int) : List Int := makeB nMag nLay (lv :: ps)
end Go.Proofs.Ytaaemamcdhebhaa
end
section
set_option linter.unusedVariables false
set_option maxRecDepth 100000
open Go Go.Am Go.RowKit
namespace Go.Proofs.Ytaaemamcdhebhaa
open Go.Proofs.Try
def nLv (l : List Int) : Int := (leGet l 4 4).1
def nPs (l : List Int) : List Int := [(leGet l 8 4).1, (leGet l 12 4).1, (leGet l 16 4).1, (leGet l 20 4).1, (leGet l 24 4).1, (leGet l 28 4).1, (leGet l 32 4).1, (leGet l 36 4).1]
def nZero : List Int := [0, 0, 0, 0, 0, 0, 0, 0]
def nCode (l : List Int) : Int := if readB nMag nLay l = 0 then (if nodOk (nLv l) (nPs l) then 0 else 1) else readB nMag nLay l
def nCells (l : List Int) : List Value := if nCode l = 0 then nc (nLv l) (nPs l) else nc 0 nZero
end Go.Proofs.Ytaaemamcdhebhaa
end
section
set_option linter.unusedVariables false
set_option maxRecDepth 100000
open Go Go.Am Go.RowKit
namespace Go.Proofs.Ytaaemamcdhebhaa
open Go.Proofs.Try
end Go.Proofs.Ytaaemamcdhebhaa
end
section
set_option linter.unusedVariables false
set_option maxRecDepth 100000
open Go Go.Am Go.RowKit
namespace Go.Proofs.Ytaaemamcdhebhaa
open Go.Proofs.Try
/-- The node that a block tells; none: no pointers. -/
def nodV (l : List Int) : Int × List Int := if nCode l = 0 then (nLv l, nPs l) else (0, nZero)
def atIn (B : Nat) (at_ : Int) : Bool := !(decide (at_ < 2) || decide (at_ ≥ (B : Int)))
def atV (L : List Int) (B : Nat) (at_ : Int) : Int × List Int := if atIn B at_ then nodV (blkI L at_.toNat) else (0, nZero)
def atIs (L : List Int) (B : Nat) (at_ lv : Int) : Bool := atIn B at_ && (nCode (blkI L at_.toNat) == 0 && (atV L B at_).1 == lv)
/-- A walk through a tree: the map, the nodes, is it none? -/
abbrev TS := List Int × List Int × Bool
def tstep (rec_ : Int → Nat → TS → TS) (B : Nat) (leaf : Bool) (w : TS) (p : Int) (to_ : Nat) : TS :=
  if w.2.2 then w else if decide (p ≥ (B : Int)) then (w.1, w.2.1, true) else if p != 0 && leaf then (w.1.set to_ p, w.2.1, w.2.2) else if p != 0 then rec_ p to_ w else w
def tbody (L : List Int) (B lv : Nat) (rec_ : Int → Nat → TS → TS) (at_ : Int) (from_ : Nat) (w : TS) : TS :=
  if !atIs L B at_ (lv : Int) || w.2.1.contains at_ then (w.1, w.2.1, true)
  else (List.range 8).foldl (fun w i => tstep rec_ B (lv == 0) w ((atV L B at_).2.getD i 0) (from_ + i * 8 ^ lv)) (w.1, w.2.1 ++ [at_], w.2.2)
def tgo (L : List Int) (B : Nat) : Nat → Int → Nat → TS → TS
  | 0 => tbody L B 0 (fun _ _ w => w)
  | k + 1 => tbody L B (k + 1) (tgo L B k)
def trec (L : List Int) (B : Nat) : Nat → Int → Nat → TS → TS
  | 0 => fun _ _ w => w
  | k + 1 => tgo L B k
/-- So many nodes at most. -/
def nN : Nat → Nat
  | 0 => 1
  | k + 1 => 1 + 8 * nN k
def rN : Nat → Nat
  | 0 => 0
  | k + 1 => nN k
end Go.Proofs.Ytaaemamcdhebhaa
end
section
set_option linter.unusedVariables false
set_option maxRecDepth 100000
open Go Go.Am Go.RowKit
namespace Go.Proofs.Ytaaemamcdhebhaa
open Go.Proofs.Try
/-- What a pointer of a level leads to, for a place under it; level 0: a sector's block. -/
def look (L : List Int) (B : Nat) : Nat → Int → Nat → Int
  | 0, p, _ => p
  | k + 1, p, s => if p = 0 then 0 else look L B k ((atV L B p).2.getD (s / 8 ^ k) 0) (s % 8 ^ k)
/-- Along the way to a place each node is one, of its level. -/
def pathOk (L : List Int) (B : Nat) : Nat → Int → Nat → Prop
  | 0, _, _ => True
  | k + 1, p, s => p ≠ 0 → atIs L B p (k : Int) = true ∧ pathOk L B k ((atV L B p).2.getD (s / 8 ^ k) 0) (s % 8 ^ k)
/-- The fold of a node's pointers, as it goes. -/
def tst (L : List Int) (B lv : Nat) (ps : List Int) (f : Nat) (w : TS) (i : Nat) : TS := tstep (trec L B lv) B (lv == 0) w (ps.getD i 0) (f + i * 8 ^ lv)
/-- What a walk that ends well has done. -/
structure TSpec (L : List Int) (B lv : Nat) (a : Int) (f : Nat) (w r : TS) : Prop where
  is_ : atIs L B a (lv : Int) = true
  new : w.2.1.contains a = false
  ns : ∃ t, r.2.1 = w.2.1 ++ a :: t
  nd : w.2.1.Nodup → r.2.1.Nodup
  m : ∀ s, s < 512 → r.1.getD s 0 = if f ≤ s ∧ s < f + 8 ^ (lv + 1) then look L B (lv + 1) a (s - f) else w.1.getD s 0
  path : ∀ s, s < 8 ^ (lv + 1) → pathOk L B (lv + 1) a s
  all : ∀ x ∈ r.2.1, x ∈ w.2.1 ∨ ∃ k, k ≤ lv ∧ atIs L B x (k : Int) = true
  bnd : ∀ x ∈ r.1, x ∈ w.1 ∨ x = 0 ∨ x < B
def SpecAt (L : List Int) (B lv : Nat) : Prop := ∀ (a : Int) (f : Nat) (w : TS), f + 8 ^ (lv + 1) ≤ 512 → w.1.length = 512 → w.2.2 = false → (∀ s, f ≤ s → s < f + 8 ^ (lv + 1) → w.1.getD s 0 = 0) → (tgo L B lv a f w).2.2 = false → TSpec L B lv a f w (tgo L B lv a f w)
structure FSpec (L : List Int) (B lv : Nat) (ps : List Int) (f : Nat) (m ns : List Int) (i : Nat) (r : TS) : Prop where
  len : r.1.length = 512
  tail : ∃ t, r.2.1 = ns ++ t
  nd : ns.Nodup → r.2.1.Nodup
  map : ∀ s, s < 512 → r.1.getD s 0 = if f ≤ s ∧ s < f + i * 8 ^ lv then look L B lv (ps.getD ((s - f) / 8 ^ lv) 0) ((s - f) % 8 ^ lv) else m.getD s 0
  path : ∀ j, j < i → ∀ s, s < 8 ^ lv → pathOk L B lv (ps.getD j 0) s
  all : ∀ x ∈ r.2.1, x ∈ ns ∨ ∃ k, k ≤ lv ∧ atIs L B x (k : Int) = true
  bnd : ∀ x ∈ r.1, x ∈ m ∨ x = 0 ∨ x < B
end Go.Proofs.Ytaaemamcdhebhaa
end
section
set_option linter.unusedVariables false
set_option maxRecDepth 100000
open Go Go.Am Go.RowKit
namespace Go.Proofs.Ytaaemamcdhebhaa
open Go.Proofs.Try
end Go.Proofs.Ytaaemamcdhebhaa
end
section
set_option linter.unusedVariables false
set_option maxRecDepth 100000
open Go Go.Am Go.RowKit
namespace Go.Proofs.Ytaaemamcdhebhaa
open Go.Proofs.Try
end Go.Proofs.Ytaaemamcdhebhaa
end
section
set_option linter.unusedVariables false
set_option maxRecDepth 100000
open Go Go.Am Go.RowKit
namespace Go.Proofs.Ytaaemamcdhebhaa
open Go.Proofs.Try
theorem twin_ok {h : Heap} {v : Value} {l : List Int} (sl : Sl h v 1 l.length (us l)) (hb : 2 * l.length ≤ 281474976710656) : RunF prog 14 [v] h fun r h' => Row h.next h' r 1 l.length (us l) ∧ Fr no h h' := by
  refine RunF.walk func14 rfl rfl ?_
  refine RunC.seq (RunC.region (RunO.all rfl ?_))
  refine RunC.seq (RunC.region (RunO.all rfl ?_))
  refine RunC.seq (RunC.region (RunO.part 2 rfl ?_))
  refine RunO.appendOs (s := 1) (k := 0) rfl rfl rfl rfl rfl rfl rfl rfl (Nat.le_refl 1) (Row.nil h.next h 1) (Nat.le_refl _) sl (allCells_map (fun _ => rfl) l) (by show 2 * (0 + l.length) * 1 ≤ _; omega) (by omega) ?_
  intro v' h' row f
  rw [Nat.zero_add, List.nil_append] at row
  exact RunO.all rfl (RunC.ret ⟨_, rfl, row, f.weak (fun i g => by obtain ⟨_, _, e⟩ := g; cases e)⟩)
end Go.Proofs.Ytaaemamcdhebhaa
end
section
set_option linter.unusedVariables false
set_option maxRecDepth 100000
open Go Go.Am Go.RowKit
namespace Go.Proofs.Ytaaemamcdhebhaa
open Go.Proofs.Try
/-- The cells of a walk. -/
def wc (iv : Value) (B : Nat) (mv nv : Value) (bad : Bool) : List Value := [iv, .int .i64 (B : Int), mv, nv, .bool bad]
/-- A walk through a tree, in memory: its own block, the map's, the nodes' row. -/
structure TW (lo : Nat) (h : Heap) (iv : Value) (B wb mb : Nat) (nv : Value) (w : TS) : Prop where
  ow : Ow h wb (wc iv B (.slice (some ⟨mb, 0, none⟩) 512 (exc 512)) nv w.2.2)
  om : Ow h mb (is w.1)
  row : Row lo h nv 1 w.2.1.length (is w.2.1)
  len : w.1.length = 512
  ne : wb ≠ mb
  lw : wb < lo
  lm : mb < lo
  ln : lo ≤ h.next
/-- What a walk writes. -/
def TM (lo wb mb : Nat) : Nat → Prop := fun b => b = wb ∨ b = mb ∨ lo ≤ b
end Go.Proofs.Ytaaemamcdhebhaa
end
section
set_option linter.unusedVariables false
set_option maxRecDepth 100000
open Go Go.Am Go.RowKit
namespace Go.Proofs.Ytaaemamcdhebhaa
open Go.Proofs.Try
def treeW (L : List Int) (root : Int) : TS := tgo L (L.length / 64) 2 root 0 (List.replicate 512 0, [], false)
/-- Is there a tree at a root of a right device? -/
def treeOk (L : List Int) (root : Int) : Bool := root == 0 || (!(treeW L root).2.2 && !((treeW L root).1.any fun b => (treeW L root).2.1.contains b))
def treeM (L : List Int) (root : Int) : List Int := if root == 0 then List.replicate 512 0 else (treeW L root).1
def treeN (L : List Int) (root : Int) : List Int := if root == 0 then [] else (treeW L root).2.1
/-- A walk that is told. -/
def WK (lo : Nat) (h : Heap) (wb : Nat) (iv : Value) (B : Nat) (m ns : List Int) : Prop :=
  ∃ mb nv, lo ≤ wb ∧ lo ≤ mb ∧ Ow h wb (wc iv B (.slice (some ⟨mb, 0, none⟩) 512 (exc 512)) nv false) ∧ Ow h mb (is m) ∧ Row lo h nv 1 ns.length (is ns) ∧ m.length = 512 ∧ ns.length ≤ 73
end Go.Proofs.Ytaaemamcdhebhaa
end
section
set_option linter.unusedVariables false
set_option maxRecDepth 100000
open Go Go.Am Go.RowKit
namespace Go.Proofs.Ytaaemamcdhebhaa
open Go.Proofs.Try
/-- A chain of records, followed: what was met, and the block that is none of them. -/
def folB (B : Nat) (bs : List Int) (a : Int) : Bool := (decide (a < 2) || decide (a ≥ (B : Int))) || bs.contains a
def fol (L : List Int) (B : Nat) : Nat → Int → List R8 → List Int → Nat → List R8 × List Int × Nat × Int
  | 0, a, l, bs, w => (l, bs, w, a)
  | f + 1, a, l, bs, w => if a = 0 then (l, bs, w, 0) else if folB B bs a then (l, bs, w, a) else
    if (rCode (blkI L a.toNat) != 0) || !mayR l w (rPar (blkI L a.toNat)) then (l, bs, w, a) else
      fol L B f (rPar (blkI L a.toNat)).nx (l ++ [rPar (blkI L a.toNat)]) (bs ++ [a]) (if (rPar (blkI L a.toNat)).ki == 0 then w + 1 else w)
def folOf (L : List Int) (a : Int) : List R8 × List Int × Nat × Int := fol L (L.length / 64) (L.length / 64) a [] [] 0
/-- What follow leaves in memory. -/
def FolR (lo : Nat) (h : Heap) (kb : Nat) (x : List R8 × List Int × Nat × Int) : Prop :=
  ∃ lv bv, lo ≤ kb ∧ Ow h kb [lv, bv, .int .i64 (x.2.2.1 : Int), .int .i64 x.2.2.2] ∧ Row lo h lv 8 x.1.length (recCs x.1) ∧ Row lo h bv 1 x.2.1.length (is x.2.1)
end Go.Proofs.Ytaaemamcdhebhaa
end
section
set_option linter.unusedVariables false
set_option linter.unusedSectionVars false
set_option maxRecDepth 100000
open Go Go.Am Go.RowKit
namespace Go.Proofs.Ytaaemamcdhebhaa
open Go.Proofs.Try
def bo (l : List Bool) : List Value := l.map Value.bool
/-- A tree that was walked: its block, its map, its nodes. -/
abbrev Tr3 : Type := Nat × List Int × List Int
def tps (l : List Tr3) : List Value := l.map fun t => .pointer (some ⟨t.1, 0, none⟩)
/-- It reads so, and is in range. -/
def TrOk (B : Nat) (h : Heap) (t : Tr3) : Prop :=
  ∃ iv mv nv, Ow h t.1 (wc iv B mv nv false) ∧ Sl h mv 1 t.2.1.length (is t.2.1) ∧ Sl h nv 1 t.2.2.length (is t.2.2) ∧ t.2.1.length = 512 ∧ t.2.2.length ≤ 100000 ∧ (∀ x ∈ t.2.1, 0 ≤ x ∧ x < (B : Int)) ∧ ∀ x ∈ t.2.2, 0 ≤ x ∧ x < (B : Int)
/-- The marks. -/
structure CW (h : Heap) (B pb nb rb sb : Nat) (N R S : List Bool) : Prop where
  op : Ow h pb [.slice (some ⟨nb, 0, none⟩) B (exc B), .slice (some ⟨rb, 0, none⟩) B (exc B), .slice (some ⟨sb, 0, none⟩) B (exc B)]
  on : Ow h nb (bo N)
  or : Ow h rb (bo R)
  os : Ow h sb (bo S)
  ln : N.length = B
  lr : R.length = B
  ls : S.length = B
structure CD (pb nb rb sb : Nat) : Prop where
  pn : pb ≠ nb
  pr : pb ≠ rb
  ps : pb ≠ sb
  nr : nb ≠ rb
  ns : nb ≠ sb
  rs : rb ≠ sb
section
variable {h : Heap} {B pb nb rb sb : Nat} {N R S : List Bool} (d : CD pb nb rb sb) (t : CW h B pb nb rb sb N R S)
include d t
end
/-- What a block is of two kinds. -/
def isN (TL : List Tr3) (j : Nat) : Bool := TL.any fun t => t.2.2.contains (j : Int)
def isS (TL : List Tr3) (j : Nat) : Bool := TL.any fun t => decide (j ≠ 0) && t.2.1.contains (j : Int)
def clP (bl : List Int) (TL : List Tr3) (j : Nat) : Bool := (isS TL j && (isN TL j || bl.contains (j : Int))) || (isN TL j && bl.contains (j : Int))
def imC (s5 : List Value) (sl : Value) (rv bv tv : Value) : List Value := s5 ++ [sl, rv, bv, tv]
end Go.Proofs.Ytaaemamcdhebhaa
end
section
set_option linter.unusedVariables false
set_option linter.unusedSectionVars false
set_option maxRecDepth 100000
open Go Go.Am Go.RowKit
namespace Go.Proofs.Ytaaemamcdhebhaa
open Go.Proofs.Try
/-- The cells of an open image. -/
def imc (s : S5) (slot : Int) (rv bv tv : Value) : List Value := sc5 s ++ [.int .i64 slot, rv, bv, tv]
end Go.Proofs.Ytaaemamcdhebhaa
end
section
set_option linter.unusedVariables false
set_option maxRecDepth 100000
open Go Go.Am Go.RowKit
namespace Go.Proofs.Ytaaemamcdhebhaa
open Go.Proofs.Try
/-- Why there is no tree. -/
def treeE (L : List Int) (root : Int) : Int := if devOk L.length then (if treeOk L root then 0 else 6) else 2
def secOk (s : Int) : Bool := !(decide (s < 0) || decide (s ≥ 512))
/-- Why a sector has no block. -/
def sectorE (L : List Int) (root s : Int) : Int := if treeE L root = 0 then (if secOk s then 0 else 3) else treeE L root
def sectorV (L : List Int) (root s : Int) : Int := if treeE L root = 0 then (if secOk s then (treeM L root).getD s.toNat 0 else 0) else 0
def offMap (B b : Int) : Bool := b != 0 && (decide (b < 2) || decide (b ≥ B))
/-- Why a map is none. -/
def mapE (m : List Int) (B : Int) : Int := if m.length = 512 then (if m.any (offMap B) then 1 else 0) else 2
end Go.Proofs.Ytaaemamcdhebhaa
end
section
set_option linter.unusedVariables false
set_option maxRecDepth 100000
open Go Go.Am
namespace Go.Proofs.Ytaaemamcdhebhaa
open Go.Proofs.Try
end Go.Proofs.Ytaaemamcdhebhaa
end
section
set_option linter.unusedVariables false
set_option maxRecDepth 100000
open Go Go.Am
namespace Go.Proofs.Ytaaemamcdhebhaa
open Go.Proofs.Try
abbrev IoT := Int × Int × List Int × Unit
/-- A device step's cells. -/
def IoK (h : Heap) (x : IoT) (cs : List Value) : Prop := ∃ dv, cs = [.int .i64 x.1, .int .i64 x.2.1, dv] ∧ Sl h dv 1 x.2.2.1.length (us x.2.2.1) ∧ Byt x.2.2.1
/-- A slice of device steps. -/
def Ios (h : Heap) (v : Value) (l : List IoT) : Prop := ∃ acs, Sl h v 3 l.length acs ∧ ∀ (j : Nat) (x : IoT), l[j]? = some x → IoK h x ((acs.drop (j * 3)).take 3)
/-- Is a step right? -/
def ioR (k a : Int) (n : Nat) (b : Int) : Bool := if (k == 1) = true then decide (a ≥ 0) && (decide (a < b) && ((n : Int) == 64)) else if (k == 2) = true then a == 0 && ((n : Int) == 0) else false
/-- Why steps are not a device's. -/
def stepsE (n : Nat) (l : List IoT) : Int := if devOk n then (if decide ((l.length : Int) > 1048576) then 2 else if l.any (fun x => !ioR x.1 x.2.1 x.2.2.1.length (n / 64 : Nat)) then 1 else 0) else 2
end Go.Proofs.Ytaaemamcdhebhaa
end
section
set_option linter.unusedVariables false
set_option maxRecDepth 100000
open Go Go.Am
namespace Go.Proofs.Ytaaemamcdhebhaa
open Go.Proofs.Try
/-- A block written over. -/
def setBlk (o : List Int) (i : Nat) (d : List Int) : List Int := o.take (i * 64) ++ d ++ o.drop (i * 64 + 64)
def applyStep (o : List Int) (x : IoT) : List Int := if (x.1 == 1) = true then setBlk o x.2.1.toNat x.2.2.1 else o
def applyL (o : List Int) (l : List IoT) : List Int := l.foldl applyStep o
/-- A step that is right. -/
def ioOk (n : Nat) (x : IoT) : Prop := x.1 = 1 ∧ (∃ a : Nat, x.2.1 = (a : Int) ∧ a < n / 64) ∧ x.2.2.1.length = 64 ∨ x.1 = 2 ∧ x.2.1 = 0 ∧ x.2.2.1 = []
end Go.Proofs.Ytaaemamcdhebhaa
end
section
set_option linter.unusedVariables false
set_option maxRecDepth 100000
open Go Go.Am Go.RowKit
namespace Go.Proofs.Ytaaemamcdhebhaa
open Go.Proofs.Try
/-- A node of one pointer. -/
def oneP (k : Nat) (p : Int) : List Int := nZero.set k p
/-- A device with a tree of one sector, so many nodes of it written: its bytes, what the next one leads to. -/
def chainI (B at_ sec : Nat) (data : Int) : Nat → List Int × Int
  | 0 => (List.replicate (B * 64) 0, data)
  | i + 1 => (setBlk (chainI B at_ sec data i).1 (at_ + i) (nodBlock i (oneP (sec / 8 ^ i % 8) (chainI B at_ sec data i).2)), ((at_ + i : Nat) : Int))
def chain (B at_ sec : Nat) (data : Int) : List Int := (chainI B at_ sec data 3).1
end Go.Proofs.Ytaaemamcdhebhaa
end
section
set_option linter.unusedVariables false
set_option maxRecDepth 100000
open Go Go.Am Go.RowKit
namespace Go.Proofs.Ytaaemamcdhebhaa
open Go.Proofs.Try
end Go.Proofs.Ytaaemamcdhebhaa
end
section
open Go Go.Am Go.RowKit
namespace Go.Proofs.Ytaaemamcdhebhaa
open Go.Proofs.Try
theorem mixed : prog.follows .mixedOrders = true := by kernel_rfl
theorem routines : noRoutine prog = true := by kernel_rfl
end Go.Proofs.Ytaaemamcdhebhaa
end
section
set_option linter.unusedVariables false
set_option maxRecDepth 100000
open Go Go.Am Go.RowKit
namespace Go.Proofs.Ytaaemamcdhebhaa
open Go.Proofs.Try
theorem sl_own {h : Heap} {b c n : Nat} {l : List Int} (ow : Ow h b (us l)) (hl : l.length = n) (hc : Cp 1 n c) (hn : n ≤ 9223372036854775807) : Sl h (.slice (some ⟨b, 0, none⟩) n c) 1 l.length (us l) := by
  subst hl
  exact ow.all.sl (by rw [us_len, Nat.mul_one]) hn hc
end Go.Proofs.Ytaaemamcdhebhaa
end
section
set_option linter.unusedVariables false
set_option maxRecDepth 100000
open Go Go.Am Go.RowKit
namespace Go.Proofs.Ytaaemamcdhebhaa
open Go.Proofs.Try
end Go.Proofs.Ytaaemamcdhebhaa
end
section
set_option linter.unusedVariables false
set_option maxRecDepth 100000
open Go Go.Am Go.RowKit
namespace Go.Proofs.Ytaaemamcdhebhaa
open Go.Proofs.Try
end Go.Proofs.Ytaaemamcdhebhaa
end
section
set_option linter.unusedVariables false
set_option maxRecDepth 100000
open Go Go.Am Go.RowKit
namespace Go.Proofs.Ytaaemamcdhebhaa
open Go.Proofs.Try
theorem keepBytesS_ok {h : Heap} {v w : Value} {l m : List Int} (sl : Sl h v 1 l.length (us l)) (sm : Sl h w 1 m.length (us m)) (hm : l.length ≤ 4611686018427387904) :
    RunF prog 18 [v, w] h fun v h' => v = .bool (l == m) ∧ h = h' := by
  obtain ⟨A, c, rfl, _, hA⟩ := sl.form
  obtain ⟨B, d, rfl, _, hB⟩ := sm.form
  exact keepBytes_ok (fun hl => by obtain ⟨b, o, rfl, rd⟩ := hA hl; exact ⟨_, rfl, rd⟩) (fun hl => by obtain ⟨b, o, rfl, rd⟩ := hB hl; exact ⟨_, rfl, rd⟩) hm
def mapG (L : List Int) (root : Int) : List Int := if treeE L root = 0 then treeM L root else []
def nodG (L : List Int) (root : Int) : List Int := if treeE L root = 0 then treeN L root else []
end Go.Proofs.Ytaaemamcdhebhaa
end
section
set_option linter.unusedVariables false
set_option maxRecDepth 100000
open Go Go.Am Go.RowKit
namespace Go.Proofs.Ytaaemamcdhebhaa
open Go.Proofs.Try
/-- A node's pointers; of no node none. -/
def ptrsL (L : List Int) (B : Nat) (p : Int) : List Int := if p = 0 then nZero else (atV L B p).2
/-- The nodes under a pointer, from the top. -/
def nodL (L : List Int) (B : Nat) : Nat → Int → List Int
  | 0, _ => []
  | k + 1, p => if p = 0 then [] else p :: (List.range 8).flatMap fun i => nodL L B k ((ptrsL L B p).getD i 0)
/-- Under a pointer each node is one, of its level. -/
def okA (L : List Int) (B k : Nat) (p : Int) : Prop := ∀ s, s < 8 ^ k → pathOk L B k p s
/-- A walk that ends well has met just the nodes under its pointer. -/
def NodAt (L : List Int) (B lv : Nat) : Prop := ∀ (a : Int) (f : Nat) (w : TS), w.2.2 = false → (tgo L B lv a f w).2.2 = false → (tgo L B lv a f w).2.1 = w.2.1 ++ nodL L B (lv + 1) a
/-- A walk ends well. -/
def FineAt (L : List Int) (B lv : Nat) : Prop := ∀ (a : Int) (f : Nat) (w : TS), w.2.2 = false → a ≠ 0 → okA L B (lv + 1) a → (w.2.1 ++ nodL L B (lv + 1) a).Nodup → (∀ s, s < 8 ^ (lv + 1) → look L B (lv + 1) a s < B) → (tgo L B lv a f w).2.2 = false
/-- What a tree is. -/
structure TreeIs (L : List Int) (root : Int) (m : List Int) : Prop where
  len : m.length = 512
  ok : okA L (L.length / 64) 3 root
  nd : (nodL L (L.length / 64) 3 root).Nodup
  map : ∀ s, s < 512 → look L (L.length / 64) 3 root s = m.getD s 0
  lt : ∀ s, s < 512 → m.getD s 0 < (L.length / 64 : Nat)
  out : ∀ s, s < 512 → ¬ m.getD s 0 ∈ nodL L (L.length / 64) 3 root
end Go.Proofs.Ytaaemamcdhebhaa
end
section
set_option linter.unusedVariables false
set_option maxRecDepth 100000
open Go Go.Am Go.RowKit
namespace Go.Proofs.Ytaaemamcdhebhaa
open Go.Proofs.Try
/-- The places of a tree's nodes: so far down, so far along. -/
def posL : Nat → List (Nat × Nat)
  | 0 => []
  | k + 1 => (0, 0) :: (List.range 8).flatMap fun i => (posL k).map fun x => (x.1 + 1, i * 8 ^ x.1 + x.2)
end Go.Proofs.Ytaaemamcdhebhaa
end
section
set_option linter.unusedVariables false
set_option linter.unusedSectionVars false
set_option maxRecDepth 100000
open Go Go.Am Go.RowKit
namespace Go.Proofs.Ytaaemamcdhebhaa
open Go.Proofs.Try
/- An open image: what the page says of the parts. -/
/-- A record is right. -/
def r8Ok (r : R8) : Bool := recOk r.nx r.id r.pa r.ro r.sz r.ki r.fr r.di
end Go.Proofs.Ytaaemamcdhebhaa
end
section
set_option linter.unusedVariables false
set_option linter.unusedSectionVars false
set_option maxRecDepth 100000
open Go Go.Am Go.RowKit
namespace Go.Proofs.Ytaaemamcdhebhaa
open Go.Proofs.Try
def bey (m : List Int) (k : Int) : Bool := (m.drop k.toNat).any (· != 0)
def lkS (L : List Int) : S5 := (pickS L).1
def lkF (L : List Int) : List R8 × List Int × Nat × Int := folOf L (lkS L).2.2.2.2
def lkR (L : List Int) : List (Int × Int) := ((lkS L).2.2.1, (lkS L).2.2.2.1) :: (lkF L).1.map fun r => (r.ro, r.sz)
def lkX (L : List Int) (p : Int × Int) : Bool := !treeOk L p.1 || bey (treeM L p.1) p.2
def lkT (L : List Int) : List (List Int × List Int) := (lkR L).map fun p => (treeM L p.1, treeN L p.1)
def clV (B : Nat) (bl : List Int) (T : List (List Int × List Int)) : Int := match (List.range B).find? (clP bl (T.map fun t => (0, t))) with
  | some i => (i : Int)
  | none => 0
def lkC (L : List Int) : Int := clV (L.length / 64) (lkF L).2.1 (lkT L)
def lkM (L : List Int) : Int × Int := match (lkR L).find? (lkX L) with
  | some p => (p.1, 6)
  | none => (lkC L, if lkC L = 0 then 0 else 6)
def lk (L : List Int) : Int × Int := if devOk L.length then (if (pickS L).2.2 then (if (lkF L).2.2.2 = 0 then lkM L else ((lkF L).2.2.2, 7)) else (0, 8)) else (0, 2)
/-- An open image in memory. -/
def LkR (lo : Nat) (h : Heap) (xb : Nat) (L : List Int) : Prop :=
  ∃ rv bv tv TL, lo ≤ xb ∧ Ow h xb (imc (lkS L) (pickS L).2.1 rv bv tv) ∧ Row lo h rv 8 (lkF L).1.length (recCs (lkF L).1) ∧ Row lo h bv 1 (lkF L).2.1.length (is (lkF L).2.1) ∧ Sl h tv 1 TL.length (tps TL) ∧ TL.map (·.2) = lkT L ∧ ∀ t ∈ TL, TrOk (L.length / 64) h t
/-- A tree's blocks, apart from what Look writes. -/
def TrW (B : Nat) (h : Heap) (xb : Nat) (tv : Value) (t : Tr3) : Prop :=
  ∃ iv mb nv, Ow h t.1 (wc iv B (.slice (some ⟨mb, 0, none⟩) 512 (exc 512)) nv false) ∧ Ow h mb (is t.2.1) ∧ Row 0 h nv 1 t.2.2.length (is t.2.2) ∧ t.2.1.length = 512 ∧ t.2.2.length ≤ 73 ∧ (∀ x ∈ t.2.1, 0 ≤ x ∧ x < (B : Int)) ∧ (∀ x ∈ t.2.2, 2 ≤ x ∧ x < (B : Int)) ∧
    (t.1 ≠ xb ∧ ¬ At tv t.1) ∧ (mb ≠ xb ∧ ¬ At tv mb) ∧ ∀ b, At nv b → b ≠ xb ∧ ¬ At tv b
end Go.Proofs.Ytaaemamcdhebhaa
end
section
set_option linter.unusedVariables false
set_option linter.unusedSectionVars false
set_option maxRecDepth 100000
open Go Go.Am Go.RowKit
namespace Go.Proofs.Ytaaemamcdhebhaa
open Go.Proofs.Try
end Go.Proofs.Ytaaemamcdhebhaa
end
section
set_option linter.unusedVariables false
set_option linter.unusedSectionVars false
set_option maxRecDepth 100000
open Go Go.Am Go.RowKit
namespace Go.Proofs.Ytaaemamcdhebhaa
open Go.Proofs.Try
theorem eresults_cell2 {P : Program} {E : Env} {h : Heap} {a b : Tmp} {t : TypeId} {ad : Addr} {v w : Value} (h1 : E a = some (.pointer (some ad))) (h2 : aload P h t ad = some v) (h3 : E b = some w) :
    eresults P [.cell a t, .tmp b] E h = some (.tuple #[v, w]) := by
  simp only [eresults, eres, h1, h2, h3]
def recsE (L : List Int) (a : Int) : Int := if devOk L.length then (if (folOf L a).2.2.2 = 0 then 0 else 7) else 2
/-- A state's cells. -/
def stc (s : S5) (slot : Int) (rv : Value) : List Value := sc5 s ++ [.int .i64 slot, rv]
/-- Is this the whole record of an id? -/
def fdP (id : Int) (r : R8) : Bool := (r.id == id) && (r.ki == 0)
/-- A new image. -/
def newI (B : Nat) : List Int := superBlock 1 (B : Int) 0 0 0 ++ List.replicate (B * 64 - 64) 0
end Go.Proofs.Ytaaemamcdhebhaa
end
section
set_option linter.unusedVariables false
set_option linter.unusedSectionVars false
set_option maxRecDepth 100000
open Go Go.Am Go.RowKit
namespace Go.Proofs.Ytaaemamcdhebhaa
open Go.Proofs.Try
theorem pick_two (L : List Int) : pickS L = pickStep L (pickStep L ((0, 0, 0, 0, 0), 0, false) 0) 1 := rfl
end Go.Proofs.Ytaaemamcdhebhaa
end
section
set_option linter.unusedVariables false
set_option linter.unusedSectionVars false
set_option maxRecDepth 100000
open Go Go.Am Go.RowKit
namespace Go.Proofs.Ytaaemamcdhebhaa
open Go.Proofs.Try
theorem pick_ref (L : List Int) : pickS L =
    (if (sCode (blkI L 0) == 0 && (sVal (blkI L 0)).2.1 == ((L.length / 64 : Nat) : Int)) && (!(sCode (blkI L 1) == 0 && (sVal (blkI L 1)).2.1 == ((L.length / 64 : Nat) : Int)) || decide ((sVal (blkI L 0)).1 ≥ (sVal (blkI L 1)).1)) then (sVal (blkI L 0), 0, true)
     else if (sCode (blkI L 1) == 0 && (sVal (blkI L 1)).2.1 == ((L.length / 64 : Nat) : Int)) then (sVal (blkI L 1), 1, true) else ((0, 0, 0, 0, 0), 0, false)) := by
  rw [pick_two]
  unfold pickStep
  generalize ((L.length / 64 : Nat) : Int) = n
  generalize sVal (blkI L 0) = a
  generalize sVal (blkI L 1) = b
  generalize (sCode (blkI L 0) == 0) = p
  generalize (sCode (blkI L 1) == 0) = q
  have e : decide (b.1 > a.1) = !decide (a.1 ≥ b.1) := by
    by_cases c : a.1 ≥ b.1
    · rw [decide_eq_true c, decide_eq_false (by omega)]; rfl
    · rw [decide_eq_false c, decide_eq_true (by omega)]; rfl
  cases p <;> cases q <;> cases h1 : (a.2.1 == n) <;> cases h2 : (b.2.1 == n) <;> cases h3 : decide (a.1 ≥ b.1) <;> rw [h3] at e <;> simp [h1, h2, h3, e]
set_option maxHeartbeats 8000000 in
theorem refPick_ok {h : Heap} {v : Value} {L : List Int} (sl : Sl h v 1 L.length (us L)) (hb : Byt L) (hd : devOk L.length = true) :
    RunF prog 41 [v] h fun r h' => r = .tuple #[.agg ⟨sc5 (pickS L).1⟩, .int .i64 (pickS L).2.1, .bool (pickS L).2.2] ∧ Fr no h h' := by
  have hdl : L.length % 64 = 0 ∧ 4 ≤ L.length / 64 ∧ L.length / 64 ≤ 4096 := by
    unfold devOk at hd
    simpa using hd
  have hm : L.length ≤ 4611686018427387904 := by omega
  have Z : sc5 (0, 0, 0, 0, 0) = sc 0 0 0 0 0 := rfl
  refine RunF.walk func41 rfl rfl ?_
  refine RunC.seq (RunC.region (RunO.all (h1 := h.push ⟨sc5 (0, 0, 0, 0, 0), true⟩) rfl ?_))
  have ow := Ow.push h (sc5 (0, 0, 0, 0, 0))
  have f1 : Fr (fun b => h.next ≤ b) h (h.push ⟨sc5 (0, 0, 0, 0, 0), true⟩) := Fr.push _ _ _
  have s1 := sl.fr0 (Fr.push no h ⟨sc5 (0, 0, 0, 0, 0), true⟩)
  generalize h.push ⟨sc5 (0, 0, 0, 0, 0), true⟩ = h1 at *
  have hp : h.next < h1.next := ow.1
  refine RunC.seq (RunC.region (RunO.part 1 rfl ?_))
  refine RunO.callD (refBlocks_ok s1 hm) rfl rfl rfl ?_
  rintro _ _ ⟨rfl, rfl⟩
  refine RunO.all rfl ?_
  refine RunC.seq (RunC.region (RunO.part 1 rfl ?_))
  refine RunO.callD (refBlock_ok (i := 0) s1 (by omega) hm) rfl rfl rfl ?_
  rintro b0 _ ⟨sb0, rfl⟩
  have hl0 := blkI_len (l := L) (i := 0) (by omega)
  rw [← hl0] at sb0
  refine RunO.callD (refParseSuper_ok sb0 (byt_blk hb 0)) rfl rfl rfl ?_
  rintro _ h1a ⟨rfl, f1a⟩
  rw [sCells_eq]
  refine RunO.part 4 (h1 := h1a.push ⟨sc5 (0, 0, 0, 0, 0), true⟩) rfl ?_
  refine RunO.store rfl rfl (store_ow (s := 5) (Ow.push h1a (sc5 (0, 0, 0, 0, 0))) rfl rfl rfl (Nat.le_refl 5)) (RunO.all rfl ?_)
  have oa0 : Ow ((h1a.push ⟨sc5 (0, 0, 0, 0, 0), true⟩).put h1a.next (some ⟨sc5 (sVal (blkI L 0)), true⟩)) h1a.next (sc5 (sVal (blkI L 0))) := Ow.put _ (Nat.lt_succ_self _)
  have fa0 : Fr no h1a ((h1a.push ⟨sc5 (0, 0, 0, 0, 0), true⟩).put h1a.next (some ⟨sc5 (sVal (blkI L 0)), true⟩)) := (Fr.push _ _ _).trans (Fr.put (m := (· = h1a.next)) _ (.inl rfl)) (fun j hj => .inr (by omega))
  change RunC _ _ _ _ ((h1a.push ⟨sc5 (0, 0, 0, 0, 0), true⟩).put h1a.next (some ⟨sc5 (sVal (blkI L 0)), true⟩)) _ _ _
  generalize (h1a.push ⟨sc5 (0, 0, 0, 0, 0), true⟩).put h1a.next (some ⟨sc5 (sVal (blkI L 0)), true⟩) = h2 at *
  generalize h1a.next = q0 at *
  have fz0 := f1a.same fa0
  have s2 := s1.fr0 fz0
  replace ow := ow.fr fz0 (fun g => g)
  replace f1 := f1.quiet fz0
  refine RunC.seq (RunC.region (RunO.part 1 rfl ?_))
  refine RunO.callD (refBlock_ok (i := 1) s2 (by omega) hm) rfl rfl rfl ?_
  rintro b1 _ ⟨sb1, rfl⟩
  have hl1 := blkI_len (l := L) (i := 1) (by omega)
  rw [← hl1] at sb1
  refine RunO.callD (refParseSuper_ok sb1 (byt_blk hb 1)) rfl rfl rfl ?_
  rintro _ h2a ⟨rfl, f2a⟩
  rw [sCells_eq]
  refine RunO.part 4 (h1 := h2a.push ⟨sc5 (0, 0, 0, 0, 0), true⟩) rfl ?_
  refine RunO.store rfl rfl (store_ow (s := 5) (Ow.push h2a (sc5 (0, 0, 0, 0, 0))) rfl rfl rfl (Nat.le_refl 5)) (RunO.all rfl ?_)
  have oa1 : Ow ((h2a.push ⟨sc5 (0, 0, 0, 0, 0), true⟩).put h2a.next (some ⟨sc5 (sVal (blkI L 1)), true⟩)) h2a.next (sc5 (sVal (blkI L 1))) := Ow.put _ (Nat.lt_succ_self _)
  have fa1 : Fr no h2a ((h2a.push ⟨sc5 (0, 0, 0, 0, 0), true⟩).put h2a.next (some ⟨sc5 (sVal (blkI L 1)), true⟩)) := (Fr.push _ _ _).trans (Fr.put (m := (· = h2a.next)) _ (.inl rfl)) (fun j hj => .inr (by omega))
  change RunC _ _ _ _ ((h2a.push ⟨sc5 (0, 0, 0, 0, 0), true⟩).put h2a.next (some ⟨sc5 (sVal (blkI L 1)), true⟩)) _ _ _
  generalize (h2a.push ⟨sc5 (0, 0, 0, 0, 0), true⟩).put h2a.next (some ⟨sc5 (sVal (blkI L 1)), true⟩) = h3 at *
  generalize h2a.next = q1 at *
  have fz1 := f2a.same fa1
  have s3 := s2.fr0 fz1
  replace ow := ow.fr fz1 (fun g => g)
  replace f1 := f1.quiet fz1
  replace oa0 := oa0.fr fz1 (fun g => g)
  rw [pick_ref]
  generalize sVal (blkI L 0) = a at *
  generalize sVal (blkI L 1) = b at *
  generalize sCode (blkI L 0) = ca at *
  generalize sCode (blkI L 1) = cb at *
  refine RunC.seqc (fun E' h' => h3 = h' ∧ Le (upd (upd (upd (upd (upd E0 2 (.pointer (some ⟨h.next, 0, none⟩))) 7 (.pointer (some ⟨q0, 0, none⟩))) 9 (.pointer (some ⟨q1, 0, none⟩))) 11 (.bool (ca == 0 && a.2.1 == ((L.length / 64 : Nat) : Int)))) 12 (.bool (cb == 0 && b.2.1 == ((L.length / 64 : Nat) : Int)))) E') ?tst ?nxt
  case tst =>
    refine RunC.draw0 rfl ?_
    refine RunO.part 3 rfl ?_
    cases (ca == 0) with
    | false =>
      refine RunO.part 8 rfl ?_
      cases (cb == 0) with
      | false => exact RunO.all rfl ⟨rfl, Le.cons rfl (Le.cons rfl (Le.cons rfl (Le.cons rfl (Le.cons rfl (Le.nil _)))))⟩
      | true =>
        (repeat (first | refine RunO.step rfl ?_ | refine RunO.loadG rfl rfl (Ow.ld (by assumption) (by rfl)) rfl ?_ | refine RunO.nil ?_))
        exact ⟨rfl, Le.cons rfl (Le.cons rfl (Le.cons rfl (Le.cons rfl (Le.cons rfl (Le.nil _)))))⟩
    | true =>
      (repeat (first | refine RunO.step rfl ?_ | refine RunO.loadG rfl rfl (Ow.ld (by assumption) (by rfl)) rfl ?_ | refine RunO.nil ?_))
      cases (cb == 0) with
      | false => exact RunO.all rfl ⟨rfl, Le.cons rfl (Le.cons rfl (Le.cons rfl (Le.cons rfl (Le.cons rfl (Le.nil _)))))⟩
      | true =>
        (repeat (first | refine RunO.step rfl ?_ | refine RunO.loadG rfl rfl (Ow.ld (by assumption) (by rfl)) rfl ?_ | refine RunO.nil ?_))
        exact ⟨rfl, Le.cons rfl (Le.cons rfl (Le.cons rfl (Le.cons rfl (Le.cons rfl (Le.nil _)))))⟩
  rintro E' _ ⟨rfl, hE⟩
  refine RunC.le hE ?_
  clear hE
  generalize (ca == 0 && a.2.1 == ((L.length / 64 : Nat) : Int)) = one
  generalize (cb == 0 && b.2.1 == ((L.length / 64 : Nat) : Int)) = two
  refine RunC.seq (RunC.block ?_)
  cases one with
  | false =>
    refine RunC.seq (RunC.region (RunO.all rfl ?_))
    refine RunC.cond rfl (fun g => by cases g) (fun _ => ?_)
    refine RunC.seq (RunC.region (RunO.all rfl ?_))
    cases two with
    | true =>
      refine RunC.cond rfl (fun _ => ?_) (fun g => by cases g)
      refine RunC.seq (RunC.region ?_)
      refine RunO.load (v := .agg ⟨sc5 b⟩) rfl (oa1.all.part (k := 0) rfl) rfl ?_
      refine RunO.store rfl rfl (store_ow (s := 5) ow rfl rfl rfl (Nat.le_refl 5)) (RunO.all rfl ?_)
      exact RunC.ret ⟨_, Go.Am.eresults_cell2 rfl ((Ow.put (cs := sc5 b) ow.1).all.part (k := 0) rfl) rfl rfl, rfl, frNo (f1.same (Fr.put _ (.inl (Nat.le_refl _))))⟩
    | false =>
      refine RunC.cond rfl (fun g => by cases g) (fun _ => RunC.skip ?_)
      refine RunC.seq (RunC.region (RunO.part 1 rfl ?_))
      refine RunO.store rfl rfl (store_ow (s := 5) ow rfl rfl rfl (Nat.le_refl 5)) (RunO.all rfl ?_)
      exact RunC.ret ⟨_, Go.Am.eresults_cell2 rfl ((Ow.put (cs := sc5 (0, 0, 0, 0, 0)) ow.1).all.part (k := 0) rfl) rfl rfl, rfl, frNo (f1.same (Fr.put _ (.inl (Nat.le_refl _))))⟩
  | true =>
    refine RunC.seqc (fun E' h' => h3 = h' ∧ Le (upd (upd (upd (upd (upd E0 2 (.pointer (some ⟨h.next, 0, none⟩))) 7 (.pointer (some ⟨q0, 0, none⟩))) 9 (.pointer (some ⟨q1, 0, none⟩))) 12 (.bool two)) 46 (.bool (!two || decide (a.1 ≥ b.1)))) E') ?tst2 ?nxt2
    case tst2 =>
      refine RunC.region ?_
      cases two with
      | false => exact RunO.all rfl ⟨rfl, Le.cons rfl (Le.cons rfl (Le.cons rfl (Le.cons rfl (Le.cons rfl (Le.nil _)))))⟩
      | true =>
        (repeat (first | refine RunO.step rfl ?_ | refine RunO.loadG rfl rfl (Ow.ld (by assumption) (by rfl)) rfl ?_ | refine RunO.nil ?_))
        exact ⟨rfl, Le.cons rfl (Le.cons rfl (Le.cons rfl (Le.cons rfl (Le.cons rfl (Le.nil _)))))⟩
    rintro E' _ ⟨rfl, hE⟩
    refine RunC.le hE ?_
    clear hE
    cases hz : (!two || decide (a.1 ≥ b.1)) with
    | true =>
      refine RunC.cond rfl (fun _ => ?_) (fun g => by cases g)
      refine RunC.seq (RunC.region ?_)
      refine RunO.load (v := .agg ⟨sc5 a⟩) rfl (oa0.all.part (k := 0) rfl) rfl ?_
      refine RunO.store rfl rfl (store_ow (s := 5) ow rfl rfl rfl (Nat.le_refl 5)) (RunO.all rfl ?_)
      exact RunC.ret ⟨_, Go.Am.eresults_cell2 rfl ((Ow.put (cs := sc5 a) ow.1).all.part (k := 0) rfl) rfl rfl, rfl, frNo (f1.same (Fr.put _ (.inl (Nat.le_refl _))))⟩
    | false =>
      have h2 : two = true := by cases two with | true => rfl | false => cases hz
      subst h2
      refine RunC.cond rfl (fun g => by cases g) (fun _ => ?_)
      refine RunC.seq (RunC.region (RunO.all rfl ?_))
      refine RunC.cond rfl (fun _ => ?_) (fun g => by cases g)
      refine RunC.seq (RunC.region ?_)
      refine RunO.load (v := .agg ⟨sc5 b⟩) rfl (oa1.all.part (k := 0) rfl) rfl ?_
      refine RunO.store rfl rfl (store_ow (s := 5) ow rfl rfl rfl (Nat.le_refl 5)) (RunO.all rfl ?_)
      exact RunC.ret ⟨_, Go.Am.eresults_cell2 rfl ((Ow.put (cs := sc5 b) ow.1).all.part (k := 0) rfl) rfl rfl, rfl, frNo (f1.same (Fr.put _ (.inl (Nat.le_refl _))))⟩
end Go.Proofs.Ytaaemamcdhebhaa
end
section
set_option linter.unusedVariables false
set_option linter.unusedSectionVars false
set_option maxRecDepth 100000
open Go Go.Am Go.RowKit
namespace Go.Proofs.Ytaaemamcdhebhaa
open Go.Proofs.Try
/-- Whole numbers of an int. -/
def In64 (x : Int) : Prop := -9223372036854775808 ≤ x ∧ x ≤ 9223372036854775807
abbrev I8 : Sh := .int .i64
abbrev ShS5 : Sh := .pair I8 (.pair I8 (.pair I8 (.pair I8 (.pair I8 .unit))))
abbrev ShR8 : Sh := .pair I8 (.pair I8 (.pair I8 (.pair I8 (.pair I8 (.pair I8 (.pair I8 (.pair I8 .unit)))))))
abbrev ShState : Sh := .pair ShS5 (.pair I8 (.pair (.slice ShR8) .unit))
def r8Of (y : ShR8.T) : R8 := ⟨y.1, y.2.1, y.2.2.1, y.2.2.2.1, y.2.2.2.2.1, y.2.2.2.2.2.1, y.2.2.2.2.2.2.1, y.2.2.2.2.2.2.2.1⟩
def R8In (r : R8) : Prop := In64 r.nx ∧ In64 r.id ∧ In64 r.pa ∧ In64 r.ro ∧ In64 r.sz ∧ In64 r.ki ∧ In64 r.fr ∧ In64 r.di
def S5In (s : S5) : Prop := In64 s.1 ∧ In64 s.2.1 ∧ In64 s.2.2.1 ∧ In64 s.2.2.2.1 ∧ In64 s.2.2.2.2
theorem s5K {h : Heap} {y : ShS5.T} {cs : List Value} (k : ShS5.K h y cs) : cs = sc5 (y.1, y.2.1, y.2.2.1, y.2.2.2.1, y.2.2.2.2.1) ∧ S5In (y.1, y.2.1, y.2.2.1, y.2.2.2.1, y.2.2.2.2.1) := by
  obtain ⟨c1, d1, rfl, _, _, ⟨rfl, w1⟩, c2, d2, rfl, _, _, ⟨rfl, w2⟩, c3, d3, rfl, _, _, ⟨rfl, w3⟩, c4, d4, rfl, _, _, ⟨rfl, w4⟩, c5, d5, rfl, _, _, ⟨rfl, w5⟩, e⟩ := k
  have e : d5 = [] := e
  subst e
  exact ⟨rfl, wf_i64 w1, wf_i64 w2, wf_i64 w3, wf_i64 w4, wf_i64 w5⟩
theorem argS5 {l : List Sh} {h : Heap} {x : ArgsT (ShS5 :: l)} {vs : List Value} (a : ArgsK (ShS5 :: l) h x vs) :
    ∃ (s : S5) (r : ArgsT l) (vr : List Value), vs = .agg ⟨sc s.1 s.2.1 s.2.2.1 s.2.2.2.1 s.2.2.2.2⟩ :: vr ∧ S5In s ∧ ArgsK l h r vr := by
  obtain ⟨v, vr, rfl, h1, h2⟩ := a
  obtain ⟨cs, rfl, k⟩ : ∃ cs, v = .agg ⟨cs⟩ ∧ ShS5.K h x.1 cs := h1
  obtain ⟨rfl, w1⟩ := s5K k
  exact ⟨_, x.2, vr, rfl, w1, h2⟩
end Go.Proofs.Ytaaemamcdhebhaa
end
section
set_option linter.unusedVariables false
set_option linter.unusedSectionVars false
set_option maxRecDepth 100000
open Go Go.Am Go.RowKit
namespace Go.Proofs.Ytaaemamcdhebhaa
open Go.Proofs.Try

theorem row_form' {lo : Nat} {h : Heap} {v : Value} {s n : Nat} {cs : List Value} (r : Row lo h v s n cs) (hn : n ≤ 9223372036854775807) : ∃ A c, v = .slice A n c ∧ Sl h (.slice A n c) s n cs := by
  have sl := r.sl hn
  obtain ⟨A, c, rfl, _, _⟩ := sl.form
  exact ⟨A, c, rfl, sl⟩
theorem sCells5 (l : List Int) : sCells l = sc (sVal l).1 (sVal l).2.1 (sVal l).2.2.1 (sVal l).2.2.2.1 (sVal l).2.2.2.2 := sCells_eq l
theorem s5_ne_self (a b c d e : Int) : (!(a == a && (b == b && (c == c && (d == d && e == e))))) = false := by simp
theorem s5_eq_self (a b c d e : Int) : ((a == a && (b == b && (c == c && (d == d && e == e))))) = true := by simp
set_option maxHeartbeats 64000000 in
theorem superExact_true : ∀ h xs avs, ArgsK [ShS5, .slice (.int .u8), .slice (.int .u8)] h xs avs → RunF prog 10 avs h fun v _ => v = .bool true := by
  intro h xs avs ha
  obtain ⟨s, _, _, rfl, _, ha⟩ := argS5 ha
  obtain ⟨B, _, bv, _, rfl, slb, hwb, ha⟩ := argInts ha
  obtain ⟨L, _, iv, _, rfl, sl, hwf, ha⟩ := argInts ha
  obtain rfl := argNil ha
  have hb : Byt L := fun x hx => wf_u8 (hwf x hx)
  have hbB : Byt B := fun x hx => wf_u8 (hwb x hx)
  have sl0 : Sl h iv 1 L.length (us L) := sl
  have sb0 : Sl h bv 1 B.length (us B) := slb
  clear sl slb
  obtain ⟨iA, ic, rfl, _, _⟩ := sl0.form
  obtain ⟨bA, bc, rfl, _, _⟩ := sb0.form
  refine RunF.walk func10 rfl rfl ?_
  refine RunC.seq (RunC.region (RunO.part 1 (h1 := h.push ⟨sc s.1 s.2.1 s.2.2.1 s.2.2.2.1 s.2.2.2.2, true⟩) rfl (RunO.all rfl ?_)))
  have o3 := Ow.push h (sc s.1 s.2.1 s.2.2.1 s.2.2.2.1 s.2.2.2.2)
  have f0 : Fr no h (h.push ⟨sc s.1 s.2.1 s.2.2.1 s.2.2.2.1 s.2.2.2.2, true⟩) := Fr.push _ _ _
  replace sl0 := sl0.fr0 f0
  replace sb0 := sb0.fr0 f0
  generalize h.push ⟨sc s.1 s.2.1 s.2.2.1 s.2.2.2.1 s.2.2.2.2, true⟩ = h0 at *
  obtain ⟨p3, hp3⟩ : ∃ q, q = h.next := ⟨_, rfl⟩
  rw [← hp3] at o3 ⊢
  clear f0 hp3
  refine RunC.seqc (fun E' h' => h0 = h' ∧ L.length ≤ 19200 ∧ B.length ≤ 300 ∧ Le ((upd (upd (upd E0 1 (.slice bA B.length bc)) 2 (.slice iA L.length ic)) 3 (.pointer (some ⟨p3, 0, none⟩)))) E') ?hv ?nx
  case hv =>
    refine RunC.seqc (fun E' h' => h0 = h' ∧ ∃ b : Bool, (b = true ∨ (L.length ≤ 19200 ∧ B.length ≤ 300)) ∧ Le ((upd (upd (upd (upd E0 1 (.slice bA B.length bc)) 2 (.slice iA L.length ic)) 3 (.pointer (some ⟨p3, 0, none⟩))) 29 (.bool b))) E') ?hr ?hc
    case hc =>
      rintro E' _ ⟨rfl, b, hb1, hE⟩
      refine RunC.le hE ?_
      clear hE
      cases b with
      | true =>
        refine RunC.cond rfl (fun _ => ?_) (fun g => by cases g)
        exact RunC.seq (RunC.region (RunO.all rfl (RunC.ret ⟨_, rfl, rfl⟩)))
      | false =>
        obtain ⟨q1, q2⟩ := hb1.resolve_left (fun g => by cases g)
        exact RunC.cond rfl (fun g => by cases g) (fun _ => RunC.skip ⟨rfl, q1, q2, Le.cons rfl (Le.cons rfl (Le.cons rfl (Le.nil _)))⟩)
    refine RunC.region ?_
    (repeat (first | refine RunO.step rfl ?_ | refine RunO.loadG rfl rfl (Ow.ld (by assumption) (by rfl)) rfl ?_ | refine RunO.nil ?_))
    by_cases a1 : (B.length : Int) > 300
    · rw [decide_eq_true a1]
      (repeat (first | refine RunO.step rfl ?_ | refine RunO.loadG rfl rfl (Ow.ld (by assumption) (by rfl)) rfl ?_ | refine RunO.nil ?_))
      exact ⟨rfl, true, .inl rfl, Le.cons rfl (Le.cons rfl (Le.cons rfl (Le.cons rfl (Le.nil _))))⟩
    rw [decide_eq_false a1]
    (repeat (first | refine RunO.step rfl ?_ | refine RunO.loadG rfl rfl (Ow.ld (by assumption) (by rfl)) rfl ?_ | refine RunO.nil ?_))
    refine RunO.callDG rfl (heavy_ok sl0) rfl rfl rfl ?_
    rintro _ _ ⟨rfl, rfl⟩
    (repeat (first | refine RunO.step rfl ?_ | refine RunO.loadG rfl rfl (Ow.ld (by assumption) (by rfl)) rfl ?_ | refine RunO.nil ?_))
    refine ⟨rfl, _, ?_, Le.cons rfl (Le.cons rfl (Le.cons rfl (Le.cons rfl (Le.nil _))))⟩
    by_cases a4 : (L.length : Int) > 19200
    · exact .inl (decide_eq_true a4)
    · exact .inr ⟨by omega, by omega⟩
  rintro E' _ ⟨rfl, hL, hB, hE⟩
  refine RunC.le hE ?_
  clear hE
  have hm : L.length ≤ 4611686018427387904 := by omega
  refine RunC.seq (RunC.region (RunO.part 1 rfl ?_))
  refine RunO.callD (twin_ok sb0 (by omega)) rfl rfl rfl ?_
  rintro w h1 ⟨row, f1⟩
  obtain ⟨cA, cc, rfl, sc1⟩ := row_form' row (by omega)
  refine RunO.part 1 rfl ?_
  refine RunO.callD (twin_ok (sl0.fr0 f1) (by omega)) rfl rfl rfl ?_
  rintro w h2 ⟨row2, f2⟩
  obtain ⟨wA, wc, rfl, sw2⟩ := row_form' row2 (by omega)
  refine RunO.all rfl ?_
  have o3_2 := (o3.fr f1 (fun g => g)).fr f2 (fun g => g)
  have F2 := f1.same f2
  have scb2 := sc1.fr0 f2
  -- Bytes
  refine RunC.seq (RunC.region (RunO.part 0 rfl ?_))
  refine RunO.load (v := .agg ⟨sc s.1 s.2.1 s.2.2.1 s.2.2.2.1 s.2.2.2.2⟩) rfl (o3_2.ld rfl) rfl ?_
  refine RunO.callD superBytes_ok rfl rfl rfl ?_
  rintro v3 h3 ⟨f3, hv⟩
  obtain ⟨xA, xn, xc, e1, rfl, hX1, hX0⟩ : ∃ xA xn xc e1, v3 = .tuple #[.slice xA xn xc, .int .i64 e1] ∧ (superOk s.1 s.2.1 s.2.2.1 s.2.2.2.1 s.2.2.2.2 = true → e1 = 0 ∧ Sl h3 (.slice xA xn xc) 1 64 (us (superBlock s.1 s.2.1 s.2.2.1 s.2.2.2.1 s.2.2.2.2))) ∧ (superOk s.1 s.2.1 s.2.2.1 s.2.2.2.1 s.2.2.2.2 = false → e1 = 1 ∧ xn = 0) := by
    rcases hv with ⟨g, b, hbn, rfl, ow⟩ | ⟨g, rfl⟩
    · exact ⟨_, _, _, 0, rfl, fun _ => ⟨rfl, sl_own ow (superBlock_len _ _ _ _ _) (Cp.exc (Nat.le_refl 64)) (by decide)⟩, fun e => (by rw [g] at e; cases e)⟩
    · exact ⟨none, 0, 0, 1, rfl, fun e => (by rw [g] at e; cases e), fun _ => ⟨rfl, rfl⟩⟩
  clear hv
  refine RunO.all rfl ?_
  have o3_3 := o3_2.fr f3 (fun g => g)
  have scb3 := scb2.fr0 f3
  have sw3 := sw2.fr0 f3
  -- Parse
  refine RunC.seq (RunC.region (RunO.part 1 rfl ?_))
  obtain ⟨_, _, ecb, hcc, hcA⟩ := scb3.form
  cases ecb
  refine RunO.callD (superParse_ok (fun g => by obtain ⟨b, o, e, rd⟩ := hcA (by omega); exact ⟨_, e, rd⟩) hbB hcc) rfl rfl rfl ?_
  rintro _ h4 ⟨rfl, f4⟩
  rw [sCells5]
  refine RunO.part 4 (h1 := h4.push ⟨sc 0 0 0 0 0, true⟩) rfl ?_
  have o110 := Ow.push h4 (sc 0 0 0 0 0)
  have o11f : Fr no h4 (h4.push ⟨sc 0 0 0 0 0, true⟩) := Fr.push _ _ _
  generalize h4.push ⟨sc 0 0 0 0 0, true⟩ = h5z at *
  obtain ⟨p11, hp11⟩ : ∃ q, q = h4.next := ⟨_, rfl⟩
  rw [← hp11] at o110 ⊢
  refine RunO.store rfl rfl (store_ow (s := 5) o110 rfl rfl rfl (Nat.le_refl 5)) (RunO.all rfl ?_)
  have o11g : Fr (· = p11) h5z (h5z.put p11 (some ⟨sc (sVal B).1 (sVal B).2.1 (sVal B).2.2.1 (sVal B).2.2.2.1 (sVal B).2.2.2.2, true⟩)) := Fr.put _ (.inl rfl)
  have o11 : Ow (h5z.put p11 (some ⟨sc (sVal B).1 (sVal B).2.1 (sVal B).2.2.1 (sVal B).2.2.2.1 (sVal B).2.2.2.2, true⟩)) p11 (sc (sVal B).1 (sVal B).2.1 (sVal B).2.2.1 (sVal B).2.2.2.1 (sVal B).2.2.2.2) := Ow.put _ o110.1
  show RunC prog _ _ _ (h5z.put p11 (some ⟨sc (sVal B).1 (sVal B).2.1 (sVal B).2.2.1 (sVal B).2.2.2.1 (sVal B).2.2.2.2, true⟩)) _ _ _
  generalize h5z.put p11 (some ⟨sc (sVal B).1 (sVal B).2.1 (sVal B).2.2.1 (sVal B).2.2.2.1 (sVal B).2.2.2.2, true⟩) = h5 at *
  have Fh5 : Fr no h4 h5 := o11f.trans o11g (fun b g => .inr (by have g : b = p11 := g; omega))
  clear o110 o11f o11g

  have F35 := f4.same Fh5
  have o3_5 := o3_3.fr F35 (fun g => g)
  have sw5 := sw3.fr0 F35
  -- Pick
  refine RunC.seq (RunC.region (RunO.part 1 rfl ?_))
  obtain ⟨_, _, ewb, hwc, hwA⟩ := sw5.form
  cases ewb
  refine RunO.callD (superPick_ok (fun g => by
    have hd := g
    unfold devOk at hd
    have hd : L.length % 64 = 0 ∧ 4 ≤ L.length / 64 ∧ L.length / 64 ≤ 4096 := by simpa using hd
    obtain ⟨b, o, e, rd⟩ := hwA (by omega)
    exact ⟨_, e, rd⟩) hb hwc hm) rfl rfl rfl ?_
  rintro _ h6 ⟨rfl, f6⟩
  obtain ⟨u, hu⟩ : ∃ u : S5, u = (if pickCode L = 0 then (pickS L).1 else (0, 0, 0, 0, 0)) := ⟨_, rfl⟩
  rw [← hu]
  change RunO prog _ _ _ (upd _ _ (.tuple #[.agg ⟨sc u.1 u.2.1 u.2.2.1 u.2.2.2.1 u.2.2.2.2⟩, _, _])) _ _
  refine RunO.part 5 (h1 := h6.push ⟨sc 0 0 0 0 0, true⟩) rfl ?_
  have o130 := Ow.push h6 (sc 0 0 0 0 0)
  have o13f : Fr no h6 (h6.push ⟨sc 0 0 0 0 0, true⟩) := Fr.push _ _ _
  generalize h6.push ⟨sc 0 0 0 0 0, true⟩ = h7z at *
  obtain ⟨p13, hp13⟩ : ∃ q, q = h6.next := ⟨_, rfl⟩
  rw [← hp13] at o130 ⊢
  refine RunO.store rfl rfl (store_ow (s := 5) o130 rfl rfl rfl (Nat.le_refl 5)) (RunO.all rfl ?_)
  have o13g : Fr (· = p13) h7z (h7z.put p13 (some ⟨sc u.1 u.2.1 u.2.2.1 u.2.2.2.1 u.2.2.2.2, true⟩)) := Fr.put _ (.inl rfl)
  have o13 : Ow (h7z.put p13 (some ⟨sc u.1 u.2.1 u.2.2.1 u.2.2.2.1 u.2.2.2.2, true⟩)) p13 (sc u.1 u.2.1 u.2.2.1 u.2.2.2.1 u.2.2.2.2) := Ow.put _ o130.1
  show RunC prog _ _ _ (h7z.put p13 (some ⟨sc u.1 u.2.1 u.2.2.1 u.2.2.2.1 u.2.2.2.2, true⟩)) _ _ _
  generalize h7z.put p13 (some ⟨sc u.1 u.2.1 u.2.2.1 u.2.2.2.1 u.2.2.2.2, true⟩) = h7 at *
  have Fh7 : Fr no h6 h7 := o13f.trans o13g (fun b g => .inr (by have g : b = p13 := g; omega))
  clear o130 o13f o13g

  have F57 := f6.same Fh7
  have o3_7 := o3_5.fr F57 (fun g => g)
  have o11_7 := o11.fr F57 (fun g => g)
  -- the page's Parse
  have F37 := F35.same F57
  have F07 := F2.same (f3.same F37)
  have sb7 := sb0.fr0 F07
  refine RunC.seq (RunC.region (RunO.part 1 rfl ?_))
  refine RunO.callD (refParseSuper_ok sb7 hbB) rfl rfl rfl ?_
  rintro _ h8 ⟨rfl, f8⟩
  rw [sCells5]
  refine RunO.part 4 (h1 := h8.push ⟨sc 0 0 0 0 0, true⟩) rfl ?_
  have o160 := Ow.push h8 (sc 0 0 0 0 0)
  have o16f : Fr no h8 (h8.push ⟨sc 0 0 0 0 0, true⟩) := Fr.push _ _ _
  generalize h8.push ⟨sc 0 0 0 0 0, true⟩ = h9z at *
  obtain ⟨p16, hp16⟩ : ∃ q, q = h8.next := ⟨_, rfl⟩
  rw [← hp16] at o160 ⊢
  refine RunO.store rfl rfl (store_ow (s := 5) o160 rfl rfl rfl (Nat.le_refl 5)) (RunO.all rfl ?_)
  have o16g : Fr (· = p16) h9z (h9z.put p16 (some ⟨sc (sVal B).1 (sVal B).2.1 (sVal B).2.2.1 (sVal B).2.2.2.1 (sVal B).2.2.2.2, true⟩)) := Fr.put _ (.inl rfl)
  have o16 : Ow (h9z.put p16 (some ⟨sc (sVal B).1 (sVal B).2.1 (sVal B).2.2.1 (sVal B).2.2.2.1 (sVal B).2.2.2.2, true⟩)) p16 (sc (sVal B).1 (sVal B).2.1 (sVal B).2.2.1 (sVal B).2.2.2.1 (sVal B).2.2.2.2) := Ow.put _ o160.1
  show RunC prog _ _ _ (h9z.put p16 (some ⟨sc (sVal B).1 (sVal B).2.1 (sVal B).2.2.1 (sVal B).2.2.2.1 (sVal B).2.2.2.2, true⟩)) _ _ _
  generalize h9z.put p16 (some ⟨sc (sVal B).1 (sVal B).2.1 (sVal B).2.2.1 (sVal B).2.2.2.1 (sVal B).2.2.2.2, true⟩) = h9 at *
  have Fh9 : Fr no h8 h9 := o16f.trans o16g (fun b g => .inr (by have g : b = p16 := g; omega))
  clear o160 o16f o16g

  have F79 := f8.same Fh9
  have o3_9 := o3_7.fr F79 (fun g => g)
  have o11_9 := o11_7.fr F79 (fun g => g)
  have o13_9 := o13.fr F79 (fun g => g)
  have sb9 := sb7.fr0 F79
  have sl9 := (sl0.fr0 F07).fr0 F79
  have sw9 := (sw5.fr0 F57).fr0 F79
  have scb9 := (scb3.fr0 F37).fr0 F79
  -- they agree
  refine RunC.seqc (fun E' h' => h9 = h' ∧ Le ((upd (upd (upd (upd (upd (upd (upd (upd (upd (upd (upd (upd (upd (upd E0 1 (.slice bA B.length bc)) 2 (.slice iA L.length ic)) 3 (.pointer (some ⟨p3, 0, none⟩))) 7 (.slice cA B.length cc)) 8 (.slice wA L.length wc)) 9 (.slice xA xn xc)) 10 (.int .i64 e1)) 11 (.pointer (some ⟨p11, 0, none⟩))) 12 (.int .i64 (sCode B))) 13 (.pointer (some ⟨p13, 0, none⟩))) 14 (.int .i64 (if pickCode L = 0 then (pickS L).2.1 else 0))) 15 (.int .i64 (pickCode L))) 16 (.pointer (some ⟨p16, 0, none⟩))) 17 (.int .i64 (sCode B)))) E') ?ag ?nx2
  case ag =>
    refine RunC.seq (RunC.region (RunO.part 0 rfl ?_))
    refine RunO.load (v := .agg ⟨sc (sVal B).1 (sVal B).2.1 (sVal B).2.2.1 (sVal B).2.2.2.1 (sVal B).2.2.2.2⟩) rfl (o11_9.ld rfl) rfl ?_
    refine RunO.load (v := .agg ⟨sc (sVal B).1 (sVal B).2.1 (sVal B).2.2.1 (sVal B).2.2.2.1 (sVal B).2.2.2.2⟩) rfl (o16.ld rfl) rfl ?_
    refine RunO.bin (v := .bool false) rfl rfl (by rw [super_ne, s5_ne_self]) rfl ?_
    refine RunO.part 3 rfl ?_
    refine RunO.part 1 rfl ?_
    rw [bne_self_eq_false (sCode B)]
    (repeat (first | refine RunO.step rfl ?_ | refine RunO.loadG rfl rfl (Ow.ld (by assumption) (by rfl)) rfl ?_ | refine RunO.nil ?_))
    refine RunO.callDG rfl (keepBytesS_ok scb9 sb9 (by omega)) rfl rfl rfl ?_
    rintro _ _ ⟨rfl, rfl⟩
    rw [beq_self_eq_true B]
    (repeat (first | refine RunO.step rfl ?_ | refine RunO.loadG rfl rfl (Ow.ld (by assumption) (by rfl)) rfl ?_ | refine RunO.nil ?_))
    refine RunO.callDG rfl (keepBytesS_ok sw9 sl9 (by omega)) rfl rfl rfl ?_
    rintro _ _ ⟨rfl, rfl⟩
    rw [beq_self_eq_true L]
    (repeat (first | refine RunO.step rfl ?_ | refine RunO.loadG rfl rfl (Ow.ld (by assumption) (by rfl)) rfl ?_ | refine RunO.nil ?_))
    exact RunC.cond rfl (fun g => by cases g) (fun _ => RunC.skip ⟨rfl, Le.cons rfl (Le.cons rfl (Le.cons rfl (Le.cons rfl (Le.cons rfl (Le.cons rfl (Le.cons rfl (Le.cons rfl (Le.cons rfl (Le.cons rfl (Le.cons rfl (Le.cons rfl (Le.cons rfl (Le.cons rfl (Le.nil _))))))))))))))⟩)
  rintro E' _ ⟨rfl, hE⟩
  refine RunC.le hE ?_
  clear hE
  -- the block
  refine RunC.seqc (fun E' h' => Fr no h9 h' ∧ Le ((upd (upd (upd (upd (upd (upd (upd (upd (upd (upd (upd (upd (upd (upd E0 1 (.slice bA B.length bc)) 2 (.slice iA L.length ic)) 3 (.pointer (some ⟨p3, 0, none⟩))) 7 (.slice cA B.length cc)) 8 (.slice wA L.length wc)) 9 (.slice xA xn xc)) 10 (.int .i64 e1)) 11 (.pointer (some ⟨p11, 0, none⟩))) 12 (.int .i64 (sCode B))) 13 (.pointer (some ⟨p13, 0, none⟩))) 14 (.int .i64 (if pickCode L = 0 then (pickS L).2.1 else 0))) 15 (.int .i64 (pickCode L))) 16 (.pointer (some ⟨p16, 0, none⟩))) 17 (.int .i64 (sCode B)))) E') ?bl ?nx3
  case bl =>
    refine RunC.seq (RunC.region (RunO.part 0 rfl ?_))
    refine RunO.load (v := .agg ⟨sc s.1 s.2.1 s.2.2.1 s.2.2.2.1 s.2.2.2.2⟩) rfl (o3_9.ld rfl) rfl ?_
    refine RunO.callD refSuper_ok rfl rfl rfl ?_
    rintro _ k1 ⟨rfl, g1⟩
    have o3k := o3_9.fr g1 (fun g => g)
    cases hok : superOk s.1 s.2.1 s.2.2.1 s.2.2.2.1 s.2.2.2.2 with
    | true =>
      obtain ⟨t1, sx⟩ := hX1 hok
      subst t1
      refine RunO.all rfl (RunC.cond rfl (fun _ => ?_) (fun g => by cases g))
      refine RunC.seq (RunC.region (RunO.part 0 rfl ?_))
      refine RunO.load (v := .agg ⟨sc s.1 s.2.1 s.2.2.1 s.2.2.2.1 s.2.2.2.2⟩) rfl (o3k.ld rfl) rfl ?_
      refine RunO.callD superCheck_ok rfl rfl rfl ?_
      rintro _ k2 ⟨rfl, g2⟩
      rw [hok, if_pos rfl]
      have o3l := o3k.fr g2 (fun g => g)
      (repeat (first | refine RunO.step rfl ?_ | refine RunO.loadG rfl rfl (Ow.ld (by assumption) (by rfl)) rfl ?_ | refine RunO.nil ?_))
      refine RunO.callDG rfl (refSuperBytes_ok hok) rfl rfl rfl ?_
      rintro sv k3 ⟨rs, g3⟩
      have hbl := superBlock_len s.1 s.2.1 s.2.2.1 s.2.2.2.1 s.2.2.2.2
      obtain ⟨zA, zc, rfl, sz⟩ := row_form' rs (by decide)
      have sx3 := sx.fr0 (F37.same (F79.same (g1.same (g2.same g3))))
      obtain ⟨_, _, exx, _, _⟩ := sx3.form
      cases exx
      refine RunO.callDG rfl (keepBytesS_ok (l := superBlock s.1 s.2.1 s.2.2.1 s.2.2.2.1 s.2.2.2.2) (m := superBlock s.1 s.2.1 s.2.2.1 s.2.2.2.1 s.2.2.2.2) (by rw [hbl]; exact sx3) (by rw [hbl]; exact sz) (by rw [hbl]; decide)) rfl rfl rfl ?_
      rintro _ _ ⟨rfl, rfl⟩
      rw [beq_self_eq_true (superBlock s.1 s.2.1 s.2.2.1 s.2.2.2.1 s.2.2.2.2)]
      (repeat (first | refine RunO.step rfl ?_ | refine RunO.loadG rfl rfl (Ow.ld (by assumption) (by rfl)) rfl ?_ | refine RunO.nil ?_))
      exact RunC.cond rfl (fun g => by cases g) (fun _ => RunC.skip ⟨g1.same (g2.same g3), Le.cons rfl (Le.cons rfl (Le.cons rfl (Le.cons rfl (Le.cons rfl (Le.cons rfl (Le.cons rfl (Le.cons rfl (Le.cons rfl (Le.cons rfl (Le.cons rfl (Le.cons rfl (Le.cons rfl (Le.cons rfl (Le.nil _))))))))))))))⟩)
    | false =>
      obtain ⟨t1, t2⟩ := hX0 hok
      subst t1; subst t2
      refine RunO.all rfl (RunC.cond rfl (fun g => by cases g) (fun _ => ?_))
      refine RunC.seq (RunC.region (RunO.part 0 rfl ?_))
      refine RunO.load (v := .agg ⟨sc s.1 s.2.1 s.2.2.1 s.2.2.2.1 s.2.2.2.2⟩) rfl (o3k.ld rfl) rfl ?_
      refine RunO.callD superCheck_ok rfl rfl rfl ?_
      rintro _ k2 ⟨rfl, g2⟩
      rw [hok, if_neg Bool.false_ne_true]
      (repeat (first | refine RunO.step rfl ?_ | refine RunO.loadG rfl rfl (Ow.ld (by assumption) (by rfl)) rfl ?_ | refine RunO.nil ?_))
      exact RunC.cond rfl (fun g => by cases g) (fun _ => RunC.skip ⟨g1.same g2, Le.cons rfl (Le.cons rfl (Le.cons rfl (Le.cons rfl (Le.cons rfl (Le.cons rfl (Le.cons rfl (Le.cons rfl (Le.cons rfl (Le.cons rfl (Le.cons rfl (Le.cons rfl (Le.cons rfl (Le.cons rfl (Le.nil _))))))))))))))⟩)
  rintro E' h10 ⟨f10, hE⟩
  refine RunC.le hE ?_
  clear hE
  have sl10 := sl9.fr0 f10
  have o13_10 := o13_9.fr f10 (fun g => g)
  refine RunC.seqc (fun E' h' => h10 = h' ∧ devOk L.length = true ∧ Le ((upd (upd (upd (upd (upd (upd (upd (upd (upd (upd (upd (upd (upd (upd E0 1 (.slice bA B.length bc)) 2 (.slice iA L.length ic)) 3 (.pointer (some ⟨p3, 0, none⟩))) 7 (.slice cA B.length cc)) 8 (.slice wA L.length wc)) 9 (.slice xA xn xc)) 10 (.int .i64 e1)) 11 (.pointer (some ⟨p11, 0, none⟩))) 12 (.int .i64 (sCode B))) 13 (.pointer (some ⟨p13, 0, none⟩))) 14 (.int .i64 (if pickCode L = 0 then (pickS L).2.1 else 0))) 15 (.int .i64 (pickCode L))) 16 (.pointer (some ⟨p16, 0, none⟩))) 17 (.int .i64 (sCode B)))) E') ?dv ?nx4
  case dv =>
    refine RunC.seq (RunC.region (RunO.part 1 rfl ?_))
    refine RunO.callD (refBlocks_ok sl10 hm) rfl rfl rfl ?_
    rintro _ _ ⟨rfl, rfl⟩
    refine RunO.all rfl ?_
    cases hd : devOk L.length with
    | true => exact RunC.seq (RunC.region (RunO.all rfl (RunC.cond rfl (fun g => by cases g) (fun _ => RunC.skip ⟨rfl, rfl, Le.cons rfl (Le.cons rfl (Le.cons rfl (Le.cons rfl (Le.cons rfl (Le.cons rfl (Le.cons rfl (Le.cons rfl (Le.cons rfl (Le.cons rfl (Le.cons rfl (Le.cons rfl (Le.cons rfl (Le.cons rfl (Le.nil _))))))))))))))⟩))))
    | false =>
      have e1 : pickCode L = 2 := by unfold pickCode; rw [hd]; rfl
      rw [e1] at hu
      rw [if_neg (show ¬ (2 : Int) = 0 by decide)] at hu
      subst hu
      rw [e1, if_neg (show ¬ (2 : Int) = 0 by decide)]
      refine RunC.seq (RunC.region (RunO.all rfl (RunC.cond rfl (fun _ => ?_) (fun g => by cases g))))
      refine RunC.seq (RunC.region (RunO.part 3 rfl ?_))
      refine RunO.loadG (v := .agg ⟨sc 0 0 0 0 0⟩) rfl rfl (o13_10.ld rfl) rfl ?_
      refine RunO.part 1 rfl ?_
      refine RunO.oneG (v := .bool true) (E1 := upd _ 115 (.bool true)) (h1 := h10) rfl (by show pureR h10 (abinop prog .eql 56 (.agg ⟨sc 0 0 0 0 0⟩) (.agg ⟨sc 0 0 0 0 0⟩)) = _; rw [super_eq]; rfl) rfl ?_
      (repeat (first | refine RunO.step rfl ?_ | refine RunO.loadG rfl rfl (Ow.ld (by assumption) (by rfl)) rfl ?_ | refine RunO.nil ?_))
      refine RunO.callDG rfl wakes06_ok rfl rfl rfl ?_
      rintro _ h99 ⟨rfl, f99⟩
      exact RunO.all rfl (RunC.ret ⟨_, rfl, rfl⟩)
  rintro E' _ ⟨rfl, hdev, hE⟩
  refine RunC.le hE ?_
  clear hE
  have eP : pickCode L = if (pickS L).2.2 then 0 else 8 := by unfold pickCode; rw [if_pos hdev]
  refine RunC.seq (RunC.region (RunO.part 1 rfl ?_))
  refine RunO.callD (refPick_ok sl10 hb hdev) rfl rfl rfl ?_
  rintro _ h11 ⟨rfl, f11⟩
  change RunO prog _ _ _ (upd _ _ (.tuple #[.agg ⟨sc (pickS L).1.1 (pickS L).1.2.1 (pickS L).1.2.2.1 (pickS L).1.2.2.2.1 (pickS L).1.2.2.2.2⟩, _, _])) _ _
  refine RunO.part 5 (h1 := h11.push ⟨sc 0 0 0 0 0, true⟩) rfl ?_
  have o200 := Ow.push h11 (sc 0 0 0 0 0)
  have o20f : Fr no h11 (h11.push ⟨sc 0 0 0 0 0, true⟩) := Fr.push _ _ _
  generalize h11.push ⟨sc 0 0 0 0 0, true⟩ = h12z at *
  obtain ⟨p20, hp20⟩ : ∃ q, q = h11.next := ⟨_, rfl⟩
  rw [← hp20] at o200 ⊢
  refine RunO.store rfl rfl (store_ow (s := 5) o200 rfl rfl rfl (Nat.le_refl 5)) (RunO.all rfl ?_)
  have o20g : Fr (· = p20) h12z (h12z.put p20 (some ⟨sc (pickS L).1.1 (pickS L).1.2.1 (pickS L).1.2.2.1 (pickS L).1.2.2.2.1 (pickS L).1.2.2.2.2, true⟩)) := Fr.put _ (.inl rfl)
  have o20 : Ow (h12z.put p20 (some ⟨sc (pickS L).1.1 (pickS L).1.2.1 (pickS L).1.2.2.1 (pickS L).1.2.2.2.1 (pickS L).1.2.2.2.2, true⟩)) p20 (sc (pickS L).1.1 (pickS L).1.2.1 (pickS L).1.2.2.1 (pickS L).1.2.2.2.1 (pickS L).1.2.2.2.2) := Ow.put _ o200.1
  show RunC prog _ _ _ (h12z.put p20 (some ⟨sc (pickS L).1.1 (pickS L).1.2.1 (pickS L).1.2.2.1 (pickS L).1.2.2.2.1 (pickS L).1.2.2.2.2, true⟩)) _ _ _
  generalize h12z.put p20 (some ⟨sc (pickS L).1.1 (pickS L).1.2.1 (pickS L).1.2.2.1 (pickS L).1.2.2.2.1 (pickS L).1.2.2.2.2, true⟩) = h12 at *
  have Fh12 : Fr no h11 h12 := o20f.trans o20g (fun b g => .inr (by have g : b = p20 := g; omega))
  clear o200 o20f o20g

  have o13_12 := o13_10.fr (f11.same Fh12) (fun g => g)
  cases hp : (pickS L).2.2 with
  | false =>
    rw [hp] at eP
    have e1 : pickCode L = 8 := eP
    rw [e1] at hu
    rw [if_neg (show ¬ (8 : Int) = 0 by decide)] at hu
    subst hu
    rw [e1, if_neg (show ¬ (8 : Int) = 0 by decide)]
    refine RunC.seq (RunC.seq (RunC.region (RunO.all rfl (RunC.cond rfl (fun _ => ?_) (fun g => by cases g)))))
    refine RunC.seq (RunC.region (RunO.part 3 rfl ?_))
    refine RunO.loadG (v := .agg ⟨sc 0 0 0 0 0⟩) rfl rfl (o13_12.ld rfl) rfl ?_
    refine RunO.part 1 rfl ?_
    refine RunO.oneG (v := .bool true) (E1 := upd _ 137 (.bool true)) (h1 := h12) rfl (by show pureR h12 (abinop prog .eql 56 (.agg ⟨sc 0 0 0 0 0⟩) (.agg ⟨sc 0 0 0 0 0⟩)) = _; rw [super_eq]; rfl) rfl ?_
    (repeat (first | refine RunO.step rfl ?_ | refine RunO.loadG rfl rfl (Ow.ld (by assumption) (by rfl)) rfl ?_ | refine RunO.nil ?_))
    refine RunO.callDG rfl wakes06_ok rfl rfl rfl ?_
    rintro _ h99 ⟨rfl, f99⟩
    exact RunO.all rfl (RunC.ret ⟨_, rfl, rfl⟩)
  | true =>
    rw [hp] at eP
    have e1 : pickCode L = 0 := eP
    rw [e1] at hu
    rw [if_pos rfl] at hu
    subst hu
    rw [e1, if_pos rfl]
    refine RunC.seq (RunC.seq (RunC.region (RunO.all rfl (RunC.cond rfl (fun g => by cases g) (fun _ => RunC.skip ?_)))))
    refine RunC.seq (RunC.region (RunO.part 3 rfl ?_))
    refine RunO.loadG (v := .agg ⟨sc (pickS L).1.1 (pickS L).1.2.1 (pickS L).1.2.2.1 (pickS L).1.2.2.2.1 (pickS L).1.2.2.2.2⟩) rfl rfl (o13_12.ld rfl) rfl ?_
    refine RunO.loadG (v := .agg ⟨sc (pickS L).1.1 (pickS L).1.2.1 (pickS L).1.2.2.1 (pickS L).1.2.2.2.1 (pickS L).1.2.2.2.2⟩) rfl rfl (o20.ld rfl) rfl ?_
    refine RunO.oneG (v := .bool true) (E1 := upd _ 151 (.bool true)) (h1 := h12) rfl (by show pureR h12 (abinop prog .eql 56 (.agg ⟨sc (pickS L).1.1 (pickS L).1.2.1 (pickS L).1.2.2.1 (pickS L).1.2.2.2.1 (pickS L).1.2.2.2.2⟩) (.agg ⟨sc (pickS L).1.1 (pickS L).1.2.1 (pickS L).1.2.2.1 (pickS L).1.2.2.2.1 (pickS L).1.2.2.2.2⟩)) = _; rw [super_eq, s5_eq_self]; rfl) rfl ?_
    refine RunO.part 4 rfl ?_
    refine RunO.part 1 rfl ?_
    rw [beq_self_eq_true (pickS L).2.1]
    (repeat (first | refine RunO.step rfl ?_ | refine RunO.loadG rfl rfl (Ow.ld (by assumption) (by rfl)) rfl ?_ | refine RunO.nil ?_))
    refine RunO.callDG rfl wakes06_ok rfl rfl rfl ?_
    rintro _ h99 ⟨rfl, f99⟩
    exact RunO.all rfl (RunC.ret ⟨_, rfl, rfl⟩)
end Go.Proofs.Ytaaemamcdhebhaa
end
