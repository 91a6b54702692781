/- Pick: part of a calculus over an abstract machine that stands beside the model, and contracts of functions by it.
Conditions: what each theorem says of its arguments. -/
import Derived.Test.YtaaemamcdhebhaaParse
set_option linter.unusedVariables false
set_option maxRecDepth 100000
open Go Go.Am
namespace Go.Proofs.Ytaaemamcdhebhaa
open Go.Proofs.Try
/-- Is a device one? -/
def devOk (n : Nat) : Bool := n % 64 == 0 && (decide (4 ≤ n / 64) && decide (n / 64 ≤ 4096))
theorem devCheck_ok {h : Heap} {A : Option Addr} {c len : Nat} (hm : len ≤ 4611686018427387904) :
    RunF prog 61 [.slice A len c] h fun v h' => v = .tuple #[.int .i64 (if devOk len then (len / 64 : Nat) else (0 : Nat)), .int .i64 (if devOk len then 0 else 2)] ∧ h = h' := by
  refine RunF.walk func61 rfl rfl ?_
  refine RunC.seq (RunC.region (RunO.all rfl ?_))
  refine RunC.seq (RunC.region (RunO.all rfl ?_))
  have e1 : (len : Int).tdiv 64 = ((len / 64 : Nat) : Int) := by rw [Int.tdiv_eq_ediv_of_nonneg (by omega)]; omega
  have e2 : (len : Int).tmod 64 = ((len % 64 : Nat) : Int) := by rw [Int.tmod_eq_emod_of_nonneg (by omega)]; omega
  rw [e1, fw64 (by omega) (by omega)]
  refine RunC.seq (RunC.seq (RunC.region (RunO.part 3 rfl ?_)))
  rw [e2]
  unfold devOk
  by_cases c1 : len % 64 = 0
  · refine RunO.part 2 rfl ?_
    rw [show (((len % 64 : Nat) : Int) != 0) = false by rw [c1]; rfl]
    by_cases c2 : 4 ≤ len / 64
    · refine RunO.part 4 rfl ?_
      rw [show decide (((len / 64 : Nat) : Int) < 4) = false from decide_eq_false (by omega)]
      refine RunO.all rfl ?_
      by_cases c3 : len / 64 ≤ 4096
      · rw [show decide (((len / 64 : Nat) : Int) > 4096) = false from decide_eq_false (by omega)]
        refine RunC.cond rfl (fun g => by cases g) (fun _ => RunC.skip ?_)
        rw [show (len % 64 == 0 && (decide (4 ≤ len / 64) && decide (len / 64 ≤ 4096))) = true by simp [c1, c2, c3]]
        exact RunC.seq (RunC.region (RunO.all rfl (RunC.ret ⟨_, rfl, rfl, rfl⟩)))
      · rw [show decide (((len / 64 : Nat) : Int) > 4096) = true from decide_eq_true (by omega)]
        refine RunC.cond rfl (fun _ => ?_) (fun g => by cases g)
        rw [show (len % 64 == 0 && (decide (4 ≤ len / 64) && decide (len / 64 ≤ 4096))) = false by simp [c3]]
        exact RunC.seq (RunC.region (RunO.all rfl (RunC.ret ⟨_, rfl, rfl, rfl⟩)))
    · refine RunO.part 4 rfl ?_
      rw [show decide (((len / 64 : Nat) : Int) < 4) = true from decide_eq_true (by omega)]
      refine RunO.all rfl ?_
      refine RunC.cond rfl (fun _ => ?_) (fun g => by cases g)
      rw [show (len % 64 == 0 && (decide (4 ≤ len / 64) && decide (len / 64 ≤ 4096))) = false by simp [c2]]
      exact RunC.seq (RunC.region (RunO.all rfl (RunC.ret ⟨_, rfl, rfl, rfl⟩)))
  · refine RunO.part 2 rfl ?_
    rw [show (((len % 64 : Nat) : Int) != 0) = true by simp; omega]
    refine RunO.all rfl ?_
    refine RunC.cond rfl (fun _ => ?_) (fun g => by cases g)
    rw [show (len % 64 == 0 && (decide (4 ≤ len / 64) && decide (len / 64 ≤ 4096))) = false by simp [c1]]
    exact RunC.seq (RunC.region (RunO.all rfl (RunC.ret ⟨_, rfl, rfl, rfl⟩)))
/-- A block of a device. -/
def blkI (l : List Int) (i : Nat) : List Int := (l.drop (i * 64)).take 64
theorem blkI_len {l : List Int} {i : Nat} (h : (i + 1) * 64 ≤ l.length) : (blkI l i).length = 64 := by unfold blkI; rw [List.length_take, List.length_drop]; omega
theorem rdBlk {h : Heap} {b o : Nat} {l : List Int} {i : Nat} (rd : Rd h ⟨b, o, none⟩ (us l)) (hi : (i + 1) * 64 ≤ l.length) : Rd h ⟨b, o + i * 64, none⟩ (us (blkI l i)) := by
  obtain ⟨h1, h2, ob, ho, he⟩ := rd
  refine ⟨rfl, h2, ob, ho, ?_⟩
  have hl := congrArg List.length he
  rw [List.length_take, List.length_drop, us_len] at hl
  simp only at hl he ⊢
  have e : us (blkI l i) = ((us l).drop (i * 64)).take 64 := by unfold blkI us; rw [List.map_take, List.map_drop]
  rw [us_len, blkI_len hi, e]
  apply List.ext_getElem?
  intro j
  rw [List.getElem?_take, List.getElem?_take]
  split
  · rename_i hj
    rw [List.getElem?_drop, List.getElem?_drop]
    conv => rhs; rw [← he]
    rw [us_len, List.getElem?_take, if_pos (by omega), List.getElem?_drop]
    congr 1; omega
  · rfl
theorem devOf_ok {h : Heap} {b o c i : Nat} {l : List Int} (hi : (i + 1) * 64 ≤ l.length) (hm : l.length ≤ 4611686018427387904) (hc : Cp 1 l.length c) :
    RunF prog 62 [.slice (some ⟨b, o, none⟩) l.length c, .int .i64 i] h fun v h' => (∃ c', Cp 1 64 c' ∧ v = .slice (some ⟨b, o + i * 64, none⟩) 64 c') ∧ h = h' := by
  refine RunF.walk func62 rfl rfl ?_
  refine RunC.seq (RunC.region (RunO.all rfl ?_))
  refine RunC.seq (RunC.region (RunO.part 6 rfl ?_))
  rw [fw64 (x := (i : Int) + 1) (by omega) (by omega), fw64 (x := (i : Int) * 64) (by omega) (by omega), fw64 (x := ((i : Int) + 1) * 64) (by omega) (by omega), show (i : Int) * 64 = ((i * 64 : Nat) : Int) by omega, show ((i : Int) + 1) * 64 = (((i + 1) * 64 : Nat) : Int) by omega]
  refine RunO.sliceMid (s := 1) rfl rfl rfl rfl rfl hc (by omega) hi rfl ?_
  intro c' hc'
  have e : (i + 1) * 64 - i * 64 = 64 := by omega
  rw [e] at hc' ⊢
  refine RunO.all rfl (RunC.ret ⟨_, rfl, ⟨c', hc', ?_⟩, rfl⟩)
  rw [Nat.mul_one]
abbrev S5 := Int × Int × Int × Int × Int
def sc5 (s : S5) : List Value := sc s.1 s.2.1 s.2.2.1 s.2.2.2.1 s.2.2.2.2
def sVal (l : List Int) : S5 := if sCode l = 0 then (sGet l 4 8, sGet l 12 4, sGet l 16 4, sGet l 20 4, sGet l 24 4) else (0, 0, 0, 0, 0)
theorem sCells_eq (l : List Int) : sCells l = sc5 (sVal l) := by unfold sCells sVal; split <;> rfl
/-- A slot looked at. -/
def pickStep (l : List Int) (st : S5 × Int × Bool) (i : Nat) : S5 × Int × Bool :=
  if (sCode (blkI l i) == 0 && ((sVal (blkI l i)).2.1 == ((l.length / 64 : Nat) : Int) && (!st.2.2 || decide ((sVal (blkI l i)).1 > st.1.1)))) = true then (sVal (blkI l i), (i : Int), true) else st
def pickS (l : List Int) : S5 × Int × Bool := (List.range 2).foldl (pickStep l) ((0, 0, 0, 0, 0), 0, false)
theorem foldl_range_succ {α : Type} (f : α → Nat → α) (a : α) (i : Nat) : (List.range (i + 1)).foldl f a = f ((List.range i).foldl f a) i := by
  rw [List.range_succ, List.foldl_append]; rfl
theorem byt_blk {l : List Int} (h : Byt l) (i : Nat) : Byt (blkI l i) := fun x hx => h x (List.mem_of_mem_drop (List.mem_of_mem_take hx))
/-- Which superblock stands, in which slot; why none does. -/
def pickCode (l : List Int) : Int := if devOk l.length then (if (pickS l).2.2 then 0 else 8) else 2
theorem superPick_ok {h : Heap} {A : Option Addr} {c : Nat} {l : List Int} (ra : devOk l.length = true → ∃ a, A = some a ∧ Rd h a (us l)) (hb : Byt l) (hc : Cp 1 l.length c) (hm : l.length ≤ 4611686018427387904) :
    RunF prog 34 [.slice A l.length c] h fun v h' => v = .tuple #[.agg ⟨sc5 (if pickCode l = 0 then (pickS l).1 else (0, 0, 0, 0, 0))⟩, .int .i64 (if pickCode l = 0 then (pickS l).2.1 else 0), .int .i64 (pickCode l)] ∧ Fr no h h' := by
  refine RunF.walk func34 rfl rfl ?_
  refine RunC.seq (RunC.region (RunO.all (h1 := h.push ⟨sc 0 0 0 0 0, true⟩) rfl ?_))
  have ow : Ow (h.push ⟨sc 0 0 0 0 0, true⟩) h.next (sc 0 0 0 0 0) := Ow.push _ _
  have f1 : Fr (fun b => h.next ≤ b) h (h.push ⟨sc 0 0 0 0 0, true⟩) := Fr.push _ _ _
  generalize h.push ⟨sc 0 0 0 0 0, true⟩ = h1 at *
  refine RunC.seq (RunC.region (RunO.part 1 rfl ?_))
  refine RunO.callD (devCheck_ok hm) rfl rfl rfl ?_
  rintro _ _ ⟨rfl, rfl⟩
  refine RunO.all rfl ?_
  cases hd : devOk l.length with
  | false =>
    have hp : pickCode l = 2 := by unfold pickCode; rw [hd]; rfl
    rw [hp]
    refine RunC.seq (RunC.seq (RunC.region (RunO.all rfl (RunC.cond rfl (fun _ => ?_) (fun g => by cases g)))))
    refine RunC.seq (RunC.region (RunO.part 2 rfl ?_))
    refine RunO.store rfl rfl (store_ow (s := 5) ow rfl rfl rfl (Nat.le_refl 5)) ?_
    refine RunO.all rfl ?_
    refine RunC.ret ⟨_, eresults_cell2 rfl ((Ow.put (cs := sc 0 0 0 0 0) ow.1).all.part (k := 0) rfl) rfl rfl, rfl, ?_⟩
    exact frNo (f1.same (Fr.put _ (.inl (Nat.le_refl _))))
  | true =>
  obtain ⟨⟨b, o, sp⟩, rfl, rd⟩ := ra hd
  have hsp : sp = none := rd.1
  subst hsp
  have hb0 : b < h.next := rd.2.1
  have hp : pickCode l = if (pickS l).2.2 then 0 else 8 := by unfold pickCode; rw [hd]; rfl
  have hlen : 256 ≤ l.length := by
    unfold devOk at hd
    simp at hd
    omega
  refine RunC.seq (RunC.seq (RunC.region (RunO.all rfl (RunC.cond rfl (fun g => by cases g) (fun _ => RunC.skip ?_)))))
  refine RunC.seq (RunC.region (RunO.all rfl ?_))
  refine RunC.seq (RunC.seq (RunC.region (RunO.all rfl ?_)))
  refine RunC.block ?_
  let I : Nat → Env → Heap → Prop := fun d E h' => ∃ (i : Nat) (st : S5 × Int × Bool), i + d = 2 ∧ st = (List.range i).foldl (pickStep l) ((0, 0, 0, 0, 0), 0, false) ∧ Ow h' h.next (sc5 st.1) ∧ Fr (fun b => h.next ≤ b) h h' ∧ Le (upd (upd (upd (upd (upd (upd E0 0 (.slice (some ⟨b, o, none⟩) l.length c)) 2 (.pointer (some ⟨h.next, 0, none⟩))) 3 (.int .i64 st.2.1)) 5 (.int .i64 (l.length / 64 : Nat))) 6 (.bool st.2.2)) 19 (.int .i64 i)) E
  refine RunC.loop I ?_ (k := 2) ?_
  · rintro d E h' ⟨i, ⟨sv, slot, met⟩, hi, hst, ow, hf, hE⟩
    refine RunC.le hE ?_
    clear hE
    refine RunC.seq (RunC.region (RunO.all rfl ?_))
    refine RunC.seq (RunC.cond rfl (fun hlt => ?_) (fun hge => ?_))
    · have hlt := of_decide_eq_true hlt
      have hlt2 : i < 2 := by omega
      have hstep : (List.range (i + 1)).foldl (pickStep l) ((0, 0, 0, 0, 0), 0, false) = pickStep l (sv, slot, met) i := by rw [foldl_range_succ, ← hst]
      have hil : (i + 1) * 64 ≤ l.length := by omega
      refine RunC.skip ?_
      refine RunC.seq (RunC.block ?_)
      refine RunC.seq (RunC.region (RunO.all rfl ?_))
      refine RunC.seq (RunC.region (RunO.part 2 rfl ?_))
      refine RunO.callD (devOf_ok hil hm hc) rfl rfl rfl ?_
      rintro _ _ ⟨⟨c', hc', rfl⟩, rfl⟩
      have hbl := blkI_len hil
      have rdb := rdBlk (rd.fr hf (by show ¬ h.next ≤ b; omega)) hil
      have hparse := superParse_ok (A := some ⟨b, o + i * 64, none⟩) (c := c') (fun _ => ⟨_, rfl, rdb⟩) (byt_blk hb i) (by rw [hbl]; exact hc')
      rw [hbl] at hparse
      refine RunO.callD hparse rfl rfl rfl ?_
      rintro v h2 ⟨rfl, hf2⟩
      have ow2 := ow.fr hf2 (fun g => g)
      have hfh2 := hf.quiet hf2
      rw [sCells_eq]
      have hps : pickStep l (sv, slot, met) i = if (sCode (blkI l i) == 0 && ((sVal (blkI l i)).2.1 == ((l.length / 64 : Nat) : Int) && (!met || decide ((sVal (blkI l i)).1 > sv.1)))) = true then (sVal (blkI l i), (i : Int), true) else (sv, slot, met) := rfl
      generalize sVal (blkI l i) = x at *
      generalize sCode (blkI l i) = cd at *
      obtain ⟨xg, xb, xr, xs, xf⟩ := x
      change RunO _ _ _ _ (upd _ 26 (.tuple #[.agg ⟨sc xg xb xr xs xf⟩, .int .i64 cd])) _ _
      refine RunO.part 4 (h1 := h2.push ⟨sc 0 0 0 0 0, true⟩) rfl ?_
      refine RunO.store rfl rfl (store_ow (s := 5) (Ow.push h2 (sc 0 0 0 0 0)) rfl rfl rfl (by decide)) ?_
      change RunO _ _ _ _ _ ((h2.push ⟨sc 0 0 0 0 0, true⟩).put h2.next (some ⟨sc xg xb xr xs xf, true⟩)) _
      have ow4 : Ow ((h2.push ⟨sc 0 0 0 0 0, true⟩).put h2.next (some ⟨sc xg xb xr xs xf, true⟩)) h2.next (sc xg xb xr xs xf) := Ow.put _ (Nat.lt_succ_self _)
      have f4 : Fr no h2 ((h2.push ⟨sc 0 0 0 0 0, true⟩).put h2.next (some ⟨sc xg xb xr xs xf, true⟩)) := (Fr.push _ _ _).trans (Fr.put (m := (· = h2.next)) _ (.inl rfl)) (fun j hj => .inr (by omega))
      generalize (h2.push ⟨sc 0 0 0 0 0, true⟩).put h2.next (some ⟨sc xg xb xr xs xf, true⟩) = h4 at *
      have ow5 := ow2.fr f4 (fun g => g)
      have hfh4 := hfh2.quiet f4
      have hn2 : h.next ≤ h2.next := hfh2.next
      have hne : h2.next ≠ h.next := by have := ow2.1; omega
      generalize h2.next = p at *
      refine RunO.all rfl ?_
      refine RunC.seqE (upd (upd (upd (upd (upd (upd (upd (upd (upd E0 0 (.slice (some ⟨b, o, none⟩) l.length c)) 2 (.pointer (some ⟨h.next, 0, none⟩))) 3 (.int .i64 slot)) 5 (.int .i64 (l.length / 64 : Nat))) 6 (.bool met)) 7 (.int .i64 i)) 8 (.pointer (some ⟨p, 0, none⟩))) 19 (.int .i64 i)) 47 (.bool (cd == 0 && (xb == ((l.length / 64 : Nat) : Int) && (!met || decide (xg > sv.1)))))) ?_ ?_
      · refine RunC.region (RunO.part 3 rfl ?_)
        cases (cd == 0) with
        | false => exact RunO.all rfl ⟨rfl, Le.cons rfl (Le.cons rfl (Le.cons rfl (Le.cons rfl (Le.cons rfl (Le.cons rfl (Le.cons rfl (Le.cons rfl (Le.cons rfl (Le.nil _)))))))))⟩
        | true =>
          refine RunO.part 1 rfl ?_
          refine RunO.loadG (v := .int .i64 xb) rfl rfl (ow4.all.cell1 (k := 1) rfl rfl) rfl ?_
          refine RunO.part 2 rfl ?_
          cases (xb == ((l.length / 64 : Nat) : Int)) with
          | false => exact RunO.all rfl ⟨rfl, Le.cons rfl (Le.cons rfl (Le.cons rfl (Le.cons rfl (Le.cons rfl (Le.cons rfl (Le.cons rfl (Le.cons rfl (Le.cons rfl (Le.nil _)))))))))⟩
          | true =>
            refine RunO.part 2 rfl ?_
            cases met with
            | false => exact RunO.all rfl ⟨rfl, Le.cons rfl (Le.cons rfl (Le.cons rfl (Le.cons rfl (Le.cons rfl (Le.cons rfl (Le.cons rfl (Le.cons rfl (Le.cons rfl (Le.nil _)))))))))⟩
            | true =>
              refine RunO.part 4 rfl ?_
              refine RunO.loadG (v := .int .i64 xg) rfl rfl (ow4.all.cell1 (k := 0) rfl rfl) rfl ?_
              refine RunO.part 1 rfl ?_
              refine RunO.loadG (v := .int .i64 sv.1) rfl rfl (ow5.all.cell1 (k := 0) rfl rfl) rfl ?_
              exact RunO.all rfl ⟨rfl, Le.cons rfl (Le.cons rfl (Le.cons rfl (Le.cons rfl (Le.cons rfl (Le.cons rfl (Le.cons rfl (Le.cons rfl (Le.cons rfl (Le.nil _)))))))))⟩
      change pickStep l (sv, slot, met) i = if (cd == 0 && (xb == ((l.length / 64 : Nat) : Int) && (!met || decide (xg > sv.1)))) = true then ((xg, xb, xr, xs, xf), (i : Int), true) else (sv, slot, met) at hps
      generalize (cd == 0 && (xb == ((l.length / 64 : Nat) : Int) && (!met || decide (xg > sv.1)))) = B at *
      cases B with
      | true =>
        refine RunC.cond rfl (fun _ => ?_) (fun g => by cases g)
        refine RunC.region ?_
        refine RunO.load (v := .agg ⟨sc xg xb xr xs xf⟩) rfl (ow4.all.part (k := 0) rfl) rfl ?_
        refine RunO.part 1 rfl ?_
        refine RunO.store rfl rfl (store_ow (s := 5) ow5 rfl rfl rfl (Nat.le_refl 5)) ?_
        refine RunO.all rfl ?_
        refine RunC.region (RunO.all rfl ?_)
        refine ⟨d - 1, by omega, i + 1, _, by omega, rfl, ?_, ?_, ?_⟩
        · rw [hstep, hps]; exact Ow.put _ ow5.1
        · exact hfh4.same (Fr.put _ (.inl (Nat.le_refl _)))
        · rw [hstep, hps]
          exact Le.cons (inc64 (by omega)) (Le.cons rfl (Le.cons rfl (Le.cons rfl (Le.cons rfl (Le.cons rfl (Le.nil _))))))
      | false =>
        refine RunC.cond rfl (fun g => by cases g) (fun _ => RunC.skip ?_)
        refine RunC.region (RunO.all rfl ?_)
        refine ⟨d - 1, by omega, i + 1, _, by omega, rfl, ?_, ?_, ?_⟩
        · rw [hstep, hps]; exact ow5
        · exact hfh4
        · rw [hstep, hps]
          exact Le.cons (inc64 (by omega)) (Le.cons rfl (Le.cons rfl (Le.cons rfl (Le.cons rfl (Le.cons rfl (Le.nil _))))))
    · have hge := of_decide_eq_false hge
      refine RunC.exit ?_
      have hi2 : i = 2 := by omega
      subst hi2
      have hpk : pickS l = (sv, slot, met) := hst.symm
      rw [hp, hpk]
      cases met with
      | false =>
        refine RunC.seq (RunC.seq (RunC.region (RunO.all rfl (RunC.cond rfl (fun _ => ?_) (fun g => by cases g)))))
        refine RunC.seq (RunC.region (RunO.part 1 rfl ?_))
        refine RunO.store rfl rfl (store_ow (s := 5) ow rfl rfl rfl (Nat.le_refl 5)) ?_
        refine RunO.all rfl ?_
        refine RunC.ret ⟨_, eresults_cell2 rfl ((Ow.put (cs := sc 0 0 0 0 0) ow.1).all.part (k := 0) rfl) rfl rfl, rfl, ?_⟩
        exact frNo (hf.same (Fr.put _ (.inl (Nat.le_refl _))))
      | true =>
        refine RunC.seq (RunC.seq (RunC.region (RunO.all rfl (RunC.cond rfl (fun g => by cases g) (fun _ => RunC.skip ?_)))))
        refine RunC.seq (RunC.region ?_)
        refine RunO.load (v := .agg ⟨sc5 sv⟩) rfl (ow.all.part (k := 0) rfl) rfl ?_
        refine RunO.part 1 rfl ?_
        refine RunO.store rfl rfl (store_ow (s := 5) ow rfl rfl rfl (Nat.le_refl 5)) ?_
        refine RunO.all rfl ?_
        refine RunC.ret ⟨_, eresults_cell2 rfl ((Ow.put (cs := sc5 sv) ow.1).all.part (k := 0) rfl) rfl rfl, rfl, ?_⟩
        exact frNo (hf.same (Fr.put _ (.inl (Nat.le_refl _))))
  · exact ⟨0, ((0, 0, 0, 0, 0), 0, false), by omega, rfl, ow, f1, Le.cons rfl (Le.cons rfl (Le.cons rfl (Le.cons rfl (Le.cons rfl (Le.cons rfl (Le.nil _))))))⟩
end Go.Proofs.Ytaaemamcdhebhaa
