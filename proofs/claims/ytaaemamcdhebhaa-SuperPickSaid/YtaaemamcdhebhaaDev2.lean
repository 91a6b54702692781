/- Dev2: part of a calculus over an abstract machine that stands beside the model, and contracts of functions by it.
Conditions: what each theorem says of its arguments. -/
import Derived.Test.YtaaemamcdhebhaaDev
import Derived.Test.YtaaemamcdhebhaaAm21
set_option linter.unusedVariables false
set_option maxRecDepth 100000
open Go Go.Am
namespace Go.Proofs.Ytaaemamcdhebhaa
open Go.Proofs.Try
/-- A block written over. -/
def setBlk (o : List Int) (i : Nat) (d : List Int) : List Int := o.take (i * 64) ++ d ++ o.drop (i * 64 + 64)
theorem setBlk_len {o d : List Int} {i : Nat} (hi : (i + 1) * 64 ≤ o.length) (hd : d.length = 64) : (setBlk o i d).length = o.length := by
  unfold setBlk
  rw [List.length_append, List.length_append, List.length_take, List.length_drop, hd]; omega
def applyStep (o : List Int) (x : IoT) : List Int := if (x.1 == 1) = true then setBlk o x.2.1.toNat x.2.2.1 else o
def applyL (o : List Int) (l : List IoT) : List Int := l.foldl applyStep o
/-- A step that is right. -/
def ioOk (n : Nat) (x : IoT) : Prop := x.1 = 1 ∧ (∃ a : Nat, x.2.1 = (a : Int) ∧ a < n / 64) ∧ x.2.2.1.length = 64 ∨ x.1 = 2 ∧ x.2.1 = 0 ∧ x.2.2.1 = []
theorem ioR_iff {n : Nat} {x : IoT} : ioR x.1 x.2.1 x.2.2.1.length (n / 64 : Nat) = true ↔ ioOk n x := by
  unfold ioR ioOk
  by_cases h1 : x.1 = 1
  · rw [if_pos (beq_iff_eq.2 h1)]
    simp only [Bool.and_eq_true, decide_eq_true_eq, beq_iff_eq]
    constructor
    · rintro ⟨h2, h3, h4⟩
      exact .inl ⟨h1, ⟨x.2.1.toNat, by omega, by omega⟩, by omega⟩
    · rintro (⟨_, ⟨a, h2, h3⟩, h4⟩ | ⟨h2, _⟩)
      · exact ⟨by omega, by omega, by omega⟩
      · omega
  · rw [if_neg (fun g => h1 (beq_iff_eq.1 g))]
    by_cases h2 : x.1 = 2
    · rw [if_pos (beq_iff_eq.2 h2)]
      simp only [Bool.and_eq_true, beq_iff_eq]
      constructor
      · rintro ⟨h3, h4⟩
        exact .inr ⟨h2, h3, List.eq_nil_of_length_eq_zero (by omega)⟩
      · rintro (⟨h3, _⟩ | ⟨_, h3, h4⟩)
        · omega
        · exact ⟨h3, by rw [h4]; rfl⟩
    · rw [if_neg (fun g => h2 (beq_iff_eq.1 g))]
      constructor
      · intro g; cases g
      · rintro (⟨h3, _⟩ | ⟨h3, _⟩)
        · exact absurd h3 h1
        · exact absurd h3 h2
theorem stepsE_zero {n : Nat} {l : List IoT} (h : stepsE n l = 0) : devOk n = true ∧ l.length ≤ 1048576 ∧ ∀ x ∈ l, ioOk n x := by
  unfold stepsE at h
  split at h
  · rename_i h1
    split at h
    · cases h
    · rename_i h2
      split at h
      · cases h
      · rename_i h3
        refine ⟨h1, ?_, fun x hx => ?_⟩
        · have := of_decide_eq_false (Bool.eq_false_iff.2 h2); omega
        · refine ioR_iff.1 ?_
          cases e : ioR x.1 x.2.1 x.2.2.1.length (n / 64 : Nat) with
          | true => rfl
          | false => exact absurd (List.any_eq_true.2 ⟨x, hx, by rw [e]; rfl⟩) h3
  · cases h
theorem applyStep_len {n : Nat} {o : List Int} {x : IoT} (hn : o.length = n) (hx : ioOk n x) : (applyStep o x).length = n := by
  unfold applyStep
  split
  · rename_i h1
    rcases hx with ⟨_, ⟨a, e, ha⟩, hd⟩ | ⟨h2, _⟩
    · rw [e, Int.toNat_natCast, setBlk_len (by omega) hd, hn]
    · rw [h2] at h1; cases h1
  · exact hn
theorem foldl_take {α β : Type} (f : β → α → β) (b : β) {l : List α} {i : Nat} (hi : i < l.length) : (l.take (i + 1)).foldl f b = f ((l.take i).foldl f b) l[i] := by
  rw [List.take_succ_eq_append_getElem hi, List.foldl_append]; rfl
theorem us_set {o d : List Int} {i : Nat} (hd : d.length = 64) : (us o).take (i * 64) ++ (us d).take 64 ++ (us o).drop (i * 64 + 64) = us (setBlk o i d) := by
  rw [List.take_of_length_le (l := us d) (by rw [us_len, hd]; exact Nat.le_refl _)]
  unfold us setBlk
  rw [List.map_append, List.map_append, List.map_take, List.map_drop]
set_option maxHeartbeats 4000000 in
theorem devApply_ok {h : Heap} {iv v : Value} {L : List Int} {l : List IoT} (si : Sl h iv 1 L.length (us L)) (hL : 2 * L.length ≤ 281474976710656) (il : Ios h v l) (hm2 : l.length ≤ 4611686018427387904) :
    RunF prog 42 [iv, v] h fun r h' => Fr no h h' ∧ ((stepsE L.length l = 0 ∧ ∃ b c, h.next ≤ b ∧ r = .tuple #[.slice (some ⟨b, 0, none⟩) L.length c, .int .i64 0] ∧ Cp 1 L.length c ∧ Ow h' b (us (applyL L l))) ∨ (stepsE L.length l ≠ 0 ∧ r = .tuple #[.slice none 0 0, .int .i64 (stepsE L.length l)])) := by
  refine RunF.walk func42 rfl rfl ?_
  obtain ⟨A, c, rfl, hc, hA⟩ := si.form
  refine RunC.seq (RunC.region (RunO.all rfl ?_))
  refine RunC.seq (RunC.region (RunO.part 2 rfl ?_))
  refine RunO.callD (devSteps_ok il (by omega) hm2) rfl rfl rfl ?_
  rintro _ h1 ⟨rfl, f1⟩
  refine RunO.all rfl ?_
  refine RunC.seq (RunC.seq (RunC.region (RunO.all rfl ?_)))
  by_cases he : stepsE L.length l = 0
  case neg =>
    rw [show (stepsE L.length l != 0) = true from bne_iff_ne.2 he]
    refine RunC.cond rfl (fun _ => ?_) (fun g => by cases g)
    exact RunC.seq (RunC.region (RunO.all rfl (RunC.ret ⟨_, rfl, f1, .inr ⟨he, rfl⟩⟩)))
  rw [he]
  obtain ⟨hdev, hl20, hall⟩ := stepsE_zero he
  have hlen : 256 ≤ L.length := by
    unfold devOk at hdev
    simp at hdev
    omega
  refine RunC.cond rfl (fun g => by cases g) (fun _ => RunC.skip ?_)
  refine RunC.seq (RunC.region (RunO.part 1 rfl ?_))
  refine RunO.callD (clone8_ok (si.fr0 f1) hL) rfl rfl rfl ?_
  rintro w h2 ⟨os, f2, _⟩
  obtain ⟨_, _, ⟨_, h0⟩ | ⟨ob, oc, hob, rfl, hoc, ow⟩⟩ := os
  · omega
  refine RunO.all rfl ?_
  have f12 := f1.same f2
  obtain ⟨acs, sl, hk⟩ := il
  obtain ⟨B, d, rfl, hd, _⟩ := sl.form
  refine RunC.seq (RunC.seq (RunC.region (RunO.all rfl ?_)))
  refine RunC.block ?_
  have hob1 : h.next ≤ ob := Nat.le_trans f1.next hob
  let I : Nat → Env → Heap → Prop := fun k E h' => ∃ i : Nat, i + k = l.length ∧ Fr no h h' ∧ Ow h' ob (us ((l.take i).foldl applyStep L)) ∧ ((l.take i).foldl applyStep L).length = L.length ∧ Le (upd (upd (upd (upd E0 7 (.slice (some ⟨ob, 0, none⟩) L.length oc)) 18 (.slice B l.length d)) 19 (.int .i64 l.length)) 20 (.int .i64 i)) E
  refine RunC.loop I ?_ (k := l.length) ?_
  · rintro k E h' ⟨i, hi, hf, ow', hol, hE⟩
    refine RunC.le hE ?_
    clear hE
    refine RunC.seq (RunC.region (RunO.all rfl ?_))
    refine RunC.seq (RunC.cond rfl (fun hlt => ?_) (fun hge => ?_))
    · have hlt := of_decide_eq_true hlt
      have h1 : i < l.length := by omega
      have hx := hk i _ (List.getElem?_eq_getElem h1)
      have hok := hall _ (List.getElem_mem h1)
      have hstep := foldl_take applyStep L h1
      have hsl := applyStep_len hol hok
      rw [← hstep] at hsl
      obtain ⟨cur1, hc1⟩ : ∃ z, z = (l.take (i + 1)).foldl applyStep L := ⟨_, rfl⟩
      rw [← hc1] at hstep hsl
      generalize (l.take i).foldl applyStep L = cur at *
      have hpart := io_part (acs := acs) sl.1 h1
      obtain ⟨dv, e1, e2, _⟩ := hx
      rw [e1] at hpart
      generalize l[i] = x at *
      obtain ⟨kd, a, dl, u⟩ := x
      simp only at e1 e2 hpart
      refine RunC.skip ?_
      refine RunC.seq (RunC.block ?_)
      obtain ⟨D, dc, rfl, hdc, _⟩ := e2.form
      refine RunC.seq (RunC.region ?_)
      refine RunO.at (s := 3) rfl rfl (sl.fr0 hf) rfl rfl h1 hpart rfl rfl rfl ?_
      refine RunO.part 1 (h1 := h'.push ⟨[.int .i64 0, .int .i64 0, .slice none 0 0], true⟩) rfl ?_
      refine RunO.store rfl rfl (store_ow (s := 3) (Ow.push h' [.int .i64 0, .int .i64 0, .slice none 0 0]) rfl rfl rfl (Nat.le_of_ble_eq_true rfl)) (RunO.nil ?_)
      change RunC _ _ _ _ ((h'.push ⟨[.int .i64 0, .int .i64 0, .slice none 0 0], true⟩).put h'.next (some ⟨[.int .i64 kd, .int .i64 a, .slice D dl.length dc], true⟩)) _ _ _
      have ox : Ow ((h'.push ⟨[.int .i64 0, .int .i64 0, .slice none 0 0], true⟩).put h'.next (some ⟨[.int .i64 kd, .int .i64 a, .slice D dl.length dc], true⟩)) h'.next [.int .i64 kd, .int .i64 a, .slice D dl.length dc] := Ow.put _ (Nat.lt_succ_self _)
      have f4 : Fr no h' ((h'.push ⟨[.int .i64 0, .int .i64 0, .slice none 0 0], true⟩).put h'.next (some ⟨[.int .i64 kd, .int .i64 a, .slice D dl.length dc], true⟩)) := (Fr.push _ _ _).trans (Fr.put (m := (· = h'.next)) _ (.inl rfl)) (fun j hj => .inr (by omega))
      have ow4 := ow'.fr f4 (fun g => g)
      have hf4 := hf.same f4
      have hne : h'.next ≠ ob := by have := ow'.1; omega
      have sd4 := e2.fr0 hf4
      generalize (h'.push ⟨[.int .i64 0, .int .i64 0, .slice none 0 0], true⟩).put h'.next (some ⟨[.int .i64 kd, .int .i64 a, .slice D dl.length dc], true⟩) = h4 at *
      generalize h'.next = p at *
      refine RunC.seq (RunC.region (RunO.part 1 rfl ?_))
      refine RunO.load (v := .int .i64 kd) rfl (ox.all.cell1 (k := 0) rfl rfl) rfl (RunO.all rfl ?_)
      cases hkd : (kd == 1) with
      | false =>
        refine RunC.cond rfl (fun g => by cases g) (fun _ => RunC.skip ?_)
        refine RunC.region (RunO.all rfl ?_)
        have hst : cur1 = cur := by rw [hstep]; unfold applyStep; rw [if_neg (by simp only [hkd]; exact Bool.false_ne_true)]
        rw [← hst] at ow4
        exact ⟨k - 1, by omega, i + 1, by omega, hf4, hc1 ▸ ow4, hc1 ▸ hsl, Le.cons (inc64 (by omega)) (Le.cons rfl (Le.cons rfl (Le.cons rfl (Le.nil _))))⟩
      | true =>
        refine RunC.cond rfl (fun _ => ?_) (fun g => by cases g)
        have hst : cur1 = setBlk cur a.toNat dl := by rw [hstep]; unfold applyStep; rw [if_pos hkd]
        rcases hok with ⟨_, ⟨an, ea, ha⟩, hdl⟩ | ⟨h2, _⟩
        case inr => rw [show kd = 2 from h2] at hkd; cases hkd
        simp only at ea hdl
        subst ea
        rw [Int.toNat_natCast] at hst
        have hal : (an + 1) * 64 ≤ L.length := by omega
        refine RunC.draw (l0 := min (min h4.low h4.next) ob) (Nat.le_trans (Nat.min_le_left _ _) (Nat.min_le_left _ _)) rfl ?_
        have hn : min (min h4.low h4.next) ob ≤ h4.next := Nat.le_trans (Nat.min_le_left _ _) (Nat.min_le_right h4.low h4.next)
        refine RunD.pure hn rfl rfl (fun _ => rfl) rfl ?_
        refine RunD.pure hn rfl rfl (fun _ => rfl) rfl ?_
        refine RunD.load (v := .int .i64 an) hn rfl (ox.all.cell1 (k := 1) rfl rfl) rfl ?_
        have hof := devOf_ok (h := h4.lo h4.next) (b := ob) (o := 0) (c := oc) (i := an) (l := L) hal (by omega) hoc
        refine RunD.callD hof rfl rfl rfl ?_
        rintro _ _ ⟨⟨c', hc', rfl⟩, rfl⟩
        refine ⟨hn, ?_⟩
        refine RunD.pure hn rfl rfl (fun _ => rfl) rfl ?_
        refine RunD.load (v := .slice D dl.length dc) hn rfl (ox.all.cell1 (k := 2) rfl rfl) rfl ?_
        obtain ⟨h5, hcp, ow5, f5, hn5⟩ := copy_sl (P := prog) (t := 24) (h := h4.lo h4.next) (b := ob) (o := 0 + an * 64) (dn := 64) (dc := c') (k := 64) rfl rfl ow4 sd4 (allCells_map (fun _ => rfl) dl) (by rw [hdl]; rfl) (by rw [us_len, hol]; omega)
        rw [Nat.zero_add, us_set hdl, ← hst] at ow5
        rw [Nat.zero_add] at hcp
        have hl5 : min (min h4.low h4.next) ob ≤ h5.low := f5.low _ (Nat.le_trans (Nat.min_le_left _ _) (Nat.min_le_right _ _)) (Nat.le_trans (Nat.min_le_left _ _) (Nat.min_le_right _ _)) (fun j hj => hj ▸ Nat.min_le_right _ _)
        refine RunD.one (v := goInt (64 : Nat)) (f := .wr _) (h1 := h5) rfl (by rw [Nat.zero_add]; exact hcp) (fun _ => rfl) hl5 rfl ?_
        refine RunD.nil ⟨?_, fun lw hlw => ?_⟩
        · rw [show Nat.ble h4.next (h4.lo h4.next).low = true from Nat.ble_eq_true_of_le (Nat.le_refl _)]; rfl
        have f6 : Fr no h (h5.lo lw) := (hf4.fg0.trans f5.fg (fun j e => .inr (e ▸ hob1))).close (fun q a b _ => by
          have := hf4.low q a b (fun _ g => g.elim)
          have := hf4.next
          omega)
        refine RunC.region (RunO.all rfl ?_)
        exact ⟨k - 1, by omega, i + 1, by omega, f6, hc1 ▸ ow5, hc1 ▸ hsl, Le.cons (inc64 (by omega)) (Le.cons rfl (Le.cons rfl (Le.cons rfl (Le.nil _))))⟩
    · have hge := of_decide_eq_false hge
      refine RunC.exit ?_
      have hi2 : i = l.length := by omega
      subst hi2
      rw [List.take_length] at ow'
      exact RunC.seq (RunC.region (RunO.all rfl (RunC.ret ⟨_, rfl, hf, .inl ⟨rfl, ob, oc, hob1, rfl, hoc, ow'⟩⟩)))
  · exact ⟨0, by omega, f12, ow, rfl, Le.cons rfl (Le.cons rfl (Le.cons rfl (Le.cons rfl (Le.nil _))))⟩
end Go.Proofs.Ytaaemamcdhebhaa
