/- BuildExact: a calculus over an abstract machine that stands beside the model, and contracts of functions by it (part 5).
Conditions: what each theorem says of its arguments. -/
import Derived.Test.YtdcggjkcbheolaaGBuildExact4
section
set_option linter.unusedVariables false
set_option maxRecDepth 100000
open Go Go.Am
namespace Go.Proofs.Ytdcggjkcbheolaa
open Go.Proofs.Try
/-- A block written over. -/
def setBlk (o : List Int) (i : Nat) (d : List Int) : List Int := o.take (i * 64) ++ d ++ o.drop (i * 64 + 64)
theorem setBlk_len {o d : List Int} {i : Nat} (hi : (i + 1) * 64 ≤ o.length) (hd : d.length = 64) : (setBlk o i d).length = o.length := by
  unfold setBlk
  rw [List.length_append, List.length_append, List.length_take, List.length_drop, hd]; omega
def applyStep (o : List Int) (x : IoT) : List Int := if (x.1 == 1) = true then setBlk o x.2.1.toNat x.2.2.1 else o
def applyL (o : List Int) (l : List IoT) : List Int := l.foldl applyStep o
/-- A step that is right. -/
def ioOk (n : Nat) (x : IoT) : Prop := x.1 = 1 ∧ (∃ a : Nat, x.2.1 = (a : Int) ∧ a < n / 64) ∧ x.2.2.1.length = 64 ∨ x.1 = 2 ∧ x.2.1 = 0 ∧ x.2.2.1 = []
theorem ioR_iff {n : Nat} {x : IoT} : ioR x.1 x.2.1 x.2.2.1.length (n / 64 : Nat) = true ↔ ioOk n x := by
  unfold ioR ioOk
  by_cases h1 : x.1 = 1
  · rw [if_pos (beq_iff_eq.2 h1)]
    simp only [Bool.and_eq_true, decide_eq_true_eq, beq_iff_eq]
    constructor
    · rintro ⟨h2, h3, h4⟩
      exact .inl ⟨h1, ⟨x.2.1.toNat, by omega, by omega⟩, by omega⟩
    · rintro (⟨_, ⟨a, h2, h3⟩, h4⟩ | ⟨h2, _⟩)
      · exact ⟨by omega, by omega, by omega⟩
      · omega
  · rw [if_neg (fun g => h1 (beq_iff_eq.1 g))]
    by_cases h2 : x.1 = 2
    · rw [if_pos (beq_iff_eq.2 h2)]
      simp only [Bool.and_eq_true, beq_iff_eq]
      constructor
      · rintro ⟨h3, h4⟩
        exact .inr ⟨h2, h3, List.eq_nil_of_length_eq_zero (by omega)⟩
      · rintro (⟨h3, _⟩ | ⟨_, h3, h4⟩)
        · omega
        · exact ⟨h3, by rw [h4]; rfl⟩
    · rw [if_neg (fun g => h2 (beq_iff_eq.1 g))]
      constructor
      · intro g; cases g
      · rintro (⟨h3, _⟩ | ⟨h3, _⟩)
        · exact absurd h3 h1
        · exact absurd h3 h2
theorem stepsE_zero {n : Nat} {l : List IoT} (h : stepsE n l = 0) : devOk n = true ∧ l.length ≤ 1048576 ∧ ∀ x ∈ l, ioOk n x := by
  unfold stepsE at h
  split at h
  · rename_i h1
    split at h
    · cases h
    · rename_i h2
      split at h
      · cases h
      · rename_i h3
        refine ⟨h1, ?_, fun x hx => ?_⟩
        · have := of_decide_eq_false (Bool.eq_false_iff.2 h2); omega
        · refine ioR_iff.1 ?_
          cases e : ioR x.1 x.2.1 x.2.2.1.length (n / 64 : Nat) with
          | true => rfl
          | false => exact absurd (List.any_eq_true.2 ⟨x, hx, by rw [e]; rfl⟩) h3
  · cases h
theorem applyStep_len {n : Nat} {o : List Int} {x : IoT} (hn : o.length = n) (hx : ioOk n x) : (applyStep o x).length = n := by
  unfold applyStep
  split
  · rename_i h1
    rcases hx with ⟨_, ⟨a, e, ha⟩, hd⟩ | ⟨h2, _⟩
    · rw [e, Int.toNat_natCast, setBlk_len (by omega) hd, hn]
    · rw [h2] at h1; cases h1
  · exact hn
theorem foldl_take {α β : Type} (f : β → α → β) (b : β) {l : List α} {i : Nat} (hi : i < l.length) : (l.take (i + 1)).foldl f b = f ((l.take i).foldl f b) l[i] := by
  rw [List.take_succ_eq_append_getElem hi, List.foldl_append]; rfl
theorem us_set {o d : List Int} {i : Nat} (hd : d.length = 64) : (us o).take (i * 64) ++ (us d).take 64 ++ (us o).drop (i * 64 + 64) = us (setBlk o i d) := by
  rw [List.take_of_length_le (l := us d) (by rw [us_len, hd]; exact Nat.le_refl _)]
  unfold us setBlk
  rw [List.map_append, List.map_append, List.map_take, List.map_drop]
set_option maxHeartbeats 4000000 in
theorem devApply_ok {h : Heap} {iv v : Value} {L : List Int} {l : List IoT} (si : Sl h iv 1 L.length (us L)) (hL : 2 * L.length ≤ 281474976710656) (il : Ios h v l) (hm2 : l.length ≤ 4611686018427387904) :
    RunF prog 29 [iv, v] h fun r h' => Fr no h h' ∧ ((stepsE L.length l = 0 ∧ ∃ b c, h.next ≤ b ∧ r = .tuple #[.slice (some ⟨b, 0, none⟩) L.length c, .int .i64 0] ∧ Cp 1 L.length c ∧ Ow h' b (us (applyL L l))) ∨ (stepsE L.length l ≠ 0 ∧ r = .tuple #[.slice none 0 0, .int .i64 (stepsE L.length l)])) := by
  refine RunF.walk func29 rfl rfl ?_
  obtain ⟨A, c, rfl, hc, hA⟩ := si.form
  refine RunC.seq (RunC.region (RunO.all rfl ?_))
  refine RunC.seq (RunC.region (RunO.part 2 rfl ?_))
  refine RunO.callD (devSteps_ok il (by omega) hm2) rfl rfl rfl ?_
  rintro _ h1 ⟨rfl, f1⟩
  refine RunO.all rfl ?_
  refine RunC.seq (RunC.seq (RunC.region (RunO.all rfl ?_)))
  by_cases he : stepsE L.length l = 0
  case neg =>
    rw [show (stepsE L.length l != 0) = true from bne_iff_ne.2 he]
    refine RunC.cond rfl (fun _ => ?_) (fun g => by cases g)
    exact RunC.seq (RunC.region (RunO.all rfl (RunC.ret ⟨_, rfl, f1, .inr ⟨he, rfl⟩⟩)))
  rw [he]
  obtain ⟨hdev, hl20, hall⟩ := stepsE_zero he
  have hlen : 256 ≤ L.length := by
    unfold devOk at hdev
    simp at hdev
    omega
  refine RunC.cond rfl (fun g => by cases g) (fun _ => RunC.skip ?_)
  refine RunC.seq (RunC.region (RunO.part 1 rfl ?_))
  refine RunO.callD (clone8_ok (si.fr0 f1) hL) rfl rfl rfl ?_
  rintro w h2 ⟨os, f2, _⟩
  obtain ⟨_, _, ⟨_, h0⟩ | ⟨ob, oc, hob, rfl, hoc, ow⟩⟩ := os
  · omega
  refine RunO.all rfl ?_
  have f12 := f1.same f2
  obtain ⟨acs, sl, hk⟩ := il
  obtain ⟨B, d, rfl, hd, _⟩ := sl.form
  refine RunC.seq (RunC.seq (RunC.region (RunO.all rfl ?_)))
  refine RunC.block ?_
  have hob1 : h.next ≤ ob := Nat.le_trans f1.next hob
  let I : Nat → Env → Heap → Prop := fun k E h' => ∃ i : Nat, i + k = l.length ∧ Fr no h h' ∧ Ow h' ob (us ((l.take i).foldl applyStep L)) ∧ ((l.take i).foldl applyStep L).length = L.length ∧ Le (upd (upd (upd (upd E0 7 (.slice (some ⟨ob, 0, none⟩) L.length oc)) 18 (.slice B l.length d)) 19 (.int .i64 l.length)) 20 (.int .i64 i)) E
  refine RunC.loop I ?_ (k := l.length) ?_
  · rintro k E h' ⟨i, hi, hf, ow', hol, hE⟩
    refine RunC.le hE ?_
    clear hE
    refine RunC.seq (RunC.region (RunO.all rfl ?_))
    refine RunC.seq (RunC.cond rfl (fun hlt => ?_) (fun hge => ?_))
    · have hlt := of_decide_eq_true hlt
      have h1 : i < l.length := by omega
      have hx := hk i _ (List.getElem?_eq_getElem h1)
      have hok := hall _ (List.getElem_mem h1)
      have hstep := foldl_take applyStep L h1
      have hsl := applyStep_len hol hok
      rw [← hstep] at hsl
      obtain ⟨cur1, hc1⟩ : ∃ z, z = (l.take (i + 1)).foldl applyStep L := ⟨_, rfl⟩
      rw [← hc1] at hstep hsl
      generalize (l.take i).foldl applyStep L = cur at *
      have hpart := io_part (acs := acs) sl.1 h1
      obtain ⟨dv, e1, e2, _⟩ := hx
      rw [e1] at hpart
      generalize l[i] = x at *
      obtain ⟨kd, a, dl, u⟩ := x
      simp only at e1 e2 hpart
      refine RunC.skip ?_
      refine RunC.seq (RunC.block ?_)
      obtain ⟨D, dc, rfl, hdc, _⟩ := e2.form
      refine RunC.seq (RunC.region ?_)
      refine RunO.at (s := 3) rfl rfl (sl.fr0 hf) rfl rfl h1 hpart rfl rfl rfl ?_
      refine RunO.part 1 (h1 := h'.push ⟨[.int .i64 0, .int .i64 0, .slice none 0 0], true⟩) rfl ?_
      refine RunO.store rfl rfl (store_ow (s := 3) (Ow.push h' [.int .i64 0, .int .i64 0, .slice none 0 0]) rfl rfl rfl (Nat.le_of_ble_eq_true rfl)) (RunO.nil ?_)
      change RunC _ _ _ _ ((h'.push ⟨[.int .i64 0, .int .i64 0, .slice none 0 0], true⟩).put h'.next (some ⟨[.int .i64 kd, .int .i64 a, .slice D dl.length dc], true⟩)) _ _ _
      have ox : Ow ((h'.push ⟨[.int .i64 0, .int .i64 0, .slice none 0 0], true⟩).put h'.next (some ⟨[.int .i64 kd, .int .i64 a, .slice D dl.length dc], true⟩)) h'.next [.int .i64 kd, .int .i64 a, .slice D dl.length dc] := Ow.put _ (Nat.lt_succ_self _)
      have f4 : Fr no h' ((h'.push ⟨[.int .i64 0, .int .i64 0, .slice none 0 0], true⟩).put h'.next (some ⟨[.int .i64 kd, .int .i64 a, .slice D dl.length dc], true⟩)) := (Fr.push _ _ _).trans (Fr.put (m := (· = h'.next)) _ (.inl rfl)) (fun j hj => .inr (by omega))
      have ow4 := ow'.fr f4 (fun g => g)
      have hf4 := hf.same f4
      have hne : h'.next ≠ ob := by have := ow'.1; omega
      have sd4 := e2.fr0 hf4
      generalize (h'.push ⟨[.int .i64 0, .int .i64 0, .slice none 0 0], true⟩).put h'.next (some ⟨[.int .i64 kd, .int .i64 a, .slice D dl.length dc], true⟩) = h4 at *
      generalize h'.next = p at *
      refine RunC.seq (RunC.region (RunO.part 1 rfl ?_))
      refine RunO.load (v := .int .i64 kd) rfl (ox.all.cell1 (k := 0) rfl rfl) rfl (RunO.all rfl ?_)
      cases hkd : (kd == 1) with
      | false =>
        refine RunC.cond rfl (fun g => by cases g) (fun _ => RunC.skip ?_)
        refine RunC.region (RunO.all rfl ?_)
        have hst : cur1 = cur := by rw [hstep]; unfold applyStep; rw [if_neg (by simp only [hkd]; exact Bool.false_ne_true)]
        rw [← hst] at ow4
        exact ⟨k - 1, by omega, i + 1, by omega, hf4, hc1 ▸ ow4, hc1 ▸ hsl, Le.cons (inc64 (by omega)) (Le.cons rfl (Le.cons rfl (Le.cons rfl (Le.nil _))))⟩
      | true =>
        refine RunC.cond rfl (fun _ => ?_) (fun g => by cases g)
        have hst : cur1 = setBlk cur a.toNat dl := by rw [hstep]; unfold applyStep; rw [if_pos hkd]
        rcases hok with ⟨_, ⟨an, ea, ha⟩, hdl⟩ | ⟨h2, _⟩
        case inr => rw [show kd = 2 from h2] at hkd; cases hkd
        simp only at ea hdl
        subst ea
        rw [Int.toNat_natCast] at hst
        have hal : (an + 1) * 64 ≤ L.length := by omega
        refine RunC.draw (l0 := min (min h4.low h4.next) ob) (Nat.le_trans (Nat.min_le_left _ _) (Nat.min_le_left _ _)) rfl ?_
        have hn : min (min h4.low h4.next) ob ≤ h4.next := Nat.le_trans (Nat.min_le_left _ _) (Nat.min_le_right h4.low h4.next)
        refine RunD.pure hn rfl rfl (fun _ => rfl) rfl ?_
        refine RunD.pure hn rfl rfl (fun _ => rfl) rfl ?_
        refine RunD.load (v := .int .i64 an) hn rfl (ox.all.cell1 (k := 1) rfl rfl) rfl ?_
        have hof := devOf_ok (h := h4.lo h4.next) (b := ob) (o := 0) (c := oc) (i := an) (l := L) hal (by omega) hoc
        refine RunD.callD hof rfl rfl rfl ?_
        rintro _ _ ⟨⟨c', hc', rfl⟩, rfl⟩
        refine ⟨hn, ?_⟩
        refine RunD.pure hn rfl rfl (fun _ => rfl) rfl ?_
        refine RunD.load (v := .slice D dl.length dc) hn rfl (ox.all.cell1 (k := 2) rfl rfl) rfl ?_
        obtain ⟨h5, hcp, ow5, f5, hn5⟩ := copy_sl (P := prog) (t := 23) (h := h4.lo h4.next) (b := ob) (o := 0 + an * 64) (dn := 64) (dc := c') (k := 64) rfl rfl ow4 sd4 (allCells_map (fun _ => rfl) dl) (by rw [hdl]; rfl) (by rw [us_len, hol]; omega)
        rw [Nat.zero_add, us_set hdl, ← hst] at ow5
        rw [Nat.zero_add] at hcp
        have hl5 : min (min h4.low h4.next) ob ≤ h5.low := f5.low _ (Nat.le_trans (Nat.min_le_left _ _) (Nat.min_le_right _ _)) (Nat.le_trans (Nat.min_le_left _ _) (Nat.min_le_right _ _)) (fun j hj => hj ▸ Nat.min_le_right _ _)
        refine RunD.one (v := goInt (64 : Nat)) (f := .wr _) (h1 := h5) rfl (by rw [Nat.zero_add]; exact hcp) (fun _ => rfl) hl5 rfl ?_
        refine RunD.nil ⟨?_, fun lw hlw => ?_⟩
        · rw [show Nat.ble h4.next (h4.lo h4.next).low = true from Nat.ble_eq_true_of_le (Nat.le_refl _)]; rfl
        have f6 : Fr no h (h5.lo lw) := (hf4.fg0.trans f5.fg (fun j e => .inr (e ▸ hob1))).close (fun q a b _ => by
          have := hf4.low q a b (fun _ g => g.elim)
          have := hf4.next
          omega)
        refine RunC.region (RunO.all rfl ?_)
        exact ⟨k - 1, by omega, i + 1, by omega, f6, hc1 ▸ ow5, hc1 ▸ hsl, Le.cons (inc64 (by omega)) (Le.cons rfl (Le.cons rfl (Le.cons rfl (Le.nil _))))⟩
    · have hge := of_decide_eq_false hge
      refine RunC.exit ?_
      have hi2 : i = l.length := by omega
      subst hi2
      rw [List.take_length] at ow'
      exact RunC.seq (RunC.region (RunO.all rfl (RunC.ret ⟨_, rfl, hf, .inl ⟨rfl, ob, oc, hob1, rfl, hoc, ow'⟩⟩)))
  · exact ⟨0, by omega, f12, ow, rfl, Le.cons rfl (Le.cons rfl (Le.cons rfl (Le.cons rfl (Le.nil _))))⟩
end Go.Proofs.Ytdcggjkcbheolaa
end
section
set_option linter.unusedVariables false
set_option maxRecDepth 100000
open Go Go.Am Go.RowKit
namespace Go.Proofs.Ytdcggjkcbheolaa
open Go.Proofs.Try
theorem blk_get (l : List Int) (i j : Nat) : (blkI l i)[j]? = if j < 64 then l[i * 64 + j]? else none := by
  unfold blkI
  rw [List.getElem?_take, List.getElem?_drop]
theorem setBlk_get {o d : List Int} {i k : Nat} (hi : (i + 1) * 64 ≤ o.length) (hd : d.length = 64) : (setBlk o i d)[k]? = if i * 64 ≤ k ∧ k < i * 64 + 64 then d[k - i * 64]? else o[k]? := by
  unfold setBlk
  have h1 : (o.take (i * 64)).length = i * 64 := by rw [List.length_take]; omega
  by_cases c1 : k < i * 64
  · rw [if_neg (by omega), List.append_assoc, List.getElem?_append_left (by omega), List.getElem?_take, if_pos c1]
  · by_cases c2 : k < i * 64 + 64
    · rw [if_pos (by omega), List.append_assoc, List.getElem?_append_right (by omega), h1, List.getElem?_append_left (by omega)]
    · rw [if_neg (by omega), List.append_assoc, List.getElem?_append_right (by omega), h1, List.getElem?_append_right (by omega), hd, List.getElem?_drop]
      congr 1; omega
theorem blk_set_same {o d : List Int} {i : Nat} (hi : (i + 1) * 64 ≤ o.length) (hd : d.length = 64) : blkI (setBlk o i d) i = d := by
  apply List.ext_getElem?
  intro j
  rw [blk_get, setBlk_get hi hd]
  by_cases c : j < 64
  · rw [if_pos c, if_pos (by omega)]; congr 1; omega
  · rw [if_neg c, List.getElem?_eq_none (by omega)]
theorem blk_set_ne {o d : List Int} {i j : Nat} (hi : (i + 1) * 64 ≤ o.length) (hd : d.length = 64) (hne : j ≠ i) : blkI (setBlk o i d) j = blkI o j := by
  apply List.ext_getElem?
  intro k
  rw [blk_get, blk_get]
  by_cases c : k < 64
  · rw [if_pos c, if_pos c, setBlk_get hi hd, if_neg]
    rcases Nat.lt_or_gt_of_ne hne with g | g <;> omega
  · rw [if_neg c, if_neg c]
theorem setBlk_byt {o d : List Int} {i : Nat} (ho : Byt o) (hd : Byt d) : Byt (setBlk o i d) := by
  intro x hx
  unfold setBlk at hx
  rcases List.mem_append.1 hx with hx | hx
  · rcases List.mem_append.1 hx with hx | hx
    · exact ho x (List.mem_of_mem_take hx)
    · exact hd x hx
  · exact ho x (List.mem_of_mem_drop hx)
theorem byt_zeros (n : Nat) : Byt (List.replicate n 0) := fun x hx => by rw [List.eq_of_mem_replicate hx]; omega
/-- A node of one pointer. -/
def oneP (k : Nat) (p : Int) : List Int := nZero.set k p
/-- A device with a tree of one sector, so many nodes of it written: its bytes, what the next one leads to. -/
def chainI (B at_ sec : Nat) (data : Int) : Nat → List Int × Int
  | 0 => (List.replicate (B * 64) 0, data)
  | i + 1 => (setBlk (chainI B at_ sec data i).1 (at_ + i) (nodBlock i (oneP (sec / 8 ^ i % 8) (chainI B at_ sec data i).2)), ((at_ + i : Nat) : Int))
def chain (B at_ sec : Nat) (data : Int) : List Int := (chainI B at_ sec data 3).1
theorem nodV_back {lv : Int} {ps : List Int} (hp : ps.length = 8) (h : nodOk lv ps = true) : nCode (nodBlock lv ps) = 0 ∧ nodV (nodBlock lv ps) = (lv, ps) := by
  obtain ⟨h1, h2⟩ := nod_back hp h
  refine ⟨h1, ?_⟩
  rw [nodV_cells] at h2
  generalize nodV (nodBlock lv ps) = v at *
  unfold nc at h2
  injection h2 with h3 h4
  injection h3 with _ h3
  have hi : ∀ a b : List Int, is a = is b → a = b := by
    intro a b e
    unfold is at e
    exact (List.map_inj_right (fun x y e => by injection e)).1 e
  exact Prod.ext h3 (hi _ _ h4)
end Go.Proofs.Ytdcggjkcbheolaa
end
section
set_option linter.unusedVariables false
set_option maxRecDepth 100000
open Go Go.Am Go.RowKit
namespace Go.Proofs.Ytdcggjkcbheolaa
open Go.Proofs.Try
theorem us_zeros (n : Nat) : us (List.replicate n 0) = List.replicate n (Value.int .u8 0) := by unfold us; rw [List.map_replicate]
theorem reps_us (n : Nat) : reps (cellsOf (Value.int .u8 0)) n = us (List.replicate n 0) := by rw [us_zeros]; exact reps_one _ _
theorem reps_is (n : Nat) : reps (cellsOf (Value.int .i64 0)) n = is (List.replicate n 0) := by rw [show cellsOf (Value.int .i64 0) = [.int .i64 0] from rfl, reps_one]; unfold is; rw [List.map_replicate]
end Go.Proofs.Ytdcggjkcbheolaa
end
section
set_option linter.unusedVariables false
set_option maxRecDepth 100000
open Go Go.Am Go.RowKit
namespace Go.Proofs.Ytdcggjkcbheolaa
open Go.Proofs.Try
theorem zero_get (n j : Nat) : (List.replicate n (0 : Int)).getD j 0 = 0 := by
  rw [List.getD_eq_getElem?_getD, List.getElem?_replicate]; split <;> rfl
/-- An old tree's walk below a bound, apart from a block. -/
def KOk (h : Heap) (hi kb : Nat) (ov : Value) (o ns : List Int) : Prop := ∃ ob mb iv B nv, ov = .pointer (some ⟨ob, 0, none⟩) ∧ Ow h ob (wc iv B (.slice (some ⟨mb, 0, none⟩) 512 (exc 512)) nv false) ∧ Ow h mb (is o) ∧ o.length = 512 ∧ Sl h nv 1 ns.length (is ns) ∧ ob ≠ kb ∧ ob < hi ∧ mb ≠ kb ∧ mb < hi ∧ Away hi kb nv ns.length
theorem KOk.ko {h : Heap} {hi kb : Nat} {ov : Value} {o ns : List Int} (k : KOk h hi kb ov o ns) : KO h ov o ns := by
  obtain ⟨ob, mb, iv, B, nv, h1, h2, h3, h4, h5, _⟩ := k
  exact ⟨ob, mb, iv, B, nv, h1, h2, h3, h4, h5⟩
theorem KOk.fr {h h' : Heap} {hi kb : Nat} {ov : Value} {o ns : List Int} {M : Nat → Prop} (k : KOk h hi kb ov o ns) (f : Fr M h h') (hM : ∀ b, M b → b = kb ∨ hi ≤ b) : KOk h' hi kb ov o ns := by
  obtain ⟨ob, mb, iv, B, nv, h1, h2, h3, h4, h5, h6, h7, h8, h9, h10⟩ := k
  exact ⟨ob, mb, iv, B, nv, h1, h2.fr f (fun g => by rcases hM _ g with e | e <;> omega), h3.fr f (fun g => by rcases hM _ g with e | e <;> omega), h4, sl_away h5 h10 hM f, h6, h7, h8, h9, h10⟩
def wasT (L : List Int) (B : Nat) (root : Int) (l : Nat) : List Int := (List.range (lvN l)).map fun j => look L B (2 - l) root j
theorem wasT_len (L : List Int) (B : Nat) (root : Int) (l : Nat) : (wasT L B root l).length = lvN l := by unfold wasT; rw [List.length_map, List.length_range]
def kN : Value := .slice none 0 0
/-- So many levels have their rows. -/
structure K1 (h0 h : Heap) (kb : Nat) (iv : Value) (B : Nat) (ov mv : Value) (i : Nat) (wb jb : Nat → Nat) : Prop where
  ow : Ow h kb (kc iv B ov mv (fun l => if l < i then slz (wb l) (lvN l) else kN) (fun l => if l < i then slz (jb l) (lvN l) else kN) kN)
  w : ∀ l, l < i → Ow h (wb l) (is (List.replicate (lvN l) 0)) ∧ h0.next ≤ wb l
  j : ∀ l, l < i → Ow h (jb l) (is (List.replicate (lvN l) 0)) ∧ h0.next ≤ jb l
  wi : ∀ l k, l < i → k < i → wb l = wb k → l = k
  ji : ∀ l k, l < i → k < i → jb l = jb k → l = k
  wj : ∀ l k, l < i → k < i → wb l ≠ jb k
set_option maxHeartbeats 16000000 in
theorem plan_ok {h : Heap} {kb B : Nat} {iv ov mv : Value} {L m o ns : List Int} {root : Int} (hb : Byt L) (hB : B * 64 ≤ L.length) (hm : L.length ≤ 4611686018427387904) (hml : m.length = 512) (sl : Sl h iv 1 L.length (us L)) (smv : Sl h mv 1 512 (is m)) (ko : KOk h h.next kb ov o ns)
    (ha : Away h.next kb iv L.length) (hma : Away h.next kb mv 512) (ow : Ow h kb (kc iv B ov mv (fun _ => kN) (fun _ => kN) kN)) :
    RunF prog 72 [.pointer (some ⟨kb, 0, none⟩), .int .i64 root] h fun v h' => v = .tuple #[] ∧ Fr (· = kb) h h' ∧ ∃ lo wb jb fv, KS h.next lo kb wb jb ∧ KW lo h' kb iv B ov mv wb jb fv (wasT L B root) (isT (wasT L B root) m 3 0) (freP m o 3 0) := by
  have hkb := ow.1
  refine RunF.walk func72 rfl rfl ?_
  -- the rows
  refine RunC.seqc (fun E' h' => Fr (· = kb) h h' ∧ Le (upd (upd E0 0 (.pointer (some ⟨kb, 0, none⟩))) 1 (.int .i64 root)) E' ∧ ∃ wb jb, K1 h h' kb iv B ov mv 3 wb jb) ?_ ?_
  · refine RunC.seq (RunC.region (RunO.all rfl ?_))
    refine RunC.block ?_
    let I : Nat → Env → Heap → Prop := fun d E h' => ∃ (i : Nat) (wb jb : Nat → Nat), i + d = 3 ∧ K1 h h' kb iv B ov mv i wb jb ∧ Fr (· = kb) h h' ∧ Le (upd (upd (upd E0 0 (.pointer (some ⟨kb, 0, none⟩))) 1 (.int .i64 root)) 9 (.int .i64 (i : Int))) E
    refine RunC.loop I ?_ (k := 3) ?_
    · rintro d E h1 ⟨i, wb, jb, hid, t, F1, hE⟩
      refine RunC.le hE ?_
      clear hE
      refine RunC.seq (RunC.region (RunO.all rfl ?_))
      refine RunC.seq (RunC.cond rfl (fun hlt => RunC.skip ?_) (fun hge => ?_))
      · have hlt := of_decide_eq_true hlt
        have hi3 : i < 3 := by omega
        have hN := lvN_le hi3
        have hh1 := F1.next
        refine RunC.seq (RunC.block ?_)
        refine RunC.seq (RunC.region (RunO.all rfl ?_))
        -- was
        refine RunC.seq (RunC.draw0 rfl ?_)
        refine RunO.part 3 rfl ?_
        refine RunO.callD (many_ok hi3) rfl rfl rfl ?_
        rintro _ _ ⟨rfl, rfl⟩
        refine RunO.make (m := lvN i) rfl rfl rfl rfl rfl rfl (show 8 * lvN i ≤ _ by omega) (by omega) rfl ?_
        rw [reps_is]
        have o1 := Ow.push h1 (is (List.replicate (lvN i) 0))
        have f1 : Fr no h1 (h1.push ⟨is (List.replicate (lvN i) 0), true⟩) := Fr.push _ _ _
        obtain ⟨b1, hb1⟩ : ∃ b1, b1 = h1.next := ⟨_, rfl⟩
        rw [← hb1] at o1 ⊢
        have ow1 := t.ow.fr f1 (fun g => g)
        have w1 : ∀ l, l < i → Ow (h1.push ⟨is (List.replicate (lvN i) 0), true⟩) (wb l) (is (List.replicate (lvN l) 0)) ∧ wb l < b1 := fun l hl => ⟨(t.w l hl).1.fr f1 (fun g => g), by rw [hb1]; exact (t.w l hl).1.1⟩
        have j1 : ∀ l, l < i → Ow (h1.push ⟨is (List.replicate (lvN i) 0), true⟩) (jb l) (is (List.replicate (lvN l) 0)) ∧ jb l < b1 := fun l hl => ⟨(t.j l hl).1.fr f1 (fun g => g), by rw [hb1]; exact (t.j l hl).1.1⟩
        generalize h1.push ⟨is (List.replicate (lvN i) 0), true⟩ = h2 at *
        obtain ⟨K2, hK2⟩ : ∃ K2, K2 = kc iv B ov mv (fun k => if k = i then slz b1 (lvN i) else if k < i then slz (wb k) (lvN k) else kN) (fun l => if l < i then slz (jb l) (lvN l) else kN) kN := ⟨_, rfl⟩
        refine RunO.part 2 rfl ?_
        refine RunO.indexA (s := 1) (k := i) rfl rfl rfl rfl rfl hi3 rfl ?_
        refine RunO.store (h1 := h2.put kb (some ⟨K2, true⟩)) rfl rfl ?_ (RunO.nil ?_)
        · refine (store1_ow ow1 rfl rfl rfl (by show 0 + 4 + i * 1 < 11; omega)).trans ?_
          show some (h2.put kb (some ⟨List.set _ (0 + 4 + i * 1) _, true⟩)) = _
          rw [show 0 + 4 + i * 1 = 4 + i * 1 by omega, kc_setw hi3, hK2]; rfl
        have f2 : Fr (· = kb) h2 (h2.put kb (some ⟨K2, true⟩)) := Fr.put _ (.inl rfl)
        have ow2 := Ow.put (h := h2) (b := kb) K2 ow1.1
        have o2 := o1.fr f2 (show ¬ b1 = kb by omega)
        have w2 : ∀ l, l < i → Ow (h2.put kb (some ⟨K2, true⟩)) (wb l) (is (List.replicate (lvN l) 0)) := fun l hl => (w1 l hl).1.fr f2 (by have := (t.w l hl).2; show ¬ wb l = kb; omega)
        have j2 : ∀ l, l < i → Ow (h2.put kb (some ⟨K2, true⟩)) (jb l) (is (List.replicate (lvN l) 0)) := fun l hl => (j1 l hl).1.fr f2 (by have := (t.j l hl).2; show ¬ jb l = kb; omega)
        have F2 : Fr (· = kb) h (h2.put kb (some ⟨K2, true⟩)) := (F1.quiet f1).same f2
        have hn2 : b1 < h2.next := o1.1
        have hn3 : (h2.put kb (some ⟨K2, true⟩)).next = h2.next := rfl
        generalize h2.put kb (some ⟨K2, true⟩) = h3 at *
        -- is
        refine RunC.draw0 rfl ?_
        refine RunO.part 3 rfl ?_
        refine RunO.callD (many_ok hi3) rfl rfl rfl ?_
        rintro _ _ ⟨rfl, rfl⟩
        refine RunO.make (m := lvN i) rfl rfl rfl rfl rfl rfl (show 8 * lvN i ≤ _ by omega) (by omega) rfl ?_
        rw [reps_is]
        have o3 := Ow.push h3 (is (List.replicate (lvN i) 0))
        have f3 : Fr no h3 (h3.push ⟨is (List.replicate (lvN i) 0), true⟩) := Fr.push _ _ _
        obtain ⟨b2, hb2⟩ : ∃ b2, b2 = h3.next := ⟨_, rfl⟩
        rw [← hb2] at o3 ⊢
        have ow3 := ow2.fr f3 (fun g => g)
        replace o2 := o2.fr f3 (fun g => g)
        have w3 := fun l (hl : l < i) => (w2 l hl).fr f3 (fun g => g)
        have j3 := fun l (hl : l < i) => (j2 l hl).fr f3 (fun g => g)
        have F3 := F2.quiet f3
        generalize h3.push ⟨is (List.replicate (lvN i) 0), true⟩ = h4 at *
        have hcg : K2.set (7 + i * 1) (slz b2 (lvN i)) =
            kc iv B ov mv (fun l => if l < i + 1 then slz (if l = i then b1 else wb l) (lvN l) else kN) (fun l => if l < i + 1 then slz (if l = i then b2 else jb l) (lvN l) else kN) kN := by
          rw [hK2, kc_setj hi3]
          refine kc_congr (fun l hl => ?_) (fun l hl => ?_)
          · by_cases e : l = i
            · subst e; simp
            · simp only [if_neg e]
              by_cases c : l < i
              · rw [if_pos c, if_pos (by omega)]
              · rw [if_neg c, if_neg (by omega)]
          · by_cases e : l = i
            · subst e; simp
            · simp only [if_neg e]
              by_cases c : l < i
              · rw [if_pos c, if_pos (by omega)]
              · rw [if_neg c, if_neg (by omega)]
        obtain ⟨K4, hK4⟩ : ∃ K4, K4 = kc iv B ov mv (fun l => if l < i + 1 then slz (if l = i then b1 else wb l) (lvN l) else kN) (fun l => if l < i + 1 then slz (if l = i then b2 else jb l) (lvN l) else kN) kN := ⟨_, rfl⟩
        refine RunO.part 2 rfl ?_
        refine RunO.indexA (s := 1) (k := i) rfl rfl rfl rfl rfl hi3 rfl ?_
        refine RunO.store (h1 := h4.put kb (some ⟨K4, true⟩)) rfl rfl ?_ (RunO.nil ?_)
        · refine (store1_ow ow3 rfl rfl rfl (by rw [hK2]; show 0 + 7 + i * 1 < 11; omega)).trans ?_
          show some (h4.put kb (some ⟨List.set _ (0 + 7 + i * 1) _, true⟩)) = _
          rw [show 0 + 7 + i * 1 = 7 + i * 1 by omega, hK4, ← hcg]; rfl
        have f4 : Fr (· = kb) h4 (h4.put kb (some ⟨K4, true⟩)) := Fr.put _ (.inl rfl)
        refine RunC.region (RunO.all rfl ?_)
        refine ⟨d - 1, by omega, i + 1, fun l => if l = i then b1 else wb l, fun l => if l = i then b2 else jb l, by omega, ⟨by rw [← hK4]; exact Ow.put _ ow3.1, fun l hl => ?_, fun l hl => ?_, fun l k hl hk e => ?_, fun l k hl hk e => ?_, fun l k hl hk e => ?_⟩, F3.same f4, Le.cons (inc64 (by omega)) (Le.cons rfl (Le.cons rfl (Le.nil _)))⟩
        · by_cases e : l = i
          · subst e
            simp only [if_pos]
            exact ⟨o2.fr f4 (show ¬ b1 = kb by omega), by omega⟩
          · simp only [if_neg e]
            have := (t.w l (by omega)).2
            exact ⟨(w3 l (by omega)).fr f4 (show ¬ wb l = kb by omega), this⟩
        · by_cases e : l = i
          · subst e
            simp only [if_pos]
            exact ⟨o3.fr f4 (show ¬ b2 = kb by omega), by omega⟩
          · simp only [if_neg e]
            have := (t.j l (by omega)).2
            exact ⟨(j3 l (by omega)).fr f4 (show ¬ jb l = kb by omega), this⟩
        · by_cases e1 : l = i
          · by_cases e2 : k = i
            · omega
            · simp only [if_pos e1, if_neg e2] at e
              have := (w1 k (by omega)).2
              omega
          · by_cases e2 : k = i
            · simp only [if_neg e1, if_pos e2] at e
              have := (w1 l (by omega)).2
              omega
            · simp only [if_neg e1, if_neg e2] at e
              exact t.wi l k (by omega) (by omega) e
        · by_cases e1 : l = i
          · by_cases e2 : k = i
            · omega
            · simp only [if_pos e1, if_neg e2] at e
              have := (j1 k (by omega)).2
              omega
          · by_cases e2 : k = i
            · simp only [if_neg e1, if_pos e2] at e
              have := (j1 l (by omega)).2
              omega
            · simp only [if_neg e1, if_neg e2] at e
              exact t.ji l k (by omega) (by omega) e
        · by_cases e1 : l = i
          · by_cases e2 : k = i
            · simp only [if_pos e1, if_pos e2] at e
              omega
            · simp only [if_pos e1, if_neg e2] at e
              have := (j1 k (by omega)).2
              omega
          · by_cases e2 : k = i
            · simp only [if_neg e1, if_pos e2] at e
              have := (w1 l (by omega)).2
              omega
            · simp only [if_neg e1, if_neg e2] at e
              exact t.wj l k (by omega) (by omega) e
      · have hge := of_decide_eq_false hge
        obtain rfl : i = 3 := by omega
        exact RunC.exit ⟨F1, Le.cons rfl (Le.cons rfl (Le.nil _)), wb, jb, t⟩
    · exact ⟨0, fun _ => 0, fun _ => 0, by omega, ⟨ow, fun l h => absurd h (Nat.not_lt_zero l), fun l h => absurd h (Nat.not_lt_zero l), fun l k h => absurd h (Nat.not_lt_zero l), fun l k h => absurd h (Nat.not_lt_zero l), fun l k h => absurd h (Nat.not_lt_zero l)⟩, Fr.refl _ _, Le.cons rfl (Le.cons rfl (Le.cons rfl (Le.nil _)))⟩
  rintro E' h1 ⟨F1, hE, wb, jb, t⟩
  refine RunC.le hE ?_
  clear hE
  have hcg : kc iv B ov mv (fun l => if l < 3 then slz (wb l) (lvN l) else kN) (fun l => if l < 3 then slz (jb l) (lvN l) else kN) kN = kc iv B ov mv (fun l => slz (wb l) (lvN l)) (fun l => slz (jb l) (lvN l)) kN := kc_congr (fun l hl => by rw [if_pos hl]) (fun l hl => by rw [if_pos hl])
  have ow1 := t.ow
  rw [hcg] at ow1
  clear hcg
  have ks : KS h.next h1.next kb wb jb := ⟨t.wi, t.ji, t.wj, fun l hl => ⟨(t.w l hl).2, (t.w l hl).1.1, by have := (t.w l hl).2; omega⟩, fun l hl => ⟨(t.j l hl).2, (t.j l hl).1.1, by have := (t.j l hl).2; omega⟩, by have := F1.next; omega⟩
  have sl1 := sl_away sl ha (fun b e => .inl e) F1
  have smv1 := sl_away smv hma (fun b e => .inl e) F1
  have ko1 := ko.fr F1 (fun b e => .inl e)
  have ws1 : WS h1 wb (fun l => List.replicate (lvN l) 0) := fun l hl => ⟨(t.w l hl).1, List.length_replicate⟩
  have js1 : WS h1 jb (fun l => List.replicate (lvN l) 0) := fun l hl => ⟨(t.j l hl).1, List.length_replicate⟩
  clear t
  -- what was
  refine RunC.seq (RunC.region (RunO.part 2 rfl ?_))
  refine RunO.callD (learn_ok hb hB hm ks.wi (fun l hl => (ks.w0 l hl).2.2) (fun b o c e l hl => by have := (ha b o c e).2; have := (ks.w0 l hl).1; omega) 2 (by decide) (at_ := root) (p := 0) sl1 ow1 ws1 (by decide) (fun l _ j _ => zero_get _ _)) rfl rfl rfl ?_
  rintro _ h2 ⟨rfl, f2, W, ws2, hW⟩
  refine RunO.nil ?_
  have hM2 : ∀ b, WM wb b → b = kb ∨ h.next ≤ b := fun b ⟨l, hl, e⟩ => .inr (by have := (ks.w0 l hl).1; omega)
  have sl2 := sl_away sl1 ha hM2 f2
  have smv2 := sl_away smv1 hma hM2 f2
  have ko2 := ko1.fr f2 hM2
  have ow2 := ow1.fr f2 (fun ⟨l, hl, e⟩ => (ks.w0 l hl).2.2 e.symm)
  have js2 := js1.fr f2 (fun l hl ⟨k, hk, e⟩ => ks.wj k l hk hl e.symm)
  have F2 : Fr (· = kb) h h2 := F1.trans f2 hM2
  have hWe : WS h2 wb (wasT L B root) := fun l hl => by
    have he : W l = wasT L B root l := by
      apply List.ext_getElem?
      intro j
      have hlen := (ws2 l hl).2
      by_cases hj : j < lvN l
      · have := hW l j
        rw [if_pos ⟨by omega, Nat.div_eq_of_lt hj⟩, show j % 8 ^ (2 - l) = j from Nat.mod_eq_of_lt hj] at this
        rw [List.getD_eq_getElem?_getD, List.getElem?_eq_getElem (by omega)] at this
        rw [List.getElem?_eq_getElem (by omega)]
        unfold wasT
        rw [List.getElem?_map, List.getElem?_range hj]
        exact congrArg some this
      · rw [List.getElem?_eq_none (by omega), List.getElem?_eq_none (by rw [wasT_len]; omega)]
    rw [← he]; exact ws2 l hl
  have hT0 : (fun l => List.replicate (lvN l) (0 : Int)) = isT (wasT L B root) m 0 0 := by
    funext l
    unfold isT
    rw [show (fun p => if l < 0 ∨ l = 0 ∧ p < 0 then isI (wasT L B root) m l p else 0) = fun _ => (0 : Int) by funext p; rw [if_neg (by omega)]]
    apply List.ext_getElem?
    intro j
    rw [List.getElem?_replicate, List.getElem?_map]
    by_cases hj : j < lvN l
    · rw [if_pos hj, List.getElem?_range hj]; rfl
    · rw [if_neg hj, List.getElem?_eq_none (by rw [List.length_range]; omega)]; rfl
  rw [hT0] at js2
  generalize wasT L B root = WT at *
  have kw2 : KW h1.next h2 kb iv B ov mv wb jb kN WT (isT WT m 0 0) (freP m o 0 0) := ⟨ow2, hWe, js2, Row.nil _ _ _, f2.next⟩
  have hlo : h.next ≤ h1.next := F1.next
  obtain ⟨lo, hloe⟩ : ∃ lo, lo = h1.next := ⟨_, rfl⟩
  rw [← hloe] at ks kw2 hlo
  clear f2 ws1 js1 ws2 hW hT0 ow1 ow2 sl1 smv1 ko1 js2 hWe W F1 hloe
  -- level by level
  refine RunC.seq (RunC.region (RunO.all rfl ?_))
  refine RunC.block ?_
  let I : Nat → Env → Heap → Prop := fun d E h' => ∃ (l : Nat) (fv : Value), l + d = 3 ∧ KW lo h' kb iv B ov mv wb jb fv WT (isT WT m l 0) (freP m o l 0) ∧ Sl h' mv 1 512 (is m) ∧ KOk h' h.next kb ov o ns ∧ Fr (· = kb) h h' ∧ Le (upd (upd E0 0 (.pointer (some ⟨kb, 0, none⟩))) 32 (.int .i64 (l : Int))) E
  refine RunC.loop I ?_ (k := 3) ?_
  · rintro d E h3 ⟨l, fv, hld, kw, sm3, ko3, F3, hE⟩
    refine RunC.le hE ?_
    clear hE
    refine RunC.seq (RunC.region (RunO.all rfl ?_))
    refine RunC.seq (RunC.cond rfl (fun hlt => RunC.skip ?_) (fun hge => ?_))
    · have hlt := of_decide_eq_true hlt
      have hl3 : l < 3 := by omega
      have hN := lvN_le hl3
      refine RunC.seq (RunC.block ?_)
      refine RunC.seq (RunC.region (RunO.all rfl ?_))
      refine RunC.seq (RunC.region (RunO.part 4 rfl ?_))
      refine RunO.indexA (s := 1) (k := l) rfl rfl rfl rfl rfl hl3 rfl ?_
      refine RunO.load (v := slz (jb l) (lvN l)) rfl (kw.ow.ld (kc_j hl3)) rfl (RunO.all rfl ?_)
      refine RunC.block ?_
      let J : Nat → Env → Heap → Prop := fun e E h' => ∃ (p : Nat) (fv : Value), p + e = lvN l ∧ KW lo h' kb iv B ov mv wb jb fv WT (isT WT m l p) (freP m o l p) ∧ Sl h' mv 1 512 (is m) ∧ KOk h' h.next kb ov o ns ∧ Fr (· = kb) h h' ∧ Le (upd (upd (upd (upd (upd E0 0 (.pointer (some ⟨kb, 0, none⟩))) 5 (.int .i64 (l : Int))) 32 (.int .i64 (l : Int))) 41 (.int .i64 (lvN l : Nat))) 42 (.int .i64 (p : Int))) E
      refine RunC.loop J ?_ (k := lvN l) ?_
      · rintro e E h4 ⟨p, fv4, hpe, kw4, sm4, ko4, F4, hE⟩
        refine RunC.le hE ?_
        clear hE kw
        refine RunC.seq (RunC.region (RunO.all rfl ?_))
        refine RunC.seq (RunC.cond rfl (fun hlt => RunC.skip ?_) (fun hge => ?_))
        · have hlt := of_decide_eq_true hlt
          have hp : p < lvN l := by omega
          have hfl := freP_le m o l p (by omega) (by omega)
          have hT := isT_succ WT m hp
          have hF := freP_succ m o l p
          have hjl := (ks.j0 l hl3)
          refine RunC.seq (RunC.block ?_)
          refine RunC.seq (RunC.region (RunO.all rfl ?_))
          refine RunC.seq (RunC.region (RunO.part 3 rfl ?_))
          refine RunO.callD (kept_ok kw4.ow kw4.ws sm4 hml ko4.ko hl3 hp) rfl rfl rfl ?_
          rintro _ h5 ⟨rfl, f5⟩
          refine RunO.all rfl ?_
          rw [show (if zrB m l p then 0 else (WT l).getD p 0) = isI WT m l p from rfl]
          have ow5 := kw4.ow.fr f5 (fun g => g)
          have ws5 := kw4.ws.fr f5 (fun _ _ g => g)
          have js5 := kw4.js.fr f5 (fun _ _ g => g)
          have row5 := kw4.row.fr f5 (fun _ _ _ g => g)
          have sm5 := sm4.fr0 f5
          have ko5 := ko4.fr f5 (fun _ g => g.elim)
          have F5 := F4.quiet f5
          have ln5 := Nat.le_trans kw4.ln f5.next
          clear kw4 f5 F4 sm4 ko4
          obtain ⟨e1, js6, f6⟩ := js5.set ks.ji hl3 hp (isI WT m l p)
          rw [hT] at js6
          refine RunC.seq (RunC.region (RunO.part 4 rfl ?_))
          refine RunO.indexA (s := 1) (k := l) rfl rfl rfl rfl rfl hl3 rfl ?_
          refine RunO.load (v := slz (jb l) (lvN l)) rfl (ow5.ld (kc_j hl3)) rfl ?_
          refine RunO.part 2 rfl ?_
          refine RunO.index (s := 1) (k := p) rfl rfl rfl rfl hp rfl ?_
          refine RunO.store rfl rfl e1 (RunO.nil ?_)
          have hM6 : ∀ b, b = jb l → b = kb ∨ h.next ≤ b := fun b e => .inr (by omega)
          have ow6 := ow5.fr f6 (fun e => hjl.2.2 e.symm)
          have ws6 := ws5.fr f6 (fun k hk e => ks.wj k l hk hl3 e)
          have row6 := row5.fr f6 (fun b h1 _ e => by omega)
          have sm6 := sl_away sm5 hma hM6 f6
          have ko6 := ko5.fr f6 hM6
          have F6 : Fr (· = kb) h _ := F5.trans f6 hM6
          have ln6 := Nat.le_trans ln5 f6.next
          clear e1 ow5 ws5 js5 row5 sm5 ko5 F5 f6 hT ln5
          generalize h5.put (jb l) (some ⟨is ((isT WT m l p l).set p (isI WT m l p)), true⟩) = h6 at *
          refine RunC.seq (RunC.region (RunO.all rfl ?_))
          have hnb : newB m o l p = !(zrB m l p || smB m o l p) := rfl
          rw [← hnb]
          cases hn : newB m o l p with
          | false =>
            rw [hn] at hF
            rw [if_neg Bool.false_ne_true, List.append_nil] at hF
            refine RunC.cond rfl (fun g => by cases g) (fun _ => RunC.skip ?_)
            refine RunC.region (RunO.all rfl ?_)
            refine ⟨e - 1, by omega, p + 1, fv4, by omega, ⟨ow6, ws6, js6, ?_, ln6⟩, sm6, ko6, F6, Le.cons (inc64 (by omega)) (Le.cons rfl (Le.cons rfl (Le.cons rfl (Le.cons rfl (Le.nil _)))))⟩
            rw [hF]; exact row6
          | true =>
            rw [hn, if_pos rfl] at hF
            refine RunC.cond rfl (fun _ => ?_) (fun g => by cases g)
            refine RunC.region (RunO.part 4 rfl ?_)
            refine RunO.load (v := fv4) rfl (ow6.ld rfl) rfl ?_
            refine RunO.part 3 (h1 := h6.push ⟨is [(l : Int), (p : Int)], true⟩) rfl ?_
            have fp : Fr no h6 (h6.push ⟨is [(l : Int), (p : Int)], true⟩) := Fr.push _ _ _
            have ob := Ow.push h6 (is [(l : Int), (p : Int)])
            replace ow6 := ow6.fr fp (fun g => g)
            replace ws6 := ws6.fr fp (fun _ _ g => g)
            replace js6 := js6.fr fp (fun _ _ g => g)
            replace row6 := row6.fr fp (fun _ _ _ g => g)
            replace sm6 := sm6.fr0 fp
            replace ko6 := ko6.fr fp (fun _ g => g.elim)
            replace F6 := F6.quiet fp
            replace ln6 := Nat.le_trans ln6 fp.next
            clear fp
            generalize h6.push ⟨is [(l : Int), (p : Int)], true⟩ = h7 at *
            have hfl2 := fl_len (freP m o l p)
            refine RunO.append2 (s := 1) (m := 2) rfl rfl rfl rfl rfl rfl rfl rfl (Nat.le_refl 1) row6 ob.all rfl (by decide) rfl (by show 2 * (_ + 2) * 8 ≤ _; omega) (by omega) ?_
            intro fv8 h8 row8 f8
            have hat : ∀ b, At fv4 b → lo ≤ b := fun b ha => (row6.at ha).1
            have hk0 := ks.k0
            have hM8 : ∀ b, At fv4 b → b = kb ∨ h.next ≤ b := fun b g => .inr (Nat.le_trans hlo (hat b g))
            have ow8 := ow6.fr f8 (fun g => by have := hat _ g; omega)
            have ws8 := ws6.fr f8 (fun k hk g => by have := hat _ g; have := (ks.w0 k hk).2.1; omega)
            have js8 := js6.fr f8 (fun k hk g => by have := hat _ g; have := (ks.j0 k hk).2.1; omega)
            have sm8 := sl_away sm6 hma hM8 f8
            have ko8 := ko6.fr f8 hM8
            have F8 : Fr (· = kb) h h8 := F6.trans f8 hM8
            have ln8 := Nat.le_trans ln6 f8.next
            refine RunO.part 2 rfl ?_
            refine RunO.store rfl rfl (store1_ow ow8 rfl row8.cell.1 row8.cell.2 (Nat.le_of_ble_eq_true rfl)) (RunO.all rfl ?_)
            change RunC _ _ _ _ (h8.put kb (some ⟨kc iv B ov mv (fun l => slz (wb l) (lvN l)) (fun l => slz (jb l) (lvN l)) fv8, true⟩)) _ _ _
            have fw : Fr (· = kb) h8 (h8.put kb (some ⟨kc iv B ov mv (fun l => slz (wb l) (lvN l)) (fun l => slz (jb l) (lvN l)) fv8, true⟩)) := Fr.put _ (.inl rfl)
            refine RunC.region (RunO.all rfl ?_)
            refine ⟨e - 1, by omega, p + 1, fv8, by omega, ⟨Ow.put _ ow8.1, ws8.fr fw (fun k hk e => (ks.w0 k hk).2.2 e), js8.fr fw (fun k hk e => (ks.j0 k hk).2.2 e), ?_, Nat.le_trans ln8 fw.next⟩, sl_away sm8 hma (fun b e => .inl e) fw, ko8.fr fw (fun b e => .inl e), F8.same fw, Le.cons (inc64 (by omega)) (Le.cons rfl (Le.cons rfl (Le.cons rfl (Le.cons rfl (Le.nil _)))))⟩
            have hfF : fl (freP m o l p ++ [(l, p)]) = fl (freP m o l p) ++ [(l : Int), (p : Int)] := by rw [fl_app]; rfl
            rw [hF, hfF, is_app, List.length_append]
            exact (Row.lo row8 ln6).fr fw (fun b h1 _ e => by omega)
        · have hge := of_decide_eq_false hge
          obtain rfl : p = lvN l := by omega
          refine RunC.exit ?_
          refine RunC.region (RunO.all rfl ?_)
          rw [isT_next, freP_next] at kw4
          exact ⟨d - 1, by omega, l + 1, fv4, by omega, kw4, sm4, ko4, F4, Le.cons (inc64 (by omega)) (Le.cons rfl (Le.nil _))⟩
      · exact ⟨0, fv, by omega, kw, sm3, ko3, F3, Le.cons rfl (Le.cons rfl (Le.cons rfl (Le.cons rfl (Le.cons rfl (Le.nil _)))))⟩
    · have hge := of_decide_eq_false hge
      obtain rfl : l = 3 := by omega
      exact RunC.exit ⟨_, rfl, rfl, F3, lo, wb, jb, fv, ks, kw⟩
  · exact ⟨0, kN, by omega, kw2, smv2, ko2, F2, Le.cons rfl (Le.cons rfl (Le.nil _))⟩
end Go.Proofs.Ytdcggjkcbheolaa
end
section
open Go Go.Am Go.RowKit
namespace Go.Proofs.Ytdcggjkcbheolaa
open Go.Proofs.Try
theorem mixed : prog.follows .mixedOrders = true := by kernel_rfl
theorem routines : noRoutine prog = true := by kernel_rfl
end Go.Proofs.Ytdcggjkcbheolaa
end
section
set_option linter.unusedVariables false
set_option maxRecDepth 100000
open Go Go.Am Go.RowKit
namespace Go.Proofs.Ytdcggjkcbheolaa
open Go.Proofs.Try
theorem treeE_ok {L : List Int} {root : Int} (h : treeE L root = 0) : treeOk L root = true ∧ devOk L.length = true := by
  unfold treeE at h
  split at h
  · rename_i hd
    split at h
    · rename_i ho; exact ⟨ho, hd⟩
    · cases h
  · cases h
theorem sl_own {h : Heap} {b c n : Nat} {l : List Int} (ow : Ow h b (us l)) (hl : l.length = n) (hc : Cp 1 n c) (hn : n ≤ 9223372036854775807) : Sl h (.slice (some ⟨b, 0, none⟩) n c) 1 l.length (us l) := by
  subst hl
  exact ow.all.sl (by rw [us_len, Nat.mul_one]) hn hc
theorem sl_owI {h : Heap} {b c n : Nat} {l : List Int} (ow : Ow h b (is l)) (hl : l.length = n) (hc : Cp 1 n c) (hn : n ≤ 9223372036854775807) : Sl h (.slice (some ⟨b, 0, none⟩) n c) 1 l.length (is l) := by
  subst hl
  exact ow.all.sl (by rw [is_len, Nat.mul_one]) hn hc
end Go.Proofs.Ytdcggjkcbheolaa
end
section
set_option linter.unusedVariables false
set_option maxRecDepth 100000
open Go Go.Am Go.RowKit
namespace Go.Proofs.Ytdcggjkcbheolaa
open Go.Proofs.Try
theorem refBlocks_ok {h : Heap} {v : Value} {L : List Int} (sl : Sl h v 1 L.length (us L)) (hm : L.length ≤ 4611686018427387904) : RunF prog 21 [v] h fun r h' => r = .tuple #[.int .i64 ((L.length / 64 : Nat) : Int), .bool (devOk L.length)] ∧ h = h' := by
  refine RunF.walk func21 rfl rfl ?_
  obtain ⟨A, c, rfl, hc, _⟩ := sl.form
  have e1 : (L.length : Int).tdiv 64 = ((L.length / 64 : Nat) : Int) := by rw [Int.tdiv_eq_ediv_of_nonneg (by omega)]; omega
  have e2 : (L.length : Int).tmod 64 = ((L.length % 64 : Nat) : Int) := by rw [Int.tmod_eq_emod_of_nonneg (by omega)]; omega
  refine RunC.seq (RunC.region (RunO.all rfl ?_))
  refine RunC.seq (RunC.region (RunO.part 2 rfl ?_))
  refine RunO.part 1 rfl ?_
  rw [e1, fw64 (by omega) (by omega)]
  refine RunO.all rfl ?_
  refine RunC.seq (RunC.region (RunO.part 4 rfl ?_))
  rw [e2]
  refine RunO.part 2 rfl ?_
  have hd : devOk L.length = ((((L.length % 64 : Nat) : Int) == 0) && inB ((L.length / 64 : Nat) : Int) 4 4096) := by
    unfold devOk inB
    rw [Bool.eq_iff_iff]
    simp only [Bool.and_eq_true, beq_iff_eq, decide_eq_true_eq]
    omega
  rw [hd]
  cases (((L.length % 64 : Nat) : Int) == 0) with
  | false => exact RunO.all rfl (RunC.ret ⟨_, rfl, rfl, rfl⟩)
  | true =>
    refine RunO.part 1 rfl ?_
    refine RunO.callDG rfl refIn_ok rfl rfl rfl ?_
    rintro _ _ ⟨rfl, rfl⟩
    exact RunO.all rfl (RunC.ret ⟨_, rfl, rfl, rfl⟩)
theorem refBlock_ok {h : Heap} {v : Value} {L : List Int} {i : Nat} (sl : Sl h v 1 L.length (us L)) (hi : (i + 1) * 64 ≤ L.length) (hm : L.length ≤ 4611686018427387904) :
    RunF prog 53 [v, .int .i64 (i : Int)] h fun r h' => Sl h r 1 64 (us (blkI L i)) ∧ h = h' := by
  refine RunF.walk func53 rfl rfl ?_
  refine RunC.seq (RunC.region (RunO.all rfl ?_))
  refine RunC.seq (RunC.region (RunO.part 6 rfl ?_))
  rw [fw64 (x := (i : Int) * 64) (by omega) (by omega), fw64 (x := (i : Int) * 64 + 64) (by omega) (by omega), show (i : Int) * 64 = ((i * 64 : Nat) : Int) by omega, show ((i * 64 : Nat) : Int) + 64 = ((i * 64 + 64 : Nat) : Int) by omega]
  obtain ⟨v', h1, h2⟩ := sl_part sl (k := i * 64) (m := i * 64 + 64) (by omega) (by omega) .i64 .i64
  rw [show i * 64 + 64 - i * 64 = 64 by omega] at h2
  have hl : ((L.drop (i * 64)).take 64).length = 64 := blkI_len hi
  rw [hl] at h2
  refine RunO.one (v := v') (h1 := h) rfl (by show pureR h _ = _; exact congrArg (pureR h) h1) rfl ?_
  exact RunO.all rfl (RunC.ret ⟨_, rfl, h2, rfl⟩)
/-- A device alone: is it more than is played? -/
theorem heavy_ok {h : Heap} {v : Value} {L : List Int} (sl : Sl h v 1 L.length (us L)) : RunF prog 15 [v, .slice none 0 0] h fun r h' => r = .bool (decide ((L.length : Int) > 19200)) ∧ h = h' := by
  refine RunF.walk func15 rfl rfl ?_
  obtain ⟨A, c, rfl, hc, _⟩ := sl.form
  refine RunC.seq (RunC.region (RunO.all rfl ?_))
  refine RunC.seq (RunC.seq (RunC.region (RunO.part 4 rfl ?_)))
  cases decide ((L.length : Int) > 19200) with
  | true =>
    refine RunO.all rfl (RunC.cond rfl (fun _ => ?_) (fun g => by cases g))
    exact RunC.seq (RunC.region (RunO.all rfl (RunC.ret ⟨_, rfl, rfl, rfl⟩)))
  | false =>
    refine RunO.all rfl (RunC.cond rfl (fun g => by cases g) (fun _ => RunC.skip ?_))
    refine RunC.seq (RunC.seq (RunC.region (RunO.all rfl ?_)))
    refine RunC.block ?_
    let I : Nat → Env → Heap → Prop := fun d E h' => h = h' ∧ Le (upd (upd E0 1 (.slice none 0 0)) 5 (.int .i64 0)) E
    refine RunC.loop I ?_ (k := 0) ?_
    · rintro d E h' ⟨rfl, hE⟩
      refine RunC.le hE ?_
      clear hE
      refine RunC.seq (RunC.seq (RunC.region (RunO.all rfl ?_)))
      refine RunC.cond rfl (fun g => by cases g) (fun _ => RunC.exit ?_)
      exact RunC.seq (RunC.region (RunO.all rfl (RunC.ret ⟨_, rfl, rfl, rfl⟩)))
    · exact ⟨rfl, Le.cons rfl (Le.cons rfl (Le.nil _))⟩
end Go.Proofs.Ytdcggjkcbheolaa
end
section
set_option linter.unusedVariables false
set_option maxRecDepth 100000
open Go Go.Am Go.RowKit
namespace Go.Proofs.Ytdcggjkcbheolaa
open Go.Proofs.Try
end Go.Proofs.Ytdcggjkcbheolaa
end
section
set_option linter.unusedVariables false
set_option maxRecDepth 100000
open Go Go.Am Go.RowKit
namespace Go.Proofs.Ytdcggjkcbheolaa
open Go.Proofs.Try
/-- What a tree that is one says of its map. -/
theorem tree_spec {L : List Int} {root : Int} (hr : root ≠ 0) (h : treeOk L root = true) : TSpec L (L.length / 64) 2 root 0 (List.replicate 512 0, [], false) (treeM L root, treeN L root, false) := by
  unfold treeOk at h
  rw [show (root == 0) = false from beq_eq_false_iff_ne.2 hr, Bool.false_or, Bool.and_eq_true, Bool.not_eq_true', Bool.not_eq_true'] at h
  have hm : treeM L root = (treeW L root).1 := by unfold treeM; rw [show (root == 0) = false from beq_eq_false_iff_ne.2 hr]; rfl
  have hn : treeN L root = (treeW L root).2.1 := by unfold treeN; rw [show (root == 0) = false from beq_eq_false_iff_ne.2 hr]; rfl
  have := tgo_spec L (L.length / 64) 2 root 0 (List.replicate 512 0, [], false) (by decide) List.length_replicate rfl (fun s _ _ => by
    rw [List.getD_eq_getElem?_getD, List.getElem?_replicate]; split <;> rfl) h.1
  change TSpec L (L.length / 64) 2 root 0 (List.replicate 512 0, [], false) (treeW L root) at this
  rw [hm, hn]
  generalize treeW L root = w at *
  obtain ⟨a, b, c⟩ := w
  have hc : c = false := h.1
  subst hc
  exact this
theorem tree_at {L : List Int} {root : Int} (hr : root ≠ 0) (h : treeOk L root = true) {s : Nat} (hs : s < 512) : (treeM L root).getD s 0 = look L (L.length / 64) 3 root s := by
  have := (tree_spec hr h).m s hs
  rw [if_pos ⟨Nat.zero_le _, by simpa using hs⟩, Nat.sub_zero] at this
  exact this
end Go.Proofs.Ytdcggjkcbheolaa
end
section
set_option linter.unusedVariables false
set_option maxRecDepth 100000
open Go Go.Am Go.RowKit
namespace Go.Proofs.Ytdcggjkcbheolaa
open Go.Proofs.Try
theorem keepBytesSX_ok {h : Heap} {v w : Value} {l m : List Int} (sl : Sl h v 1 l.length (us l)) (sm : Sl h w 1 m.length (us m)) :
    RunF prog 12 [v, w] h fun v h' => v = .bool (l == m) ∧ h = h' := by
  have hm := sl.2.1
  obtain ⟨A, c, rfl, _, hA⟩ := sl.form
  obtain ⟨B, d, rfl, _, hB⟩ := sm.form
  exact keepBytesX_ok (fun hl => by obtain ⟨b, o, rfl, rd⟩ := hA hl; exact ⟨_, rfl, rd⟩) (fun hl => by obtain ⟨b, o, rfl, rd⟩ := hB hl; exact ⟨_, rfl, rd⟩) hm
theorem keepBytesS_ok {h : Heap} {v w : Value} {l m : List Int} (sl : Sl h v 1 l.length (us l)) (sm : Sl h w 1 m.length (us m)) (hm : l.length ≤ 4611686018427387904) :
    RunF prog 12 [v, w] h fun v h' => v = .bool (l == m) ∧ h = h' := by
  obtain ⟨A, c, rfl, _, hA⟩ := sl.form
  obtain ⟨B, d, rfl, _, hB⟩ := sm.form
  exact keepBytes_ok (fun hl => by obtain ⟨b, o, rfl, rd⟩ := hA hl; exact ⟨_, rfl, rd⟩) (fun hl => by obtain ⟨b, o, rfl, rd⟩ := hB hl; exact ⟨_, rfl, rd⟩) hm
def mapG (L : List Int) (root : Int) : List Int := if treeE L root = 0 then treeM L root else []
def nodG (L : List Int) (root : Int) : List Int := if treeE L root = 0 then treeN L root else []
theorem treeMapS_ok {h : Heap} {iv : Value} {L : List Int} {root : Int} (sl : Sl h iv 1 L.length (us L)) (hb : Byt L) (hm : L.length ≤ 4611686018427387904) :
    RunF prog 31 [iv, .int .i64 root] h fun v h' => Fr no h h' ∧ ∃ gv, v = .tuple #[gv, .int .i64 (treeE L root)] ∧ Osl h.next h' gv 1 (mapG L root).length (is (mapG L root)) := by
  refine (treeMap_ok sl hb hm).mono ?_
  have hml3 := treeM_len L root
  rintro _ h3 ⟨f3, ⟨e0, mb, hmb, rfl, om⟩ | ⟨e0, rfl⟩⟩
  · refine ⟨f3, _, by rw [e0], ?_⟩
    unfold mapG
    rw [if_pos e0, hml3]
    have := sl_owI om hml3 (Cp.exc (Nat.le_refl 512)) (by decide)
    rw [hml3] at this
    exact ⟨this.1, this.2.1, .inr ⟨mb, _, hmb, rfl, Cp.exc (Nat.le_refl 512), om⟩⟩
  · refine ⟨f3, _, rfl, ?_⟩
    unfold mapG
    rw [if_neg e0]
    exact ⟨by simp [is], Nat.zero_le _, .inl ⟨rfl, rfl⟩⟩
end Go.Proofs.Ytdcggjkcbheolaa
end
section
set_option linter.unusedVariables false
set_option maxRecDepth 100000
open Go Go.Am Go.RowKit
namespace Go.Proofs.Ytdcggjkcbheolaa
open Go.Proofs.Try
/-- Why there is no new tree. -/
def beginE (L : List Int) (root : Int) (m : List Int) : Int := if treeE L root = 0 then mapE m (L.length / 64 : Nat) else treeE L root
theorem beginE_ok {L : List Int} {root : Int} {m : List Int} (h : beginE L root m = 0) : treeE L root = 0 ∧ mapE m (L.length / 64 : Nat) = 0 ∧ m.length = 512 := by
  unfold beginE at h
  split at h
  · rename_i h1
    refine ⟨h1, h, ?_⟩
    unfold mapE at h
    split at h
    · assumption
    · cases h
  · rename_i h1; exact absurd h h1
set_option maxHeartbeats 8000000 in
theorem begin_ok {h : Heap} {iv mv : Value} {L m : List Int} {root : Int} (sl : Sl h iv 1 L.length (us L)) (hb : Byt L) (hm : L.length ≤ 4611686018427387904) (smv : Sl h mv 1 m.length (is m)) :
    RunF prog 45 [iv, .int .i64 root, mv] h fun v h' => Fr no h h' ∧ ((beginE L root m = 0 ∧ ∃ kb lo wb jb fv ov, v = .tuple #[.pointer (some ⟨kb, 0, none⟩), .int .i64 0] ∧ h.next ≤ kb ∧ KS h.next lo kb wb jb ∧
      KW lo h' kb iv (L.length / 64) ov mv wb jb fv (wasT L (L.length / 64) root) (isT (wasT L (L.length / 64) root) m 3 0) (freP m (treeM L root) 3 0) ∧ KOk h' lo kb ov (treeM L root) (treeN L root)) ∨ (beginE L root m ≠ 0 ∧ v = .tuple #[.pointer none, .int .i64 (beginE L root m)])) := by
  refine RunF.walk func45 rfl rfl ?_
  refine RunC.seq (RunC.region (RunO.all rfl ?_))
  refine RunC.seq (RunC.region (RunO.part 2 rfl ?_))
  refine RunO.callD (treeMapS_ok (root := root) sl hb hm) rfl rfl rfl ?_
  rintro _ h1 ⟨f1, gv, rfl, _⟩
  have sl1 := sl.fr0 f1
  have smv1 := smv.fr0 f1
  refine RunO.all rfl ?_
  refine RunC.seq (RunC.seq (RunC.region (RunO.all rfl ?_)))
  by_cases he : treeE L root = 0
  case neg =>
    have hE : beginE L root m = treeE L root := by unfold beginE; rw [if_neg he]
    rw [hE, show (treeE L root != 0) = true from bne_iff_ne.2 he]
    refine RunC.cond rfl (fun _ => ?_) (fun g => by cases g)
    exact RunC.seq (RunC.region (RunO.all rfl (RunC.ret ⟨_, rfl, f1, .inr ⟨he, rfl⟩⟩)))
  have hE : beginE L root m = mapE m (L.length / 64 : Nat) := by unfold beginE; rw [if_pos he]
  rw [hE, show (treeE L root != 0) = false by rw [he]; rfl]
  obtain ⟨hok, hdev⟩ := treeE_ok he
  have hdl : L.length % 64 = 0 ∧ 4 ≤ L.length / 64 ∧ L.length / 64 ≤ 4096 := by
    have hdev := hdev
    unfold devOk at hdev
    simpa using hdev
  refine RunC.cond rfl (fun g => by cases g) (fun _ => RunC.skip ?_)
  have hAlt : ∀ b o c, iv = .slice (some ⟨b, o, none⟩) L.length c → b < h.next := fun b o c e => by
    obtain ⟨A, c', rfl, hc, hA⟩ := sl.form
    obtain ⟨b', o', rfl, rd⟩ := hA (by omega)
    cases e; exact rd.2.1
  have hMlt : ∀ b o c, mv = .slice (some ⟨b, o, none⟩) m.length c → b < h.next := fun b o c e => by
    rcases smv.2.2 with ⟨g1, _⟩ | ⟨b', o', c', g1, _, rd⟩
    · rw [e] at g1; cases g1
    · rw [e] at g1; cases g1; exact rd.2.1
  obtain ⟨A, c, hive, _, _⟩ := sl.form
  obtain ⟨mA, mc, hmve, _, _⟩ := smv.form
  subst hive
  subst hmve
  have hn1 := f1.next
  -- the maker
  refine RunC.seq (RunC.region (RunO.all (h1 := h1.push ⟨kc (.slice A L.length c) 0 (.pointer none) (.slice mA m.length mc) (fun _ => kN) (fun _ => kN) kN, true⟩) rfl ?_))
  have ow := Ow.push h1 (kc (.slice A L.length c) 0 (.pointer none) (.slice mA m.length mc) (fun _ => kN) (fun _ => kN) kN)
  have f2 : Fr no h1 (h1.push ⟨kc (.slice A L.length c) 0 (.pointer none) (.slice mA m.length mc) (fun _ => kN) (fun _ => kN) kN, true⟩) := Fr.push _ _ _
  generalize h1.push ⟨kc (.slice A L.length c) 0 (.pointer none) (.slice mA m.length mc) (fun _ => kN) (fun _ => kN) kN, true⟩ = h2 at *
  obtain ⟨kb, hkb⟩ : ∃ kb, kb = h1.next := ⟨_, rfl⟩
  rw [← hkb] at ow ⊢
  have F2 := f1.same f2
  have sl2 := sl1.fr0 f2
  have smv2 := smv1.fr0 f2
  refine RunC.seq (RunC.region (RunO.part 2 rfl ?_))
  refine RunO.callD (devCheck_ok hm) rfl rfl rfl ?_
  rintro _ _ ⟨rfl, rfl⟩
  rw [hdev, if_pos rfl, if_pos rfl]
  obtain ⟨B, hBe⟩ : ∃ B, B = L.length / 64 := ⟨_, rfl⟩
  rw [← hBe] at hdl ⊢
  refine RunO.part 5 rfl ?_
  refine RunO.store rfl rfl (store1_ow ow rfl rfl rfl (Nat.le_of_ble_eq_true rfl)) (RunO.nil ?_)
  obtain ⟨iv, hiv⟩ : ∃ iv, iv = Value.slice A L.length c := ⟨_, rfl⟩
  obtain ⟨mv, hmv⟩ : ∃ mv, mv = Value.slice mA m.length mc := ⟨_, rfl⟩
  rw [← hiv] at sl sl2 hAlt ow ⊢
  rw [← hmv] at smv smv2 hMlt ow ⊢
  change RunC _ _ _ _ (h2.put kb (some ⟨kc iv B (.pointer none) mv (fun _ => kN) (fun _ => kN) kN, true⟩)) _ _ _
  have ow3 : Ow (h2.put kb (some ⟨kc iv B (.pointer none) mv (fun _ => kN) (fun _ => kN) kN, true⟩)) kb (kc iv B (.pointer none) mv (fun _ => kN) (fun _ => kN) kN) := Ow.put _ ow.1
  have f3 : Fr (· = kb) h2 (h2.put kb (some ⟨kc iv B (.pointer none) mv (fun _ => kN) (fun _ => kN) kN, true⟩)) := Fr.put _ (.inl rfl)
  have sl3 := sl_away (lo := kb) (gb := kb) sl2 (fun b o c e => by have := hAlt b o c e; omega) (fun b e => .inl e) f3
  have smv3 := sl_away (lo := kb) (gb := kb) smv2 (fun b o c e => by have := hMlt b o c e; omega) (fun b e => .inl e) f3
  have F3 : Fr no h (h2.put kb (some ⟨kc iv B (.pointer none) mv (fun _ => kN) (fun _ => kN) kN, true⟩)) := F2.trans f3 (fun b e => .inr (by omega))
  generalize h2.put kb (some ⟨kc iv B (.pointer none) mv (fun _ => kN) (fun _ => kN) kN, true⟩) = h3 at *
  -- the map
  refine RunC.seq (RunC.region (RunO.part 4 rfl ?_))
  refine RunO.load (v := .int .i64 (B : Int)) rfl (ow3.ld rfl) rfl ?_
  refine RunO.callD (treeCheck_ok (B := (B : Int)) smv3) rfl rfl rfl ?_
  rintro _ h4 ⟨rfl, f4⟩
  have ow4 := ow3.fr f4 (fun g => g)
  have sl4 := sl3.fr0 f4
  have smv4 := smv3.fr0 f4
  have F4 := F3.same f4
  refine RunO.all rfl ?_
  refine RunC.seq (RunC.seq (RunC.region (RunO.all rfl ?_)))
  by_cases hme : mapE m (B : Int) = 0
  case neg =>
    rw [show (mapE m (B : Int) != 0) = true from bne_iff_ne.2 hme]
    refine RunC.cond rfl (fun _ => ?_) (fun g => by cases g)
    exact RunC.seq (RunC.region (RunO.all rfl (RunC.ret ⟨_, rfl, F4, .inr ⟨hme, rfl⟩⟩)))
  have hml : m.length = 512 := by
    unfold mapE at hme
    split at hme
    · assumption
    · cases hme
  rw [show (mapE m (B : Int) != 0) = false by rw [hme]; rfl]
  refine RunC.cond rfl (fun g => by cases g) (fun _ => RunC.skip ?_)
  -- the old tree
  refine RunC.seq (RunC.region (RunO.part 3 rfl ?_))
  refine RunO.callD (treeGo_ok (root := root) sl4 hb hdev) rfl rfl rfl ?_
  rintro _ h5 ⟨f5, ⟨_, ob, rfl, mb, nv, g1, g2, oo, om, row, hol, hnl⟩ | ⟨hno, _⟩⟩
  case inr => rw [hok] at hno; cases hno
  rw [← hBe] at oo
  have ow5 := ow4.fr f5 (fun g => g)
  have sl5 := sl4.fr0 f5
  have smv5 := smv4.fr0 f5
  have F5 := F4.same f5
  have hk5 : kb < h4.next := ow4.1
  refine RunO.part 5 rfl ?_
  refine RunO.store rfl rfl (store1_ow ow5 rfl rfl rfl (Nat.le_of_ble_eq_true rfl)) (RunO.nil ?_)
  change RunC _ _ _ _ (h5.put kb (some ⟨kc iv B (.pointer (some ⟨ob, 0, none⟩)) mv (fun _ => kN) (fun _ => kN) kN, true⟩)) _ _ _
  have ow6 : Ow (h5.put kb (some ⟨kc iv B (.pointer (some ⟨ob, 0, none⟩)) mv (fun _ => kN) (fun _ => kN) kN, true⟩)) kb (kc iv B (.pointer (some ⟨ob, 0, none⟩)) mv (fun _ => kN) (fun _ => kN) kN) := Ow.put _ ow5.1
  have f6 : Fr (· = kb) h5 (h5.put kb (some ⟨kc iv B (.pointer (some ⟨ob, 0, none⟩)) mv (fun _ => kN) (fun _ => kN) kN, true⟩)) := Fr.put _ (.inl rfl)
  have hn6 : (h5.put kb (some ⟨kc iv B (.pointer (some ⟨ob, 0, none⟩)) mv (fun _ => kN) (fun _ => kN) kN, true⟩)).next = h5.next := rfl
  have sl6 := sl_away (lo := kb) (gb := kb) sl5 (fun b o c e => by have := hAlt b o c e; omega) (fun b e => .inl e) f6
  have smv6 := sl_away (lo := kb) (gb := kb) smv5 (fun b o c e => by have := hMlt b o c e; omega) (fun b e => .inl e) f6
  have oo6 := oo.fr f6 (show ¬ ob = kb by omega)
  have om6 := om.fr f6 (show ¬ mb = kb by omega)
  have row6 := row.fr f6 (fun b h1 _ e => by omega)
  have F6 : Fr no h (h5.put kb (some ⟨kc iv B (.pointer (some ⟨ob, 0, none⟩)) mv (fun _ => kN) (fun _ => kN) kN, true⟩)) := F5.trans f6 (fun b e => .inr (by omega))
  generalize h5.put kb (some ⟨kc iv B (.pointer (some ⟨ob, 0, none⟩)) mv (fun _ => kN) (fun _ => kN) kN, true⟩) = h6 at *
  have hn5 := F6.next
  have ko6 : KOk h6 h6.next kb (.pointer (some ⟨ob, 0, none⟩)) (treeM L root) (treeN L root) := ⟨ob, mb, iv, B, nv, rfl, oo6, om6, hol, row6.sl (by omega), by omega, oo6.1, by omega, om6.1, fun b o c e => by
    rcases row6.2 with ⟨g, _⟩ | ⟨b', hb', g, og⟩
    · rw [g] at e; cases e
    · rw [g] at e; cases e; exact ⟨by omega, og.1⟩⟩
  rw [hml] at smv6 hMlt
  have hh6 : h.next ≤ h6.next := F6.next
  -- the plan
  refine RunC.seq (RunC.region (RunO.part 2 rfl ?_))
  refine RunO.callD (plan_ok (root := root) hb (by omega) hm hml sl6 smv6 ko6 (fun b o c e => by have := hAlt b o c e; omega) (fun b o c e => by have := hMlt b o c e; omega) ow6) rfl rfl rfl ?_
  rintro _ h7 ⟨rfl, f7, lo, wb, jb, fv, ks, kw⟩
  refine RunO.nil ?_
  refine RunC.seq (RunC.region (RunO.all rfl ?_))
  have hlo : h6.next ≤ lo := by have := (ks.w0 0 (by decide)).1; have := (ks.w0 0 (by decide)).2.1; omega
  refine RunC.ret ⟨_, rfl, F6.trans f7 (fun b e => .inr (by omega)), .inl ⟨hme, kb, lo, wb, jb, fv, _, rfl, by omega, ⟨ks.wi, ks.ji, ks.wj, fun l hl => ⟨by have := (ks.w0 l hl).1; omega, (ks.w0 l hl).2⟩, fun l hl => ⟨by have := (ks.j0 l hl).1; omega, (ks.j0 l hl).2⟩, ks.k0⟩, kw, ?_⟩⟩
  have ko7 := ko6.fr f7 (fun b e => .inl e)
  obtain ⟨ob, mb, iv2, B2, nv, k1, k2, k3, k4, k5, k6, k7, k8, k9, k10⟩ := ko7
  exact ⟨ob, mb, iv2, B2, nv, k1, k2, k3, k4, k5, k6, by omega, k8, by omega, fun b o c e => by have := k10 b o c e; omega⟩
end Go.Proofs.Ytdcggjkcbheolaa
end
section
set_option linter.unusedVariables false
set_option maxRecDepth 100000
open Go Go.Am Go.RowKit
namespace Go.Proofs.Ytdcggjkcbheolaa
open Go.Proofs.Try
theorem needs_ok {lo : Nat} {h : Heap} {kb B : Nat} {iv ov mv fv : Value} {wb jb : Nat → Nat} {W J : Nat → List Int} {F : List (Nat × Nat)} (kw : KW lo h kb iv B ov mv wb jb fv W J F) (hF : F.length ≤ 256) :
    RunF prog 46 [.pointer (some ⟨kb, 0, none⟩)] h fun v h' => v = .int .i64 (F.length : Nat) ∧ h = h' := by
  refine RunF.walk func46 rfl rfl ?_
  have hl := fl_len F
  obtain ⟨A, c, hfv, _, _⟩ := (kw.row.sl (by omega)).form
  refine RunC.seq (RunC.region (RunO.all rfl ?_))
  refine RunC.seq (RunC.region (RunO.part 3 rfl ?_))
  refine RunO.load (v := fv) rfl (kw.ow.ld rfl) rfl ?_
  subst hfv
  refine RunO.part 1 rfl ?_
  rw [show goInt ((fl F).length : Nat) = .int .i64 ((2 * F.length : Nat) : Int) by rw [hl]; rfl]
  refine RunO.part 1 rfl ?_
  rw [show fwrap .i64 (((2 * F.length : Nat) : Int).tdiv 2) = ((F.length : Nat) : Int) by
    rw [show ((2 * F.length : Nat) : Int).tdiv 2 = ((F.length : Nat) : Int) by rw [Int.tdiv_eq_ediv_of_nonneg (by omega)]; omega]
    exact fw64 (by omega) (by omega)]
  refine RunO.all rfl ?_
  exact RunC.ret ⟨_, rfl, rfl, rfl⟩
/-- May a block be taken for a new node? -/
def mayA (B : Nat) (fr : List Int) (i : Nat) : Bool := (decide (fr.getD i 0 < 2) || decide (fr.getD i 0 ≥ (B : Int))) || (decide ((i : Int) > 0) && decide (fr.getD (i - 1) 0 ≥ fr.getD i 0))
def mayC (m o ns : List Int) (b : Int) : Bool := (m.contains b || o.contains b) || ns.contains b
def mayB (B : Nat) (m o ns fr : List Int) : Bool := (List.range fr.length).all fun i => !mayA B fr i && !mayC m o ns (fr.getD i 0)
set_option maxHeartbeats 8000000 in
theorem may_ok {lo : Nat} {h : Heap} {kb B : Nat} {iv ov mv fv av : Value} {wb jb : Nat → Nat} {W J : Nat → List Int} {F : List (Nat × Nat)} {m o ns fr : List Int} (kw : KW lo h kb iv B ov mv wb jb fv W J F) (ko : KO h ov o ns) (smv : Sl h mv 1 512 (is m)) (hml : m.length = 512) (hns : ns.length ≤ 100000)
    (sa : Sl h av 1 fr.length (is fr)) (hf : fr.length ≤ 100000) :
    RunF prog 47 [.pointer (some ⟨kb, 0, none⟩), av] h fun v h' => v = .bool (mayB B m o ns fr) ∧ h = h' := by
  refine RunF.walk func47 rfl rfl ?_
  have sa0 := sa
  have ow := kw.ow
  obtain ⟨A, c, rfl, _, _⟩ := sa.form
  obtain ⟨ob, mb, iv2, B2, nv, rfl, oo, om, hol, sn⟩ := ko
  have slo : Sl h (.slice (some ⟨mb, 0, none⟩) 512 (exc 512)) 1 o.length (is o) := by rw [hol]; exact om.all.sl (by rw [is_len, hol]) (by decide) (Cp.exc (Nat.le_refl _))
  have slm : Sl h mv 1 m.length (is m) := by rw [hml]; exact smv
  refine RunC.seq (RunC.region (RunO.all rfl ?_))
  refine RunC.seq (RunC.seq (RunC.region (RunO.all rfl ?_)))
  refine RunC.block ?_
  let I : Nat → Env → Heap → Prop := fun d E h' => ∃ i : Nat, i + d = fr.length ∧ h = h' ∧ ((List.range i).all fun i => !mayA B fr i && !mayC m o ns (fr.getD i 0)) = true ∧
    Le (upd (upd (upd (upd (upd E0 0 (.pointer (some ⟨kb, 0, none⟩))) 1 (.slice A fr.length c)) 7 (.slice A fr.length c)) 8 (.int .i64 (fr.length : Int))) 9 (.int .i64 (i : Int))) E
  refine RunC.loop I ?_ (k := fr.length) ?_
  · rintro d E _ ⟨i, hi, rfl, hno, hE⟩
    refine RunC.le hE ?_
    clear hE
    refine RunC.seq (RunC.region (RunO.all rfl ?_))
    refine RunC.seq (RunC.cond rfl (fun hlt => RunC.skip ?_) (fun hge => ?_))
    · have hlt := of_decide_eq_true hlt
      have hif : i < fr.length := by omega
      have hat : apart prog 3 (is fr) (i * 1) = some (.int .i64 (fr.getD i 0)) := by rw [is_part hif, List.getD_eq_getElem?_getD, List.getElem?_eq_getElem hif]; rfl
      have hnx : ((List.range (i + 1)).all fun i => !mayA B fr i && !mayC m o ns (fr.getD i 0)) = (!mayA B fr i && !mayC m o ns (fr.getD i 0)) := by
        rw [List.range_succ, List.all_append, hno]; simp
      have hA : mayA B fr i = ((decide (fr.getD i 0 < 2) || decide (fr.getD i 0 ≥ (B : Int))) || (decide ((i : Int) > 0) && decide (fr.getD (i - 1) 0 ≥ fr.getD i 0))) := rfl
      have hprev : ∀ j, i = j + 1 → j < fr.length ∧ apart prog 3 (is fr) (j * 1) = some (.int .i64 (fr.getD (i - 1) 0)) := fun j e => by
        have hj : j < fr.length := by omega
        refine ⟨hj, ?_⟩
        rw [is_part hj, show i - 1 = j by omega, List.getD_eq_getElem?_getD, List.getElem?_eq_getElem hj]; rfl
      have bad : (!mayA B fr i && !mayC m o ns (fr.getD i 0)) = false → mayB B m o ns fr = false := fun e => by
        unfold mayB
        exact List.all_eq_false.2 ⟨i, List.mem_range.2 hif, by rw [e]; exact Bool.false_ne_true⟩
      refine RunC.seq (RunC.block ?_)
      refine RunC.seq (RunC.region (RunO.part 1 rfl ?_))
      refine RunO.at (s := 1) (k := i) rfl rfl sa0 rfl rfl hif hat rfl rfl rfl (RunO.all rfl ?_)
      generalize fr.getD i 0 = b at *
      generalize fr.getD (i - 1) 0 = pv at *
      refine RunC.seq (RunC.seqE (upd (upd (upd (upd (upd (upd (upd (upd E0 0 (.pointer (some ⟨kb, 0, none⟩))) 1 (.slice A fr.length c)) 7 (.slice A fr.length c)) 8 (.int .i64 (fr.length : Int))) 9 (.int .i64 (i : Int))) 5 (.int .i64 (i : Int))) 6 (.int .i64 b)) 36 (.bool (mayA B fr i))) ?_ ?_)
      · rw [hA]
        refine RunC.region (RunO.part 3 rfl ?_)
        cases decide (b < 2) with
        | true => exact RunO.all rfl ⟨rfl, Le.cons rfl (Le.cons rfl (Le.cons rfl (Le.cons rfl (Le.cons rfl (Le.cons rfl (Le.cons rfl (Le.cons rfl (Le.nil _))))))))⟩
        | false =>
          refine RunO.part 4 rfl ?_
          refine RunO.loadG (v := .int .i64 (B : Int)) rfl rfl (ow.ld rfl) rfl ?_
          refine RunO.part 3 rfl ?_
          cases decide (b ≥ (B : Int)) with
          | true => exact RunO.all rfl ⟨rfl, Le.cons rfl (Le.cons rfl (Le.cons rfl (Le.cons rfl (Le.cons rfl (Le.cons rfl (Le.cons rfl (Le.cons rfl (Le.nil _))))))))⟩
          | false =>
            refine RunO.part 3 rfl ?_
            cases i with
            | zero => exact RunO.all rfl ⟨rfl, Le.cons rfl (Le.cons rfl (Le.cons rfl (Le.cons rfl (Le.cons rfl (Le.cons rfl (Le.cons rfl (Le.cons rfl (Le.nil _))))))))⟩
            | succ j =>
              obtain ⟨hj, hpv⟩ := hprev j rfl
              rw [show decide (((j + 1 : Nat) : Int) > 0) = true from decide_eq_true (by omega)]
              refine RunO.part 3 rfl ?_
              rw [fw64 (x := ((j + 1 : Nat) : Int) - 1) (by omega) (by omega), show ((j + 1 : Nat) : Int) - 1 = (j : Int) by omega]
              refine RunO.atG (s := 1) (k := j) rfl (fun _ => rfl) rfl rfl sa0 rfl rfl hj hpv rfl rfl rfl ?_
              exact RunO.all rfl ⟨rfl, Le.cons rfl (Le.cons rfl (Le.cons rfl (Le.cons rfl (Le.cons rfl (Le.cons rfl (Le.cons rfl (Le.cons rfl (Le.nil _))))))))⟩
      cases hma : mayA B fr i with
      | true =>
        refine RunC.cond rfl (fun _ => ?_) (fun g => by cases g)
        rw [bad (by rw [hma]; rfl)]
        exact RunC.seq (RunC.region (RunO.all rfl (RunC.ret ⟨_, rfl, rfl, rfl⟩)))
      | false =>
      refine RunC.cond rfl (fun g => by cases g) (fun _ => RunC.skip ?_)
      have hC : mayC m o ns b = ((m.contains b || o.contains b) || ns.contains b) := rfl
      refine RunC.seqE (upd (upd (upd (upd (upd (upd E0 0 (.pointer (some ⟨kb, 0, none⟩))) 1 (.slice A fr.length c)) 7 (.slice A fr.length c)) 8 (.int .i64 (fr.length : Int))) 9 (.int .i64 (i : Int))) 64 (.bool (mayC m o ns b))) ?_ ?_
      · rw [hC]
        refine RunC.region (RunO.part 3 rfl ?_)
        refine RunO.load (v := mv) rfl (ow.ld rfl) rfl ?_
        refine RunO.part 1 rfl ?_
        refine RunO.callD (containsInt_ok slm (by omega)) rfl rfl rfl ?_
        rintro _ _ ⟨rfl, rfl⟩
        refine RunO.part 1 rfl ?_
        cases m.contains b with
        | true => exact RunO.all rfl ⟨rfl, Le.cons rfl (Le.cons rfl (Le.cons rfl (Le.cons rfl (Le.cons rfl (Le.cons rfl (Le.nil _))))))⟩
        | false =>
          refine RunO.part 3 rfl ?_
          refine RunO.loadG (v := .pointer (some ⟨ob, 0, none⟩)) rfl rfl (ow.ld rfl) rfl ?_
          refine RunO.part 2 rfl ?_
          refine RunO.loadG (v := .slice (some ⟨mb, 0, none⟩) 512 (exc 512)) rfl rfl (oo.ld rfl) rfl ?_
          refine RunO.part 1 rfl ?_
          rw [hol] at slo
          have slo2 : Sl h (.slice (some ⟨mb, 0, none⟩) 512 (exc 512)) 1 o.length (is o) := by rw [hol]; exact slo
          refine RunO.callDG rfl (containsInt_ok slo2 (by omega)) rfl rfl rfl ?_
          rintro _ _ ⟨rfl, rfl⟩
          refine RunO.part 2 rfl ?_
          cases o.contains b with
          | true => exact RunO.all rfl ⟨rfl, Le.cons rfl (Le.cons rfl (Le.cons rfl (Le.cons rfl (Le.cons rfl (Le.cons rfl (Le.nil _))))))⟩
          | false =>
            refine RunO.part 3 rfl ?_
            refine RunO.loadG (v := .pointer (some ⟨ob, 0, none⟩)) rfl rfl (ow.ld rfl) rfl ?_
            refine RunO.part 2 rfl ?_
            refine RunO.loadG (v := nv) rfl rfl (oo.ld rfl) rfl ?_
            refine RunO.part 1 rfl ?_
            refine RunO.callDG rfl (containsInt_ok sn (by omega)) rfl rfl rfl ?_
            rintro _ _ ⟨rfl, rfl⟩
            exact RunO.all rfl ⟨rfl, Le.cons rfl (Le.cons rfl (Le.cons rfl (Le.cons rfl (Le.cons rfl (Le.cons rfl (Le.nil _))))))⟩
      cases hmc : mayC m o ns b with
      | true =>
        refine RunC.cond rfl (fun _ => ?_) (fun g => by cases g)
        rw [bad (by rw [hmc, Bool.not_true, Bool.and_false])]
        exact RunC.seq (RunC.region (RunO.all rfl (RunC.ret ⟨_, rfl, rfl, rfl⟩)))
      | false =>
        refine RunC.cond rfl (fun g => by cases g) (fun _ => RunC.skip ?_)
        refine RunC.region (RunO.all rfl ?_)
        exact ⟨d - 1, by omega, i + 1, by omega, rfl, by rw [hnx, hma, hmc]; rfl, Le.cons (inc64 (by omega)) (Le.cons rfl (Le.cons rfl (Le.cons rfl (Le.cons rfl (Le.nil _)))))⟩
    · have hge := of_decide_eq_false hge
      obtain rfl : i = fr.length := by omega
      refine RunC.exit ?_
      rw [show mayB B m o ns fr = true from hno]
      exact RunC.seq (RunC.region (RunO.all rfl (RunC.ret ⟨_, rfl, rfl, rfl⟩)))
  · exact ⟨0, by omega, rfl, rfl, Le.cons rfl (Le.cons rfl (Le.cons rfl (Le.cons rfl (Le.cons rfl (Le.nil _)))))⟩
end Go.Proofs.Ytdcggjkcbheolaa
end
section
set_option linter.unusedVariables false
set_option maxRecDepth 100000
open Go Go.Am Go.RowKit
namespace Go.Proofs.Ytdcggjkcbheolaa
open Go.Proofs.Try
/-- What a new node leads to. -/
def ptrOf (m : List Int) (J : Nat → List Int) (l p : Nat) : List Int := if l = 0 then part m 0 p else ((J (l - 1)).drop (p * 8)).take 8
def nodD (l : Nat) (ps : List Int) : List Int := if nodOk (l : Int) ps then nodBlock (l : Int) ps else []
/-- So many new nodes are put on blocks. -/
def wrS (m : List Int) (J0 : Nat → List Int) (F : List (Nat × Nat)) (at_ : List Int) : Nat → (Nat → List Int) × List IoT
  | 0 => (J0, [])
  | i + 1 => (setW (wrS m J0 F at_ i).1 (F.getD i (0, 0)).1 (F.getD i (0, 0)).2 (at_.getD i 0),
      (wrS m J0 F at_ i).2 ++ [((1 : Int), at_.getD i 0, nodD (F.getD i (0, 0)).1 (ptrOf m (setW (wrS m J0 F at_ i).1 (F.getD i (0, 0)).1 (F.getD i (0, 0)).2 (at_.getD i 0)) (F.getD i (0, 0)).1 (F.getD i (0, 0)).2), ())])
theorem lvN_up {l : Nat} (h0 : 0 < l) (hl : l < 3) : lvN (l - 1) = lvN l * 8 := by
  obtain rfl | rfl : l = 1 ∨ l = 2 := by omega
  all_goals rfl
theorem ptrOf_len {m : List Int} {J : Nat → List Int} {l p : Nat} (hm : m.length = 512) (hJ : ∀ l, l < 3 → (J l).length = lvN l) (hl : l < 3) (hp : p < lvN l) : (ptrOf m J l p).length = 8 := by
  unfold ptrOf
  split
  · rename_i h0; subst h0; exact part_len hm hl hp
  · rename_i h0
    rw [List.length_take, List.length_drop, hJ _ (by omega), lvN_up (by omega) hl]; omega
set_option maxHeartbeats 4000000 in
theorem pointers_ok {h : Heap} {kb B : Nat} {iv ov mv fv : Value} {ws : Nat → Value} {jb : Nat → Nat} {J : Nat → List Int} {m : List Int} {l p : Nat} (ow : Ow h kb (kc iv B ov mv ws (fun l => slz (jb l) (lvN l)) fv)) (js : WS h jb J) (smv : Sl h mv 1 512 (is m)) (hml : m.length = 512) (hl : l < 3) (hp : p < lvN l) :
    RunF prog 74 [.pointer (some ⟨kb, 0, none⟩), .int .i64 (l : Int), .int .i64 (p : Int)] h fun v h' => Sl h v 1 8 (is (ptrOf m J l p)) ∧ h = h' := by
  refine RunF.walk func74 rfl rfl ?_
  have hp64 := Nat.lt_of_lt_of_le hp (lvN_le hl)
  refine RunC.seq (RunC.region (RunO.all rfl ?_))
  refine RunC.seq (RunC.seq (RunC.region (RunO.all rfl ?_)))
  by_cases h0 : l = 0
  · have hpt : ptrOf m J l p = part m 0 p := by unfold ptrOf; rw [if_pos h0]
    rw [hpt, show ((l : Int) == 0) = true from beq_iff_eq.2 (by omega)]
    subst h0
    have s1 := (lv_span hl hp).1
    refine RunC.cond rfl (fun _ => ?_) (fun g => by cases g)
    refine RunC.seq (RunC.region (RunO.part 3 rfl ?_))
    refine RunO.load (v := mv) rfl (ow.ld rfl) rfl ?_
    refine RunO.part 2 rfl ?_
    rw [fw64 (x := (p : Int) * 8) (by omega) (by omega), show (p : Int) * 8 = ((p * 8 : Nat) : Int) by omega]
    refine RunO.part 2 rfl ?_
    rw [fw64 (x := (p : Int) + 1) (by omega) (by omega)]
    refine RunO.part 1 rfl ?_
    rw [fw64 (x := ((p : Int) + 1) * 8) (by omega) (by omega), show ((p : Int) + 1) * 8 = ((p * 8 + 8 : Nat) : Int) by omega]
    refine RunO.sliceSl (s := 1) (len := 512) rfl rfl rfl rfl rfl smv (.some _ _ _) (.some _ _ _) (Nat.le_add_right _ _) s1 rfl ?_
    intro pv sp
    refine RunO.all rfl ?_
    refine RunC.ret ⟨_, rfl, ?_, rfl⟩
    have := sl_span (l := 0) hl hp hml sp
    rw [part_len hml hl hp] at this
    exact this
  · have hpt : ptrOf m J l p = ((J (l - 1)).drop (p * 8)).take 8 := by unfold ptrOf; rw [if_neg h0]
    obtain ⟨k, rfl⟩ : ∃ k, l = k + 1 := ⟨l - 1, by omega⟩
    have hup := lvN_up (l := k + 1) (by omega) hl
    rw [Nat.add_sub_cancel] at hpt hup
    have hj := slW js (show k < 3 by omega)
    rw [hpt, show (((k + 1 : Nat) : Int) == 0) = false from beq_eq_false_iff_ne.2 (by omega)]
    refine RunC.cond rfl (fun g => by cases g) (fun _ => RunC.skip ?_)
    refine RunC.seq (RunC.region (RunO.part 3 rfl ?_))
    rw [fw64 (x := ((k + 1 : Nat) : Int) - 1) (by omega) (by omega), show ((k + 1 : Nat) : Int) - 1 = (k : Int) by omega]
    refine RunO.part 2 rfl ?_
    refine RunO.indexA (s := 1) (k := k) rfl rfl rfl rfl rfl (show k < 3 by omega) rfl ?_
    refine RunO.load (v := slz (jb k) (lvN k)) rfl (ow.ld (kc_j (by omega))) rfl ?_
    refine RunO.part 2 rfl ?_
    rw [fw64 (x := (p : Int) * 8) (by omega) (by omega), show (p : Int) * 8 = ((p * 8 : Nat) : Int) by omega]
    refine RunO.part 2 rfl ?_
    rw [fw64 (x := (p : Int) + 1) (by omega) (by omega)]
    refine RunO.part 1 rfl ?_
    rw [fw64 (x := ((p : Int) + 1) * 8) (by omega) (by omega), show ((p : Int) + 1) * 8 = ((p * 8 + 8 : Nat) : Int) by omega]
    refine RunO.sliceSl (s := 1) (len := lvN k) rfl rfl rfl rfl rfl hj (.some _ _ _) (.some _ _ _) (Nat.le_add_right _ _) (by omega) rfl ?_
    intro pv sp
    refine RunO.all rfl ?_
    refine RunC.ret ⟨_, rfl, ?_, rfl⟩
    rw [Nat.mul_one, Nat.mul_one, Nat.add_sub_cancel_left] at sp
    unfold is at *
    rw [List.map_take, List.map_drop]
    exact sp
/-- A step of a growing row: its data lie apart from the row. -/
def IoR (h : Heap) (lo : Nat) (ov : Value) (x : IoT) (cs : List Value) : Prop := ∃ dv, cs = [.int .i64 x.1, .int .i64 x.2.1, dv] ∧ Sl h dv 1 x.2.2.1.length (us x.2.2.1) ∧ Byt x.2.2.1 ∧ ∀ b o n c, dv = .slice (some ⟨b, o, none⟩) n c → lo ≤ b ∧ ¬ At ov b
def IosR (lo : Nat) (h : Heap) (ov : Value) (l : List IoT) : Prop := ∃ acs, Row lo h ov 3 l.length acs ∧ ∀ (j : Nat) (x : IoT), l[j]? = some x → IoR h lo ov x ((acs.drop (j * 3)).take 3)
theorem IosR.ios {lo : Nat} {h : Heap} {ov : Value} {l : List IoT} (r : IosR lo h ov l) (hl : l.length ≤ 9223372036854775807) : Ios h ov l := by
  obtain ⟨acs, row, k⟩ := r
  refine ⟨acs, row.sl hl, fun j x hx => ?_⟩
  obtain ⟨dv, h1, h2, h3, _⟩ := k j x hx
  exact ⟨dv, h1, h2, h3⟩
theorem IosR.nil (lo : Nat) (h : Heap) : IosR lo h (.slice none 0 0) [] := ⟨[], Row.nil _ _ _, fun j x hx => by cases hx⟩
theorem IoR.fr {h h' : Heap} {lo : Nat} {ov ov' : Value} {x : IoT} {cs : List Value} {M : Nat → Prop} (r : IoR h lo ov x cs) (f : Fr M h h') (hM : ∀ b, M b → b < lo ∨ At ov b) (ho : ∀ b, b < h.next → At ov' b → At ov b) : IoR h' lo ov' x cs := by
  obtain ⟨dv, h1, h2, h3, h4⟩ := r
  refine ⟨dv, h1, ?_, h3, fun b o n c e => ⟨(h4 b o n c e).1, fun g => ?_⟩⟩
  · refine ⟨h2.1, h2.2.1, h2.2.2.imp (fun y => y) ?_⟩
    rintro ⟨b, o, c, e1, e2, e3⟩
    have := h4 b o _ c e1
    exact ⟨b, o, c, e1, e2, e3.fr f (fun g => by rcases hM b g with e | e; exact absurd e (by omega); exact this.2 e)⟩
  · have h5 := h4 b o n c e
    rcases h2.2.2 with ⟨e1, _⟩ | ⟨b', o', c', e1, _, rd⟩
    · rw [e] at e1; cases e1
    · rw [e] at e1; cases e1
      exact h5.2 (ho b rd.2.1 g)
theorem IosR.fr {h h' : Heap} {lo : Nat} {ov : Value} {l : List IoT} {M : Nat → Prop} (r : IosR lo h ov l) (f : Fr M h h') (hM : ∀ b, M b → b < lo) : IosR lo h' ov l := by
  obtain ⟨acs, row, k⟩ := r
  exact ⟨acs, row.fr f (fun b h1 _ g => by have := hM b g; omega), fun j x hx => (k j x hx).fr f (fun b g => .inl (hM b g)) (fun b _ g => g)⟩
theorem IosR.quiet {h h' : Heap} {lo : Nat} {ov : Value} {l : List IoT} (r : IosR lo h ov l) (f : Fr no h h') : IosR lo h' ov l := r.fr f (fun _ g => g.elim)
end Go.Proofs.Ytdcggjkcbheolaa
end
section
set_option linter.unusedVariables false
set_option maxRecDepth 100000
open Go Go.Am Go.RowKit
namespace Go.Proofs.Ytdcggjkcbheolaa
open Go.Proofs.Try
theorem IosR.snoc {h h' : Heap} {lo : Nat} {ov ov' dv : Value} {l : List IoT} {acs : List Value} {x : IoT} (row : Row lo h ov 3 l.length acs) (k : ∀ (j : Nat) (x : IoT), l[j]? = some x → IoR h lo ov x ((acs.drop (j * 3)).take 3)) (hd : Sl h dv 1 x.2.2.1.length (us x.2.2.1)) (hb : Byt x.2.2.1)
    (ha : ∀ b o n c, dv = .slice (some ⟨b, o, none⟩) n c → lo ≤ b ∧ ¬ At ov b) (row' : Row h.next h' ov' 3 (l.length + 1) (acs ++ [.int .i64 x.1, .int .i64 x.2.1, dv])) (f : Fr (At ov) h h') (hlo : lo ≤ h.next) : IosR lo h' ov' (l ++ [x]) := by
  have hn : ∀ b, At ov' b → h.next ≤ b := fun b g => (row'.at g).1
  refine ⟨acs ++ [.int .i64 x.1, .int .i64 x.2.1, dv], by rw [List.length_append]; exact Row.lo row' hlo, fun j y hy => ?_⟩
  have hal : acs.length = l.length * 3 := row.1
  by_cases c : j < l.length
  · rw [List.getElem?_append_left c] at hy
    have h1 : j * 3 + 3 ≤ acs.length := by omega
    rw [List.drop_append_of_le_length (by omega), List.take_append_of_le_length (by rw [List.length_drop]; omega)]
    exact (k j y hy).fr f (fun b g => .inr g) (fun b hb2 g => absurd (hn b g) (by omega))
  · rw [List.getElem?_append_right (by omega)] at hy
    have hj : j = l.length := by
      by_cases e : j - l.length = 0
      · omega
      · rw [List.getElem?_eq_none (by simp; omega)] at hy; cases hy
    subst hj
    rw [Nat.sub_self] at hy
    cases hy
    rw [← hal, List.drop_left]
    refine ⟨dv, rfl, ?_, hb, fun b o n c e => ⟨(ha b o n c e).1, fun g => ?_⟩⟩
    · refine ⟨hd.1, hd.2.1, hd.2.2.imp (fun y => y) ?_⟩
      rintro ⟨b, o, c, e1, e2, e3⟩
      exact ⟨b, o, c, e1, e2, e3.fr f (ha b o _ c e1).2⟩
    · rcases hd.2.2 with ⟨e1, _⟩ | ⟨b', o', c', e1, _, rd⟩
      · rw [e] at e1; cases e1
      · rw [e] at e1; cases e1
        have h1 : b < h.next := rd.2.1
        have := hn b g
        omega
theorem fl_get : ∀ (F : List (Nat × Nat)) (i : Nat) (h : i < F.length), (fl F)[2 * i]? = some (F[i].1 : Int) ∧ (fl F)[2 * i + 1]? = some (F[i].2 : Int)
  | x :: F, 0, _ => ⟨rfl, rfl⟩
  | x :: F, i + 1, h => by
    have := fl_get F i (by simpa using h)
    have e : fl (x :: F) = (x.1 : Int) :: (x.2 : Int) :: fl F := rfl
    rw [e, show 2 * (i + 1) = 2 * i + 1 + 1 by omega, show 2 * i + 1 + 1 + 1 = 2 * i + 1 + 1 + 1 from rfl]
    simp only [List.getElem?_cons_succ]
    exact this
theorem wrS_len (m : List Int) (J0 : Nat → List Int) (F : List (Nat × Nat)) (at_ : List Int) : ∀ i, (wrS m J0 F at_ i).2.length = i
  | 0 => rfl
  | i + 1 => by show (_ ++ [_]).length = _; rw [List.length_append, wrS_len m J0 F at_ i]; rfl
theorem nodD_byt {l : Nat} {ps : List Int} (hp : ps.length = 8) : Byt (nodD l ps) := by
  unfold nodD
  split
  · exact nodBlock_byt hp
  · intro x hx; cases hx
set_option maxHeartbeats 16000000 in
theorem writes_ok {lo0 lo : Nat} {h : Heap} {kb B : Nat} {iv ov mv fv av : Value} {wb jb : Nat → Nat} {W J : Nat → List Int} {F : List (Nat × Nat)} {m at_ : List Int} (ks : KS lo0 lo kb wb jb) (kw : KW lo h kb iv B ov mv wb jb fv W J F) (smv : Sl h mv 1 512 (is m)) (hml : m.length = 512)
    (hma : ∀ b o c, mv = .slice (some ⟨b, o, none⟩) 512 c → ∀ l, l < 3 → b ≠ jb l) (sa : Sl h av 1 at_.length (is at_)) (haa : ∀ b o c, av = .slice (some ⟨b, o, none⟩) at_.length c → ∀ l, l < 3 → b ≠ jb l)
    (hlen : at_.length ≤ F.length) (hF : F.length ≤ 256) (hFok : ∀ i (hi : i < F.length), F[i].1 < 3 ∧ F[i].2 < lvN F[i].1) :
    RunF prog 48 [.pointer (some ⟨kb, 0, none⟩), av] h fun v h' => Fr (WM jb) h h' ∧ IosR h.next h' v (wrS m J F at_ at_.length).2 ∧ KW lo h' kb iv B ov mv wb jb fv W (wrS m J F at_ at_.length).1 F := by
  refine RunF.walk func48 rfl rfl ?_
  have sa0 := sa
  obtain ⟨A, c, hav, _, _⟩ := sa.form
  subst hav
  have hln := kw.ln
  have hmlt := smv.lt
  have halt := sa0.lt
  have hfv : ∀ b, At fv b → b < h.next := fun b g => (kw.row.at g).2
  have hWM : ∀ b, WM jb b → b < h.next := fun b ⟨l, hl, e⟩ => by have := (ks.j0 l hl).2.1; omega
  have hfll := fl_len F
  refine RunC.seq (RunC.region (RunO.all rfl ?_))
  refine RunC.seq (RunC.region (RunO.all rfl ?_))
  refine RunC.seq (RunC.seq (RunC.region (RunO.all rfl ?_)))
  refine RunC.block ?_
  let I : Nat → Env → Heap → Prop := fun d E h' => ∃ (i : Nat) (ov2 : Value), i + d = at_.length ∧ Fr (WM jb) h h' ∧ IosR h.next h' ov2 (wrS m J F at_ i).2 ∧ KW lo h' kb iv B ov mv wb jb fv W (wrS m J F at_ i).1 F ∧ Sl h' mv 1 512 (is m) ∧ Sl h' (.slice A at_.length c) 1 at_.length (is at_) ∧
    Le (upd (upd (upd (upd (upd E0 0 (.pointer (some ⟨kb, 0, none⟩))) 5 ov2) 13 (.slice A at_.length c)) 14 (.int .i64 (at_.length : Int))) 15 (.int .i64 (i : Int))) E
  refine RunC.loop I ?_ (k := at_.length) ?_
  · rintro d E h1 ⟨i, ov2, hi, F1, r1, kw1, sm1, sa1, hE⟩
    refine RunC.le hE ?_
    clear hE
    refine RunC.seq (RunC.region (RunO.all rfl ?_))
    refine RunC.seq (RunC.cond rfl (fun hlt => RunC.skip ?_) (fun hge => ?_))
    · have hlt := of_decide_eq_true hlt
      have hia : i < at_.length := by omega
      have hiF : i < F.length := by omega
      obtain ⟨hl, hp⟩ := hFok i hiF
      obtain ⟨g1, g2⟩ := fl_get F i hiF
      have hFi : F.getD i (0, 0) = F[i] := by rw [List.getD_eq_getElem?_getD, List.getElem?_eq_getElem hiF]; rfl
      have hst : wrS m J F at_ (i + 1) = (setW (wrS m J F at_ i).1 (F.getD i (0, 0)).1 (F.getD i (0, 0)).2 (at_.getD i 0),
        (wrS m J F at_ i).2 ++ [((1 : Int), at_.getD i 0, nodD (F.getD i (0, 0)).1 (ptrOf m (setW (wrS m J F at_ i).1 (F.getD i (0, 0)).1 (F.getD i (0, 0)).2 (at_.getD i 0)) (F.getD i (0, 0)).1 (F.getD i (0, 0)).2), ())]) := rfl
      rw [hFi] at hst
      have hat : apart prog 3 (is at_) (i * 1) = some (.int .i64 (at_.getD i 0)) := by rw [is_part hia, List.getD_eq_getElem?_getD, List.getElem?_eq_getElem hia]; rfl
      have hol := wrS_len m J F at_ i
      have hd0 : apart prog 3 (is (fl F)) (2 * i * 1) = some (.int .i64 (F[i].1 : Int)) := by
        have h2 : 2 * i < (fl F).length := by omega
        rw [is_part h2]
        rw [List.getElem?_eq_getElem h2, Option.some.injEq] at g1
        rw [g1]
      have hd1 : apart prog 3 (is (fl F)) ((2 * i + 1) * 1) = some (.int .i64 (F[i].2 : Int)) := by
        have h2 : 2 * i + 1 < (fl F).length := by omega
        rw [is_part h2]
        rw [List.getElem?_eq_getElem h2, Option.some.injEq] at g2
        rw [g2]
      have slf := kw1.row.sl (by omega)
      refine RunC.seq (RunC.block ?_)
      refine RunC.seq (RunC.region (RunO.part 1 rfl ?_))
      refine RunO.at (s := 1) (k := i) rfl rfl sa1 rfl rfl hia hat rfl rfl rfl (RunO.all rfl ?_)
      refine RunC.seq (RunC.draw0 rfl ?_)
      refine RunO.part 3 rfl ?_
      refine RunO.load (v := fv) rfl (kw1.ow.ld rfl) rfl ?_
      refine RunO.part 2 rfl ?_
      rw [fw64 (x := 2 * (i : Int)) (by omega) (by omega), show 2 * (i : Int) = ((2 * i : Nat) : Int) by omega]
      refine RunO.at (s := 1) (k := 2 * i) rfl rfl slf rfl rfl (by omega) hd0 rfl rfl rfl ?_
      refine RunO.part 3 rfl ?_
      refine RunO.load (v := fv) rfl (kw1.ow.ld rfl) rfl ?_
      refine RunO.part 2 rfl ?_
      rw [fw64 (x := 2 * (i : Int)) (by omega) (by omega), show 2 * (i : Int) = ((2 * i : Nat) : Int) by omega]
      refine RunO.part 1 rfl ?_
      rw [fw64 (x := ((2 * i : Nat) : Int) + 1) (by omega) (by omega), show ((2 * i : Nat) : Int) + 1 = ((2 * i + 1 : Nat) : Int) by omega]
      refine RunO.at (s := 1) (k := 2 * i + 1) rfl rfl slf rfl rfl (by omega) hd1 rfl rfl rfl (RunO.all rfl ?_)
      clear hd0 hd1 g1 g2 slf hat hFi
      generalize F[i].1 = l at *
      generalize F[i].2 = p at *
      generalize at_.getD i 0 = b at *
      generalize hw2 : wrS m J F at_ (i + 1) = w2 at *
      obtain ⟨J2, out2⟩ := w2
      obtain ⟨hst1, hst2⟩ := Prod.mk.inj hst
      generalize wrS m J F at_ i = w1 at *
      obtain ⟨J1, out1⟩ := w1
      simp only at hst1 hst2 hol r1 kw1
      -- its block is known
      obtain ⟨e1, js2, f2⟩ := kw1.js.set ks.ji hl hp b
      refine RunC.seq (RunC.region (RunO.part 4 rfl ?_))
      refine RunO.indexA (s := 1) (k := l) rfl rfl rfl rfl rfl hl rfl ?_
      refine RunO.load (v := slz (jb l) (lvN l)) rfl (kw1.ow.ld (kc_j hl)) rfl ?_
      refine RunO.part 2 rfl ?_
      refine RunO.index (s := 1) (k := p) rfl rfl rfl rfl hp rfl ?_
      refine RunO.store rfl rfl e1 (RunO.nil ?_)
      have hjl := ks.j0 l hl
      have hl1 := kw1.ln
      have hh1 := F1.next
      have ow2 := kw1.ow.fr f2 (fun e => hjl.2.2 e.symm)
      have ws2 := kw1.ws.fr f2 (fun k hk e => ks.wj k l hk hl e)
      have row2 := kw1.row.fr f2 (fun b h1 _ e => by omega)
      have sm2 : Sl (h1.put (jb l) (some ⟨is ((J1 l).set p b), true⟩)) mv 1 512 (is m) := by
        refine ⟨sm1.1, sm1.2.1, sm1.2.2.imp (fun y => y) ?_⟩
        rintro ⟨b, o, c, e1, e2, e3⟩
        exact ⟨b, o, c, e1, e2, e3.fr f2 (hma b o c e1 l hl)⟩
      have sa2 : Sl (h1.put (jb l) (some ⟨is ((J1 l).set p b), true⟩)) (.slice A at_.length c) 1 at_.length (is at_) := by
        refine ⟨sa1.1, sa1.2.1, sa1.2.2.imp (fun y => y) ?_⟩
        rintro ⟨b, o, c, e1, e2, e3⟩
        exact ⟨b, o, c, e1, e2, e3.fr f2 (haa b o c e1 l hl)⟩
      have r2 := r1.fr f2 (fun b e => by have e : b = jb l := e; omega)
      have F2 : Fr (WM jb) h (h1.put (jb l) (some ⟨is ((J1 l).set p b), true⟩)) := F1.trans f2 (fun b e => .inl ⟨l, hl, e⟩)
      have ln2 := Nat.le_trans kw1.ln f2.next
      clear kw1 f2 e1 sm1 sa1 r1 F1
      rw [← hst1] at js2 hst2
      generalize h1.put (jb l) (some ⟨is ((J1 l).set p b), true⟩) = h2 at *
      have hpl := ptrOf_len hml (fun k hk => (js2 k hk).2) hl hp
      -- the node
      refine RunC.seq (RunC.region (RunO.part 3 (h1 := h2.push ⟨nc 0 nZero, true⟩) rfl ?_))
      refine RunO.store rfl rfl (nc_store (lv := (l : Int)) (ps := nZero) (Ow.push h2 (nc 0 nZero)) rfl rfl rfl) (RunO.nil ?_)
      have on : Ow ((h2.push ⟨nc 0 nZero, true⟩).put h2.next (some ⟨nc (l : Int) nZero, true⟩)) h2.next (nc (l : Int) nZero) := Ow.put _ (Nat.lt_succ_self _)
      have f3 : Fr no h2 ((h2.push ⟨nc 0 nZero, true⟩).put h2.next (some ⟨nc (l : Int) nZero, true⟩)) := (Fr.push _ _ _).trans (Fr.put (m := (· = h2.next)) _ (.inl rfl)) (fun j hj => .inr (by omega))
      generalize (h2.push ⟨nc 0 nZero, true⟩).put h2.next (some ⟨nc (l : Int) nZero, true⟩) = h3 at *
      have hln3 : h2.next ≤ h3.next := f3.next
      have f34 : ∀ h4, Fr (· = h2.next) h3 h4 → Fr no h2 h4 := fun h4 f => f3.trans f (fun b e => .inr (by have e : b = h2.next := e; omega))
      have hq2 : lo ≤ h2.next ∧ h.next ≤ h2.next := ⟨ln2, F2.next⟩
      have hAtq : ∀ b, At ov2 b → b < h2.next := fun b g => by
        obtain ⟨acs, row, _⟩ := r2
        exact (row.at g).2
      generalize h2.next = q at *
      replace ow2 := ow2.fr f3 (fun g => g)
      replace ws2 := ws2.fr f3 (fun _ _ g => g)
      replace js2 := js2.fr f3 (fun _ _ g => g)
      replace row2 := row2.fr f3 (fun _ _ _ g => g)
      replace sm2 := sm2.fr0 f3
      replace sa2 := sa2.fr0 f3
      replace F2 := F2.quiet f3
      replace ln2 := Nat.le_trans ln2 hln3
      clear f3
      refine RunC.seq (RunC.draw0 rfl ?_)
      refine RunO.part 5 rfl ?_
      refine RunO.callD (pointers_ok ow2 js2 sm2 hml hl hp) rfl rfl rfl ?_
      rintro pv _ ⟨slp, rfl⟩
      refine RunO.copyAt (k := 8) rfl rfl rfl rfl on slp (allCells_map (f := Value.int .i64) (fun _ => rfl) _) rfl (Nat.le_of_ble_eq_true rfl) rfl ?_
      intro h4 on4 f4 hn4
      have hcells : (nc (l : Int) nZero).take 1 ++ (is (ptrOf m J2 l p)).take 8 ++ (nc (l : Int) nZero).drop (1 + 8) = nc (l : Int) (ptrOf m J2 l p) := by
        have e1 : (is (ptrOf m J2 l p)).take 8 = is (ptrOf m J2 l p) := List.take_of_length_le (by rw [is_len, hpl]; exact Nat.le_refl _)
        rw [e1]
        show [Value.int .i64 (l : Int)] ++ is (ptrOf m J2 l p) ++ [] = _
        rw [List.append_nil]; rfl
      replace on4 : Ow h4 q ((nc (l : Int) nZero).take 1 ++ (is (ptrOf m J2 l p)).take 8 ++ (nc (l : Int) nZero).drop (1 + 8)) := on4
      rw [hcells] at on4
      refine RunO.nil ?_
      have hkq := ks.k0
      have ow4 := ow2.fr f4 (fun e => by have e : kb = q := e; omega)
      have ws4 := ws2.fr f4 (fun k hk e => by have e : wb k = q := e; have := (ks.w0 k hk).2.1; omega)
      have js4 := js2.fr f4 (fun k hk e => by have e : jb k = q := e; have := (ks.j0 k hk).2.1; omega)
      have row4 := row2.frm f4 (fun b g e => by have e : b = q := e; have := hfv b g; omega)
      have sm4 := sm2.frm (fun b o c g e => by have e : b = q := e; have := hmlt b o c g; omega) f4
      have sa4 := sa2.frm (fun b o c g e => by have e : b = q := e; have := halt b o c g; omega) f4
      have F4 : Fr (WM jb) h h4 := F2.trans f4 (fun b e => .inr (by have e : b = q := e; omega))
      have r4 : IosR h.next h4 ov2 out1 := r2.quiet (f34 h4 f4)
      have ln4 : lo ≤ h4.next := by have := f4.next; omega
      clear ow2 ws2 js2 row2 sm2 sa2 F2 r2 f4 on f34
      refine RunC.seq (RunC.region ?_)
      refine RunO.load (v := .agg ⟨nc (l : Int) (ptrOf m J2 l p)⟩) rfl (nc_load hpl on4) rfl ?_
      refine RunO.callD (nodBytes_ok hpl) rfl rfl rfl ?_
      rintro v5 h5 ⟨f5, hv5⟩
      have hdat : ∃ dv e, v5 = .tuple #[dv, .int .i64 e] ∧ Sl h5 dv 1 (nodD l (ptrOf m J2 l p)).length (us (nodD l (ptrOf m J2 l p))) ∧ (∀ b o n c, dv = .slice (some ⟨b, o, none⟩) n c → h4.next ≤ b) ∧ cellsOf dv = [dv] ∧ isCell dv = true := by
        unfold nodD
        rcases hv5 with ⟨g1, b5, g2, rfl, o5⟩ | ⟨g1, rfl⟩
        · rw [if_pos g1]
          refine ⟨_, 0, rfl, ?_, fun b o n c e => by cases e; exact g2, rfl, rfl⟩
          have := sl_own o5 (nodBlock_len hpl) (Cp.exc (Nat.le_refl 64)) (by decide)
          exact this
        · rw [if_neg (by rw [g1]; exact Bool.false_ne_true)]
          exact ⟨_, 1, rfl, Sl.nil _ _, (fun b o n c e => by cases e), rfl, rfl⟩
      obtain ⟨dv, er, rfl, sd, hdv, hdc1, hdc2⟩ := hdat
      have hbd : Byt (nodD l (ptrOf m J2 l p)) := nodD_byt hpl
      have ow5 := ow4.fr f5 (fun g => g)
      have ws5 := ws4.fr f5 (fun _ _ g => g)
      have js5 := js4.fr f5 (fun _ _ g => g)
      have row5 := row4.fr f5 (fun _ _ _ g => g)
      have sm5 := sm4.fr0 f5
      have sa5 := sa4.fr0 f5
      have r5 := r4.quiet f5
      have F5 := F4.quiet f5
      have ln5 := Nat.le_trans ln4 f5.next
      have hAt5 : ∀ b, At ov2 b → b < h4.next := fun b g => by
        obtain ⟨acs, row, _⟩ := r4
        exact (row.at g).2
      have hh4 := F4.next
      clear ow4 ws4 js4 row4 sm4 sa4 r4 F4 f5 hv5
      refine RunO.all rfl ?_
      obtain ⟨dA, dc, hdve, _, _⟩ := sd.form
      -- one step more
      obtain ⟨acs, row6, k6⟩ := r5
      refine RunC.region ?_
      subst hdve
      refine RunO.part 5 (h1 := h5.push ⟨[.int .i64 1, .int .i64 b, .slice dA (nodD l (ptrOf m J2 l p)).length dc], true⟩) rfl ?_
      have fp : Fr no h5 (h5.push ⟨[.int .i64 1, .int .i64 b, .slice dA (nodD l (ptrOf m J2 l p)).length dc], true⟩) := Fr.push _ _ _
      have ob := Ow.push h5 [.int .i64 1, .int .i64 b, .slice dA (nodD l (ptrOf m J2 l p)).length dc]
      have row7 := row6.fr fp (fun _ _ _ g => g)
      have k7 : ∀ (j : Nat) (x : IoT), out1[j]? = some x → IoR (h5.push ⟨[.int .i64 1, .int .i64 b, .slice dA (nodD l (ptrOf m J2 l p)).length dc], true⟩) h.next ov2 x ((acs.drop (j * 3)).take 3) := fun j x hx => (k6 j x hx).fr fp (fun _ g => g.elim) (fun b _ g => g)
      have sd7 := sd.fr0 fp
      have ow7 := ow5.fr fp (fun g => g)
      have ws7 := ws5.fr fp (fun _ _ g => g)
      have js7 := js5.fr fp (fun _ _ g => g)
      have rowf7 := row5.fr fp (fun _ _ _ g => g)
      have sm7 := sm5.fr0 fp
      have sa7 := sa5.fr0 fp
      have F7 := F5.quiet fp
      have ln7 := Nat.le_trans ln5 fp.next
      clear ow5 ws5 js5 row5 sm5 sa5 F5 fp row6 k6 sd
      generalize h5.push ⟨[.int .i64 1, .int .i64 b, .slice dA (nodD l (ptrOf m J2 l p)).length dc], true⟩ = h7 at *
      refine RunO.append2 (s := 3) (m := 1) rfl rfl rfl rfl rfl rfl rfl rfl (by decide) row7 ob.all rfl (Nat.le_refl 1) rfl (by show 2 * (out1.length + 1) * 40 ≤ _; omega) (by omega) ?_
      intro ov8 h8 row8 f8
      have hAt8 : ∀ b, At ov2 b → h.next ≤ b := fun b g => (row7.at g).1
      have r8 := IosR.snoc (x := ((1 : Int), b, nodD l (ptrOf m J2 l p), ())) row7 k7 sd7 hbd (fun b o n c e => ⟨by have := hdv b o n c e; omega, fun g => by have := hdv b o n c e; have := hAt5 b g; omega⟩) row8 f8 F7.next
      rw [← hst2] at r8
      refine RunO.all rfl ?_
      refine RunC.region (RunO.all rfl ?_)
      refine ⟨d - 1, by omega, i + 1, ov8, by omega, F7.trans f8 (fun b g => .inr (hAt8 b g)), ?_, ?_, sm7.frm (fun b o c e g => by have := hmlt b o c e; have := hAt8 b g; omega) f8, sa7.frm (fun b o c e g => by have := halt b o c e; have := hAt8 b g; omega) f8, Le.cons (inc64 (by omega)) (Le.cons rfl (Le.cons rfl (Le.cons rfl (Le.cons rfl (Le.nil _)))))⟩
      · rw [hw2]; exact r8
      · rw [hw2]
        exact ⟨ow7.fr f8 (fun g => by have := hAt8 _ g; omega), ws7.fr f8 (fun k hk g => by have := hAt8 _ g; have := (ks.w0 k hk).2.1; omega), js7.fr f8 (fun k hk g => by have := hAt8 _ g; have := (ks.j0 k hk).2.1; omega), rowf7.frm f8 (fun b g e => by have := hAt8 _ e; have := hfv b g; omega), Nat.le_trans ln7 f8.next⟩
    · have hge := of_decide_eq_false hge
      obtain rfl : i = at_.length := by omega
      refine RunC.exit ?_
      exact RunC.seq (RunC.region (RunO.all rfl (RunC.ret ⟨_, rfl, F1, r1, kw1⟩)))
  · exact ⟨0, _, by omega, Fr.refl _ _, IosR.nil _ _, kw, smv, sa0, Le.cons rfl (Le.cons rfl (Le.cons rfl (Le.cons rfl (Le.cons rfl (Le.nil _)))))⟩
end Go.Proofs.Ytdcggjkcbheolaa
end
section
set_option linter.unusedVariables false
set_option maxRecDepth 100000
open Go Go.Am Go.RowKit
namespace Go.Proofs.Ytdcggjkcbheolaa
open Go.Proofs.Try
theorem clone64_ok {h : Heap} {v : Value} {l : List Int} (sl : Sl h v 1 l.length (is l)) (hb : 2 * l.length * 8 ≤ 281474976710656) :
    RunF prog 49 [v] h fun r h' => Osl h.next h' r 1 l.length (is l) ∧ Fr no h h' ∧ (l.length = 0 → h.next ≤ h'.next) := by
  refine RunF.walk func49 rfl rfl ?_
  refine RunC.seq (RunC.region (RunO.all rfl ?_))
  obtain ⟨hl, hm, ⟨rfl, h0⟩ | ⟨b, o, c, rfl, hc, rd⟩⟩ := sl
  · refine RunC.seq (RunC.seq (RunC.region (RunO.all rfl ?_)))
    refine RunC.cond rfl (fun _ => ?_) (fun g => by cases g)
    exact RunC.seq (RunC.region (RunO.all rfl (RunC.ret ⟨_, rfl, ⟨hl, hm, .inl ⟨rfl, h0⟩⟩, Fr.refl _ _, fun _ => Nat.le_refl _⟩)))
  · refine RunC.seq (RunC.seq (RunC.region (RunO.all rfl ?_)))
    refine RunC.cond rfl (fun g => by cases g) (fun _ => RunC.skip ?_)
    refine RunC.seq (RunC.region (RunO.part 2 (h1 := h.push ⟨[], true⟩) rfl ?_))
    have f1 : Fr no h (h.push ⟨[], true⟩) := Fr.push _ _ _
    have ow : Ow (h.push ⟨[], true⟩) h.next [] := Ow.push _ _
    by_cases hz : l.length = 0
    · have hn : l = [] := List.eq_nil_of_length_eq_zero hz
      subst hn
      have key : aappend prog (h.push ⟨[], true⟩) 36 36 (.slice (some ⟨h.next, 0, none⟩) 0 (exc 0)) (.slice (some ⟨b, o, none⟩) 0 c) = some (.slice (some ⟨h.next, 0, none⟩) 0 (exc 0), h.push ⟨[], true⟩) := by
        have hs : asrc (h.push ⟨[], true⟩) 1 (.slice (some ⟨b, o, none⟩) 0 c) = some (0, []) := ((rd.fr f1 (fun g => g)).sl (s := 1) (n := 0) rfl (Nat.zero_le _) hc).src0
        show (match asrc (h.push ⟨[], true⟩) 1 (.slice (some ⟨b, o, none⟩) 0 c) with
          | some (0, _) => some (Value.slice (some ⟨h.next, 0, none⟩) 0 (exc 0), h.push ⟨[], true⟩)
          | some (m + 1, news) => _
          | none => none) = _
        rw [hs]
      refine RunO.one rfl (v := .slice (some ⟨h.next, 0, none⟩) 0 (exc 0)) (h1 := h.push ⟨[], true⟩) (abuiltin_app key) rfl ?_
      exact RunO.all rfl (RunC.ret ⟨_, rfl, ⟨rfl, hm, .inr ⟨h.next, exc 0, Nat.le_refl _, rfl, Cp.exc (Nat.le_refl _), ow⟩⟩, f1, fun _ => Nat.le_succ _⟩)
    · have key := append_full (P := prog) (t := 36) (e := 3) (s := 1) (k := 0) (m := l.length) (c := exc 0) (c' := c) (olds := []) (news := is l) (b := ⟨h.next, 0, none⟩) (a := ⟨b, o, none⟩) rfl rfl rfl rfl rfl (Nat.le_refl 1) ow.all rfl rfl (by show 0 < 0 + l.length; omega) (rd.fr f1 (fun g => g)) (by rw [is_len, Nat.mul_one]) (by omega)
        (by show 2 * (0 + l.length) * 8 ≤ _; omega) (by omega)
      rw [Nat.zero_add, List.nil_append] at key
      refine RunO.one rfl (abuiltin_app key) rfl ?_
      refine RunO.all rfl (RunC.ret ⟨_, rfl, ⟨hl, hm, .inr ⟨_, _, Nat.le_succ _, rfl, Cp.unkc _ _, Ow.push _ _⟩⟩, f1.same (Fr.push _ _ _), fun _ => Nat.le_succ_of_le (Nat.le_succ _)⟩)
theorem IosR.lo {lo lo' : Nat} {h : Heap} {ov : Value} {l : List IoT} (r : IosR lo h ov l) (hl : lo' ≤ lo) : IosR lo' h ov l := by
  obtain ⟨acs, row, k⟩ := r
  refine ⟨acs, Row.lo row hl, fun j x hx => ?_⟩
  obtain ⟨dv, h1, h2, h3, h4⟩ := k j x hx
  exact ⟨dv, h1, h2, h3, fun b o n c e => ⟨Nat.le_trans hl (h4 b o n c e).1, (h4 b o n c e).2⟩⟩
theorem freP_ok (m o : List Int) : ∀ i (hi : i < (freP m o 3 0).length), (freP m o 3 0)[i].1 < 3 ∧ (freP m o 3 0)[i].2 < lvN (freP m o 3 0)[i].1 := by
  intro i hi
  have hm := List.getElem_mem hi
  generalize (freP m o 3 0)[i] = x at hm
  unfold freP at hm
  rw [List.mem_append] at hm
  rcases hm with hm | hm
  · rw [List.mem_flatMap] at hm
    obtain ⟨k, hk, hx⟩ := hm
    rw [List.mem_map] at hx
    obtain ⟨p, hp, rfl⟩ := hx
    unfold news at hp
    rw [List.mem_filter, List.mem_range] at hp
    exact ⟨List.mem_range.1 hk, hp.1⟩
  · rw [List.mem_map] at hm
    obtain ⟨p, hp, rfl⟩ := hm
    unfold news at hp
    rw [List.mem_filter, List.mem_range] at hp
    exact absurd hp.1 (Nat.not_lt_zero _)
/-- The new nodes of a new tree. -/
def freN (L : List Int) (root : Int) (m : List Int) : List (Nat × Nat) := freP m (treeM L root) 3 0
theorem freN_len (L : List Int) (root : Int) (m : List Int) : (freN L root m).length ≤ 256 := freP_le _ _ 3 0 (by decide) (by decide)
/-- Why a new tree is not built. -/
def bldE (L : List Int) (root : Int) (m fr : List Int) : Int := if beginE L root m = 0 then (if mayB (L.length / 64) m (treeM L root) (treeN L root) fr then (if decide ((fr.length : Int) < ((freN L root m).length : Nat)) then 9 else 0) else 1) else beginE L root m
def bldW (L : List Int) (root : Int) (m fr : List Int) : (Nat → List Int) × List IoT := wrS m (isT (wasT L (L.length / 64) root) m 3 0) (freN L root m) (fr.take (freN L root m).length) (freN L root m).length
def bldR (L : List Int) (root : Int) (m fr : List Int) : Int := ((bldW L root m fr).1 2).getD 0 0
set_option maxHeartbeats 16000000 in
theorem buildTree_ok {h : Heap} {iv mv av : Value} {L m fr : List Int} {root : Int} (sl : Sl h iv 1 L.length (us L)) (hb : Byt L) (hm : L.length ≤ 4611686018427387904) (smv : Sl h mv 1 m.length (is m)) (sa : Sl h av 1 fr.length (is fr)) (hf : fr.length ≤ 100000) :
    RunF prog 19 [iv, .int .i64 root, mv, av] h fun v h' => Fr no h h' ∧ ((bldE L root m fr = 0 ∧ ∃ ov rv, v = .tuple #[.int .i64 (bldR L root m fr), ov, rv, .int .i64 0] ∧ IosR h.next h' ov (bldW L root m fr).2 ∧ Osl h.next h' rv 1 (fr.drop (freN L root m).length).length (is (fr.drop (freN L root m).length))) ∨
      (bldE L root m fr ≠ 0 ∧ v = .tuple #[.int .i64 0, .slice none 0 0, .slice none 0 0, .int .i64 (bldE L root m fr)])) := by
  refine RunF.walk func19 rfl rfl ?_
  have sa0 := sa
  obtain ⟨A, c, hav, _, _⟩ := sa.form
  subst hav
  have hmlt := smv.lt
  have halt := sa0.lt
  refine RunC.seq (RunC.region (RunO.all rfl ?_))
  refine RunC.seq (RunC.region (RunO.part 3 rfl ?_))
  refine RunO.callD (begin_ok (root := root) sl hb hm smv) rfl rfl rfl ?_
  rintro _ h1 ⟨f1, hv1⟩
  by_cases hbe : beginE L root m = 0
  case neg =>
    have hE : bldE L root m fr = beginE L root m := by unfold bldE; rw [if_neg hbe]
    rw [hE]
    rcases hv1 with ⟨g, _⟩ | ⟨_, rfl⟩
    · exact absurd g hbe
    refine RunO.all rfl ?_
    refine RunC.seq (RunC.block ?_)
    refine RunC.seq (RunC.region (RunO.all rfl ?_))
    rw [show (beginE L root m != 0) = true from bne_iff_ne.2 hbe]
    refine RunC.cond rfl (fun _ => ?_) (fun g => by cases g)
    exact RunC.seq (RunC.region (RunO.all rfl (RunC.ret ⟨_, rfl, f1, .inr ⟨hbe, rfl⟩⟩)))
  rcases hv1 with ⟨_, kb, lo, wb, jb, fv, ov, rfl, hkb, ks, kw, kok⟩ | ⟨g, _⟩
  case inr => exact absurd hbe g
  obtain ⟨hte, hme, hml⟩ := beginE_ok hbe
  have hnl := treeN_len L root
  have hE : bldE L root m fr = if mayB (L.length / 64) m (treeM L root) (treeN L root) fr then (if decide ((fr.length : Int) < ((freN L root m).length : Nat)) then 9 else 0) else 1 := by unfold bldE; rw [if_pos hbe]
  rw [hE]
  have hW : bldW L root m fr = wrS m (isT (wasT L (L.length / 64) root) m 3 0) (freN L root m) (fr.take (freN L root m).length) (freN L root m).length := rfl
  have hR : bldR L root m fr = ((bldW L root m fr).1 2).getD 0 0 := rfl
  have hF256 := freN_len L root m
  have hFok := freP_ok m (treeM L root)
  have smv1 := smv.fr0 f1
  rw [hml] at smv1 hmlt
  have sa1 := sa0.fr0 f1
  change KW lo h1 kb iv (L.length / 64) ov mv wb jb fv (wasT L (L.length / 64) root) (isT (wasT L (L.length / 64) root) m 3 0) (freN L root m) at kw
  change ∀ i (hi : i < (freN L root m).length), (freN L root m)[i].1 < 3 ∧ (freN L root m)[i].2 < lvN (freN L root m)[i].1 at hFok
  generalize freN L root m = F at *
  refine RunO.all rfl ?_
  refine RunC.seq (RunC.block ?_)
  refine RunC.seq (RunC.region (RunO.all rfl ?_))
  refine RunC.cond rfl (fun g => by cases g) (fun _ => ?_)
  refine RunC.seq (RunC.region (RunO.part 2 rfl ?_))
  refine RunO.callD (may_ok kw kok.ko smv1 hml (by omega) sa1 hf) rfl rfl rfl ?_
  rintro _ _ ⟨rfl, rfl⟩
  refine RunO.all rfl ?_
  cases hmay : mayB (L.length / 64) m (treeM L root) (treeN L root) fr with
  | false =>
    rw [if_neg Bool.false_ne_true]
    refine RunC.cond rfl (fun _ => ?_) (fun g => by cases g)
    exact RunC.seq (RunC.region (RunO.all rfl (RunC.ret ⟨_, rfl, f1, .inr ⟨by decide, rfl⟩⟩)))
  | true =>
  rw [if_pos rfl]
  refine RunC.cond rfl (fun g => by cases g) (fun _ => ?_)
  refine RunC.seq (RunC.region (RunO.part 3 rfl ?_))
  refine RunO.callD (needs_ok kw hF256) rfl rfl rfl ?_
  rintro _ _ ⟨rfl, rfl⟩
  refine RunO.all rfl ?_
  cases hlt : decide ((fr.length : Int) < (F.length : Nat)) with
  | true =>
    rw [if_pos rfl]
    refine RunC.cond rfl (fun _ => ?_) (fun g => by cases g)
    exact RunC.seq (RunC.region (RunO.all rfl (RunC.ret ⟨_, rfl, f1, .inr ⟨by decide, rfl⟩⟩)))
  | false =>
  rw [if_neg Bool.false_ne_true]
  have hFl : F.length ≤ fr.length := by have := of_decide_eq_false hlt; omega
  refine RunC.cond rfl (fun g => by cases g) (fun _ => RunC.skip ?_)
  have hnx := f1.next
  -- the writes
  refine RunC.seq (RunC.region (RunO.part 3 rfl ?_))
  refine RunO.callD (needs_ok kw hF256) rfl rfl rfl ?_
  rintro _ _ ⟨rfl, rfl⟩
  refine RunO.sliceAll (s := 1) (len := fr.length) rfl rfl rfl rfl rfl sa1 (.none _) (.some _ _ _) (Nat.zero_le _) hFl rfl ?_
  intro tv st
  have st : ∀ h', Sl h' (.slice A fr.length c) 1 fr.length (is fr) → Sl h' tv 1 (fr.take F.length).length (is (fr.take F.length)) := fun h' g => by
    have st := st h' g
    rw [Nat.sub_zero, Nat.mul_one, Nat.zero_mul, List.drop_zero] at st
    rw [List.length_take, Nat.min_eq_left hFl]
    unfold is at *
    rw [List.map_take]; exact st
  have htl : (fr.take F.length).length = F.length := by rw [List.length_take, Nat.min_eq_left hFl]
  have htlt := (st h sa0).lt
  refine RunO.callD (writes_ok ks kw smv1 hml (fun b o c e l hl => by have := hmlt b o c e; have := (ks.j0 l hl).1; omega) (st h1 sa1) (fun b o c e l hl => by have := htlt b o c e; have := (ks.j0 l hl).1; omega) (by omega) hF256 hFok) rfl rfl rfl ?_
  rintro ov2 h2 ⟨f2, rios, kw2⟩
  rw [htl] at rios kw2
  rw [← hW] at rios kw2
  have F2 : Fr no h h2 := f1.trans f2 (fun b ⟨l, hl, e⟩ => .inr (by have := (ks.j0 l hl).1; omega))
  have sa2 := sa1.frm (fun b o c e ⟨l, hl, g⟩ => by have := halt b o c e; have := (ks.j0 l hl).1; omega) f2
  have hj2 : 0 < ((bldW L root m fr).1 2).length := by rw [(kw2.js 2 (by decide)).2]; decide
  have hjat : apart prog 3 (is ((bldW L root m fr).1 2)) (0 * 1) = some (.int .i64 (bldR L root m fr)) := by
    rw [hR, is_part hj2, List.getD_eq_getElem?_getD, List.getElem?_eq_getElem hj2]; rfl
  generalize bldW L root m fr = WW at *
  generalize bldR L root m fr = RR at *
  refine RunO.all rfl ?_
  refine RunC.seq (RunC.drawQ rfl ?_)
  refine RunQ.part 3 rfl ?_
  refine RunQ.indexA (s := 1) (k := 2) rfl rfl rfl rfl rfl (by decide) rfl ?_
  refine RunQ.load (v := slz (jb 2) (lvN 2)) rfl rfl (kw2.ow.ld (kc_j (by decide))) rfl ?_
  refine RunQ.at (s := 1) (k := 0) rfl (fun _ => rfl) rfl rfl (slW kw2.js (by decide)) rfl rfl (by decide) hjat rfl rfl rfl ?_
  refine RunQ.part 3 rfl ?_
  have kw3 : KW lo (h2.lo h2.next) kb iv (L.length / 64) ov mv wb jb fv (wasT L (L.length / 64) root) WW.1 F := ⟨kw2.ow, kw2.ws, kw2.js, kw2.row, kw2.ln⟩
  refine RunQ.call rfl (needs_ok kw3 hF256) (fun v h1 q => by obtain ⟨_, rfl⟩ := q; exact Fr.refl _ _) rfl rfl rfl ?_
  rintro _ _ ⟨rfl, rfl⟩
  refine RunQ.lo ?_
  refine RunQ.sliceSl (s := 1) (len := fr.length) rfl rfl rfl rfl rfl rfl sa2 (.some _ _ _) (.none _) hFl (Nat.le_refl _) rfl ?_
  intro rv sr
  have sr : Sl h2 rv 1 (fr.drop F.length).length (is (fr.drop F.length)) := by
    rw [Nat.mul_one, Nat.mul_one] at sr
    rw [List.length_drop]
    unfold is at *
    rw [List.map_drop]
    rw [List.take_of_length_le (by rw [List.length_drop, List.length_map]; exact Nat.le_refl _)] at sr
    exact sr
  refine RunQ.call rfl (clone64_ok (h := h2.lo h2.next) sr (by rw [List.length_drop]; omega)) (fun v h1 q => q.2.1) rfl rfl rfl ?_
  rintro qv h3 ⟨so, f3, _⟩
  refine RunQ.all rfl ?_
  intro lw F3
  have so2 : Osl h.next (h3.lo lw) qv 1 (fr.drop F.length).length (is (fr.drop F.length)) := Osl.lo so F2.next
  refine RunC.ret ⟨_, rfl, F2.same F3, .inl ⟨rfl, ov2, qv, rfl, ?_, so2⟩⟩
  exact (rios.quiet F3).lo f1.next
end Go.Proofs.Ytdcggjkcbheolaa
end
section
set_option linter.unusedVariables false
set_option maxRecDepth 100000
open Go Go.Am Go.RowKit
namespace Go.Proofs.Ytdcggjkcbheolaa
open Go.Proofs.Try
/-- A node's pointers; of no node none. -/
def ptrsL (L : List Int) (B : Nat) (p : Int) : List Int := if p = 0 then nZero else (atV L B p).2
theorem ptrsL_len (L : List Int) (B : Nat) (p : Int) : (ptrsL L B p).length = 8 := by
  unfold ptrsL; split
  · rfl
  · exact atV_len L B p
theorem nz_get (i : Nat) : nZero.getD i 0 = 0 := by
  show (List.replicate 8 (0 : Int)).getD i 0 = 0
  rw [List.getD_eq_getElem?_getD, List.getElem?_replicate]; split <;> rfl
theorem look_suc (L : List Int) (B k : Nat) (p : Int) (s : Nat) : look L B (k + 1) p s = look L B k ((ptrsL L B p).getD (s / 8 ^ k) 0) (s % 8 ^ k) := by
  show (if p = 0 then 0 else _) = _
  unfold ptrsL
  by_cases e : p = 0
  · rw [if_pos e, if_pos e, nz_get, look_zero]
  · rw [if_neg e, if_neg e]
/-- One level more, at the end of the way. -/
theorem look_last (L : List Int) (B : Nat) : ∀ (k : Nat) (p : Int) (s : Nat), s < 8 ^ (k + 1) → look L B (k + 1) p s = (ptrsL L B (look L B k p (s / 8))).getD (s % 8) 0
  | 0, p, s, h => by
    rw [look_suc]
    show (ptrsL L B p).getD (s / 8 ^ 0) 0 = (ptrsL L B p).getD (s % 8) 0
    rw [Nat.pow_zero, Nat.div_one, Nat.mod_eq_of_lt (by simpa using h)]
  | k + 1, p, s, h => by
    have hpos : 0 < 8 ^ k := Nat.pow_pos (by decide)
    have hp : 8 ^ (k + 1) = 8 ^ k * 8 := Nat.pow_succ ..
    rw [look_suc, look_last L B k _ _ (Nat.mod_lt _ (by omega)), look_suc L B k p (s / 8)]
    have e1 : s / 8 ^ (k + 1) = s / 8 / 8 ^ k := by rw [hp, Nat.mul_comm, Nat.div_div_eq_div_mul]
    have e2 : s % 8 ^ (k + 1) / 8 = s / 8 % 8 ^ k := by rw [hp, Nat.mul_comm, Nat.mod_mul_right_div_self]
    have e3 : s % 8 ^ (k + 1) % 8 = s % 8 := by rw [hp, Nat.mul_comm, Nat.mod_mul_right_mod]
    rw [e1, e2, e3]
/-- The nodes under a pointer, from the top. -/
def nodL (L : List Int) (B : Nat) : Nat → Int → List Int
  | 0, _ => []
  | k + 1, p => if p = 0 then [] else p :: (List.range 8).flatMap fun i => nodL L B k ((ptrsL L B p).getD i 0)
theorem nodL_zero (L : List Int) (B k : Nat) : nodL L B k 0 = [] := by cases k <;> rfl
/-- Under a pointer each node is one, of its level. -/
def okA (L : List Int) (B k : Nat) (p : Int) : Prop := ∀ s, s < 8 ^ k → pathOk L B k p s
theorem okA_at {L : List Int} {B k : Nat} {p : Int} (h : okA L B (k + 1) p) (hp : p ≠ 0) : atIs L B p (k : Int) = true := (h 0 (Nat.pow_pos (by decide)) hp).1
theorem okA_zero (L : List Int) (B k : Nat) : okA L B k 0 := by
  intro s hs
  cases k with
  | zero => trivial
  | succ k => exact fun e => absurd rfl e
theorem okA_child {L : List Int} {B k : Nat} {p : Int} (h : okA L B (k + 1) p) {i : Nat} (hi : i < 8) : okA L B k ((ptrsL L B p).getD i 0) := by
  by_cases hp : p = 0
  · have : (ptrsL L B p).getD i 0 = 0 := by unfold ptrsL; rw [if_pos hp, nz_get]
    rw [this]; exact okA_zero L B k
  · intro s hs
    have hpos : 0 < 8 ^ k := Nat.pow_pos (by decide)
    have hlt : i * 8 ^ k + s < 8 ^ (k + 1) := by
      have : i * 8 ^ k + 8 ^ k ≤ 8 ^ k * 8 := by rw [← Nat.succ_mul, Nat.mul_comm]; exact Nat.mul_le_mul_left _ hi
      rw [Nat.pow_succ]; omega
    have := (h _ hlt hp).2
    have e1 : (i * 8 ^ k + s) / 8 ^ k = i := by rw [Nat.add_comm, Nat.add_mul_div_right _ _ hpos, Nat.div_eq_of_lt hs, Nat.zero_add]
    have e2 : (i * 8 ^ k + s) % 8 ^ k = s := by rw [Nat.add_comm, Nat.add_mul_mod_self_right, Nat.mod_eq_of_lt hs]
    rw [e1, e2] at this
    unfold ptrsL
    rw [if_neg hp]
    exact this
theorem okA_mk {L : List Int} {B k : Nat} {p : Int} (h1 : p ≠ 0 → atIs L B p (k : Int) = true) (h2 : ∀ i, i < 8 → okA L B k ((ptrsL L B p).getD i 0)) : okA L B (k + 1) p := by
  intro s hs hp
  have hpos : 0 < 8 ^ k := Nat.pow_pos (by decide)
  refine ⟨h1 hp, ?_⟩
  have := h2 (s / 8 ^ k) (by rw [Nat.div_lt_iff_lt_mul hpos]; rw [Nat.pow_succ, Nat.mul_comm] at hs; exact hs) (s % 8 ^ k) (Nat.mod_lt _ hpos)
  unfold ptrsL at this
  rw [if_neg hp] at this
  exact this
theorem nodup_pre {α : Type} {a b c : List α} (h : (a ++ b ++ c).Nodup) : (a ++ b).Nodup := (List.nodup_append.1 h).1
theorem flat_pre {f : Nat → List Int} {i : Nat} (hi : i < 8) : ∃ t, (List.range 8).flatMap f = (List.range i).flatMap f ++ f i ++ t := by
  refine ⟨((List.range (8 - (i + 1))).map (i + 1 + ·)).flatMap f, ?_⟩
  have : List.range 8 = List.range (i + 1) ++ (List.range (8 - (i + 1))).map (i + 1 + ·) := by rw [← List.range_add]; congr 1; omega
  rw [this, List.flatMap_append, List.range_succ, List.flatMap_append]
  simp
/-- A walk that ends well has met just the nodes under its pointer. -/
def NodAt (L : List Int) (B lv : Nat) : Prop := ∀ (a : Int) (f : Nat) (w : TS), w.2.2 = false → (tgo L B lv a f w).2.2 = false → (tgo L B lv a f w).2.1 = w.2.1 ++ nodL L B (lv + 1) a
theorem nod_body {L : List Int} {B lv : Nat} (hrec : ∀ k, lv = k + 1 → NodAt L B k) : NodAt L B lv := by
  intro a f w hw h
  obtain ⟨m, ns, bd⟩ := w
  simp only at hw
  subst hw
  rw [tgo_eq] at h ⊢
  unfold tbody at h ⊢
  by_cases hc : (!atIs L B a (lv : Int) || ns.contains a) = true
  · rw [if_pos hc] at h; cases h
  rw [if_neg hc] at h ⊢
  rw [Bool.or_eq_true, not_or, Bool.not_eq_true, Bool.not_eq_true, Bool.not_eq_false'] at hc
  have ha := atIs_ne hc.1
  have ha0 : a ≠ 0 := by omega
  have hp : ptrsL L B a = (atV L B a).2 := by unfold ptrsL; rw [if_neg ha0]
  have hn : nodL L B (lv + 1) a = a :: (List.range 8).flatMap fun i => nodL L B lv ((ptrsL L B a).getD i 0) := by show (if a = 0 then _ else _) = _; rw [if_neg ha0]
  rw [hn]
  change ((List.range 8).foldl (tst L B lv (atV L B a).2 f) (m, ns ++ [a], false)).2.2 = false at h
  show ((List.range 8).foldl (tst L B lv (atV L B a).2 f) (m, ns ++ [a], false)).2.1 = _
  have key : ∀ i, i ≤ 8 → ((List.range i).foldl (tst L B lv (atV L B a).2 f) (m, ns ++ [a], false)).2.1 = ns ++ a :: (List.range i).flatMap fun i => nodL L B lv ((ptrsL L B a).getD i 0) := by
    intro i
    induction i with
    | zero => intro _; rfl
    | succ i ih =>
      intro hi
      have hnb := fold_pre h (i := i) (by omega)
      have hnb1 := fold_pre h (i := i + 1) hi
      have ih := ih (by omega)
      have hstep : (List.range (i + 1)).foldl (tst L B lv (atV L B a).2 f) (m, ns ++ [a], false) = tst L B lv (atV L B a).2 f ((List.range i).foldl (tst L B lv (atV L B a).2 f) (m, ns ++ [a], false)) i := by rw [List.range_succ, List.foldl_append]; rfl
      rw [hstep] at hnb1 ⊢
      have hfl : (List.range (i + 1)).flatMap (fun i => nodL L B lv ((ptrsL L B a).getD i 0)) = (List.range i).flatMap (fun i => nodL L B lv ((ptrsL L B a).getD i 0)) ++ nodL L B lv ((ptrsL L B a).getD i 0) := by rw [List.range_succ, List.flatMap_append]; simp
      rw [hfl]
      generalize (List.range i).foldl (tst L B lv (atV L B a).2 f) (m, ns ++ [a], false) = W at *
      rw [hp] at ih ⊢
      unfold tst tstep at hnb1 ⊢
      rw [hnb, if_neg Bool.false_ne_true] at hnb1 ⊢
      generalize hpi : (atV L B a).2.getD i 0 = p at *
      have fin : ∀ X : List Int, X = W.2.1 ++ nodL L B lv p → X = ns ++ a :: ((List.range i).flatMap (fun i => nodL L B lv ((atV L B a).2.getD i 0)) ++ nodL L B lv p) := fun X e => by rw [e, ih, List.append_assoc, List.cons_append]
      by_cases hB : decide (p ≥ (B : Int)) = true
      · rw [if_pos hB] at hnb1; cases hnb1
      rw [if_neg hB] at hnb1 ⊢
      cases lv with
      | zero =>
        refine fin _ ?_
        show _ = W.2.1 ++ []
        rw [List.append_nil]
        split
        · rfl
        · split <;> rfl
      | succ k =>
        rw [if_neg (by simp)] at hnb1 ⊢
        by_cases hp0 : p = 0
        · rw [if_neg (by simp [hp0])]
          refine fin _ ?_
          rw [hp0, nodL_zero, List.append_nil]
        · rw [if_pos (bne_iff_ne.2 hp0)] at hnb1 ⊢
          exact fin _ (hrec k rfl p (f + i * 8 ^ (k + 1)) W hnb hnb1)
  exact key 8 (Nat.le_refl 8)
theorem tgo_nod (L : List Int) (B : Nat) : ∀ lv, NodAt L B lv := by
  intro lv
  induction lv with
  | zero => exact nod_body (fun k e => by cases e)
  | succ k ih => exact nod_body (fun j e => by cases e; exact ih)
/-- A walk ends well. -/
def FineAt (L : List Int) (B lv : Nat) : Prop := ∀ (a : Int) (f : Nat) (w : TS), w.2.2 = false → a ≠ 0 → okA L B (lv + 1) a → (w.2.1 ++ nodL L B (lv + 1) a).Nodup → (∀ s, s < 8 ^ (lv + 1) → look L B (lv + 1) a s < B) → (tgo L B lv a f w).2.2 = false
theorem fine_body {L : List Int} {B lv : Nat} (hrec : ∀ k, lv = k + 1 → FineAt L B k) : FineAt L B lv := by
  intro a f w hw ha0 hok hnd hlt
  obtain ⟨m, ns, bd⟩ := w
  simp only at hw hnd
  subst hw
  have hn : nodL L B (lv + 1) a = a :: (List.range 8).flatMap fun i => nodL L B lv ((ptrsL L B a).getD i 0) := by show (if a = 0 then _ else _) = _; rw [if_neg ha0]
  have hp : ptrsL L B a = (atV L B a).2 := by unfold ptrsL; rw [if_neg ha0]
  rw [hn] at hnd
  have hat := okA_at hok ha0
  have hB0 : 0 < B := by have := atIs_ne hat; omega
  have hnc : ns.contains a = false := by
    rw [← Bool.not_eq_true]
    intro c
    have hm : a ∈ ns := by simpa using c
    exact (List.nodup_append.1 hnd).2.2 a hm a (List.mem_cons_self ..) rfl
  rw [tgo_eq]
  unfold tbody
  simp only
  rw [hat, hnc, if_neg (by simp)]
  change ((List.range 8).foldl (tst L B lv (atV L B a).2 f) (m, ns ++ [a], false)).2.2 = false
  have key : ∀ i, i ≤ 8 → ((List.range i).foldl (tst L B lv (atV L B a).2 f) (m, ns ++ [a], false)).2.2 = false ∧ ((List.range i).foldl (tst L B lv (atV L B a).2 f) (m, ns ++ [a], false)).2.1 = ns ++ a :: (List.range i).flatMap fun i => nodL L B lv ((ptrsL L B a).getD i 0) := by
    intro i
    induction i with
    | zero => intro _; exact ⟨rfl, rfl⟩
    | succ i ih =>
      intro hi
      obtain ⟨ih1, ih2⟩ := ih (by omega)
      have hstep : (List.range (i + 1)).foldl (tst L B lv (atV L B a).2 f) (m, ns ++ [a], false) = tst L B lv (atV L B a).2 f ((List.range i).foldl (tst L B lv (atV L B a).2 f) (m, ns ++ [a], false)) i := by rw [List.range_succ, List.foldl_append]; rfl
      rw [hstep]
      have hfl : (List.range (i + 1)).flatMap (fun i => nodL L B lv ((ptrsL L B a).getD i 0)) = (List.range i).flatMap (fun i => nodL L B lv ((ptrsL L B a).getD i 0)) ++ nodL L B lv ((ptrsL L B a).getD i 0) := by rw [List.range_succ, List.flatMap_append]; simp
      rw [hfl]
      obtain ⟨t, ht⟩ := flat_pre (f := fun i => nodL L B lv ((ptrsL L B a).getD i 0)) (show i < 8 by omega)
      rw [ht] at hnd
      have hsp := okA_child hok (i := i) (by omega)
      have hls : ∀ s, s < 8 ^ lv → look L B lv ((ptrsL L B a).getD i 0) s < B := fun s hs => by
        have hpos : 0 < 8 ^ lv := Nat.pow_pos (by decide)
        have hl2 : i * 8 ^ lv + s < 8 ^ (lv + 1) := by
          have : i * 8 ^ lv + 8 ^ lv ≤ 8 ^ lv * 8 := by rw [← Nat.succ_mul, Nat.mul_comm]; exact Nat.mul_le_mul_left _ hi
          rw [Nat.pow_succ]; omega
        have := hlt _ hl2
        rw [look_suc] at this
        have e1 : (i * 8 ^ lv + s) / 8 ^ lv = i := by rw [Nat.add_comm, Nat.add_mul_div_right _ _ hpos, Nat.div_eq_of_lt hs, Nat.zero_add]
        have e2 : (i * 8 ^ lv + s) % 8 ^ lv = s := by rw [Nat.add_comm, Nat.add_mul_mod_self_right, Nat.mod_eq_of_lt hs]
        rwa [e1, e2] at this
      generalize (List.range i).foldl (tst L B lv (atV L B a).2 f) (m, ns ++ [a], false) = W at *
      have hnW : (W.2.1 ++ nodL L B lv ((ptrsL L B a).getD i 0)).Nodup := by
        rw [ih2]
        have e : ns ++ a :: ((List.range i).flatMap (fun i => nodL L B lv ((ptrsL L B a).getD i 0)) ++ nodL L B lv ((ptrsL L B a).getD i 0) ++ t) = (ns ++ a :: (List.range i).flatMap fun i => nodL L B lv ((ptrsL L B a).getD i 0)) ++ nodL L B lv ((ptrsL L B a).getD i 0) ++ t := by simp
        rw [e] at hnd
        exact nodup_pre hnd
      rw [hp] at hsp hls hnW ih2 ⊢
      unfold tst tstep
      rw [ih1, if_neg Bool.false_ne_true]
      generalize hpi : (atV L B a).2.getD i 0 = p at *
      have fin : ∀ X : List Int, X = W.2.1 ++ nodL L B lv p → X = ns ++ a :: ((List.range i).flatMap (fun i => nodL L B lv ((atV L B a).2.getD i 0)) ++ nodL L B lv p) := fun X e => by rw [e, ih2, List.append_assoc, List.cons_append]
      have hpB : p < B := by
        by_cases hp0 : p = 0
        · omega
        · cases lv with
          | zero => exact hls 0 (by decide)
          | succ k => exact (atIs_ne (okA_at hsp hp0)).2
      rw [if_neg (by rw [decide_eq_true_eq]; omega)]
      cases lv with
      | zero =>
        refine ⟨?_, fin _ ?_⟩
        · split
          · rfl
          · split
            · exact ih1
            · exact ih1
        · show _ = W.2.1 ++ []
          rw [List.append_nil]
          split
          · rfl
          · split <;> rfl
      | succ k =>
        rw [if_neg (by simp)]
        by_cases hp0 : p = 0
        · rw [if_neg (by simp [hp0])]
          refine ⟨ih1, fin _ ?_⟩
          rw [hp0, nodL_zero, List.append_nil]
        · rw [if_pos (bne_iff_ne.2 hp0)]
          have h1 := hrec k rfl p (f + i * 8 ^ (k + 1)) W ih1 hp0 hsp hnW hls
          exact ⟨h1, fin _ (tgo_nod L B k p (f + i * 8 ^ (k + 1)) W ih1 h1)⟩
  exact (key 8 (Nat.le_refl 8)).1
theorem tgo_fine (L : List Int) (B : Nat) : ∀ lv, FineAt L B lv := by
  intro lv
  induction lv with
  | zero => exact fine_body (fun k e => by cases e)
  | succ k ih => exact fine_body (fun j e => by cases e; exact ih)
/-- What a tree is. -/
structure TreeIs (L : List Int) (root : Int) (m : List Int) : Prop where
  len : m.length = 512
  ok : okA L (L.length / 64) 3 root
  nd : (nodL L (L.length / 64) 3 root).Nodup
  map : ∀ s, s < 512 → look L (L.length / 64) 3 root s = m.getD s 0
  lt : ∀ s, s < 512 → m.getD s 0 < (L.length / 64 : Nat)
  out : ∀ s, s < 512 → ¬ m.getD s 0 ∈ nodL L (L.length / 64) 3 root
theorem TreeIs.of {L : List Int} {root : Int} (hB : 0 < L.length / 64) (h : treeOk L root = true) : TreeIs L root (treeM L root) ∧ treeN L root = nodL L (L.length / 64) 3 root := by
  by_cases hr : root = 0
  · subst hr
    have hz : ∀ s, (treeM L 0).getD s 0 = 0 := fun s => by
      show (List.replicate 512 (0 : Int)).getD s 0 = 0
      rw [List.getD_eq_getElem?_getD, List.getElem?_replicate]; split <;> rfl
    exact ⟨⟨treeM_len L 0, okA_zero _ _ _, by rw [nodL_zero]; exact List.nodup_nil, fun s _ => by rw [hz, look_zero], fun s _ => by rw [hz]; omega, fun s _ => by rw [nodL_zero]; simp⟩, by rw [nodL_zero]; rfl⟩
  · have S := tree_spec hr h
    have hn : treeN L root = (treeW L root).2.1 := by unfold treeN; rw [show (root == 0) = false from beq_eq_false_iff_ne.2 hr]; rfl
    have hm : treeM L root = (treeW L root).1 := by unfold treeM; rw [show (root == 0) = false from beq_eq_false_iff_ne.2 hr]; rfl
    have h2 := h
    unfold treeOk at h2
    rw [show (root == 0) = false from beq_eq_false_iff_ne.2 hr, Bool.false_or, Bool.and_eq_true, Bool.not_eq_true', Bool.not_eq_true'] at h2
    have hnod : treeN L root = nodL L (L.length / 64) 3 root := by
      have := tgo_nod L (L.length / 64) 2 root 0 (List.replicate 512 0, [], false) rfl h2.1
      rw [hn]
      exact this.trans (List.nil_append _)
    have hml := treeM_len L root
    have hmem : ∀ s, s < 512 → (treeM L root).getD s 0 ∈ treeM L root := fun s hs => by
      rw [List.getD_eq_getElem?_getD, List.getElem?_eq_getElem (by omega)]
      exact List.getElem_mem _
    refine ⟨⟨hml, fun s hs => S.path s hs, ?_, fun s hs => (tree_at hr h hs).symm, fun s hs => ?_, fun s hs c => ?_⟩, hnod⟩
    · rw [← hnod]; exact S.nd List.nodup_nil
    · rcases S.bnd _ (hmem s hs) with g | g | g
      · have := (List.mem_replicate.1 g).2; omega
      · omega
      · exact g
    · rw [← hnod] at c
      have := List.any_eq_false.1 h2.2 _ (by rw [← hm]; exact hmem s hs)
      rw [← hn] at this
      exact this (by simpa using c)
theorem TreeIs.tree {L : List Int} {root : Int} {m : List Int} (t : TreeIs L root m) : treeOk L root = true ∧ treeM L root = m ∧ treeN L root = nodL L (L.length / 64) 3 root := by
  by_cases hr : root = 0
  · subst hr
    refine ⟨rfl, ?_, by rw [nodL_zero]; rfl⟩
    show List.replicate 512 (0 : Int) = m
    apply List.ext_getElem?
    intro s
    by_cases hs : s < 512
    · have := t.map s hs
      rw [look_zero, List.getD_eq_getElem?_getD, List.getElem?_eq_getElem (by rw [t.len]; exact hs)] at this
      rw [List.getElem?_replicate, if_pos hs, List.getElem?_eq_getElem (by rw [t.len]; exact hs)]
      exact congrArg some this
    · rw [List.getElem?_eq_none (by simp; omega), List.getElem?_eq_none (by rw [t.len]; omega)]
  · have hf := tgo_fine L (L.length / 64) 2 root 0 (List.replicate 512 0, [], false) rfl hr t.ok (by rw [List.nil_append]; exact t.nd) (fun s hs => by rw [t.map s hs]; exact t.lt s hs)
    have hnod := tgo_nod L (L.length / 64) 2 root 0 (List.replicate 512 0, [], false) rfl hf
    have S := tgo_spec L (L.length / 64) 2 root 0 (List.replicate 512 0, [], false) (by decide) List.length_replicate rfl (fun s _ _ => by
      rw [List.getD_eq_getElem?_getD, List.getElem?_replicate]; split <;> rfl) hf
    have hlen : (treeW L root).1.length = 512 := treeW_len L root
    have hmap : (treeW L root).1 = m := by
      apply List.ext_getElem?
      intro s
      by_cases hs : s < 512
      · have := S.m s hs
        rw [if_pos ⟨Nat.zero_le _, by simpa using hs⟩, Nat.sub_zero, t.map s hs] at this
        change (treeW L root).1.getD s 0 = m.getD s 0 at this
        rw [List.getD_eq_getElem?_getD, List.getD_eq_getElem?_getD, List.getElem?_eq_getElem (by omega), List.getElem?_eq_getElem (by rw [t.len]; exact hs)] at this
        rw [List.getElem?_eq_getElem (by omega), List.getElem?_eq_getElem (by rw [t.len]; exact hs)]
        exact congrArg some this
      · rw [List.getElem?_eq_none (by omega), List.getElem?_eq_none (by rw [t.len]; omega)]
    have hnodW : (treeW L root).2.1 = nodL L (L.length / 64) 3 root := hnod.trans (List.nil_append _)
    have hfW : (treeW L root).2.2 = false := hf
    have e0 : (root == 0) = false := beq_eq_false_iff_ne.2 hr
    refine ⟨?_, ?_, ?_⟩
    · unfold treeOk
      rw [e0, hfW, hmap, hnodW, Bool.false_or, Bool.not_false, Bool.true_and, Bool.not_eq_true', List.any_eq_false]
      intro x hx c
      obtain ⟨s, hs, rfl⟩ := List.mem_iff_getElem.1 hx
      have := t.out s (by rw [← t.len]; exact hs)
      rw [List.getD_eq_getElem?_getD, List.getElem?_eq_getElem hs] at this
      exact this (by simpa using c)
    · unfold treeM; rw [e0]; exact hmap
    · unfold treeN; rw [e0]; exact hnodW
end Go.Proofs.Ytdcggjkcbheolaa
end
section
set_option linter.unusedVariables false
set_option maxRecDepth 100000
open Go Go.Am Go.RowKit
namespace Go.Proofs.Ytdcggjkcbheolaa
open Go.Proofs.Try
/-- The places of a tree's nodes: so far down, so far along. -/
def posL : Nat → List (Nat × Nat)
  | 0 => []
  | k + 1 => (0, 0) :: (List.range 8).flatMap fun i => (posL k).map fun x => (x.1 + 1, i * 8 ^ x.1 + x.2)
theorem posL_lt : ∀ (k : Nat) (x : Nat × Nat), x ∈ posL k → x.1 < k ∧ x.2 < 8 ^ x.1
  | 0, x, h => by cases h
  | k + 1, x, h => by
    rcases List.mem_cons.1 h with rfl | h
    · exact ⟨Nat.succ_pos _, by decide⟩
    · obtain ⟨i, hi, h⟩ := List.mem_flatMap.1 h
      obtain ⟨y, hy, rfl⟩ := List.mem_map.1 h
      rw [List.mem_range] at hi
      obtain ⟨h1, h2⟩ := posL_lt k y hy
      refine ⟨by omega, ?_⟩
      show i * 8 ^ y.1 + y.2 < 8 ^ (y.1 + 1)
      have : i * 8 ^ y.1 + 8 ^ y.1 ≤ 8 ^ y.1 * 8 := by rw [← Nat.succ_mul, Nat.mul_comm]; exact Nat.mul_le_mul_left _ hi
      rw [Nat.pow_succ]; omega
theorem posL_mem : ∀ (k d q : Nat), d < k → q < 8 ^ d → (d, q) ∈ posL k
  | 0, d, q, h, _ => absurd h (Nat.not_lt_zero _)
  | k + 1, 0, q, _, h2 => by
    have : q = 0 := by simpa using h2
    subst this
    exact List.mem_cons_self ..
  | k + 1, d + 1, q, h1, h2 => by
    have hpos : 0 < 8 ^ d := Nat.pow_pos (by decide)
    refine List.mem_cons_of_mem _ (List.mem_flatMap.2 ⟨q / 8 ^ d, List.mem_range.2 (by rw [Nat.div_lt_iff_lt_mul hpos]; rw [Nat.pow_succ, Nat.mul_comm] at h2; exact h2), List.mem_map.2 ⟨(d, q % 8 ^ d), posL_mem k d _ (by omega) (Nat.mod_lt _ hpos), ?_⟩⟩)
    show (d + 1, q / 8 ^ d * 8 ^ d + q % 8 ^ d) = _
    rw [Nat.div_add_mod']
theorem look_at {L : List Int} {B d i q : Nat} {p : Int} (hi : i < 8) (hq : q < 8 ^ d) : look L B (d + 1) p (i * 8 ^ d + q) = look L B d ((ptrsL L B p).getD i 0) q := by
  have hpos : 0 < 8 ^ d := Nat.pow_pos (by decide)
  rw [look_suc]
  have e1 : (i * 8 ^ d + q) / 8 ^ d = i := by rw [Nat.add_comm, Nat.add_mul_div_right _ _ hpos, Nat.div_eq_of_lt hq, Nat.zero_add]
  have e2 : (i * 8 ^ d + q) % 8 ^ d = q := by rw [Nat.add_comm, Nat.add_mul_mod_self_right, Nat.mod_eq_of_lt hq]
  rw [e1, e2]
theorem filter_flat {α β : Type} (f : α → List β) (p : β → Bool) : ∀ l : List α, (l.flatMap f).filter p = l.flatMap fun x => (f x).filter p
  | [] => rfl
  | x :: l => by rw [List.flatMap_cons, List.filter_append, filter_flat f p l, List.flatMap_cons]
theorem nodL_pos (L : List Int) (B : Nat) : ∀ (k : Nat) (p : Int), nodL L B k p = ((posL k).map fun x => look L B x.1 p x.2).filter (· != 0)
  | 0, p => rfl
  | k + 1, p => by
    by_cases hp : p = 0
    · subst hp
      rw [nodL_zero]
      symm
      rw [List.filter_eq_nil_iff]
      intro x hx
      obtain ⟨y, _, rfl⟩ := List.mem_map.1 hx
      rw [look_zero]; simp
    · show (if p = 0 then _ else _) = _
      rw [if_neg hp]
      show _ = List.filter _ (List.map _ ((0, 0) :: _))
      rw [List.map_cons, List.filter_cons_of_pos (by show (p != 0) = true; exact bne_iff_ne.2 hp)]
      show p :: _ = p :: _
      congr 1
      rw [List.map_flatMap, filter_flat]
      have key : ∀ l : List Nat, (∀ i ∈ l, i < 8) → (l.flatMap fun i => nodL L B k ((ptrsL L B p).getD i 0)) = l.flatMap fun i => List.filter (· != 0) (List.map (fun x => look L B x.1 p x.2) (List.map (fun x => (x.1 + 1, i * 8 ^ x.1 + x.2)) (posL k))) := by
        intro l
        induction l with
        | nil => intro _; rfl
        | cons i l ih =>
          intro hl
          rw [List.flatMap_cons, List.flatMap_cons, ih (fun j hj => hl j (List.mem_cons_of_mem _ hj)), nodL_pos L B k]
          congr 2
          rw [List.map_map]
          apply List.map_congr_left
          intro x hx
          exact (look_at (hl i (List.mem_cons_self ..)) (posL_lt k x hx).2).symm
      exact key _ (fun i hi => List.mem_range.1 hi)
theorem nodL_mem {L : List Int} {B k : Nat} {p x : Int} : x ∈ nodL L B k p ↔ x ≠ 0 ∧ ∃ d q, d < k ∧ q < 8 ^ d ∧ look L B d p q = x := by
  rw [nodL_pos, List.mem_filter, List.mem_map, bne_iff_ne]
  constructor
  · rintro ⟨⟨y, hy, rfl⟩, h0⟩
    exact ⟨h0, y.1, y.2, (posL_lt k y hy).1, (posL_lt k y hy).2, rfl⟩
  · rintro ⟨h0, d, q, hd, hq, rfl⟩
    exact ⟨⟨(d, q), posL_mem k d q hd hq, rfl⟩, h0⟩
theorem posL3_nodup : (posL 3).Nodup := by decide
theorem nodL_nodup {L : List Int} {B : Nat} {p : Int} (h : ∀ d q d' q', d < 3 → q < 8 ^ d → d' < 3 → q' < 8 ^ d' → look L B d p q ≠ 0 → look L B d p q = look L B d' p q' → d = d' ∧ q = q') : (nodL L B 3 p).Nodup := by
  rw [nodL_pos]
  show List.Pairwise _ _
  rw [List.pairwise_filter, List.pairwise_map]
  refine (List.Pairwise.and_mem.1 posL3_nodup).imp ?_
  rintro ⟨d, q⟩ ⟨d', q'⟩ ⟨h1, h2, hne⟩ h3 h4 e
  have p1 := posL_lt 3 _ h1
  have p2 := posL_lt 3 _ h2
  obtain ⟨rfl, rfl⟩ := h d q d' q' p1.1 p1.2 p2.1 p2.2 (by simpa using h3) e
  exact hne rfl
theorem nodL_inj {L : List Int} {B : Nat} {p : Int} (h : (nodL L B 3 p).Nodup) {d q d' q' : Nat} (hd : d < 3) (hq : q < 8 ^ d) (hd' : d' < 3) (hq' : q' < 8 ^ d') (h0 : look L B d p q ≠ 0) (e : look L B d p q = look L B d' p q') : d = d' ∧ q = q' := by
  rw [nodL_pos] at h
  change List.Pairwise _ _ at h
  rw [List.pairwise_filter, List.pairwise_map] at h
  have m1 := posL_mem 3 d q hd hq
  have m2 := posL_mem 3 d' q' hd' hq'
  obtain ⟨i, hi, e1⟩ := List.mem_iff_getElem.1 m1
  obtain ⟨j, hj, e2⟩ := List.mem_iff_getElem.1 m2
  have b1 : (look L B (d, q).1 p (d, q).2 != 0) = true := bne_iff_ne.2 h0
  have b2 : (look L B (d', q').1 p (d', q').2 != 0) = true := bne_iff_ne.2 (by show look L B d' p q' ≠ 0; rw [← e]; exact h0)
  rcases Nat.lt_trichotomy i j with g | g | g
  · have := List.pairwise_iff_getElem.1 h i j hi hj g
    rw [e1, e2] at this
    exact absurd e (this b1 b2)
  · subst g
    rw [e1] at e2
    cases e2
    exact ⟨rfl, rfl⟩
  · have := List.pairwise_iff_getElem.1 h j i hj hi g
    rw [e1, e2] at this
    exact absurd e.symm (this b2 b1)
end Go.Proofs.Ytdcggjkcbheolaa
end
section
set_option linter.unusedVariables false
set_option maxRecDepth 100000
open Go Go.Am Go.RowKit
namespace Go.Proofs.Ytdcggjkcbheolaa
open Go.Proofs.Try
/-- A sector stands under a node's place. -/
def under (l p s : Nat) : Prop := p * 8 ^ (l + 1) ≤ s ∧ s < p * 8 ^ (l + 1) + 8 ^ (l + 1)
theorem part_get {m : List Int} (hm : m.length = 512) {l p k : Nat} (hl : l < 3) (hp : p < lvN l) (hk : k < 8 ^ (l + 1)) : (part m l p)[k]? = some (m.getD (p * 8 ^ (l + 1) + k) 0) := by
  have := lv_span hl hp
  unfold part
  rw [List.getElem?_take, if_pos hk, List.getElem?_drop, List.getD_eq_getElem?_getD, List.getElem?_eq_getElem (by omega)]; rfl
theorem zr_iff {m : List Int} (hm : m.length = 512) {l p : Nat} (hl : l < 3) (hp : p < lvN l) : zrB m l p = true ↔ ∀ s, under l p s → m.getD s 0 = 0 := by
  unfold zrB
  rw [Bool.not_eq_true', List.any_eq_false]
  constructor
  · intro h s hs
    have hg := part_get hm hl hp (k := s - p * 8 ^ (l + 1)) (by have := hs.1; have := hs.2; omega)
    rw [show p * 8 ^ (l + 1) + (s - p * 8 ^ (l + 1)) = s by have := hs.1; omega] at hg
    simpa using h _ (List.mem_of_getElem? hg)
  · intro h x hx
    obtain ⟨k, hk, rfl⟩ := List.mem_iff_getElem.1 hx
    have hk2 := hk
    rw [part_len hm hl hp] at hk2
    have hg := part_get hm hl hp hk2
    rw [List.getElem?_eq_getElem hk, Option.some.injEq] at hg
    rw [hg, h _ ⟨Nat.le_add_right _ _, by omega⟩]; simp
theorem sm_iff {m o : List Int} (hm : m.length = 512) (ho : o.length = 512) {l p : Nat} (hl : l < 3) (hp : p < lvN l) : smB m o l p = true ↔ ∀ s, under l p s → m.getD s 0 = o.getD s 0 := by
  unfold smB
  rw [beq_iff_eq]
  constructor
  · intro h s hs
    have h1 := part_get hm hl hp (k := s - p * 8 ^ (l + 1)) (by have := hs.1; have := hs.2; omega)
    have h2 := part_get ho hl hp (k := s - p * 8 ^ (l + 1)) (by have := hs.1; have := hs.2; omega)
    rw [h, h2, Option.some.injEq] at h1
    rw [show p * 8 ^ (l + 1) + (s - p * 8 ^ (l + 1)) = s by have := hs.1; omega] at h1
    exact h1.symm
  · intro h
    apply List.ext_getElem?
    intro k
    by_cases hk : k < 8 ^ (l + 1)
    · rw [part_get hm hl hp hk, part_get ho hl hp hk, h _ ⟨Nat.le_add_right _ _, by omega⟩]
    · rw [List.getElem?_eq_none (by rw [part_len hm hl hp]; omega), List.getElem?_eq_none (by rw [part_len ho hl hp]; omega)]
/-- The new nodes: which, in which order. -/
theorem freP_mem (m o : List Int) {x : Nat × Nat} : x ∈ freP m o 3 0 ↔ x.1 < 3 ∧ x.2 < lvN x.1 ∧ newB m o x.1 x.2 = true := by
  unfold freP
  have e0 : (news m o 3 0).map (fun p => ((3 : Nat), p)) = [] := rfl
  rw [e0, List.append_nil, List.mem_flatMap]
  constructor
  · rintro ⟨k, hk, hx⟩
    obtain ⟨p, hp, rfl⟩ := List.mem_map.1 hx
    unfold news at hp
    rw [List.mem_filter, List.mem_range] at hp
    exact ⟨List.mem_range.1 hk, hp.1, hp.2⟩
  · rintro ⟨h1, h2, h3⟩
    refine ⟨x.1, List.mem_range.2 h1, List.mem_map.2 ⟨x.2, ?_, rfl⟩⟩
    unfold news
    rw [List.mem_filter, List.mem_range]
    exact ⟨h2, h3⟩
def befP (x y : Nat × Nat) : Prop := x.1 < y.1 ∨ (x.1 = y.1 ∧ x.2 < y.2)
theorem freP_ord (m o : List Int) : ∀ l n, List.Pairwise befP (freP m o l n) ∧ ∀ x ∈ freP m o l n, befP x (l, n) := by
  have step : ∀ l, (List.Pairwise befP (freP m o l 0) ∧ ∀ x ∈ freP m o l 0, x.1 < l) → ∀ n, List.Pairwise befP (freP m o l n) ∧ ∀ x ∈ freP m o l n, befP x (l, n) := by
    intro l hl n
    induction n with
    | zero => exact ⟨hl.1, fun x hx => .inl (hl.2 x hx)⟩
    | succ n ih =>
      rw [freP_succ]
      cases newB m o l n with
      | false =>
        rw [if_neg Bool.false_ne_true, List.append_nil]
        exact ⟨ih.1, fun x hx => (ih.2 x hx).imp id (fun g => ⟨g.1, Nat.lt_succ_of_lt g.2⟩)⟩
      | true =>
        rw [if_pos rfl]
        refine ⟨List.pairwise_append.2 ⟨ih.1, List.pairwise_singleton _ _, fun a ha b hb => ?_⟩, fun x hx => ?_⟩
        · rw [List.mem_singleton] at hb; subst hb; exact ih.2 a ha
        · rcases List.mem_append.1 hx with g | g
          · exact (ih.2 x g).imp id (fun g => ⟨g.1, Nat.lt_succ_of_lt g.2⟩)
          · rw [List.mem_singleton] at g; subst g; exact .inr ⟨rfl, Nat.lt_succ_self _⟩
  have all : ∀ l, List.Pairwise befP (freP m o l 0) ∧ ∀ x ∈ freP m o l 0, x.1 < l := by
    intro l
    induction l with
    | zero => exact ⟨List.Pairwise.nil, fun x hx => by cases hx⟩
    | succ l ih =>
      have := step l ih (lvN l)
      rw [freP_next] at this
      refine ⟨this.1, fun x hx => ?_⟩
      rcases this.2 x hx with g | g
      · exact Nat.lt_succ_of_lt g
      · have := g.1; show x.1 < l + 1; have h : x.1 = l := g.1; omega
  exact fun l n => step l (all l) n
theorem freP_lt {m o : List Int} {i j : Nat} (hi : i < (freP m o 3 0).length) (hj : j < (freP m o 3 0).length) (h : i < j) : befP (freP m o 3 0)[i] (freP m o 3 0)[j] := List.pairwise_iff_getElem.1 (freP_ord m o 3 0).1 i j hi hj h
theorem freP_inj {m o : List Int} {i j : Nat} (hi : i < (freP m o 3 0).length) (hj : j < (freP m o 3 0).length) (h : (freP m o 3 0)[i] = (freP m o 3 0)[j]) : i = j := by
  rcases Nat.lt_trichotomy i j with g | g | g
  · have := freP_lt hi hj g
    rw [h] at this
    rcases this with g | ⟨_, g⟩ <;> exact absurd g (Nat.lt_irrefl _)
  · exact g
  · have := freP_lt hj hi g
    rw [h] at this
    rcases this with g | ⟨_, g⟩ <;> exact absurd g (Nat.lt_irrefl _)
/-- The tables, step by step. -/
theorem wrS_tlen (m : List Int) (J0 : Nat → List Int) (F : List (Nat × Nat)) (at_ : List Int) : ∀ i l, ((wrS m J0 F at_ i).1 l).length = (J0 l).length
  | 0, l => rfl
  | i + 1, l => by
    show (setW _ _ _ _ l).length = _
    unfold setW
    split
    · rw [List.length_set, wrS_tlen m J0 F at_ i]
    · rw [wrS_tlen m J0 F at_ i]
theorem wrS_tab {m : List Int} {J0 : Nat → List Int} {F : List (Nat × Nat)} {at_ : List Int} (hF : ∀ i (hi : i < F.length), F[i].2 < (J0 F[i].1).length) (hinj : ∀ i j (hi : i < F.length) (hj : j < F.length), F[i] = F[j] → i = j) : ∀ i, i ≤ F.length →
    (∀ j (hj : j < F.length), j < i → ((wrS m J0 F at_ i).1 F[j].1).getD F[j].2 0 = at_.getD j 0) ∧ (∀ l q, (∀ j (hj : j < F.length), j < i → F[j] ≠ (l, q)) → ((wrS m J0 F at_ i).1 l).getD q 0 = (J0 l).getD q 0) := by
  intro i
  induction i with
  | zero => intro _; exact ⟨fun j _ h => absurd h (Nat.not_lt_zero _), fun l q _ => rfl⟩
  | succ i ih =>
    intro hi
    obtain ⟨h1, h2⟩ := ih (by omega)
    have hFi : F.getD i (0, 0) = F[i] := by rw [List.getD_eq_getElem?_getD, List.getElem?_eq_getElem (by omega)]; rfl
    have hst : ∀ l q, ((wrS m J0 F at_ (i + 1)).1 l).getD q 0 = if l = F[i].1 ∧ q = F[i].2 then at_.getD i 0 else ((wrS m J0 F at_ i).1 l).getD q 0 := by
      intro l q
      show (setW (wrS m J0 F at_ i).1 (F.getD i (0, 0)).1 (F.getD i (0, 0)).2 (at_.getD i 0) l).getD q 0 = _
      rw [hFi, setW_at _ _ _ _ (fun _ => by rw [wrS_tlen]; exact hF i (by omega))]
    refine ⟨fun j hj hji => ?_, fun l q hno => ?_⟩
    · rw [hst]
      by_cases e : j = i
      · subst e; rw [if_pos ⟨rfl, rfl⟩]
      · rw [if_neg ?_, h1 j hj (by omega)]
        rintro ⟨e1, e2⟩
        exact e (hinj j i hj (by omega) (Prod.ext e1 e2))
    · rw [hst, if_neg ?_, h2 l q (fun j hj h => hno j hj (by omega))]
      rintro ⟨e1, e2⟩
      exact hno i (by omega) (Nat.lt_succ_self _) (Prod.ext e1.symm e2.symm)
theorem wrS_out {m : List Int} {J0 : Nat → List Int} {F : List (Nat × Nat)} {at_ : List Int} : ∀ i, i ≤ F.length → ∀ j (hj : j < F.length), j < i → (wrS m J0 F at_ i).2[j]? = some ((1 : Int), at_.getD j 0, nodD F[j].1 (ptrOf m (wrS m J0 F at_ (j + 1)).1 F[j].1 F[j].2), ()) := by
  intro i
  induction i with
  | zero => intro _ j _ h; exact absurd h (Nat.not_lt_zero _)
  | succ i ih =>
    intro hi j hj hji
    have hlen := wrS_len m J0 F at_ i
    have hFi : F.getD i (0, 0) = F[i] := by rw [List.getD_eq_getElem?_getD, List.getElem?_eq_getElem (by omega)]; rfl
    show ((wrS m J0 F at_ i).2 ++ [((1 : Int), at_.getD i 0, nodD (F.getD i (0, 0)).1 (ptrOf m (wrS m J0 F at_ (i + 1)).1 (F.getD i (0, 0)).1 (F.getD i (0, 0)).2), ())])[j]? = _
    by_cases e : j < i
    · rw [List.getElem?_append_left (by omega)]
      exact ih (by omega) j hj e
    · obtain rfl : j = i := by omega
      rw [List.getElem?_append_right (by omega), hlen, Nat.sub_self, hFi]; rfl
end Go.Proofs.Ytdcggjkcbheolaa
end
section
set_option linter.unusedVariables false
set_option linter.unusedSectionVars false
set_option maxRecDepth 100000
open Go Go.Am Go.RowKit
namespace Go.Proofs.Ytdcggjkcbheolaa
open Go.Proofs.Try
/-- A new tree that is built: the table of its nodes. -/
def bldV (L : List Int) (root : Int) (m fr : List Int) (l q : Nat) : Int := ((bldW L root m fr).1 l).getD q 0
structure BP (L : List Int) (root : Int) (m fr : List Int) : Prop where
  te : treeE L root = 0
  dev : devOk L.length = true
  ml : m.length = 512
  mr : ∀ s, s < 512 → m.getD s 0 = 0 ∨ (2 ≤ m.getD s 0 ∧ m.getD s 0 < (L.length / 64 : Nat))
  need : (freN L root m).length ≤ fr.length
  f1 : ∀ i, i < fr.length → 2 ≤ fr.getD i 0 ∧ fr.getD i 0 < (L.length / 64 : Nat)
  f2 : ∀ i j, i < j → j < fr.length → fr.getD i 0 < fr.getD j 0
  f3 : ∀ i, i < fr.length → ¬ fr.getD i 0 ∈ m ∧ ¬ fr.getD i 0 ∈ treeN L root
theorem BP.of {L : List Int} {root : Int} {m fr : List Int} (h : bldE L root m fr = 0) : BP L root m fr := by
  unfold bldE at h
  split at h
  · rename_i hb
    obtain ⟨te, me, ml⟩ := beginE_ok hb
    split at h
    · rename_i hm
      split at h
      · cases h
      · rename_i hn
        have hm : mayB (L.length / 64) m (treeM L root) (treeN L root) fr = true := hm
        unfold mayB at hm
        rw [List.all_eq_true] at hm
        have hA : ∀ i, i < fr.length → mayA (L.length / 64) fr i = false ∧ mayC m (treeM L root) (treeN L root) (fr.getD i 0) = false := fun i hi => by
          have := hm i (List.mem_range.2 hi)
          rw [Bool.and_eq_true, Bool.not_eq_true', Bool.not_eq_true'] at this
          exact this
        have hA1 : ∀ i, i < fr.length → (2 ≤ fr.getD i 0 ∧ fr.getD i 0 < (L.length / 64 : Nat)) ∧ (0 < i → fr.getD (i - 1) 0 < fr.getD i 0) := fun i hi => by
          have := (hA i hi).1
          unfold mayA at this
          rw [Bool.or_eq_false_iff, Bool.or_eq_false_iff, decide_eq_false_iff_not, decide_eq_false_iff_not, Bool.and_eq_false_iff, decide_eq_false_iff_not, decide_eq_false_iff_not] at this
          omega
        refine ⟨te, (treeE_ok te).2, ml, fun s hs => ?_, ?_, fun i hi => (hA1 i hi).1, ?_, fun i hi => ?_⟩
        · unfold mapE at me
          rw [if_pos ml] at me
          split at me
          · cases me
          · rename_i ho
            rw [Bool.not_eq_true, List.any_eq_false] at ho
            have := ho (m.getD s 0) (by rw [List.getD_eq_getElem?_getD, List.getElem?_eq_getElem (by omega)]; exact List.getElem_mem _)
            unfold offMap at this
            rw [Bool.not_eq_true, Bool.and_eq_false_iff, bne_eq_false_iff_eq, Bool.or_eq_false_iff, decide_eq_false_iff_not, decide_eq_false_iff_not] at this
            omega
        · have := of_decide_eq_false (Bool.eq_false_iff.2 hn); omega
        · intro i j hij hj
          have key : ∀ d, i + 1 + d < fr.length → fr.getD i 0 < fr.getD (i + 1 + d) 0 := by
            intro d
            induction d with
            | zero => intro h; have := (hA1 (i + 1) h).2 (by omega); simpa using this
            | succ d ih =>
              intro h
              have h1 := ih (by omega)
              have h2 := (hA1 (i + 1 + (d + 1)) h).2 (by omega)
              rw [show i + 1 + (d + 1) - 1 = i + 1 + d by omega] at h2
              omega
          have := key (j - (i + 1)) (by omega)
          rwa [show i + 1 + (j - (i + 1)) = j by omega] at this
        · have := (hA i hi).2
          unfold mayC at this
          rw [Bool.or_eq_false_iff, Bool.or_eq_false_iff] at this
          exact ⟨by simpa using this.1.1, by simpa using this.2⟩
    · cases h
  · rename_i hb; exact absurd h hb
section
variable {L : List Int} {root : Int} {m fr : List Int} (bp : BP L root m fr)
include bp
theorem BP.tree : TreeIs L root (treeM L root) ∧ treeN L root = nodL L (L.length / 64) 3 root := by
  have hd := bp.dev
  unfold devOk at hd
  exact TreeIs.of (by have : L.length % 64 = 0 ∧ 4 ≤ L.length / 64 ∧ L.length / 64 ≤ 4096 := by simpa using hd
                      omega) (treeE_ok bp.te).1
theorem BP.B : L.length % 64 = 0 ∧ 4 ≤ L.length / 64 ∧ L.length / 64 ≤ 4096 := by
  have hd := bp.dev
  unfold devOk at hd
  simpa using hd
theorem BP.pos {i : Nat} (hi : i < (freN L root m).length) : (freN L root m)[i].1 < 3 ∧ (freN L root m)[i].2 < lvN (freN L root m)[i].1 ∧ newB m (treeM L root) (freN L root m)[i].1 (freN L root m)[i].2 = true := (freP_mem m (treeM L root)).1 (List.getElem_mem hi)
theorem BP.tab : (∀ j (hj : j < (freN L root m).length), bldV L root m fr (freN L root m)[j].1 (freN L root m)[j].2 = fr.getD j 0) ∧
    (∀ l q, l < 3 → q < lvN l → newB m (treeM L root) l q = false → bldV L root m fr l q = if zrB m l q then 0 else look L (L.length / 64) (2 - l) root q) := by
  have hT := wrS_tab (m := m) (J0 := isT (wasT L (L.length / 64) root) m 3 0) (F := freN L root m) (at_ := fr.take (freN L root m).length) (fun i hi => by rw [isT_len]; exact (bp.pos hi).2.1) (fun i j hi hj e => freP_inj hi hj e) (freN L root m).length (Nat.le_refl _)
  refine ⟨fun j hj => ?_, fun l q hl hq hn => ?_⟩
  · have := hT.1 j hj hj
    rw [show (fr.take (freN L root m).length).getD j 0 = fr.getD j 0 by rw [List.getD_eq_getElem?_getD, List.getElem?_take, if_pos hj, List.getD_eq_getElem?_getD]] at this
    exact this
  · have := hT.2 l q (fun j hj _ e => by
      have := (bp.pos hj).2.2
      rw [e, hn] at this
      cases this)
    refine Eq.trans this ?_
    rw [List.getD_eq_getElem?_getD, isT_get _ _ _ _ _ hq, if_pos (.inl hl)]
    show isI _ _ _ _ = _
    unfold isI
    split
    · rfl
    · unfold wasT
      rw [List.getD_eq_getElem?_getD, List.getElem?_map, List.getElem?_range hq]; rfl
theorem BP.idx {l q : Nat} (hl : l < 3) (hq : q < lvN l) (hn : newB m (treeM L root) l q = true) : ∃ j, ∃ hj : j < (freN L root m).length, (freN L root m)[j] = (l, q) := List.mem_iff_getElem.1 ((freP_mem m (treeM L root) (x := (l, q))).2 ⟨hl, hq, hn⟩)
/-- A step's node leads to what the tables tell at last. -/
theorem BP.ptr {j : Nat} (hj : j < (freN L root m).length) : ptrOf m (wrS m (isT (wasT L (L.length / 64) root) m 3 0) (freN L root m) (fr.take (freN L root m).length) (j + 1)).1 (freN L root m)[j].1 (freN L root m)[j].2 = ptrOf m (bldW L root m fr).1 (freN L root m)[j].1 (freN L root m)[j].2 := by
  have hT := wrS_tab (m := m) (J0 := isT (wasT L (L.length / 64) root) m 3 0) (F := freN L root m) (at_ := fr.take (freN L root m).length) (fun i hi => by rw [isT_len]; exact (bp.pos hi).2.1) (fun i j hi hj e => freP_inj hi hj e)
  have hN := hT (freN L root m).length (Nat.le_refl _)
  have hJ := hT (j + 1) hj
  unfold ptrOf
  by_cases h0 : (freN L root m)[j].1 = 0
  · rw [if_pos h0, if_pos h0]
  · rw [if_neg h0, if_neg h0]
    congr 2
    apply List.ext_getElem?
    intro q
    have l1 := wrS_tlen m (isT (wasT L (L.length / 64) root) m 3 0) (freN L root m) (fr.take (freN L root m).length) (j + 1) ((freN L root m)[j].1 - 1)
    have l2 : ((bldW L root m fr).1 ((freN L root m)[j].1 - 1)).length = _ := wrS_tlen m (isT (wasT L (L.length / 64) root) m 3 0) (freN L root m) (fr.take (freN L root m).length) (freN L root m).length ((freN L root m)[j].1 - 1)
    by_cases hq : q < lvN ((freN L root m)[j].1 - 1)
    · have e : ((wrS m (isT (wasT L (L.length / 64) root) m 3 0) (freN L root m) (fr.take (freN L root m).length) (j + 1)).1 ((freN L root m)[j].1 - 1)).getD q 0 = ((bldW L root m fr).1 ((freN L root m)[j].1 - 1)).getD q 0 := by
        by_cases c : ∃ k, ∃ hk : k < (freN L root m).length, (freN L root m)[k] = ((freN L root m)[j].1 - 1, q)
        · obtain ⟨k, hk, hkq⟩ := c
          have hkj : k < j := by
            rcases Nat.lt_trichotomy k j with g | g | g
            · exact g
            · subst g; have := congrArg Prod.fst hkq; simp only at this; omega
            · have := freP_lt hj hk g
              change befP (freN L root m)[j] (freN L root m)[k] at this
              rw [hkq] at this
              rcases this with g | ⟨g, _⟩
              · exact absurd g (by simp only; omega)
              · exact absurd g (by simp only; omega)
          have a1 := hJ.1 k hk (by omega)
          have a2 := hN.1 k hk hk
          rw [hkq] at a1 a2
          exact a1.trans a2.symm
        · have a1 := hJ.2 ((freN L root m)[j].1 - 1) q (fun k hk _ e => c ⟨k, hk, e⟩)
          have a2 := hN.2 ((freN L root m)[j].1 - 1) q (fun k hk _ e => c ⟨k, hk, e⟩)
          exact a1.trans a2.symm
      rw [isT_len] at l1 l2
      rw [List.getD_eq_getElem?_getD, List.getD_eq_getElem?_getD, List.getElem?_eq_getElem (by omega), List.getElem?_eq_getElem (by omega)] at e
      rw [List.getElem?_eq_getElem (by omega), List.getElem?_eq_getElem (by omega)]
      exact congrArg some e
    · rw [isT_len] at l1 l2
      rw [List.getElem?_eq_none (by omega), List.getElem?_eq_none (by omega)]
theorem BP.out {j : Nat} (hj : j < (freN L root m).length) : (bldW L root m fr).2[j]? = some ((1 : Int), fr.getD j 0, nodD (freN L root m)[j].1 (ptrOf m (bldW L root m fr).1 (freN L root m)[j].1 (freN L root m)[j].2), ()) := by
  have := wrS_out (m := m) (J0 := isT (wasT L (L.length / 64) root) m 3 0) (F := freN L root m) (at_ := fr.take (freN L root m).length) (freN L root m).length (Nat.le_refl _) j hj hj
  rw [bp.ptr hj, show (fr.take (freN L root m).length).getD j 0 = fr.getD j 0 by rw [List.getD_eq_getElem?_getD, List.getElem?_take, if_pos hj, List.getD_eq_getElem?_getD]] at this
  exact this
theorem BP.outLen : (bldW L root m fr).2.length = (freN L root m).length := wrS_len ..
end
end Go.Proofs.Ytdcggjkcbheolaa
end
section
set_option linter.unusedVariables false
set_option linter.unusedSectionVars false
set_option maxRecDepth 100000
open Go Go.Am Go.RowKit
namespace Go.Proofs.Ytdcggjkcbheolaa
open Go.Proofs.Try
/- Writes. -/
def wrOk (n : Nat) (x : IoT) : Prop := x.1 = 1 ∧ (∃ a : Nat, x.2.1 = (a : Int) ∧ (a + 1) * 64 ≤ n) ∧ x.2.2.1.length = 64 ∧ Byt x.2.2.1
theorem applyStep_wr {o : List Int} {x : IoT} {n : Nat} (h : wrOk n x) {a : Nat} (ha : x.2.1 = (a : Int)) : applyStep o x = setBlk o a x.2.2.1 := by
  unfold applyStep
  rw [h.1, ha]; rfl
theorem applyL_wr {n : Nat} : ∀ (l : List IoT) (o : List Int), (∀ x ∈ l, wrOk n x) → o.length = n → Byt o → (applyL o l).length = n ∧ Byt (applyL o l) ∧ (∀ c : Nat, (∀ x ∈ l, x.2.1 ≠ (c : Int)) → blkI (applyL o l) c = blkI o c)
  | [], o, _, h, hb => ⟨h, hb, fun _ _ => rfl⟩
  | x :: l, o, hl, h, hb => by
    have hx := hl x (List.mem_cons_self ..)
    obtain ⟨h1, ⟨a, ha, hab⟩, h3, h4⟩ := hx
    have e : applyL o (x :: l) = applyL (setBlk o a x.2.2.1) l := by
      show List.foldl _ (applyStep o x) l = _
      rw [applyStep_wr (n := n) ⟨h1, ⟨a, ha, hab⟩, h3, h4⟩ ha]; rfl
    obtain ⟨g1, g2, g3⟩ := applyL_wr l (setBlk o a x.2.2.1) (fun y hy => hl y (List.mem_cons_of_mem _ hy)) (by rw [setBlk_len (by omega) h3]; exact h) (setBlk_byt hb h4)
    rw [e]
    refine ⟨g1, g2, fun c hc => ?_⟩
    rw [g3 c (fun y hy => hc y (List.mem_cons_of_mem _ hy)), blk_set_ne (by omega) h3 ?_]
    intro e
    exact hc x (List.mem_cons_self ..) (by rw [ha, e])
theorem applyL_at {n : Nat} : ∀ (l : List IoT) (o : List Int), (∀ x ∈ l, wrOk n x) → o.length = n → Byt o → List.Pairwise (fun x y => x.2.1 ≠ y.2.1) l → ∀ x ∈ l, blkI (applyL o l) x.2.1.toNat = x.2.2.1
  | [], _, _, _, _, _, x, hx => by cases hx
  | y :: l, o, hl, h, hb, hp, x, hx => by
    obtain ⟨h1, ⟨a, ha, hab⟩, h3, h4⟩ := hl y (List.mem_cons_self ..)
    have e : applyL o (y :: l) = applyL (setBlk o a y.2.2.1) l := by
      show List.foldl _ (applyStep o y) l = _
      rw [applyStep_wr (n := n) ⟨h1, ⟨a, ha, hab⟩, h3, h4⟩ ha]; rfl
    have hl2 := fun z (hz : z ∈ l) => hl z (List.mem_cons_of_mem _ hz)
    have hlen : (setBlk o a y.2.2.1).length = n := by rw [setBlk_len (by omega) h3]; exact h
    have hbt := setBlk_byt hb h4 (i := a)
    rw [List.pairwise_cons] at hp
    rw [e]
    rcases List.mem_cons.1 hx with rfl | hx
    · rw [ha, Int.toNat_natCast, (applyL_wr l _ hl2 hlen hbt).2.2 a (fun z hz g => hp.1 z hz (by rw [g, ha])), blk_set_same (by omega) h3]
    · exact applyL_at l _ hl2 hlen hbt hp.2 x hx
theorem stepsE_wr {n : Nat} (hd : devOk n = true) {l : List IoT} (hl : l.length ≤ 1048576) (h : ∀ x ∈ l, wrOk n x) : stepsE n l = 0 := by
  unfold stepsE
  rw [hd, if_pos rfl, decide_eq_false (by omega), if_neg Bool.false_ne_true, if_neg ?_]
  rw [Bool.not_eq_true, List.any_eq_false]
  intro x hx c
  obtain ⟨h1, ⟨a, ha, hab⟩, h3, _⟩ := h x hx
  unfold ioR at c
  rw [h1, ha, h3] at c
  rw [if_pos (by rfl), decide_eq_true (show (a : Int) ≥ 0 by omega), show decide ((a : Int) < ((n / 64 : Nat) : Int)) = true from decide_eq_true (by omega)] at c
  simp at c
/- Ways through a tree. -/
theorem look_comp (L : List Int) (B : Nat) : ∀ (a b : Nat) (p : Int) (s : Nat), s < 8 ^ (a + b) → look L B (a + b) p s = look L B b (look L B a p (s / 8 ^ b)) (s % 8 ^ b)
  | 0, b, p, s, h => by
    rw [Nat.zero_add] at h ⊢
    rw [Nat.mod_eq_of_lt h]; rfl
  | a + 1, b, p, s, h => by
    have e : a + 1 + b = (a + b) + 1 := by omega
    have hp : 8 ^ (a + b) = 8 ^ b * 8 ^ a := by rw [Nat.add_comm, Nat.pow_add]
    rw [e, look_suc, look_comp L B a b _ _ (Nat.mod_lt _ (Nat.pow_pos (by decide))), look_suc]
    rw [hp, Nat.mod_mul_right_div_self, Nat.mod_mul_right_mod, Nat.div_div_eq_div_mul]
theorem okA_look {L : List Int} {B : Nat} : ∀ (k : Nat) (p : Int) (d q : Nat), okA L B k p → d < k → q < 8 ^ d → look L B d p q ≠ 0 → atIs L B (look L B d p q) ((k - 1 - d : Nat) : Int) = true
  | 0, _, _, _, _, h, _, _ => absurd h (Nat.not_lt_zero _)
  | k + 1, p, 0, q, h, _, _, h0 => okA_at h h0
  | k + 1, p, d + 1, q, h, h1, h2, h0 => by
    have hpos : 0 < 8 ^ d := Nat.pow_pos (by decide)
    rw [look_suc] at h0 ⊢
    have hi : q / 8 ^ d < 8 := by rw [Nat.div_lt_iff_lt_mul hpos]; rw [Nat.pow_succ, Nat.mul_comm] at h2; exact h2
    have := okA_look k _ d (q % 8 ^ d) (okA_child h hi) (by omega) (Nat.mod_lt _ hpos) h0
    rw [show k + 1 - 1 - (d + 1) = k - 1 - d by omega]
    exact this
theorem nod_any {L : List Int} {B : Nat} {p lv : Int} (h : atIs L B p lv = true) : ∃ i, i < 8 ∧ (ptrsL L B p).getD i 0 ≠ 0 := by
  have hp := (atIs_ne h).1
  unfold atIs at h
  rw [Bool.and_eq_true, Bool.and_eq_true, beq_iff_eq] at h
  have hv : ptrsL L B p = nPs (blkI L p.toNat) := by
    unfold ptrsL atV nodV
    rw [if_neg (by omega), if_pos h.1, if_pos h.2.1]
  have hok : nodOk (nLv (blkI L p.toNat)) (nPs (blkI L p.toNat)) = true := by
    have hc := h.2.1
    unfold nCode at hc
    split at hc
    · split at hc
      · assumption
      · cases hc
    · rename_i h1; exact absurd hc h1
  unfold nodOk at hok
  rw [Bool.and_eq_true, Bool.and_eq_true, Bool.and_eq_true] at hok
  have ha := hok.2.2.2
  unfold anyP at ha
  rw [List.any_eq_true] at ha
  obtain ⟨x, hx, hx0⟩ := ha
  obtain ⟨i, hi, rfl⟩ := List.mem_iff_getElem.1 hx
  refine ⟨i, hi, ?_⟩
  rw [hv, List.getD_eq_getElem?_getD, List.getElem?_eq_getElem hi]
  simpa using hx0
/-- Each node has a sector under it. -/
theorem okA_sec {L : List Int} {B : Nat} : ∀ (k : Nat) (p : Int), okA L B k p → p ≠ 0 → ∃ s, s < 8 ^ k ∧ look L B k p s ≠ 0
  | 0, p, _, h0 => ⟨0, by decide, h0⟩
  | k + 1, p, h, h0 => by
    obtain ⟨i, hi, hne⟩ := nod_any (okA_at h h0)
    obtain ⟨s, hs, hl⟩ := okA_sec k _ (okA_child h hi) hne
    refine ⟨i * 8 ^ k + s, ?_, by rw [look_at hi hs]; exact hl⟩
    have : i * 8 ^ k + 8 ^ k ≤ 8 ^ k * 8 := by rw [← Nat.succ_mul, Nat.mul_comm]; exact Nat.mul_le_mul_left _ hi
    rw [Nat.pow_succ]; omega
end Go.Proofs.Ytdcggjkcbheolaa
end
section
set_option linter.unusedVariables false
set_option linter.unusedSectionVars false
set_option maxRecDepth 100000
open Go Go.Am Go.RowKit
namespace Go.Proofs.Ytdcggjkcbheolaa
open Go.Proofs.Try
section
variable {L : List Int} {root : Int} {m fr : List Int} (bp : BP L root m fr)
include bp
theorem BP.o3 {s : Nat} (hs : s < 512) : (treeM L root).getD s 0 = look L (L.length / 64) 3 root s := (bp.tree.1.map s hs).symm
theorem BP.und {l q s : Nat} (hl : l < 3) (hq : q < lvN l) (hu : under l q s) : s < 512 ∧ s / 8 ^ (l + 1) = q ∧ s % 8 ^ (l + 1) = s - q * 8 ^ (l + 1) := by
  have h1 := (lv_span hl hq).1
  obtain ⟨u1, u2⟩ := hu
  have e : s = (s - q * 8 ^ (l + 1)) + q * 8 ^ (l + 1) := by omega
  have hlt : s - q * 8 ^ (l + 1) < 8 ^ (l + 1) := by omega
  have hpos : 0 < 8 ^ (l + 1) := Nat.pow_pos (by decide)
  refine ⟨by omega, ?_, ?_⟩
  · rw [e, Nat.add_mul_div_right _ _ hpos, Nat.div_eq_of_lt hlt, Nat.zero_add]
  · conv => lhs; rw [e]
    rw [Nat.add_mul_mod_self_right, Nat.mod_eq_of_lt hlt]
/-- A sector of the old tree, by the node above it. -/
theorem BP.oU {l q s : Nat} (hl : l < 3) (hq : q < lvN l) (hu : under l q s) : (treeM L root).getD s 0 = look L (L.length / 64) (l + 1) (look L (L.length / 64) (2 - l) root q) (s - q * 8 ^ (l + 1)) := by
  obtain ⟨h1, h2, h3⟩ := bp.und hl hq hu
  rw [bp.o3 h1]
  have := look_comp L (L.length / 64) (2 - l) (l + 1) root s (by rw [show 2 - l + (l + 1) = 3 by omega]; simpa using h1)
  rw [show 2 - l + (l + 1) = 3 by omega, h2, h3] at this
  exact this
/-- An old node leads to a sector. -/
theorem BP.oNe {l q : Nat} (hl : l < 3) (hq : q < lvN l) (h0 : look L (L.length / 64) (2 - l) root q ≠ 0) : ∃ s, under l q s ∧ (treeM L root).getD s 0 ≠ 0 := by
  have hq8 : q < 8 ^ (2 - l) := hq
  have hok : okA L (L.length / 64) (l + 1) (look L (L.length / 64) (2 - l) root q) := by
    intro s hs
    have key : ∀ (a b : Nat) (p : Int) (q : Nat), q < 8 ^ a → okA L (L.length / 64) (a + b) p → okA L (L.length / 64) b (look L (L.length / 64) a p q) := by
      intro a
      induction a with
      | zero => intro b p q _ h; rw [Nat.zero_add] at h; exact h
      | succ a ih =>
        intro b p q hq h
        have hpos : 0 < 8 ^ a := Nat.pow_pos (by decide)
        rw [look_suc]
        refine ih b _ _ (Nat.mod_lt _ hpos) ?_
        rw [show a + 1 + b = (a + b) + 1 by omega] at h
        exact okA_child h (by rw [Nat.div_lt_iff_lt_mul hpos]; rw [Nat.pow_succ, Nat.mul_comm] at hq; exact hq)
    have := key (2 - l) (l + 1) root q hq8 (by rw [show 2 - l + (l + 1) = 3 by omega]; exact bp.tree.1.ok)
    exact this s hs
  obtain ⟨s, hs, hne⟩ := okA_sec _ _ hok h0
  have hu : under l q (q * 8 ^ (l + 1) + s) := ⟨Nat.le_add_right _ _, by omega⟩
  refine ⟨_, hu, ?_⟩
  rw [bp.oU hl hq hu, Nat.add_sub_cancel_left]
  exact hne
theorem BP.ol : (treeM L root).length = 512 := treeM_len L root
/-- What a table tells. -/
theorem BP.val {l q : Nat} (hl : l < 3) (hq : q < lvN l) :
    (∃ j, ∃ hj : j < (freN L root m).length, (freN L root m)[j] = (l, q) ∧ bldV L root m fr l q = fr.getD j 0 ∧ zrB m l q = false) ∨
    (zrB m l q = true ∧ bldV L root m fr l q = 0) ∨
    (zrB m l q = false ∧ smB m (treeM L root) l q = true ∧ bldV L root m fr l q = look L (L.length / 64) (2 - l) root q ∧ look L (L.length / 64) (2 - l) root q ≠ 0) := by
  cases hn : newB m (treeM L root) l q with
  | true =>
    obtain ⟨j, hj, hjq⟩ := bp.idx hl hq hn
    refine .inl ⟨j, hj, hjq, ?_, ?_⟩
    · have := bp.tab.1 j hj
      rw [hjq] at this
      exact this
    · unfold newB at hn
      rw [Bool.not_eq_true', Bool.or_eq_false_iff] at hn
      exact hn.1
  | false =>
    have hv := bp.tab.2 l q hl hq hn
    unfold newB at hn
    rw [Bool.not_eq_false'] at hn
    cases hz : zrB m l q with
    | true => exact .inr (.inl ⟨rfl, by rw [hv, hz]; rfl⟩)
    | false =>
      rw [hz, Bool.false_or] at hn
      rw [hz] at hv
      refine .inr (.inr ⟨rfl, hn, hv, fun h0 => ?_⟩)
      have hall : zrB m l q = true := (zr_iff bp.ml hl hq).2 (fun s hs => by
        rw [(sm_iff bp.ml bp.ol hl hq).1 hn s hs, bp.oU hl hq hs, h0, look_zero])
      rw [hall] at hz; cases hz
theorem BP.oAt {l q : Nat} (hl : l < 3) (hq : q < lvN l) (h0 : look L (L.length / 64) (2 - l) root q ≠ 0) : atIs L (L.length / 64) (look L (L.length / 64) (2 - l) root q) (l : Int) = true := by
  have := okA_look 3 root (2 - l) q bp.tree.1.ok (by omega) hq h0
  rwa [show 3 - 1 - (2 - l) = l by omega] at this
theorem BP.rng {l q : Nat} (hl : l < 3) (hq : q < lvN l) : bldV L root m fr l q = 0 ∨ (2 ≤ bldV L root m fr l q ∧ bldV L root m fr l q < (L.length / 64 : Nat)) := by
  rcases bp.val hl hq with ⟨j, hj, _, hv, _⟩ | ⟨_, hv⟩ | ⟨_, _, hv, h0⟩
  · rw [hv]; exact .inr (bp.f1 j (Nat.lt_of_lt_of_le hj bp.need))
  · exact .inl hv
  · rw [hv]; exact .inr (atIs_ne (bp.oAt hl hq h0))
theorem BP.vne {l q : Nat} (hl : l < 3) (hq : q < lvN l) (hz : zrB m l q = false) : bldV L root m fr l q ≠ 0 := by
  rcases bp.val hl hq with ⟨j, hj, _, hv, _⟩ | ⟨hz2, _⟩ | ⟨_, _, hv, h0⟩
  · rw [hv]; have := bp.f1 j (Nat.lt_of_lt_of_le hj bp.need); omega
  · rw [hz] at hz2; cases hz2
  · rw [hv]; exact h0
/-- What stands so far down, so far along: nodes, at last sectors. -/
def bldX (L : List Int) (root : Int) (m fr : List Int) (d q : Nat) : Int := if d = 3 then m.getD q 0 else bldV L root m fr (2 - d) q
theorem BP.ptrGet {l q i : Nat} (hl : l < 3) (hq : q < lvN l) (hi : i < 8) : (ptrOf m (bldW L root m fr).1 l q)[i]? = some (bldX L root m fr (3 - l) (q * 8 + i)) := by
  unfold ptrOf bldX
  by_cases h0 : l = 0
  · subst h0
    rw [if_pos rfl, if_pos (by omega)]
    have := part_get bp.ml (l := 0) (p := q) (k := i) hl hq hi
    simpa using this
  · rw [if_neg h0, if_neg (by omega), List.getElem?_take, if_pos hi, List.getElem?_drop]
    have hlen : ((bldW L root m fr).1 (l - 1)).length = lvN (l - 1) := by
      have := wrS_tlen m (isT (wasT L (L.length / 64) root) m 3 0) (freN L root m) (fr.take (freN L root m).length) (freN L root m).length (l - 1)
      rw [isT_len] at this
      exact this
    have hup := lvN_up (by omega) hl
    unfold bldV
    rw [show 2 - (3 - l) = l - 1 by omega, List.getD_eq_getElem?_getD, List.getElem?_eq_getElem (by omega)]; rfl
theorem BP.ptrLen {l q : Nat} (hl : l < 3) (hq : q < lvN l) : (ptrOf m (bldW L root m fr).1 l q).length = 8 := by
  refine ptrOf_len bp.ml (fun k hk => ?_) hl hq
  have := wrS_tlen m (isT (wasT L (L.length / 64) root) m 3 0) (freN L root m) (fr.take (freN L root m).length) (freN L root m).length k
  rw [isT_len] at this
  exact this
theorem BP.xr {d q : Nat} (hd : d ≤ 3) (hq : q < 8 ^ d) : bldX L root m fr d q = 0 ∨ (2 ≤ bldX L root m fr d q ∧ bldX L root m fr d q < (L.length / 64 : Nat)) := by
  unfold bldX
  split
  · rename_i h; subst h; exact bp.mr q (by simpa using hq)
  · exact bp.rng (by omega) (by unfold lvN; rw [show 2 - (2 - d) = d by omega]; exact hq)
theorem BP.nok {l q : Nat} (hl : l < 3) (hq : q < lvN l) (hz : zrB m l q = false) : nodOk (l : Int) (ptrOf m (bldW L root m fr).1 l q) = true := by
  have hB := bp.B
  have hq8 : q * 8 + 7 < 8 ^ (3 - l) := by
    have : q < 8 ^ (2 - l) := hq
    rw [show 3 - l = (2 - l) + 1 by omega, Nat.pow_succ]; omega
  unfold nodOk
  rw [Bool.and_eq_true, Bool.and_eq_true, Bool.and_eq_true, decide_eq_false (show ¬ (l : Int) < 0 by omega), show decide ((l : Int) > 2) = false from decide_eq_false (by omega), List.all_eq_true]
  refine ⟨fun x hx => ?_, rfl, rfl, ?_⟩
  · obtain ⟨i, hi, rfl⟩ := List.mem_iff_getElem.1 hx
    have hi8 := hi
    rw [bp.ptrLen hl hq] at hi8
    have hg := bp.ptrGet hl hq hi8
    rw [List.getElem?_eq_getElem hi, Option.some.injEq] at hg
    rw [hg]
    have := bp.xr (d := 3 - l) (q := q * 8 + i) (by omega) (by omega)
    unfold ptrB
    rcases this with h | ⟨h1, h2⟩
    · rw [h]; rfl
    · rw [decide_eq_true (show bldX L root m fr (3 - l) (q * 8 + i) ≥ 2 from h1), decide_eq_true (show bldX L root m fr (3 - l) (q * 8 + i) < 4096 by omega)]; simp
  · -- one is not zero
    have hex : ∃ s, under l q s ∧ m.getD s 0 ≠ 0 := by
      apply Classical.byContradiction
      intro hno
      have : zrB m l q = true := (zr_iff bp.ml hl hq).2 (fun s hs => Classical.byContradiction fun g => hno ⟨s, hs, g⟩)
      rw [hz] at this; cases this
    obtain ⟨s, hs, hne⟩ := hex
    have hpos : 0 < 8 ^ l := Nat.pow_pos (by decide)
    have hp8 : 8 ^ (l + 1) = 8 ^ l * 8 := Nat.pow_succ ..
    obtain ⟨u1, u2⟩ := hs
    have hqm : q * 8 ^ (l + 1) = q * 8 * 8 ^ l := by rw [hp8, Nat.mul_comm (8 ^ l) 8, Nat.mul_assoc]
    have hi8 : s / 8 ^ l - q * 8 < 8 ∧ q * 8 ≤ s / 8 ^ l := by
      have h1 : q * 8 ≤ s / 8 ^ l := by rw [Nat.le_div_iff_mul_le hpos]; omega
      have h2 : s / 8 ^ l < q * 8 + 8 := by rw [Nat.div_lt_iff_lt_mul hpos, Nat.add_mul]; omega
      omega
    obtain ⟨i, hi⟩ : ∃ i, i = s / 8 ^ l - q * 8 := ⟨_, rfl⟩
    have hsi : s / 8 ^ l = q * 8 + i := by omega
    have hi8' : i < 8 := by omega
    have hX : bldX L root m fr (3 - l) (q * 8 + i) ≠ 0 := by
      unfold bldX
      by_cases h0 : l = 0
      · subst h0
        rw [if_pos (by omega)]
        rw [Nat.pow_zero, Nat.div_one] at hsi
        rw [← hsi]; exact hne
      · rw [if_neg (by omega), show 2 - (3 - l) = l - 1 by omega]
        have hq2 : q * 8 + i < lvN (l - 1) := by rw [lvN_up (by omega) hl]; omega
        refine bp.vne (by omega) hq2 ?_
        rw [← Bool.not_eq_true]
        intro hzz
        have := (zr_iff bp.ml (by omega) hq2).1 hzz s ?_
        · exact hne this
        · unfold under
          rw [show l - 1 + 1 = l by omega, ← hsi]
          have h1 := Nat.div_add_mod s (8 ^ l)
          have h2 := Nat.mod_lt s hpos
          rw [Nat.mul_comm] at h1
          constructor <;> omega
    have hg := bp.ptrGet hl hq hi8'
    unfold anyP
    rw [List.any_eq_true]
    exact ⟨_, List.mem_of_getElem? hg, bne_iff_ne.2 hX⟩
end
end Go.Proofs.Ytdcggjkcbheolaa
end
section
set_option linter.unusedVariables false
set_option linter.unusedSectionVars false
set_option maxRecDepth 100000
open Go Go.Am Go.RowKit
namespace Go.Proofs.Ytdcggjkcbheolaa
open Go.Proofs.Try
/-- The device with the new nodes written. -/
def newL (L : List Int) (root : Int) (m fr : List Int) : List Int := applyL L (bldW L root m fr).2
section
variable {L : List Int} {root : Int} {m fr : List Int} (bp : BP L root m fr) (hb : Byt L)
include bp
theorem BP.nodD_eq {j : Nat} (hj : j < (freN L root m).length) : nodD (freN L root m)[j].1 (ptrOf m (bldW L root m fr).1 (freN L root m)[j].1 (freN L root m)[j].2) = nodBlock ((freN L root m)[j].1 : Int) (ptrOf m (bldW L root m fr).1 (freN L root m)[j].1 (freN L root m)[j].2) := by
  obtain ⟨h1, h2, h3⟩ := bp.pos hj
  unfold newB at h3
  rw [Bool.not_eq_true', Bool.or_eq_false_iff] at h3
  unfold nodD
  rw [if_pos (bp.nok h1 h2 h3.1)]
theorem BP.wr : ∀ x ∈ (bldW L root m fr).2, wrOk L.length x := by
  intro x hx
  obtain ⟨j, hj, rfl⟩ := List.mem_iff_getElem.1 hx
  have hj2 := hj
  rw [bp.outLen] at hj2
  have ho := bp.out hj2
  rw [List.getElem?_eq_getElem hj, Option.some.injEq] at ho
  rw [ho, bp.nodD_eq hj2]
  obtain ⟨h1, h2, _⟩ := bp.pos hj2
  obtain ⟨f1, f2⟩ := bp.f1 j (Nat.lt_of_lt_of_le hj2 bp.need)
  have hB := bp.B
  have hpl := bp.ptrLen h1 h2
  obtain ⟨a, ha⟩ := Int.eq_ofNat_of_zero_le (show 0 ≤ fr.getD j 0 by omega)
  refine ⟨rfl, ⟨a, ha, ?_⟩, nodBlock_len hpl, nodBlock_byt hpl⟩
  have : a + 1 ≤ L.length / 64 := by omega
  have := Nat.mul_le_mul_right 64 this
  omega
theorem BP.stp : stepsE L.length (bldW L root m fr).2 = 0 := stepsE_wr bp.dev (by rw [bp.outLen]; have := freN_len L root m; omega) bp.wr
include hb
theorem BP.len : (newL L root m fr).length = L.length := (applyL_wr _ L bp.wr rfl hb).1
theorem BP.byt : Byt (newL L root m fr) := (applyL_wr _ L bp.wr rfl hb).2.1
/-- What is not written stays. -/
theorem BP.same {c : Int} (h0 : 0 ≤ c) (hc : ∀ j, j < (freN L root m).length → fr.getD j 0 ≠ c) : blkI (newL L root m fr) c.toNat = blkI L c.toNat := by
  refine (applyL_wr _ L bp.wr rfl hb).2.2 c.toNat (fun x hx g => ?_)
  obtain ⟨j, hj, rfl⟩ := List.mem_iff_getElem.1 hx
  have hj2 := hj
  rw [bp.outLen] at hj2
  have ho := bp.out hj2
  rw [List.getElem?_eq_getElem hj, Option.some.injEq] at ho
  rw [ho] at g
  exact hc j hj2 (by simpa using g.trans (Int.toNat_of_nonneg h0))
theorem BP.blk {j : Nat} (hj : j < (freN L root m).length) : blkI (newL L root m fr) (fr.getD j 0).toNat = nodBlock ((freN L root m)[j].1 : Int) (ptrOf m (bldW L root m fr).1 (freN L root m)[j].1 (freN L root m)[j].2) := by
  have hjo : j < (bldW L root m fr).2.length := by rw [bp.outLen]; exact hj
  have ho := bp.out hj
  rw [List.getElem?_eq_getElem hjo, Option.some.injEq] at ho
  have := applyL_at _ L bp.wr rfl hb (List.pairwise_iff_getElem.2 (fun i k hi hk hik => by
    have hi2 := hi
    have hk2 := hk
    rw [bp.outLen] at hi2 hk2
    have oi := bp.out hi2
    have ok := bp.out hk2
    rw [List.getElem?_eq_getElem hi, Option.some.injEq] at oi
    rw [List.getElem?_eq_getElem hk, Option.some.injEq] at ok
    rw [oi, ok]
    have := bp.f2 i k hik (Nat.lt_of_lt_of_le hk2 bp.need)
    show fr.getD i 0 ≠ fr.getD k 0
    omega)) _ (List.getElem_mem hjo)
  rw [ho, bp.nodD_eq hj] at this
  exact this
theorem BP.newV {j : Nat} (hj : j < (freN L root m).length) : atV (newL L root m fr) (L.length / 64) (fr.getD j 0) = (((freN L root m)[j].1 : Int), ptrOf m (bldW L root m fr).1 (freN L root m)[j].1 (freN L root m)[j].2) ∧ atIs (newL L root m fr) (L.length / 64) (fr.getD j 0) ((freN L root m)[j].1 : Int) = true := by
  obtain ⟨h1, h2, h3⟩ := bp.pos hj
  unfold newB at h3
  rw [Bool.not_eq_true', Bool.or_eq_false_iff] at h3
  have hok := bp.nok h1 h2 h3.1
  have hin := atIn_iff.2 (bp.f1 j (Nat.lt_of_lt_of_le hj bp.need))
  obtain ⟨g1, g2⟩ := nodV_back (bp.ptrLen h1 h2) hok
  have hv : atV (newL L root m fr) (L.length / 64) (fr.getD j 0) = (((freN L root m)[j].1 : Int), ptrOf m (bldW L root m fr).1 (freN L root m)[j].1 (freN L root m)[j].2) := by
    unfold atV
    rw [if_pos hin, bp.blk hb hj, g2]
  refine ⟨hv, ?_⟩
  unfold atIs
  rw [hin, hv, bp.blk hb hj, g1]
  simp
/-- An old node is as it was. -/
theorem BP.oldSame {x : Int} (hx : x ∈ treeN L root) (h0 : 0 ≤ x) : blkI (newL L root m fr) x.toNat = blkI L x.toNat := bp.same hb h0 (fun j hj e => (bp.f3 j (Nat.lt_of_lt_of_le hj bp.need)).2 (by rw [e]; exact hx))
theorem BP.oldMem {l q : Nat} (hl : l < 3) (hq : q < lvN l) (h0 : look L (L.length / 64) (2 - l) root q ≠ 0) : look L (L.length / 64) (2 - l) root q ∈ treeN L root := by
  rw [bp.tree.2]
  exact nodL_mem.2 ⟨h0, 2 - l, q, by omega, hq, rfl⟩
theorem BP.step {d q i : Nat} (hd : d < 3) (hq : q < 8 ^ d) (hi : i < 8) : (ptrsL (newL L root m fr) (L.length / 64) (bldX L root m fr d q)).getD i 0 = bldX L root m fr (d + 1) (q * 8 + i) := by
  obtain ⟨l, hl⟩ : ∃ l, l = 2 - d := ⟨_, rfl⟩
  have hl3 : l < 3 := by omega
  have hdl : d = 2 - l := by omega
  have hql : q < lvN l := by unfold lvN; rw [← hdl]; exact hq
  have hX : bldX L root m fr d q = bldV L root m fr l q := by unfold bldX; rw [if_neg (by omega), hl]
  rw [hX]
  have hq8 : q * 8 + i < 8 ^ (d + 1) := by rw [Nat.pow_succ]; omega
  -- places under it
  have hsub : ∀ s, d < 2 → under (l - 1) (q * 8 + i) s → under l q s := fun s hd2 ⟨u1, u2⟩ => by
    rw [show l - 1 + 1 = l by omega] at u1 u2
    have hp8 : 8 ^ (l + 1) = 8 ^ l * 8 := Nat.pow_succ ..
    have e1 : q * 8 ^ (l + 1) = q * 8 * 8 ^ l := by rw [hp8, Nat.mul_comm (8 ^ l) 8, Nat.mul_assoc]
    have e2 : (q * 8 + i) * 8 ^ l = q * 8 * 8 ^ l + i * 8 ^ l := Nat.add_mul ..
    have e3 : i * 8 ^ l + 8 ^ l ≤ 8 ^ l * 8 := by rw [← Nat.succ_mul, Nat.mul_comm]; exact Nat.mul_le_mul_left _ hi
    exact ⟨by omega, by omega⟩
  have hleaf : d = 2 → under l q (q * 8 + i) := fun e => by
    have : l = 0 := by omega
    subst this
    exact ⟨by simp, by simp; omega⟩
  have hXs : bldX L root m fr (d + 1) (q * 8 + i) = if d = 2 then m.getD (q * 8 + i) 0 else bldV L root m fr (l - 1) (q * 8 + i) := by
    unfold bldX
    by_cases e : d = 2
    · rw [if_pos (by omega), if_pos e]
    · rw [if_neg (by omega), if_neg e, show 2 - (d + 1) = l - 1 by omega]
  have hql1 : d < 2 → q * 8 + i < lvN (l - 1) := fun h => by rw [lvN_up (by omega) hl3]; omega
  rcases bp.val hl3 hql with ⟨j, hj, hjq, hv, hz⟩ | ⟨hz, hv⟩ | ⟨hz, hs, hv, h0⟩
  · rw [hv]
    obtain ⟨g1, _⟩ := bp.newV hb hj
    rw [hjq] at g1
    have hne := (bp.f1 j (Nat.lt_of_lt_of_le hj bp.need)).1
    unfold ptrsL
    rw [if_neg (by omega), g1]
    have := bp.ptrGet hl3 hql hi
    rw [List.getD_eq_getElem?_getD, this, show 3 - l = d + 1 by omega]; rfl
  · rw [hv]
    have : (ptrsL (newL L root m fr) (L.length / 64) 0).getD i 0 = 0 := by unfold ptrsL; rw [if_pos rfl, nz_get]
    rw [this, hXs]
    have hzz := (zr_iff bp.ml hl3 hql).1 hz
    by_cases e : d = 2
    · rw [if_pos e, hzz _ (hleaf e)]
    · rw [if_neg e]
      have hz1 : zrB m (l - 1) (q * 8 + i) = true := (zr_iff bp.ml (by omega) (hql1 (by omega))).2 (fun s hs => hzz s (hsub s (by omega) hs))
      rcases bp.val (show l - 1 < 3 by omega) (hql1 (by omega)) with ⟨_, _, _, _, hz2⟩ | ⟨_, hv2⟩ | ⟨hz2, _⟩
      · rw [hz1] at hz2; cases hz2
      · exact hv2.symm
      · rw [hz1] at hz2; cases hz2
  · rw [hv]
    have hmem := bp.oldMem hb hl3 hql h0
    have hpos2 := atIs_ne (bp.oAt hl3 hql h0)
    have hsame := bp.oldSame hb hmem (by omega)
    have hpt : ptrsL (newL L root m fr) (L.length / 64) (look L (L.length / 64) (2 - l) root q) = ptrsL L (L.length / 64) (look L (L.length / 64) (2 - l) root q) := by
      unfold ptrsL atV
      rw [hsame]
    rw [hpt]
    have hlast : (ptrsL L (L.length / 64) (look L (L.length / 64) (2 - l) root q)).getD i 0 = look L (L.length / 64) (d + 1) root (q * 8 + i) := by
      rw [look_last _ _ d root (q * 8 + i) hq8, ← hdl, show (q * 8 + i) / 8 = q by omega, show (q * 8 + i) % 8 = i by omega]
    rw [hlast, hXs]
    have hmo := (sm_iff bp.ml bp.ol hl3 hql).1 hs
    by_cases e : d = 2
    · rw [if_pos e]
      subst e
      have hlt : q * 8 + i < 512 := by simpa using hq8
      rw [hmo _ (hleaf rfl), bp.o3 hlt]
    · rw [if_neg e]
      have hsm1 : smB m (treeM L root) (l - 1) (q * 8 + i) = true := (sm_iff bp.ml bp.ol (by omega) (hql1 (by omega))).2 (fun s hs => hmo s (hsub s (by omega) hs))
      have hd1 : d + 1 = 2 - (l - 1) := by omega
      rw [hd1]
      rcases bp.val (show l - 1 < 3 by omega) (hql1 (by omega)) with ⟨j, hj, hjq, _, _⟩ | ⟨hz2, hv2⟩ | ⟨_, _, hv2, _⟩
      · have := (bp.pos hj).2.2
        rw [hjq] at this
        unfold newB at this
        simp only at this
        rw [hsm1, Bool.or_true] at this
        cases this
      · rw [hv2]
        apply Classical.byContradiction
        intro hne
        obtain ⟨s, hs, hs0⟩ := bp.oNe (show l - 1 < 3 by omega) (hql1 (by omega)) hne
        rw [← hmo s (hsub s (by omega) hs), (zr_iff bp.ml (by omega) (hql1 (by omega))).1 hz2 s hs] at hs0
        exact hs0 rfl
      · rw [hv2]
theorem BP.atx {d q : Nat} (hd : d < 3) (hq : q < 8 ^ d) (h0 : bldX L root m fr d q ≠ 0) : atIs (newL L root m fr) (L.length / 64) (bldX L root m fr d q) ((2 - d : Nat) : Int) = true := by
  obtain ⟨l, hl⟩ : ∃ l, l = 2 - d := ⟨_, rfl⟩
  have hl3 : l < 3 := by omega
  have hdl : d = 2 - l := by omega
  have hql : q < lvN l := by unfold lvN; rw [← hdl]; exact hq
  have hX : bldX L root m fr d q = bldV L root m fr l q := by unfold bldX; rw [if_neg (by omega), hl]
  rw [hX] at h0 ⊢
  rw [← hl]
  rcases bp.val hl3 hql with ⟨j, hj, hjq, hv, _⟩ | ⟨_, hv⟩ | ⟨_, _, hv, h1⟩
  · rw [hv]
    have := (bp.newV hb hj).2
    rw [hjq] at this
    exact this
  · exact absurd hv h0
  · rw [hv]
    have h2 := bp.oAt hl3 hql h1
    have hsame := bp.oldSame hb (bp.oldMem hb hl3 hql h1) (by have := atIs_ne h2; omega)
    unfold atIs atV at h2 ⊢
    rw [hsame]
    exact h2
theorem BP.root0 : bldR L root m fr = bldX L root m fr 0 0 := by
  unfold bldX
  rw [if_neg (by decide)]; rfl
theorem BP.lookx : ∀ d q, d ≤ 3 → q < 8 ^ d → look (newL L root m fr) (L.length / 64) d (bldR L root m fr) q = bldX L root m fr d q := by
  intro d
  induction d with
  | zero =>
    intro q _ hq
    have : q = 0 := by simpa using hq
    subst this
    exact bp.root0 hb
  | succ d ih =>
    intro q hd hq
    have hq2 : q / 8 < 8 ^ d := by rw [Nat.pow_succ] at hq; omega
    rw [look_last _ _ d _ q hq, ih (q / 8) (by omega) hq2, bp.step hb (by omega) hq2 (Nat.mod_lt _ (by decide)), show q / 8 * 8 + q % 8 = q by omega]
theorem BP.okx : ∀ k d q, k = 3 - d → d ≤ 3 → q < 8 ^ d → okA (newL L root m fr) (L.length / 64) k (bldX L root m fr d q) := by
  intro k
  induction k with
  | zero => intro d q _ _ _ s _; trivial
  | succ k ih =>
    intro d q hk hd hq
    refine okA_mk (fun h0 => ?_) (fun i hi => ?_)
    · have := bp.atx hb (by omega) hq h0
      rwa [show 2 - d = k by omega] at this
    · rw [bp.step hb (by omega) hq hi]
      exact ih (d + 1) (q * 8 + i) (by omega) (by omega) (by rw [Nat.pow_succ]; omega)
/-- A new tree is one: its map is what was asked for. -/
theorem BP.sem (hmo : ∀ s, s < 512 → m.getD s 0 ≠ 0 → ¬ m.getD s 0 ∈ treeN L root) : TreeIs (newL L root m fr) (bldR L root m fr) m := by
  have hlen := bp.len hb
  have hval : ∀ d q, d < 3 → q < 8 ^ d → bldX L root m fr d q ≠ 0 → (∃ j, ∃ hj : j < (freN L root m).length, (freN L root m)[j] = (2 - d, q) ∧ bldX L root m fr d q = fr.getD j 0) ∨ (bldX L root m fr d q = look L (L.length / 64) d root q ∧ bldX L root m fr d q ∈ treeN L root) := fun d q hd hq h0 => by
    have hql : q < lvN (2 - d) := by unfold lvN; rw [show 2 - (2 - d) = d by omega]; exact hq
    have hX : bldX L root m fr d q = bldV L root m fr (2 - d) q := by unfold bldX; rw [if_neg (by omega)]
    rw [hX] at h0 ⊢
    rcases bp.val (show 2 - d < 3 by omega) hql with ⟨j, hj, hjq, hv, _⟩ | ⟨_, hv⟩ | ⟨_, _, hv, h1⟩
    · exact .inl ⟨j, hj, hjq, hv⟩
    · exact absurd hv h0
    · rw [hv]
      have hmem := bp.oldMem hb (show 2 - d < 3 by omega) hql h1
      rw [show 2 - (2 - d) = d by omega] at hmem ⊢
      exact .inr ⟨rfl, hmem⟩
  refine ⟨bp.ml, ?_, ?_, fun s hs => ?_, fun s hs => ?_, fun s hs c => ?_⟩
  · rw [hlen, bp.root0 hb]
    exact bp.okx hb 3 0 0 rfl (by decide) (by decide)
  · rw [hlen]
    refine nodL_nodup (fun d q d' q' hd hq hd' hq' h0 e => ?_)
    rw [bp.lookx hb d q (by omega) hq] at h0 e
    rw [bp.lookx hb d' q' (by omega) hq'] at e
    have h0' : bldX L root m fr d' q' ≠ 0 := by rw [← e]; exact h0
    rcases hval d q hd hq h0 with ⟨j, hj, hjq, hv⟩ | ⟨hv, hm⟩
    · rcases hval d' q' hd' hq' h0' with ⟨k, hk, hkq, hv'⟩ | ⟨hv', hm'⟩
      · have hjk : j = k := by
          rw [hv, hv'] at e
          rcases Nat.lt_trichotomy j k with g | g | g
          · have := bp.f2 j k g (Nat.lt_of_lt_of_le hk bp.need); omega
          · exact g
          · have := bp.f2 k j g (Nat.lt_of_lt_of_le hj bp.need); omega
        subst hjk
        rw [hjq] at hkq
        have := (Prod.mk.inj hkq)
        exact ⟨by omega, this.2⟩
      · rw [← e, hv] at hm'
        exact absurd hm' (bp.f3 j (Nat.lt_of_lt_of_le hj bp.need)).2
    · rcases hval d' q' hd' hq' h0' with ⟨k, hk, hkq, hv'⟩ | ⟨hv', hm'⟩
      · rw [e, hv'] at hm
        exact absurd hm (bp.f3 k (Nat.lt_of_lt_of_le hk bp.need)).2
      · have hnd := bp.tree.1.nd
        rw [hv] at h0
        rw [hv, hv'] at e
        exact nodL_inj hnd hd hq hd' hq' h0 e
  · rw [hlen, bp.lookx hb 3 s (by decide) (by simpa using hs)]
    unfold bldX
    rw [if_pos rfl]
  · rw [hlen]
    rcases bp.mr s hs with h | h
    · rw [h]; have := bp.B; omega
    · exact h.2
  · rw [hlen, nodL_mem] at c
    obtain ⟨h0, d, q, hd, hq, hl⟩ := c
    rw [bp.lookx hb d q (by omega) hq] at hl
    rcases hval d q hd hq (by rw [hl]; exact h0) with ⟨j, hj, _, hv⟩ | ⟨_, hm⟩
    · have := (bp.f3 j (Nat.lt_of_lt_of_le hj bp.need)).1
      rw [← hv, hl] at this
      refine this ?_
      rw [List.getD_eq_getElem?_getD, List.getElem?_eq_getElem (by rw [bp.ml]; exact hs)]
      exact List.getElem_mem _
    · rw [hl] at hm
      exact hmo s hs h0 hm
end
end Go.Proofs.Ytdcggjkcbheolaa
end
section
set_option linter.unusedVariables false
set_option linter.unusedSectionVars false
set_option maxRecDepth 100000
open Go Go.Am Go.RowKit
namespace Go.Proofs.Ytdcggjkcbheolaa
open Go.Proofs.Try
/- Slices of pairs. -/
def p2 (l : List (Int × Int)) : List Value := l.flatMap fun c => [.int .i64 c.1, .int .i64 c.2]
/-- A map of few blocks. -/
def someS (bl : Nat) (m : List Int) (x : Int × Int) : List Int := m.set ((x.1 % 18446744073709551616).tmod 512).toNat (2 + (x.2 % 18446744073709551616).tmod ((bl : Int) - 2))
def someM (bl : Nat) (l : List (Int × Int)) : List Int := l.foldl (someS bl) (List.replicate 512 0)
end Go.Proofs.Ytdcggjkcbheolaa
end
section
set_option linter.unusedVariables false
set_option linter.unusedSectionVars false
set_option maxRecDepth 100000
open Go Go.Am Go.RowKit
namespace Go.Proofs.Ytdcggjkcbheolaa
open Go.Proofs.Try
/- How many nodes a new tree needs, and when it is built. -/
theorem news_len (m o : List Int) (l n : Nat) : (news m o l n).length ≤ n := by
  unfold news
  have := List.length_filter_le (newB m o l) (List.range n)
  rwa [List.length_range] at this
theorem freP_sum (m o : List Int) : (freP m o 3 0).length = (news m o 0 (lvN 0)).length + (news m o 1 (lvN 1)).length + (news m o 2 (lvN 2)).length := by
  unfold freP
  rw [show List.range 3 = [0, 1, 2] from rfl]
  simp only [List.flatMap_cons, List.flatMap_nil, List.length_append, List.length_map, List.length_nil]
  have := news_len m o 3 0
  omega
theorem freN_73 (L : List Int) (root : Int) (m : List Int) : (freN L root m).length ≤ 73 := by
  unfold freN
  rw [freP_sum]
  have h0 := news_len m (treeM L root) 0 (lvN 0)
  have h1 := news_len m (treeM L root) 1 (lvN 1)
  have h2 := news_len m (treeM L root) 2 (lvN 2)
  have e0 : lvN 0 = 64 := rfl
  have e1 : lvN 1 = 8 := rfl
  have e2 : lvN 2 = 1 := rfl
  omega
theorem und_div {l q s : Nat} (hl : l < 3) (hq : q < lvN l) (hu : under l q s) : s < 512 ∧ s / 8 ^ (l + 1) = q := by
  have h1 := (lv_span hl hq).1
  obtain ⟨u1, u2⟩ := hu
  refine ⟨by omega, Nat.div_eq_of_lt_le (by omega) (by rw [Nat.add_mul, Nat.one_mul]; omega)⟩
theorem mayB_true {B : Nat} {m o ns fr : List Int} (f1 : ∀ i, i < fr.length → 2 ≤ fr.getD i 0 ∧ fr.getD i 0 < (B : Int)) (f2 : ∀ i, i + 1 < fr.length → fr.getD i 0 < fr.getD (i + 1) 0)
    (f3 : ∀ i, i < fr.length → ¬ fr.getD i 0 ∈ m ∧ ¬ fr.getD i 0 ∈ o ∧ ¬ fr.getD i 0 ∈ ns) : mayB B m o ns fr = true := by
  unfold mayB
  rw [List.all_eq_true]
  intro i hi
  have hi := List.mem_range.1 hi
  obtain ⟨g1, g2⟩ := f1 i hi
  obtain ⟨c1, c2, c3⟩ := f3 i hi
  have hA : mayA B fr i = false := by
    unfold mayA
    rw [decide_eq_false (by omega), decide_eq_false (by omega), Bool.or_false, Bool.false_or]
    by_cases h0 : 0 < i
    · have := f2 (i - 1) (by omega)
      rw [show i - 1 + 1 = i by omega] at this
      rw [decide_eq_false (p := fr.getD (i - 1) 0 ≥ fr.getD i 0) (by omega), Bool.and_false]
    · rw [decide_eq_false (p := (i : Int) > 0) (by omega), Bool.false_and]
  have hC : mayC m o ns (fr.getD i 0) = false := by
    unfold mayC
    rw [Bool.eq_false_iff.2 (fun g => c1 (List.contains_iff_mem.1 g)), Bool.eq_false_iff.2 (fun g => c2 (List.contains_iff_mem.1 g)), Bool.eq_false_iff.2 (fun g => c3 (List.contains_iff_mem.1 g))]; rfl
  rw [hA, hC]; rfl
theorem mapE_zero {m : List Int} {B : Nat} (hm : m.length = 512) (h : ∀ s, s < 512 → m.getD s 0 = 0 ∨ (2 ≤ m.getD s 0 ∧ m.getD s 0 < (B : Int))) : mapE m (B : Int) = 0 := by
  unfold mapE
  rw [if_pos hm, if_neg]
  intro g
  obtain ⟨x, hx, ho⟩ := List.any_eq_true.1 g
  obtain ⟨s, hs, rfl⟩ := List.mem_iff_getElem.1 hx
  have := h s (by omega)
  rw [List.getD_eq_getElem?_getD, List.getElem?_eq_getElem hs] at this
  unfold offMap at ho
  simp at ho this
  omega
theorem begin_zero {L : List Int} {root : Int} {m : List Int} (te : treeE L root = 0) (hm : m.length = 512) (h : ∀ s, s < 512 → m.getD s 0 = 0 ∨ (2 ≤ m.getD s 0 ∧ m.getD s 0 < (L.length / 64 : Nat))) : beginE L root m = 0 := by
  unfold beginE
  rw [if_pos te, mapE_zero hm h]
theorem bldE_eq {L : List Int} {root : Int} {m fr : List Int} (te : treeE L root = 0) (hm : m.length = 512) (h : ∀ s, s < 512 → m.getD s 0 = 0 ∨ (2 ≤ m.getD s 0 ∧ m.getD s 0 < (L.length / 64 : Nat)))
    (f1 : ∀ i, i < fr.length → 2 ≤ fr.getD i 0 ∧ fr.getD i 0 < (L.length / 64 : Nat)) (f2 : ∀ i, i + 1 < fr.length → fr.getD i 0 < fr.getD (i + 1) 0)
    (f3 : ∀ i, i < fr.length → ¬ fr.getD i 0 ∈ m ∧ ¬ fr.getD i 0 ∈ treeM L root ∧ ¬ fr.getD i 0 ∈ treeN L root) : bldE L root m fr = if (fr.length : Int) < ((freN L root m).length : Nat) then 9 else 0 := by
  unfold bldE
  rw [if_pos (begin_zero te hm h), mayB_true f1 f2 f3, if_pos rfl]
  simp only [decide_eq_true_eq]
theorem TreeIs.te {L : List Int} {root : Int} {m : List Int} (t : TreeIs L root m) (hd : devOk L.length = true) : treeE L root = 0 := by
  unfold treeE
  rw [if_pos hd, if_pos t.tree.1]
theorem treeE_none {L : List Int} (hd : devOk L.length = true) : treeE L 0 = 0 ∧ treeM L 0 = List.replicate 512 0 ∧ treeN L 0 = [] := by
  refine ⟨?_, rfl, rfl⟩
  unfold treeE
  rw [if_pos hd]; rfl
section
variable {L : List Int} {root : Int} {m fr : List Int} (bp : BP L root m fr)
include bp
end
end Go.Proofs.Ytdcggjkcbheolaa
end
section
set_option linter.unusedVariables false
set_option linter.unusedSectionVars false
set_option maxRecDepth 100000
open Go Go.Am Go.RowKit
namespace Go.Proofs.Ytdcggjkcbheolaa
open Go.Proofs.Try
/- A list done in part, from its front; and two trees built one beside the other. -/
def mpd (f : Int → Int) (m : List Int) (i : Nat) : List Int := (m.take i).map f ++ m.drop i
def sh200 (x : Int) : Int := if 0 < x then x + 200 else x
def lst (n : Nat) : List Int := (List.range n).map fun (j : Nat) => (j : Int) + 2
/-- A map of blocks between 200 and 300. -/
def MapOk (m : List Int) : Prop := m.length = 512 ∧ ∀ x ∈ m, x = 0 ∨ (200 ≤ x ∧ x < 300)
def L0 : List Int := List.replicate 19200 0
def n1 (m : List Int) : Nat := (freN L0 0 m).length
def T1 (m : List Int) : List Int := newL L0 0 m (lst 198)
def r1 (m : List Int) : Int := bldR L0 0 m (lst 198)
def rs1 (m : List Int) : List Int := (lst 198).drop (n1 m)
theorem build_good {h : Heap} {iv mv av : Value} {L m fr : List Int} {root : Int} (he : bldE L root m fr = 0) (sl : Sl h iv 1 L.length (us L)) (hb : Byt L) (hm : L.length ≤ 4611686018427387904) (smv : Sl h mv 1 m.length (is m)) (sa : Sl h av 1 fr.length (is fr)) (hf : fr.length ≤ 100000) :
    RunF prog 19 [iv, .int .i64 root, mv, av] h fun v h' => Fr no h h' ∧ ∃ ov rv, v = .tuple #[.int .i64 (bldR L root m fr), ov, rv, .int .i64 0] ∧ IosR h.next h' ov (bldW L root m fr).2 ∧ Osl h.next h' rv 1 (fr.drop (freN L root m).length).length (is (fr.drop (freN L root m).length)) := by
  refine (buildTree_ok sl hb hm smv sa hf).mono ?_
  rintro v h' ⟨f, ⟨_, g⟩ | ⟨g, _⟩⟩
  · exact ⟨f, g⟩
  · exact absurd he g
theorem apply_good {h : Heap} {iv v : Value} {L m fr : List Int} {root : Int} {lo : Nat} (he : bldE L root m fr = 0) (si : Sl h iv 1 L.length (us L)) (hb : Byt L) (hL : 2 * L.length ≤ 281474976710656) (il : IosR lo h v (bldW L root m fr).2) :
    RunF prog 29 [iv, v] h fun r h' => Fr no h h' ∧ ∃ b c, h.next ≤ b ∧ r = .tuple #[.slice (some ⟨b, 0, none⟩) L.length c, .int .i64 0] ∧ Cp 1 L.length c ∧ Ow h' b (us (newL L root m fr)) := by
  have bp := BP.of he
  have hn := freN_73 L root m
  have hl := bp.outLen
  refine (devApply_ok si hL (il.ios (by omega)) (by omega)).mono ?_
  have hs := bp.stp
  rintro r h' ⟨f, ⟨_, g⟩ | ⟨g, _⟩⟩
  · exact ⟨f, g⟩
  · exact absurd hs g
end Go.Proofs.Ytdcggjkcbheolaa
end
section
set_option linter.unusedVariables false
set_option linter.unusedSectionVars false
set_option maxRecDepth 100000
open Go Go.Am Go.RowKit
namespace Go.Proofs.Ytdcggjkcbheolaa
open Go.Proofs.Try
set_option maxHeartbeats 4000000 in
theorem buildNeeds_ok {h : Heap} {iv mv : Value} {L m : List Int} {root : Int} (he : beginE L root m = 0) (sl : Sl h iv 1 L.length (us L)) (hb : Byt L) (hm : L.length ≤ 4611686018427387904) (smv : Sl h mv 1 m.length (is m)) :
    RunF prog 18 [iv, .int .i64 root, mv] h fun v h' => Fr no h h' ∧ v = .tuple #[.int .i64 ((freN L root m).length : Nat), .int .i64 0] := by
  refine RunF.walk func18 rfl rfl ?_
  refine RunC.seq (RunC.region (RunO.all rfl ?_))
  refine RunC.seq (RunC.region (RunO.part 3 rfl ?_))
  refine RunO.callD (begin_ok (root := root) sl hb hm smv) rfl rfl rfl ?_
  rintro _ h1 ⟨f1, ⟨_, kb, lo, wb, jb, fv, ov, rfl, hkb, ks, kw, kok⟩ | ⟨g, _⟩⟩
  case inr => exact absurd he g
  have hF256 := freN_len L root m
  change KW lo h1 kb iv (L.length / 64) ov mv wb jb fv (wasT L (L.length / 64) root) (isT (wasT L (L.length / 64) root) m 3 0) (freN L root m) at kw
  refine RunO.all rfl ?_
  refine RunC.seq (RunC.seq (RunC.region (RunO.all rfl (RunC.cond rfl (fun g => by cases g) (fun _ => RunC.skip ?_)))))
  refine RunC.seq (RunC.region (RunO.part 1 rfl ?_))
  refine RunO.callD (needs_ok kw hF256) rfl rfl rfl ?_
  rintro _ _ ⟨rfl, rfl⟩
  exact RunO.all rfl (RunC.ret ⟨_, rfl, f1, rfl⟩)
def m14 : List Int := (List.replicate 512 0).set 9 8
theorem m14_len : m14.length = 512 := by unfold m14; rw [List.length_set, List.length_replicate]
theorem m14_mem : ∀ x ∈ m14, x = 0 ∨ x = 8 := fun x hx => by
  rcases List.mem_or_eq_of_mem_set hx with g | g
  · exact .inl (List.eq_of_mem_replicate g)
  · exact .inr g
theorem m14_fre (L : List Int) : freN L 0 m14 = [(0, 1), (1, 0), (2, 0)] := by
  show freP m14 (List.replicate 512 0) 3 0 = _
  decide +kernel
def L14 : List Int := List.replicate 640 0
theorem L14_len : L14.length = 640 := List.length_replicate
theorem bld14 : bldE L14 0 m14 [2, 3, 4, 5] = 0 ∧ bldR L14 0 m14 [2, 3, 4, 5] = 4 ∧ beginE L14 0 m14 = 0 ∧ TreeIs (newL L14 0 m14 [2, 3, 4, 5]) 4 m14 := by
  have hd : devOk L14.length = true := by rw [L14_len]; decide
  obtain ⟨t1, t2, t3⟩ := treeE_none hd
  have hmr : ∀ s, s < 512 → m14.getD s 0 = 0 ∨ (2 ≤ m14.getD s 0 ∧ m14.getD s 0 < (L14.length / 64 : Nat)) := fun s hs => by
    have hl : s < m14.length := by rw [m14_len]; exact hs
    have : m14.getD s 0 = 0 ∨ m14.getD s 0 = 8 := by
      rw [List.getD_eq_getElem?_getD, List.getElem?_eq_getElem hl]
      exact m14_mem _ (List.getElem_mem hl)
    rw [L14_len]; omega
  have hg : ∀ i, i < 4 → ([2, 3, 4, 5] : List Int).getD i 0 = (i : Int) + 2 := fun i hi => by
    obtain rfl | rfl | rfl | rfl : i = 0 ∨ i = 1 ∨ i = 2 ∨ i = 3 := by omega
    all_goals rfl
  have he : bldE L14 0 m14 [2, 3, 4, 5] = 0 := by
    rw [bldE_eq t1 m14_len hmr (fun i hi => ?_) (fun i hi => ?_) (fun i hi => ?_), m14_fre]
    · rfl
    · have hi : i < 4 := hi
      rw [hg i hi, L14_len]; omega
    · have hi : i + 1 < 4 := hi
      rw [hg i (by omega), hg (i + 1) hi]; omega
    · have hi : i < 4 := hi
      rw [hg i hi, t2, t3]
      refine ⟨fun g => ?_, fun g => ?_, fun g => by cases g⟩
      · have := m14_mem _ g; omega
      · have := List.eq_of_mem_replicate g; omega
  have bp := BP.of he
  have hr : bldR L14 0 m14 [2, 3, 4, 5] = 4 := by
    have := bp.tab.1 2 (by rw [m14_fre]; decide)
    simp only [m14_fre] at this
    exact this
  have hT := bp.sem (byt_zeros 640) (fun s hs h0 g => by cases g)
  rw [hr] at hT
  exact ⟨he, hr, begin_zero t1 m14_len hmr, hT⟩
set_option maxHeartbeats 8000000 in
theorem wakes14_ok {h : Heap} : RunF prog 24 [] h fun v h' => v = .bool true ∧ Fr no h h' := by
  refine RunF.walk func24 rfl rfl ?_
  obtain ⟨he, hr, hbe, hT⟩ := bld14
  refine RunC.seq (RunC.region (RunO.all rfl ?_))
  refine RunC.seq (RunC.region ?_)
  refine RunO.make (m := 640) rfl rfl rfl rfl rfl rfl (Nat.le_of_ble_eq_true rfl) (by decide) rfl ?_
  rw [reps_us]
  have oi := Ow.push h (us (List.replicate 640 0))
  have f1 : Fr no h (h.push ⟨us (List.replicate 640 0), true⟩) := Fr.push _ _ _
  generalize h.push ⟨us (List.replicate 640 0), true⟩ = h1 at *
  obtain ⟨qi, hqi⟩ : ∃ q, q = h.next := ⟨_, rfl⟩
  rw [← hqi] at oi ⊢
  change Ow h1 qi (us L14) at oi
  refine RunO.all rfl ?_
  refine RunC.seq (RunC.region ?_)
  refine RunO.make (m := 512) rfl rfl rfl rfl rfl rfl (Nat.le_of_ble_eq_true rfl) (by decide) rfl ?_
  rw [reps_is]
  have hq1 := oi.1
  have om := Ow.push h1 (is (List.replicate 512 0))
  have f2 : Fr no h1 (h1.push ⟨is (List.replicate 512 0), true⟩) := Fr.push _ _ _
  replace oi := oi.fr f2 (fun g => g)
  generalize h1.push ⟨is (List.replicate 512 0), true⟩ = h2 at *
  obtain ⟨qm, hqm⟩ : ∃ q, q = h1.next := ⟨_, rfl⟩
  rw [← hqm] at om ⊢
  refine RunO.all rfl ?_
  refine RunC.seq (RunC.region (RunO.part 1 rfl ?_))
  refine RunO.index (s := 1) (k := 9) rfl rfl rfl rfl (show 9 < 512 by decide) rfl ?_
  refine RunO.store rfl rfl (store1_ow om rfl rfl rfl (by rw [is_len, List.length_replicate]; decide)) (RunO.nil ?_)
  have e : (is (List.replicate 512 (0 : Int))).set (0 + 9 * 1) (.int .i64 8) = is m14 := by
    unfold m14 is
    rw [List.map_set]
  rw [e]
  have f3 : Fr no h1 (h2.put qm (some ⟨is m14, true⟩)) := f2.trans (Fr.put (m := (· = qm)) _ (.inl rfl)) (fun j g => .inr (by omega))
  replace om : Ow (h2.put qm (some ⟨is m14, true⟩)) qm (is m14) := Ow.put _ om.1
  replace oi := oi.fr (Fr.put (m := (· = qm)) (some ⟨is m14, true⟩) (.inl rfl) : Fr (· = qm) h2 (h2.put qm (some ⟨is m14, true⟩))) (fun g => by have g : qi = qm := g; omega)
  have F3 := f1.same f3
  generalize h2.put qm (some ⟨is m14, true⟩) = h3 at *
  have sli : Sl h3 (.slice (some ⟨qi, 0, none⟩) 640 (exc 640)) 1 L14.length (us L14) := sl_own oi L14_len (Cp.exc (Nat.le_refl _)) (by decide)
  have slm : Sl h3 (.slice (some ⟨qm, 0, none⟩) 512 (exc 512)) 1 m14.length (is m14) := sl_owI om m14_len (Cp.exc (Nat.le_refl 512)) (by decide)
  refine RunC.seq (RunC.region (RunO.part 2 rfl ?_))
  refine RunO.callD (buildNeeds_ok hbe sli (byt_zeros 640) (by rw [L14_len]; decide) slm) rfl rfl rfl ?_
  rintro _ h4 ⟨f4, rfl⟩
  rw [m14_fre]
  replace sli := sli.fr0 f4
  replace slm := slm.fr0 f4
  have F4 := F3.same f4
  refine RunO.all rfl ?_
  refine RunC.seq (RunC.region (RunO.part 3 (h1 := h4.push ⟨is [2, 3, 4, 5], true⟩) rfl ?_))
  have ol := Ow.push h4 (is [2, 3, 4, 5])
  have f5 : Fr no h4 (h4.push ⟨is [2, 3, 4, 5], true⟩) := Fr.push _ _ _
  replace sli := sli.fr0 f5
  replace slm := slm.fr0 f5
  have F5 := F4.same f5
  generalize h4.push ⟨is [2, 3, 4, 5], true⟩ = h5 at *
  have sll := sl_owI (l := [2, 3, 4, 5]) (n := 4) ol rfl (Cp.exc (Nat.le_refl 4)) (by decide)
  refine RunO.callD (build_good he sli (byt_zeros 640) (by rw [L14_len]; decide) slm sll (by decide)) rfl rfl rfl ?_
  rintro _ h6 ⟨f6, ov, rv, rfl, ios, osr⟩
  have hl3 : (bldW L14 0 m14 [2, 3, 4, 5]).2.length = 3 := by rw [(BP.of he).outLen, m14_fre]; rfl
  rw [hr]
  rw [m14_fre] at osr
  replace sli := sli.fr0 f6
  replace slm := slm.fr0 f6
  have F6 := F5.same f6
  have iosk := ios.ios (by omega)
  obtain ⟨acs, slo, _⟩ := iosk
  rw [hl3] at slo
  obtain ⟨oA, oc, rfl, _, _⟩ := slo.form
  refine RunO.all rfl ?_
  refine RunC.seq (RunC.region (RunO.part 2 rfl ?_))
  refine RunO.callD (apply_good he sli (byt_zeros 640) (by rw [L14_len]; decide) ios) rfl rfl rfl ?_
  rintro _ h7 ⟨f7, b7, c7, hb7, rfl, hc7, o7⟩
  have hln := (BP.of he).len (byt_zeros 640)
  have hby := (BP.of he).byt (byt_zeros 640)
  have te := hT.te (by rw [hln, L14_len]; decide)
  have hG : mapG (newL L14 0 m14 [2, 3, 4, 5]) 4 = m14 := by unfold mapG; rw [if_pos te, hT.tree.2.1]
  generalize newL L14 0 m14 [2, 3, 4, 5] = T at *
  rw [L14_len] at hln hc7 ⊢
  have slT := sl_own o7 hln hc7 (by decide)
  replace slm := slm.fr0 f7
  replace osr := osr.sl.fr0 f7
  have F7 := F6.same f7
  refine RunO.all rfl ?_
  refine RunC.seq (RunC.region (RunO.part 2 rfl ?_))
  refine RunO.callD (treeMapS_ok (root := 4) slT hby (by omega)) rfl rfl rfl ?_
  rintro _ h8 ⟨f8, gv, rfl, osg⟩
  rw [te]
  rw [hG] at osg
  replace slm := slm.fr0 f8
  replace osr := osr.fr0 f8
  have F8 := F7.same f8
  refine RunO.all rfl ?_
  refine RunC.seq (RunC.region (RunO.part 21 rfl ?_))
  refine RunO.part 1 (h1 := h8.push ⟨is [5], true⟩) rfl ?_
  have o5 := Ow.push h8 (is [5])
  have f9 : Fr no h8 (h8.push ⟨is [5], true⟩) := Fr.push _ _ _
  replace slm := slm.fr0 f9
  replace osr := osr.fr0 f9
  have osg2 := osg.sl.fr0 f9
  have F9 := F8.same f9
  generalize h8.push ⟨is [5], true⟩ = h9 at *
  have sl5 := sl_owI (l := [5]) (n := 1) o5 rfl (Cp.exc (Nat.le_refl 1)) (by decide)
  refine RunO.callDG rfl (keepInts_ok osr sl5 (by decide)) rfl rfl rfl ?_
  rintro _ _ ⟨rfl, rfl⟩
  rw [show (([2, 3, 4, 5] : List Int).drop ([(0, 1), (1, 0), (2, 0)] : List (Nat × Nat)).length == [5]) = true from by decide]
  refine RunO.part 12 rfl ?_
  refine RunO.callDG rfl (keepInts_ok osg2 slm (by rw [m14_len]; decide)) rfl rfl rfl ?_
  rintro _ _ ⟨rfl, rfl⟩
  rw [show (m14 == m14) = true from beq_self_eq_true _]
  exact RunO.all rfl (RunC.ret ⟨_, rfl, rfl, F9⟩)
end Go.Proofs.Ytdcggjkcbheolaa
end
section
set_option linter.unusedVariables false
set_option maxRecDepth 100000
open Go Go.Am
namespace Go.Proofs.Ytdcggjkcbheolaa
open Go.Proofs.Try
/-- A superblock's cells. -/
def sc (g bl rt sz fi : Int) : List Value := [.int .i64 g, .int .i64 bl, .int .i64 rt, .int .i64 sz, .int .i64 fi]
def superOk (g bl rt sz fi : Int) : Bool :=
  ((inB g 1 1099511627776 && inB bl 4 4096) && inB sz 0 512) && ((rt == 0 || inB rt 2 (fwrap .i64 (bl - 1))) && (fi == 0 || inB fi 2 (fwrap .i64 (bl - 1))))
/-- A superblock's block. -/
def superBlock (g bl rt sz fi : Int) : List Int := makeB [87, 67, 85, 84] (layF 4 [8, 4, 4, 4, 4]) [g, bl, rt, sz, fi]
end Go.Proofs.Ytdcggjkcbheolaa
end
section
set_option linter.unusedVariables false
set_option maxRecDepth 100000
open Go Go.Am
namespace Go.Proofs.Ytdcggjkcbheolaa
open Go.Proofs.Try
def sLay : List (Nat × Nat) := layF 4 [8, 4, 4, 4, 4]
def sMag : List Int := [87, 67, 85, 84]
def sGet (l : List Int) (k s : Nat) : Int := (leGet l k s).1
/-- Why bytes are no superblock; 0: they are one. -/
def sCode (l : List Int) : Int :=
  if readB sMag sLay l = 0 then (if superOk (sGet l 4 8) (sGet l 12 4) (sGet l 16 4) (sGet l 20 4) (sGet l 24 4) then 0 else 1) else readB sMag sLay l
/-- The superblock that bytes tell, as cells. -/
def sCells (l : List Int) : List Value :=
  if sCode l = 0 then sc (sGet l 4 8) (sGet l 12 4) (sGet l 16 4) (sGet l 20 4) (sGet l 24 4) else sc 0 0 0 0 0
end Go.Proofs.Ytdcggjkcbheolaa
end
