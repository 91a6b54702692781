/- Make: part of a calculus over an abstract machine that stands beside the model, and contracts of functions by it.
Conditions: what each theorem says of its arguments. -/
import Derived.Test.YtaaemamcdhebhaaSuper2
set_option linter.unusedVariables false
set_option maxRecDepth 100000
open Go Go.Am
namespace Go.Proofs.Ytaaemamcdhebhaa
open Go.Proofs.Try
def layI (l : List Int) (o : Nat) (x : List Int) : List Int := l.take o ++ x ++ l.drop (o + x.length)
theorem layI_us (l : List Int) (o : Nat) (x : List Int) : lay (us l) o (us x) = us (layI l o x) := by
  unfold lay layI us; simp
theorem layI_len {l : List Int} {o : Nat} {x : List Int} (h : o + x.length ≤ l.length) : (layI l o x).length = l.length := by
  unfold layI; simp; omega
def putF (l : List Int) (ps : List ((Nat × Nat) × Int)) : List Int := ps.foldl (fun l p => layI l p.1.1 (leB p.1.2 p.2)) l
theorem putF_snoc (l : List Int) (ps : List ((Nat × Nat) × Int)) (p : (Nat × Nat) × Int) : putF l (ps ++ [p]) = layI (putF l ps) p.1.1 (leB p.1.2 p.2) := by
  unfold putF; rw [List.foldl_append]; rfl
theorem putF_len : ∀ {ps : List ((Nat × Nat) × Int)} {l : List Int}, (∀ p ∈ ps, p.1.1 + p.1.2 ≤ l.length) → (putF l ps).length = l.length
  | [], l, h => rfl
  | p :: ps, l, h => by
    have h2 := h p (List.mem_cons_self ..)
    have h1 : (layI l p.1.1 (leB p.1.2 p.2)).length = l.length := layI_len (by rw [leB_len]; exact h2)
    have h3 := putF_len (ps := ps) (l := layI l p.1.1 (leB p.1.2 p.2)) (fun q hq => by rw [h1]; exact h q (List.mem_cons_of_mem _ hq))
    show (putF (layI l p.1.1 (leB p.1.2 p.2)) ps).length = _
    rw [h3, h1]
/-- The block of a magic and numbers. -/
def makeB (mb : List Int) (fl : List (Nat × Nat)) (nums : List Int) : List Int :=
  (putF (mb ++ List.replicate 60 0) (fl.zip nums)).take 60 ++ leB 4 (Crc.sum 0 ((putF (mb ++ List.replicate 60 0) (fl.zip nums)).take 60))
theorem field_part {fl : List (Nat × Nat)} {i : Nat} (h : i < fl.length) : apart prog 95 (fcs fl) (i * 2) = some (.agg ⟨[.int .i64 (fl[i].1 : Nat), .int .i64 (fl[i].2 : Nat)]⟩) := by
  show (match takeN 2 (dropN (i * 2) (fcs fl)) with | some l => some (Value.agg ⟨l⟩) | none => none) = _
  rw [takeN_eq, dropN_eq, Nat.mul_comm, fcs_drop _ _ h, if_pos (by simp)]
  rfl
theorem superMake_ok {h : Heap} {af an : Addr} {cf cn : Nat} {mg : ByteArray} {mb : List Int} {fl : List (Nat × Nat)} {nums : List Int} (hmg : strCells mg = us mb) (hmb : mb.length = 4)
    (rf : Rd h af (fcs fl)) (rn : Rd h an (is nums)) (hl : nums.length = fl.length) (hfl : ∀ f ∈ fl, f.1 + f.2 ≤ 64 ∧ f.2 ≤ 8) (hlen : fl.length ≤ 1000) :
    RunF prog 43 [.string mg, .slice (some af) fl.length cf, .slice (some an) nums.length cn] h fun v h' => ∃ b, h.next ≤ b ∧ v = .slice (some ⟨b, 0, none⟩) 64 (exc 64) ∧ Ow h' b (us (makeB mb fl nums)) ∧ Fr no h h' := by
  obtain ⟨bf, of, sf⟩ := af
  have hsf : sf = none := rf.1
  subst hsf
  obtain ⟨bn, on, sn⟩ := an
  have hsn : sn = none := rn.1
  subst hsn
  have hbf : bf < h.next := rf.2.1
  have hbn : bn < h.next := rn.2.1
  have hmg2 : mg.data.toList.length = 4 := by
    have := congrArg List.length hmg
    rw [us_len, hmb] at this
    unfold strCells at this
    rw [List.length_map] at this
    exact this
  refine RunF.walk func43 rfl rfl ?_
  refine RunC.seq (RunC.region (RunO.all rfl ?_))
  refine RunC.seq (RunC.region (RunO.all (h1 := h.push ⟨us (List.replicate 64 0), true⟩) rfl ?_))
  refine RunC.seq (RunC.region (RunO.part 2 rfl ?_))
  have ow0 : Ow (h.push ⟨us (List.replicate 64 0), true⟩) h.next (us (List.replicate 64 0)) := Ow.push _ _
  have hcp := copy_str (P := prog) (t := 24) (len := 64) (c := exc 64) (m := mg) rfl rfl ow0 (by omega) (by omega) (by rw [us_len, List.length_replicate]; omega)
  refine RunO.one rfl (v := goInt mg.data.toList.length) (E1 := upd _ 13 (goInt mg.data.toList.length)) (h1 := _) (by show acopy prog _ 24 (.slice (some ⟨h.next, 0, none⟩) 64 (exc 64)) (.string mg) = _; exact hcp) rfl ?_
  refine RunO.nil ?_
  have hz : strCells mg ++ (us (List.replicate 64 0)).drop mg.data.toList.length = us (mb ++ List.replicate 60 0) := by
    rw [hmg2, hmg]; unfold us; rw [← List.map_drop, List.map_append, List.drop_replicate]
  rw [hz]
  have f1 : Fr (fun b => h.next ≤ b) h ((h.push ⟨us (List.replicate 64 0), true⟩).put h.next (some ⟨us (mb ++ List.replicate 60 0), true⟩)) := (Fr.push _ _ _).same (Fr.put _ (.inl (Nat.le_refl _)))
  have ow1 : Ow ((h.push ⟨us (List.replicate 64 0), true⟩).put h.next (some ⟨us (mb ++ List.replicate 60 0), true⟩)) h.next (us (mb ++ List.replicate 60 0)) := Ow.put _ ow0.1
  generalize (h.push ⟨us (List.replicate 64 0), true⟩).put h.next (some ⟨us (mb ++ List.replicate 60 0), true⟩) = h1 at *
  clear ow0 hcp hz
  refine RunC.seq (RunC.seq (RunC.region (RunO.all rfl ?_)))
  refine RunC.block ?_
  have hzl : ∀ i, i ≤ fl.length → (putF (mb ++ List.replicate 60 0) ((fl.zip nums).take i)).length = 64 := fun i hi => by
    rw [putF_len]
    · simp; omega
    · intro p hp
      have h3 := (List.of_mem_zip (List.mem_of_mem_take hp)).1
      have := (hfl _ h3).1
      simp; omega
  let I : Nat → Env → Heap → Prop := fun d E h' => ∃ i : Nat, i + d = fl.length ∧ Ow h' h.next (us (putF (mb ++ List.replicate 60 0) ((fl.zip nums).take i))) ∧ Fr (fun b => h.next ≤ b) h h' ∧ Le (upd (upd (upd (upd (upd E0 2 (.slice (some ⟨bn, on, none⟩) nums.length cn)) 7 (.slice (some ⟨h.next, 0, none⟩) 64 (exc 64))) 14 (.slice (some ⟨bf, of, none⟩) fl.length cf)) 15 (.int .i64 fl.length)) 16 (.int .i64 i)) E
  refine RunC.loop I ?_ (k := fl.length) ?_
  · rintro d E h' ⟨i, hi, ow, hf, hE⟩
    refine RunC.le hE ?_
    clear hE
    refine RunC.seq (RunC.region (RunO.all rfl ?_))
    refine RunC.seq (RunC.cond rfl (fun hlt => ?_) (fun hge => ?_))
    · have hlt := of_decide_eq_true hlt
      have hlt2 : i < fl.length := by omega
      have hlt3 : i < nums.length := by omega
      refine RunC.skip ?_
      refine RunC.seq (RunC.block ?_)
      refine RunC.seq (RunC.region (RunO.part 1 rfl ?_))
      refine RunO.index (s := 2) rfl rfl rfl rfl hlt2 rfl ?_
      refine RunO.load rfl ((rf.fr hf (by show ¬ h.next ≤ bf; omega)).part (field_part hlt2)) rfl ?_
      have hfx := hfl _ (List.getElem_mem hlt2)
      have hzip : (fl.zip nums).take (i + 1) = (fl.zip nums).take i ++ [(fl[i], nums[i])] := by
        rw [List.take_succ_eq_append_getElem (by rw [List.length_zip]; omega), List.getElem_zip]
      have hzi := hzl i (by omega)
      generalize hfi : fl[i] = f at *
      obtain ⟨fa, fs⟩ := f
      refine RunO.part 2 (h1 := h'.push ⟨[.int .i64 0, .int .i64 0], true⟩) rfl ?_
      refine RunO.store rfl rfl (store_ow (s := 2) (Ow.push _ _) rfl rfl rfl (by decide)) (RunO.nil ?_)
      have ow2 : Ow ((h'.push ⟨[.int .i64 0, .int .i64 0], true⟩).put h'.next (some ⟨[.int .i64 (fa : Nat), .int .i64 (fs : Nat)], true⟩)) h'.next [.int .i64 (fa : Nat), .int .i64 (fs : Nat)] := Ow.put _ (Nat.lt_succ_self _)
      have f2 : Fr no h' ((h'.push ⟨[.int .i64 0, .int .i64 0], true⟩).put h'.next (some ⟨[.int .i64 (fa : Nat), .int .i64 (fs : Nat)], true⟩)) := (Fr.push _ _ _).trans (Fr.put (m := (· = h'.next)) _ (.inl rfl)) (fun j hj => .inr (by omega))
      refine RunC.draw0 rfl (RunO.part 2 rfl ?_)
      refine RunO.load (v := .int .i64 (fa : Nat)) rfl (ow2.all.cell1 (k := 0) rfl rfl) rfl ?_
      refine RunO.part 1 rfl ?_
      refine RunO.load (v := .int .i64 (fs : Nat)) rfl (ow2.all.cell1 (k := 1) rfl rfl) rfl ?_
      refine RunO.part 2 rfl ?_
      change RunO _ _ _ _ _ ((h'.push ⟨[.int .i64 0, .int .i64 0], true⟩).put h'.next (some ⟨[.int .i64 (fa : Nat), .int .i64 (fs : Nat)], true⟩)) _
      have owb := ow.fr f2 (fun g => g)
      have hf2 := hf.quiet f2
      generalize (h'.push ⟨[.int .i64 0, .int .i64 0], true⟩).put h'.next (some ⟨[.int .i64 (fa : Nat), .int .i64 (fs : Nat)], true⟩) = h2 at *
      refine RunO.index (s := 1) rfl rfl rfl rfl hlt3 rfl ?_
      refine RunO.load (v := .int .i64 nums[i]) rfl ((rn.fr hf2 (by show ¬ h.next ≤ bn; omega)).cell1 (k := i * 1) rfl (by rw [Nat.mul_one]; exact is_nth hlt3)) rfl ?_
      refine RunO.callD (leSet_ok (o := 0) (len := 64) (c := exc 64) (k := fa) (s := fs) (v := nums[i]) owb (by rw [us_len]; omega) hfx.2 hfx.1 (by rw [us_len]; omega)) rfl rfl rfl ?_
      rintro v h3 ⟨hf3, ow3⟩
      refine RunO.nil ?_
      refine RunC.region (RunO.all rfl ?_)
      refine ⟨d - 1, by omega, i + 1, by omega, ?_, hf2.trans hf3 (fun j hj => .inl (by omega)), ?_⟩
      · rw [hzip, putF_snoc, ← layI_us]
        rw [Nat.zero_add] at ow3
        exact ow3
      · exact Le.cons (inc64 (by omega)) (Le.cons rfl (Le.cons rfl (Le.cons rfl (Le.cons rfl (Le.nil _)))))
    · have hge := of_decide_eq_false hge
      refine RunC.exit ?_
      have hi2 : i = fl.length := by omega
      subst hi2
      have hz2 := hzl fl.length (Nat.le_refl _)
      rw [List.take_of_length_le (by rw [List.length_zip]; omega)] at ow hz2
      refine RunC.seq (RunC.region (RunO.part 1 rfl ?_))
      have hseal := crcSeal_ok (c := exc 64) ow (by omega) (by omega) (Cp.exc (by omega))
      rw [hz2] at hseal
      refine RunO.callD hseal rfl rfl rfl ?_
      rintro v h3 ⟨hf3, ow3⟩
      refine RunO.nil ?_
      refine RunC.seq (RunC.region (RunO.all rfl (RunC.ret ⟨_, rfl, h.next, Nat.le_refl _, rfl, ow3, ?_⟩)))
      exact frNo (hf.trans hf3 (fun j hj => .inl (by omega)))
  · exact ⟨0, by omega, ow1, f1, Le.cons rfl (Le.cons rfl (Le.cons rfl (Le.cons rfl (Le.cons rfl (Le.nil _)))))⟩
end Go.Proofs.Ytaaemamcdhebhaa
