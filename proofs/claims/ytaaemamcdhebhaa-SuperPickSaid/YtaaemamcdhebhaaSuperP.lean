/- SuperP: part of a calculus over an abstract machine that stands beside the model, and contracts of functions by it.
Conditions: what each theorem says of its arguments. -/
import Derived.Test.YtaaemamcdhebhaaWakes06
set_option linter.unusedVariables false
set_option maxRecDepth 100000
open Go Go.Am
namespace Go.Proofs.Ytaaemamcdhebhaa
open Go.Proofs.Try
theorem inB_iff (a lo hi : Int) : inB a lo hi = true ↔ lo ≤ a ∧ a ≤ hi := by
  unfold inB; rw [Bool.and_eq_true, decide_eq_true_iff, decide_eq_true_iff]
theorem superOk_iff (g bl rt sz fi : Int) : superOk g bl rt sz fi = true ↔ (1 ≤ g ∧ g ≤ 1099511627776) ∧ (4 ≤ bl ∧ bl ≤ 4096) ∧ (0 ≤ sz ∧ sz ≤ 512) ∧ (rt = 0 ∨ 2 ≤ rt ∧ rt ≤ bl - 1) ∧ (fi = 0 ∨ 2 ≤ fi ∧ fi ≤ bl - 1) := by
  unfold superOk
  rw [Bool.and_eq_true, Bool.and_eq_true, Bool.and_eq_true, Bool.and_eq_true, Bool.or_eq_true, Bool.or_eq_true, inB_iff, inB_iff, inB_iff, inB_iff, inB_iff, beq_iff_eq, beq_iff_eq]
  constructor
  · rintro ⟨⟨⟨h1, h2⟩, h3⟩, h4, h5⟩
    rw [fw64 (by omega) (by omega)] at h4 h5
    exact ⟨h1, h2, h3, h4, h5⟩
  · rintro ⟨h1, h2, h3, h4, h5⟩
    rw [fw64 (by omega) (by omega)]
    exact ⟨⟨⟨h1, h2⟩, h3⟩, h4, h5⟩
theorem super_fits {g bl rt sz fi : Int} (h : superOk g bl rt sz fi = true) : Fits [8, 4, 4, 4, 4] [g, bl, rt, sz, fi] := by
  rw [superOk_iff] at h
  obtain ⟨h1, h2, h3, h4, h5⟩ := h
  have e8 : (256 : Int) ^ 8 = 18446744073709551616 := by decide
  have e4 : (256 : Int) ^ 4 = 4294967296 := by decide
  refine ⟨⟨by omega, by rw [e8]; omega, by omega⟩, ⟨by omega, by rw [e4]; omega, by omega⟩, ⟨by omega, by rw [e4]; omega, by omega⟩, ⟨by omega, by rw [e4]; omega, by omega⟩, ⟨by omega, by rw [e4]; omega, by omega⟩, trivial⟩
theorem superBlock_len (g bl rt sz fi : Int) : (superBlock g bl rt sz fi).length = 64 := makeB_len rfl rfl (by decide)
theorem superBlock_byt (g bl rt sz fi : Int) : Byt (superBlock g bl rt sz fi) := makeB_byt (by unfold Byt; decide) rfl rfl (by decide)
/-- What is written is read. -/
theorem super_back {g bl rt sz fi : Int} (h : superOk g bl rt sz fi = true) : sCode (superBlock g bl rt sz fi) = 0 ∧ sVal (superBlock g bl rt sz fi) = (g, bl, rt, sz, fi) := by
  obtain ⟨h1, h2⟩ := read_make (mb := [87, 67, 85, 84]) rfl (super_fits h) (by decide)
  have h1 : readB sMag sLay (superBlock g bl rt sz fi) = 0 := h1
  have h2 : [sGet (superBlock g bl rt sz fi) 4 8, sGet (superBlock g bl rt sz fi) 12 4, sGet (superBlock g bl rt sz fi) 16 4, sGet (superBlock g bl rt sz fi) 20 4, sGet (superBlock g bl rt sz fi) 24 4] = [g, bl, rt, sz, fi] := h2
  simp only [List.cons.injEq, and_true] at h2
  obtain ⟨e0, e1, e2, e3, e4⟩ := h2
  have hc : sCode (superBlock g bl rt sz fi) = 0 := by
    unfold sCode
    rw [if_pos h1, e0, e1, e2, e3, e4, h]; rfl
  refine ⟨hc, ?_⟩
  unfold sVal
  rw [if_pos hc, e0, e1, e2, e3, e4]
theorem rep_blk (n i : Nat) (h : (i + 1) * 64 ≤ n) : blkI (List.replicate n 0) i = List.replicate 64 0 := by
  unfold blkI
  rw [List.drop_replicate, List.take_replicate]
  congr 1; omega
theorem sCode_zeros : sCode (List.replicate 64 0) = 4 := by
  have h : readB sMag sLay (List.replicate 64 0) = 4 := by
    unfold readB
    rw [if_neg (by simp), if_pos (by decide)]
  unfold sCode
  rw [h]; rfl
theorem pick_zeros : pickCode (List.replicate 256 0) = 8 := by
  have h : pickS (List.replicate 256 0) = ((0, 0, 0, 0, 0), 0, false) := by
    unfold pickS
    rw [show List.range 2 = [0, 1] by decide]
    simp only [List.foldl]
    unfold pickStep
    rw [rep_blk 256 0 (by decide), rep_blk 256 1 (by decide), sCode_zeros]
    rfl
  unfold pickCode
  rw [h]; rfl
theorem wakes06_ok {h : Heap} : RunF prog 40 [] h fun v h' => v = .bool true ∧ Fr no h h' := by
  refine RunF.walk func40 rfl rfl ?_
  refine RunC.seq (RunC.region (RunO.all rfl ?_))
  refine RunC.seq (RunC.region (RunO.part 2 (h1 := h.push ⟨sc 0 0 0 0 0, true⟩) rfl ?_))
  refine RunO.store rfl rfl (store_ow (s := 5) (Ow.push h (sc 0 0 0 0 0)) rfl rfl rfl (by decide)) (RunO.nil ?_)
  change RunC _ _ _ _ ((h.push ⟨sc 0 0 0 0 0, true⟩).put h.next (some ⟨sc 5 4 0 3 0, true⟩)) _ _ _
  have ow1 : Ow ((h.push ⟨sc 0 0 0 0 0, true⟩).put h.next (some ⟨sc 5 4 0 3 0, true⟩)) h.next (sc 5 4 0 3 0) := Ow.put _ (Nat.lt_succ_self _)
  have f1 : Fr no h ((h.push ⟨sc 0 0 0 0 0, true⟩).put h.next (some ⟨sc 5 4 0 3 0, true⟩)) := (Fr.push _ _ _).trans (Fr.put (m := (· = h.next)) _ (.inl rfl)) (fun j hj => .inr (by omega))
  generalize (h.push ⟨sc 0 0 0 0 0, true⟩).put h.next (some ⟨sc 5 4 0 3 0, true⟩) = h1 at *
  generalize h.next = p1 at *
  refine RunC.seq (RunC.region ?_)
  refine RunO.load (v := .agg ⟨sc 5 4 0 3 0⟩) rfl (ow1.all.part (k := 0) rfl) rfl ?_
  refine RunO.callD superBytes_ok rfl rfl rfl ?_
  rintro v h2 ⟨f2, hv⟩
  have hok : superOk 5 4 0 3 0 = true := by decide
  rcases hv with ⟨_, b, hb, rfl, ob⟩ | ⟨hno, _⟩
  case inr => rw [hok] at hno; cases hno
  have ow2 := ow1.fr f2 (fun g => g)
  have f12 := f1.same f2
  refine RunO.all rfl ?_
  have hback := super_back hok
  refine RunC.seq (RunC.region (RunO.part 1 rfl ?_))
  have hparse := superParse_ok (h := h2) (A := some ⟨b, 0, none⟩) (c := exc 64) (l := superBlock 5 4 0 3 0) (fun _ => ⟨_, rfl, ob.all⟩) (superBlock_byt _ _ _ _ _) (Cp.exc (by rw [superBlock_len]; exact Nat.le_refl _))
  rw [superBlock_len] at hparse
  refine RunO.callD hparse rfl rfl rfl ?_
  rintro v h3 ⟨rfl, f3⟩
  rw [sCells_eq, hback.1, hback.2]
  have ow3 := ow2.fr f3 (fun g => g)
  have f13 := f12.same f3
  refine RunO.part 4 (h1 := h3.push ⟨sc 0 0 0 0 0, true⟩) rfl ?_
  refine RunO.store rfl rfl (store_ow (s := 5) (Ow.push h3 (sc 0 0 0 0 0)) rfl rfl rfl (by decide)) ?_
  refine RunO.all rfl ?_
  change RunC _ _ _ _ ((h3.push ⟨sc 0 0 0 0 0, true⟩).put h3.next (some ⟨sc 5 4 0 3 0, true⟩)) _ _ _
  have ow4 : Ow ((h3.push ⟨sc 0 0 0 0 0, true⟩).put h3.next (some ⟨sc 5 4 0 3 0, true⟩)) h3.next (sc 5 4 0 3 0) := Ow.put _ (Nat.lt_succ_self _)
  have f4 : Fr no h3 ((h3.push ⟨sc 0 0 0 0 0, true⟩).put h3.next (some ⟨sc 5 4 0 3 0, true⟩)) := (Fr.push _ _ _).trans (Fr.put (m := (· = h3.next)) _ (.inl rfl)) (fun j hj => .inr (by omega))
  generalize (h3.push ⟨sc 0 0 0 0 0, true⟩).put h3.next (some ⟨sc 5 4 0 3 0, true⟩) = h4 at *
  generalize h3.next = p3 at *
  have ow14 := ow3.fr f4 (fun g => g)
  have f14 := f13.same f4
  refine RunC.seq (RunC.region (RunO.part 1 (h1 := h4.push ⟨us (List.replicate 256 0), true⟩) rfl ?_))
  have oz := Ow.push h4 (us (List.replicate 256 0))
  have f5 : Fr no h4 (h4.push ⟨us (List.replicate 256 0), true⟩) := Fr.push _ _ _
  generalize h4.push ⟨us (List.replicate 256 0), true⟩ = h5 at *
  have ow15 := ow14.fr f5 (fun g => g)
  have ow45 := ow4.fr f5 (fun g => g)
  have f15 := f14.same f5
  have hpick := superPick_ok (h := h5) (A := some ⟨h4.next, 0, none⟩) (c := exc 256) (l := List.replicate 256 0) (fun _ => ⟨_, rfl, oz.all⟩) (byt_rep _) (Cp.exc (by rw [List.length_replicate]; exact Nat.le_refl _)) (by rw [List.length_replicate]; omega)
  rw [List.length_replicate, pick_zeros] at hpick
  generalize h4.next = p4 at *
  refine RunO.callD hpick rfl rfl rfl ?_
  rintro v h6 ⟨rfl, f6⟩
  have ow16 := ow15.fr f6 (fun g => g)
  have ow46 := ow45.fr f6 (fun g => g)
  have f16 := f15.same f6
  refine RunO.part 5 (h1 := h6.push ⟨sc 0 0 0 0 0, true⟩) rfl ?_
  refine RunO.store rfl rfl (store_ow (s := 5) (Ow.push h6 (sc 0 0 0 0 0)) rfl rfl rfl (by decide)) ?_
  refine RunO.all rfl ?_
  have f7 : Fr no h6 ((h6.push ⟨sc 0 0 0 0 0, true⟩).put h6.next (some ⟨sc 0 0 0 0 0, true⟩)) := (Fr.push _ _ _).trans (Fr.put (m := (· = h6.next)) _ (.inl rfl)) (fun j hj => .inr (by omega))
  change RunC _ _ _ _ ((h6.push ⟨sc 0 0 0 0 0, true⟩).put h6.next (some ⟨sc 0 0 0 0 0, true⟩)) _ _ _
  generalize (h6.push ⟨sc 0 0 0 0 0, true⟩).put h6.next (some ⟨sc 0 0 0 0 0, true⟩) = h7 at *
  have ow17 := ow16.fr f7 (fun g => g)
  have ow47 := ow46.fr f7 (fun g => g)
  have f17 := f16.same f7
  refine RunC.seq (RunC.region (RunO.part 12 rfl ?_))
  refine RunO.loadG (v := .agg ⟨sc 5 4 0 3 0⟩) rfl rfl (ow47.all.part (k := 0) rfl) rfl ?_
  refine RunO.loadG (v := .agg ⟨sc 5 4 0 3 0⟩) rfl rfl (ow17.all.part (k := 0) rfl) rfl ?_
  refine RunO.oneG (v := .bool true) (E1 := upd _ 40 (.bool true)) (h1 := h7) rfl (by show pureR h7 (abinop prog .eql 56 (.agg ⟨sc 5 4 0 3 0⟩) (.agg ⟨sc 5 4 0 3 0⟩)) = _; rw [super_eq]; rfl) rfl ?_
  refine RunO.part 7 rfl ?_
  refine RunO.callDG rfl (superCheck_ok (g := 0) (bl := 0) (rt := 0) (sz := 0) (fi := 0)) rfl rfl rfl ?_
  rintro v h8 ⟨rfl, f8⟩
  rw [show (if superOk 0 0 0 0 0 then (0 : Int) else 1) = 1 by decide]
  refine RunO.all rfl (RunC.ret ⟨_, rfl, rfl, f17.same f8⟩)
end Go.Proofs.Ytaaemamcdhebhaa
