/- Blocks: what is written is read. Nothing here names the program. -/
import Derived.Test.YtaaemamcdhebhaaBlk
namespace Go.Proofs.Ytaaemamcdhebhaa.Blk
open Go.RowKit
/-- Has each number room in its bytes? -/
def fitsB : List Nat → List Int → Bool
  | s :: ss, v :: vs => decide (0 ≤ v) && decide (v < 256 ^ s) && decide (v ≤ maxId) && fitsB ss vs
  | [], [] => true
  | _, _ => false
theorem fitsB_len : ∀ {ss : List Nat} {vs : List Int}, fitsB ss vs = true → ss.length = vs.length := by
  intro ss
  induction ss with
  | nil => intro vs h; cases vs with | nil => rfl | cons v vs => simp [fitsB] at h
  | cons s ss ih =>
    intro vs h
    cases vs with
    | nil => simp [fitsB] at h
    | cons v vs =>
      simp only [fitsB, Bool.and_eq_true] at h
      simp [ih h.2]
theorem numsB_flatB : ∀ (ss : List Nat) (vs rest : List Int), fitsB ss vs = true → numsB ss (flatB ss vs ++ rest) = vs := by
  intro ss
  induction ss with
  | nil => intro vs rest h; cases vs with | nil => rfl | cons v vs => simp [fitsB] at h
  | cons s ss ih =>
    intro vs rest h
    cases vs with
    | nil => simp [fitsB] at h
    | cons v vs =>
      simp only [fitsB, Bool.and_eq_true, decide_eq_true_eq] at h
      rw [flatB, numsB, List.append_assoc, List.take_left' (leB_len s v), List.drop_left' (leB_len s v), ih vs rest h.2, leN_leB, Int.emod_eq_of_lt h.1.1.1 h.1.1.2]
theorem fitsB_max : ∀ {ss : List Nat} {vs : List Int}, fitsB ss vs = true → vs.all (fun n => decide (n ≤ maxId)) = true := by
  intro ss
  induction ss with
  | nil => intro vs h; cases vs with | nil => rfl | cons v vs => simp [fitsB] at h
  | cons s ss ih =>
    intro vs h
    cases vs with
    | nil => simp [fitsB] at h
    | cons v vs =>
      simp only [fitsB, Bool.and_eq_true] at h
      rw [List.all_cons, h.1.2, ih h.2]; rfl
theorem flatB_mem : ∀ {ss : List Nat} {vs : List Int} {x : Int}, x ∈ flatB ss vs → 0 ≤ x ∧ x < 256 := by
  intro ss
  induction ss with
  | nil => intro vs x h; simp [flatB] at h
  | cons s ss ih =>
    intro vs x h
    cases vs with
    | nil => simp [flatB] at h
    | cons v vs =>
      rw [flatB, List.mem_append] at h
      rcases h with h | h
      · exact leB_mem h
      · exact ih h
theorem sum_good (b : List Int) (h : b.length = 60) : goodB (sealB b) = true := by
  unfold goodB sealB
  rw [List.drop_left' h, List.take_left' h, leN_leB]
  have h0 := Crc.sum0 0 b
  have h1 := Crc.sum1 0 b
  have h4 : (256 : Int) ^ 4 = 4294967296 := by decide
  rw [h4, Int.emod_eq_of_lt h0 h1]
  exact beq_self_eq_true _
section
variable {m : List Int} {ss : List Nat} {vs : List Int}
theorem blk_body_len (hm : m.length = 4) (hf : fitsB ss vs = true) : (m ++ flatB ss vs).length = 4 + ss.sum := by
  rw [List.length_append, hm, flatB_len _ _ (fitsB_len hf)]
theorem blk_pad_len (hm : m.length = 4) (hs : 4 + ss.sum ≤ 60) (hf : fitsB ss vs = true) : (padTo 60 (m ++ flatB ss vs)).length = 60 := padTo_len (by rw [blk_body_len hm hf]; exact hs)
theorem blk_len (hm : m.length = 4) (hs : 4 + ss.sum ≤ 60) (hf : fitsB ss vs = true) : (blk m ss vs).length = 64 := by
  unfold blk sealB; rw [List.length_append, blk_pad_len hm hs hf, leB_len]
theorem blk_bytes (hb : ∀ x ∈ m, 0 ≤ x ∧ x < 256) : bytesOk (blk m ss vs) = true := by
  rw [bytesOk_iff]
  intro x hx
  unfold blk sealB padTo at hx
  simp only [List.mem_append, List.mem_replicate] at hx
  rcases hx with ((h | h) | h) | h
  · exact hb x h
  · exact flatB_mem h
  · omega
  · exact leB_mem h
theorem zerosB_rep (a : List Int) (n : Nat) (rest : List Int) : zerosB (a ++ List.replicate n 0 ++ rest) a.length (a.length + n) = true := by
  unfold zerosB
  rw [List.take_left' (by simp), List.drop_left' rfl, List.all_eq_true]
  intro x hx
  rw [List.mem_replicate] at hx
  rw [hx.2]; rfl
/-- What is written is read. -/
theorem readB_blk (hm : m.length = 4) (hs : 4 + ss.sum ≤ 60) (hf : fitsB ss vs = true) : readB m ss (blk m ss vs) = (0, vs) := by
  have hl := blk_len hm hs hf
  have hb := blk_body_len hm hf
  have hp := blk_pad_len hm hs hf
  unfold readB
  rw [if_neg (by rw [hl]; simp)]
  have e1 : (blk m ss vs).take 4 = m := by
    unfold blk sealB padTo
    rw [List.append_assoc, List.append_assoc]; exact List.take_left' hm
  have e2 : goodB (blk m ss vs) = true := sum_good _ hp
  have e3 : (blk m ss vs).drop 4 = flatB ss vs ++ (List.replicate (60 - (m ++ flatB ss vs).length) 0 ++ leB 4 (Crc.sum 0 (padTo 60 (m ++ flatB ss vs)))) := by
    unfold blk sealB
    conv => lhs; rw [show padTo 60 (m ++ flatB ss vs) = (m ++ flatB ss vs) ++ List.replicate (60 - (m ++ flatB ss vs).length) 0 from rfl]
    rw [List.append_assoc, List.append_assoc, List.drop_left' hm]
    rfl
  have key : ∀ t, zerosB (padTo 60 (m ++ flatB ss vs) ++ t) (4 + ss.sum) 60 = true := fun t => by
    have := zerosB_rep (m ++ flatB ss vs) (60 - (m ++ flatB ss vs).length) t
    unfold padTo
    rw [hb, show 4 + ss.sum + (60 - (4 + ss.sum)) = 60 by omega] at this
    rw [hb]
    exact this
  have e4 : zerosB (blk m ss vs) (4 + ss.sum) 60 = true := key _
  rw [if_neg (by rw [e1]; simp), if_neg (by rw [e2]; decide), e3, numsB_flatB _ _ _ hf, fitsB_max hf, e4]
  rfl
theorem blk_inj {vs' : List Int} (hm : m.length = 4) (hs : 4 + ss.sum ≤ 60) (hf : fitsB ss vs = true) (hf' : fitsB ss vs' = true) (h : blk m ss vs = blk m ss vs') : vs = vs' := by
  have h1 := readB_blk hm hs hf
  rw [h, readB_blk hm hs hf'] at h1
  exact (congrArg Prod.snd h1).symm
end
end Go.Proofs.Ytaaemamcdhebhaa.Blk
