/- FsckTrees: a calculus over an abstract machine that stands beside the model, and contracts of functions by it (part 7).
Conditions: what each theorem says of its arguments. -/
import Derived.Test.YtnokcbenpnmnbaaGFsckTrees6
section
set_option linter.unusedVariables false
set_option linter.unusedSectionVars false
set_option maxRecDepth 100000
open Go Go.Am Go.RowKit
namespace Go.Proofs.Ytnokcbenpnmnbaa
open Go.Proofs.Try
def sbIo (rt sz fi : Int) : IoT := ((1 : Int), (0 : Int), superBlock 3 20 rt sz fi, ())
def r9 : R8 := ⟨0, 9, 0, 0, 0, 0, 0, 0⟩
def rIo : IoT := ((1 : Int), (15 : Int), r8B r9, ())
def ftX (A s : Nat) (rt sz fi : Int) (W : List IoT) : List Int := applyL (chain 20 A s 15) (W ++ [sbIo rt sz fi])
def wantF (x : Int × Int) : List (Int × Int) := if x.2 = 0 then [] else [x]
structure FtC (A s : Nat) (rt sz fi : Int) (W : List IoT) (want : List (Int × Int)) : Prop where
  ok : superOk 3 20 rt sz fi = true
  wr : ∀ x ∈ W ++ [sbIo rt sz fi], wrG 1280 x
  st : stepsE 1280 (W ++ [sbIo rt sz fi]) = 0
  len : (ftX A s rt sz fi W).length = 1280
  byt : Byt (ftX A s rt sz fi W)
  want : want = wantF (lk (ftX A s rt sz fi W))
  few : W.length ≤ 1
theorem r9_ok : r8Ok r9 = true := by decide
section
variable {A s : Nat} (h2 : 2 ≤ A) (h6 : A ≤ 6) (hs : s < 512)
include h2 h6 hs
/-- The parts that all four have. -/
theorem ft_base {rt sz fi : Int} {W : List IoT} (ok : superOk 3 20 rt sz fi = true) (hW : W = [] ∨ W = [rIo]) :
    (∀ x ∈ W ++ [sbIo rt sz fi], wrG 1280 x) ∧ List.Pairwise (fun x y : IoT => x.2.1 ≠ y.2.1) (W ++ [sbIo rt sz fi]) ∧ (∀ x ∈ W ++ [sbIo rt sz fi], x.2.1 < (A : Int) ∨ (A : Int) + 3 ≤ x.2.1) ∧ (∀ x ∈ W ++ [sbIo rt sz fi], x.2.1 ≠ 1) := by
  have hsb : wrG 1280 (sbIo rt sz fi) := wr_one (a := 0) (by decide) (superBlock_len ..) (superBlock_byt _ _ _ _ _)
  have hrb : wrG 1280 rIo := wr_one (a := 15) (by decide) (r8B_len _) (r8B_byt _)
  rcases hW with rfl | rfl
  · rw [List.nil_append]
    refine ⟨fun x hx => ?_, List.pairwise_singleton _ _, fun x hx => ?_, fun x hx => ?_⟩
    · rw [List.mem_singleton] at hx; rw [hx]; exact hsb
    · rw [List.mem_singleton] at hx; rw [hx]; exact .inl (by show (0 : Int) < A; omega)
    · rw [List.mem_singleton] at hx; rw [hx]; show (0 : Int) ≠ 1; decide
  · refine ⟨fun x hx => ?_, ?_, fun x hx => ?_, fun x hx => ?_⟩
    · rcases List.mem_cons.1 hx with rfl | hx
      · exact hrb
      · have hx : x ∈ [sbIo rt sz fi] := hx; rw [List.mem_singleton] at hx; rw [hx]; exact hsb
    · refine List.pairwise_cons.2 ⟨fun y hy => ?_, List.pairwise_singleton _ _⟩
      have hy : y ∈ [sbIo rt sz fi] := hy; rw [List.mem_singleton] at hy; rw [hy]; show (15 : Int) ≠ 0; decide
    · rcases List.mem_cons.1 hx with rfl | hx
      · exact .inr (by show (A : Int) + 3 ≤ 15; omega)
      · have hx : x ∈ [sbIo rt sz fi] := hx; rw [List.mem_singleton] at hx; rw [hx]; exact .inl (by show (0 : Int) < A; omega)
    · rcases List.mem_cons.1 hx with rfl | hx
      · show (15 : Int) ≠ 1; decide
      · have hx : x ∈ [sbIo rt sz fi] := hx; rw [List.mem_singleton] at hx; rw [hx]; show (0 : Int) ≠ 1; decide
theorem ft_mk {rt sz fi : Int} {W : List IoT} {want : List (Int × Int)} (ok : superOk 3 20 rt sz fi = true) (hW : W = [] ∨ W = [rIo]) (hw : (ftX A s rt sz fi W).length = 20 * 64 → pickS (ftX A s rt sz fi W) = ((3, 20, rt, sz, fi), 0, true) → blkI (ftX A s rt sz fi W) (A + 2) = nodBlock ((2 : Nat) : Int) (oneP (s / 8 ^ 2 % 8) ((A + 1 : Nat) : Int)) → blkI (ftX A s rt sz fi W) (A + 1) = nodBlock ((1 : Nat) : Int) (oneP (s / 8 ^ 1 % 8) ((A : Nat) : Int)) → blkI (ftX A s rt sz fi W) A = nodBlock ((0 : Nat) : Int) (oneP (s / 8 ^ 0 % 8) 15) → want = wantF (lk (ftX A s rt sz fi W))) : FtC A s rt sz fi W want := by
  obtain ⟨b1, b2, b3, b4⟩ := ft_base (A := A) h2 h6 hs ok hW
  have hl := chX_len (s := s) (D := 15) h2 h6 b1 b2 b3
  have hm : sbIo rt sz fi ∈ W ++ [sbIo rt sz fi] := List.mem_append.2 (.inr (List.mem_singleton.2 rfl))
  refine ⟨ok, b1, stE_w (n := 1280) (by decide) (by rcases hW with rfl | rfl <;> exact Nat.le_of_ble_eq_true rfl) b1, hl, chX_byt (s := s) (D := 15) h2 h6 b1 b2 b3, ?_, by rcases hW with rfl | rfl <;> decide⟩
  exact hw hl (chX_pick (s := s) (D := 15) h2 h6 b1 b2 b3 ok hm b4) (chX_b2 h2 h6 b1 b2 b3) (chX_b1 h2 h6 b1 b2 b3) (chX_b0 h2 h6 b1 b2 b3)
theorem ft0 : FtC A s (A : Int) 512 0 [] [((A : Int), 6)] := by
  refine ft_mk h2 h6 hs ((superOk_iff _ _ _ _ _).2 ⟨by omega, by omega, by omega, .inr (by omega), .inl rfl⟩) (.inl rfl) (fun hl hp b2 b1 b0 => ?_)
  generalize ftX A s (A : Int) 512 0 [] = X at *
  have hS : lkS X = (3, 20, (A : Int), 512, 0) := by unfold lkS; rw [hp]
  have hF : lkF X = ([], [], 0, 0) := by unfold lkF; rw [hS]; exact fol_none X
  have hdv : devOk X.length = true := by rw [hl]; exact devOk_mul (by decide) (by decide)
  have hok : treeOk X (A : Int) = false := by
    cases e : treeOk X (A : Int) with
    | false => rfl
    | true =>
      exfalso
      have hB : X.length / 64 = 20 := by rw [hl]
      obtain ⟨t, _⟩ := TreeIs.of (by omega) e
      have h := okA_at t.ok (show (A : Int) ≠ 0 by omega)
      unfold atIs at h
      rw [Bool.and_eq_true, Bool.and_eq_true, beq_iff_eq, beq_iff_eq] at h
      have h3 := h.2.2
      unfold atV at h3
      rw [atIn_iff.2 ⟨by omega, by rw [hB]; omega⟩, Int.toNat_natCast] at h3
      have h3 : (nodV (blkI X A)).1 = ((2 : Nat) : Int) := h3
      rw [b0, (nodV_block (by decide) (Nat.mod_lt _ (by decide)) (by decide) (by decide)).2] at h3
      cases h3
  have hlk : lk X = ((A : Int), 6) := by
    unfold lk
    rw [hdv, hp, hF, if_pos rfl, if_pos rfl, if_pos rfl]
    unfold lkM
    have hR : lkR X = [((A : Int), 512)] := by unfold lkR; rw [hF, hS]; rfl
    have hX : lkX X ((A : Int), 512) = true := by
      unfold lkX
      rw [hok]; rfl
    rw [hR, List.find?_cons_of_pos hX]
  rw [hlk]; rfl
theorem ft1 : FtC A s ((A + 2 : Nat) : Int) (s : Int) 0 [] [(((A + 2 : Nat) : Int), 6)] := by
  refine ft_mk h2 h6 hs ((superOk_iff _ _ _ _ _).2 ⟨by omega, by omega, by omega, .inr (by omega), .inl rfl⟩) (.inl rfl) (fun hl hp b2 b1 b0 => ?_)
  generalize ftX A s ((A + 2 : Nat) : Int) (s : Int) 0 [] = X at *
  obtain ⟨_, _, g, _, _⟩ := chG_lk (B := 20) hl b2 b1 b0 h2 (by omega) (by decide) hs (by decide) (by decide) hp (fol_none X) (by omega) (fun r hr => by cases hr)
  rw [g (.inr (Int.le_refl _))]; rfl
theorem ft2 : FtC A s ((A + 2 : Nat) : Int) 512 15 [rIo] [(15, 6)] := by
  obtain ⟨c1, c2, c3, c4⟩ := ft_base (A := A) (W := [rIo]) (rt := ((A + 2 : Nat) : Int)) (sz := 512) (fi := 15) h2 h6 hs ((superOk_iff _ _ _ _ _).2 ⟨by omega, by omega, by omega, .inr (by omega), .inr (by omega)⟩) (.inr rfl)
  have hb15 : blkI (ftX A s ((A + 2 : Nat) : Int) 512 15 [rIo]) 15 = r8B r9 := chX_at (s := s) (D := 15) h2 h6 c1 c2 c3 (x := rIo) (List.mem_cons_self ..)
  refine ft_mk h2 h6 hs ((superOk_iff _ _ _ _ _).2 ⟨by omega, by omega, by omega, .inr (by omega), .inr (by omega)⟩) (.inr rfl) (fun hl hp b2 b1 b0 => ?_)
  generalize ftX A s ((A + 2 : Nat) : Int) 512 15 [rIo] = X at *
  obtain ⟨w, hF⟩ := fol_single (a := 15) hl (by decide) (by decide) hb15 r9_ok rfl (.inl rfl)
  obtain ⟨_, _, _, _, g⟩ := chG_lk (B := 20) hl b2 b1 b0 h2 (by omega) (by decide) hs (by decide) (by decide) hp hF (by omega) (fun r hr => by rw [List.mem_singleton] at hr; rw [hr]; exact .inl rfl)
  rw [g ⟨by decide, by omega⟩ (by omega) (List.mem_singleton.2 rfl) (fun x hx => by rw [List.mem_singleton] at hx; omega)]; rfl
theorem ft3 : FtC A s ((A + 2 : Nat) : Int) 512 0 [] [] := by
  refine ft_mk h2 h6 hs ((superOk_iff _ _ _ _ _).2 ⟨by omega, by omega, by omega, .inr (by omega), .inl rfl⟩) (.inl rfl) (fun hl hp b2 b1 b0 => ?_)
  generalize ftX A s ((A + 2 : Nat) : Int) 512 0 [] = X at *
  obtain ⟨_, _, _, g, _⟩ := chG_lk (B := 20) hl b2 b1 b0 h2 (by omega) (by decide) hs (by decide) (by decide) hp (fol_none X) (by omega) (fun r hr => by cases hr)
  rw [g ⟨by decide, by omega⟩ (by omega) (fun x hx => by cases hx)]; rfl
end
set_option maxHeartbeats 32000000 in
theorem fsckTrees_walk {h : Heap} (at_ sector how : Int) : RunF prog 8 [.int .i64 at_, .int .i64 sector, .int .i64 how] h fun v _ => v = .bool true := by
  refine RunF.walk func8 rfl rfl ?_
  refine RunC.seq (RunC.region (RunO.all rfl ?_))
  obtain ⟨ha0, ha1⟩ := modU at_ 5 (by decide)
  obtain ⟨a, ha⟩ := Int.eq_ofNat_of_zero_le ha0
  obtain ⟨hs0, hs1⟩ := modU sector 512 (by decide)
  obtain ⟨s, hs⟩ := Int.eq_ofNat_of_zero_le hs0
  refine RunC.seq (RunC.region (RunO.part 2 rfl ?_))
  rw [fwu64']
  refine RunO.part 1 rfl ?_
  rw [ha]
  refine RunO.part 1 rfl ?_
  rw [fw64 (x := (a : Int)) (by omega) (by omega)]
  refine RunO.part 1 rfl ?_
  rw [fw64 (x := 2 + (a : Int)) (by omega) (by omega), show 2 + (a : Int) = ((2 + a : Nat) : Int) by omega]
  refine RunO.part 2 rfl ?_
  rw [fwu64']
  refine RunO.part 1 rfl ?_
  rw [hs]
  refine RunO.part 1 rfl ?_
  rw [fw64 (x := (s : Int)) (by omega) (by omega)]
  refine RunO.all rfl ?_
  have hA2 : 2 ≤ 2 + a := by omega
  have hA6 : 2 + a ≤ 6 := by omega
  have hs5 : s < 512 := by omega
  generalize 2 + a = A at *
  clear ha0 ha1 hs0 hs1 ha hs
  refine RunC.seq (RunC.region (RunO.part 2 rfl ?_))
  refine RunO.callD (chain_ok (B := 20) (at_ := A) (sec := s) (data := 15) (by omega) (by omega) (by decide) (by decide) hs5 (by omega) (by omega)) rfl rfl rfl ?_
  rintro _ h1 ⟨f1, ib, ic, hib, rfl, hic, oi⟩
  have hl := chain_len (B := 20) (at_ := A) (sec := s) (data := 15) (by omega)
  have hby := chain_byt 20 A s 15
  refine RunO.all rfl ?_
  refine RunC.seq (RunC.region (RunO.part 3 (h1 := h1.push ⟨sc 0 0 0 0 0, true⟩) rfl ?_))
  refine RunO.store rfl rfl (store_ow (s := 5) (Ow.push h1 (sc 0 0 0 0 0)) rfl rfl rfl (by decide)) (RunO.nil ?_)
  have os : Ow ((h1.push ⟨sc 0 0 0 0 0, true⟩).put h1.next (some ⟨sc 3 20 ((A + 2 : Nat) : Int) 512 0, true⟩)) h1.next (sc 3 20 ((A + 2 : Nat) : Int) 512 0) := Ow.put _ (Nat.lt_succ_self _)
  have f2 : Fr no h1 ((h1.push ⟨sc 0 0 0 0 0, true⟩).put h1.next (some ⟨sc 3 20 ((A + 2 : Nat) : Int) 512 0, true⟩)) := (Fr.push _ _ _).trans (Fr.put (m := (· = h1.next)) _ (.inl rfl)) (fun j hj => .inr (by omega))
  have hib1 := oi.1
  replace oi := oi.fr f2 (fun g => g)
  show RunC prog _ _ _ ((h1.push ⟨sc 0 0 0 0 0, true⟩).put h1.next (some ⟨sc 3 20 ((A + 2 : Nat) : Int) 512 0, true⟩)) _ _ _
  generalize (h1.push ⟨sc 0 0 0 0 0, true⟩).put h1.next (some ⟨sc 3 20 ((A + 2 : Nat) : Int) 512 0, true⟩) = h2 at *
  obtain ⟨sb, hsb⟩ : ∃ q, q = h1.next := ⟨_, rfl⟩
  rw [← hsb] at os ⊢
  -- the record
  refine RunC.seq (RunC.region (RunO.part 1 rfl ?_))
  refine RunO.callD (recBytes_ok (n := 0) (id := 9) (pa := 0) (ro := 0) (sz := 0) (ki := 0) (fr := 0) (di := 0)) rfl rfl rfl ?_
  rintro _ h3 ⟨f3, ⟨_, db, hdb, rfl, od⟩ | ⟨g, _⟩⟩
  case inr =>
    have g : r8Ok r9 = false := g
    rw [r9_ok] at g; cases g
  have od : Ow h3 db (us (r8B r9)) := od
  have hsdb : sb < db := by have := os.1; omega
  replace oi := oi.fr f3 (fun g => g)
  replace os := os.fr f3 (fun g => g)
  refine RunO.all rfl ?_
  refine RunC.seq (RunC.region (RunO.all rfl ?_))
  refine RunC.seq (RunC.region (RunO.all (h1 := h3.push ⟨[], true⟩) rfl ?_))
  have oe := Ow.push h3 []
  have f4 : Fr no h3 (h3.push ⟨[], true⟩) := Fr.push _ _ _
  have hdb3 := od.1
  have hsb3 := os.1
  replace oi := oi.fr f4 (fun g => g)
  replace os := os.fr f4 (fun g => g)
  replace od := od.fr f4 (fun g => g)
  generalize h3.push ⟨[], true⟩ = h4 at *
  obtain ⟨eb, heb⟩ : ∃ q, q = h3.next := ⟨_, rfl⟩
  rw [← heb] at oe ⊢
  have hio : ib < sb := by omega
  have hse : sb < eb := by omega
  have heb4 := oe.1
  have mkE : ∀ g, Ow g eb [] → IosG eb g (.slice (some ⟨eb, 0, none⟩) 0 (exc 0)) [] := fun g o => ⟨[], Gr.full o rfl (Nat.le_refl _), fun j x hx => by cases hx⟩
  have ios0 : IosG eb h4 (.slice (some ⟨eb, 0, none⟩) 0 (exc 0)) [] := ⟨[], Gr.full oe rfl (Nat.le_refl _), fun j x hx => by cases hx⟩
  refine RunC.seqc (fun E' h' => ∃ rt sz fi W want wv lv, FtC A s rt sz fi W want ∧ Ow h' sb (sc 3 20 rt sz fi) ∧ IosG eb h' lv W ∧ Sl h' wv 2 want.length (ftc want) ∧ (∀ b o c, wv = .slice (some ⟨b, o, none⟩) want.length c → ¬ At lv b) ∧ Fr (· = sb) h4 h' ∧ Le ((upd (upd (upd (upd (upd E0 7 (.slice (some ⟨ib, 0, none⟩) 1280 ic)) 9 (.pointer (some ⟨sb, 0, none⟩))) 11 (.int .i64 0)) 12 (wv)) 13 (lv))) E') ?sw ?by_
  case sw =>
    refine RunC.seq (RunC.region (RunO.part 2 rfl ?_))
    rw [fwu64']
    refine RunO.all rfl ?_
    generalize (how % 18446744073709551616).tmod 4 = m at *
    refine RunC.block ?_
    refine RunC.seq (RunC.region (RunO.all rfl ?_))
    cases (m == 0) with
    | true =>
      refine RunC.cond rfl (fun _ => ?_) (fun g => by cases g)
      refine RunC.seq (RunC.region (RunO.part 2 rfl ?_))
      refine RunO.store rfl rfl (store1_ow os rfl rfl rfl (Nat.le_of_ble_eq_true rfl)) (RunO.nil ?_)
      have fp : Fr (· = sb) h4 (h4.put sb (some ⟨sc 3 20 (A : Int) 512 0, true⟩)) := Fr.put _ (.inl rfl)
      have os5 : Ow (h4.put sb (some ⟨sc 3 20 (A : Int) 512 0, true⟩)) sb (sc 3 20 (A : Int) 512 0) := Ow.put _ os.1
      show RunC prog _ _ _ (h4.put sb (some ⟨sc 3 20 (A : Int) 512 0, true⟩)) _ _ _
      have ios1 := mkE _ (oe.fr fp (fun e => by have e : eb = sb := e; omega))
      generalize h4.put sb (some ⟨sc 3 20 (A : Int) 512 0, true⟩) = h5 at *
      refine RunC.region (RunO.part 3 (h1 := h5.push ⟨ftc [((A : Int), 6)], true⟩) rfl (RunO.all rfl ?_))
      have on := Ow.push h5 (ftc [((A : Int), 6)])
      have f6 : Fr no h5 (h5.push ⟨ftc [((A : Int), 6)], true⟩) := Fr.push _ _ _
      exact ⟨_, _, _, _, _, _, _, ft0 hA2 hA6 hs5, os5.fr f6 (fun g => g), ios1.fr0 f6, on.all.sl rfl (by show 1 ≤ _; decide) (Cp.exc (Nat.le_refl _)), fun b o c e g => by cases e; obtain ⟨_, _, e⟩ := g; cases e; have := fp.next; omega, fp.quiet f6, Le.cons rfl (Le.cons rfl (Le.cons rfl (Le.cons rfl (Le.cons rfl (Le.nil _)))))⟩
    | false =>
    refine RunC.cond rfl (fun g => by cases g) (fun _ => ?_)
    refine RunC.seq (RunC.region (RunO.all rfl ?_))
    cases (m == 1) with
    | true =>
      refine RunC.cond rfl (fun _ => ?_) (fun g => by cases g)
      refine RunC.seq (RunC.region (RunO.part 2 rfl ?_))
      refine RunO.store rfl rfl (store1_ow os rfl rfl rfl (Nat.le_of_ble_eq_true rfl)) (RunO.nil ?_)
      have fp : Fr (· = sb) h4 (h4.put sb (some ⟨sc 3 20 ((A + 2 : Nat) : Int) (s : Int) 0, true⟩)) := Fr.put _ (.inl rfl)
      have os5 : Ow (h4.put sb (some ⟨sc 3 20 ((A + 2 : Nat) : Int) (s : Int) 0, true⟩)) sb (sc 3 20 ((A + 2 : Nat) : Int) (s : Int) 0) := Ow.put _ os.1
      show RunC prog _ _ _ (h4.put sb (some ⟨sc 3 20 ((A + 2 : Nat) : Int) (s : Int) 0, true⟩)) _ _ _
      have ios1 := mkE _ (oe.fr fp (fun e => by have e : eb = sb := e; omega))
      generalize h4.put sb (some ⟨sc 3 20 ((A + 2 : Nat) : Int) (s : Int) 0, true⟩) = h5 at *
      refine RunC.region (RunO.part 3 (h1 := h5.push ⟨ftc [(((A + 2 : Nat) : Int), 6)], true⟩) rfl (RunO.all rfl ?_))
      have on := Ow.push h5 (ftc [(((A + 2 : Nat) : Int), 6)])
      have f6 : Fr no h5 (h5.push ⟨ftc [(((A + 2 : Nat) : Int), 6)], true⟩) := Fr.push _ _ _
      exact ⟨_, _, _, _, _, _, _, ft1 hA2 hA6 hs5, os5.fr f6 (fun g => g), ios1.fr0 f6, on.all.sl rfl (by show 1 ≤ _; decide) (Cp.exc (Nat.le_refl _)), fun b o c e g => by cases e; obtain ⟨_, _, e⟩ := g; cases e; have := fp.next; omega, fp.quiet f6, Le.cons rfl (Le.cons rfl (Le.cons rfl (Le.cons rfl (Le.cons rfl (Le.nil _)))))⟩
    | false =>
    refine RunC.cond rfl (fun g => by cases g) (fun _ => ?_)
    refine RunC.seq (RunC.region (RunO.all rfl ?_))
    cases (m == 2) with
    | true =>
      refine RunC.cond rfl (fun _ => ?_) (fun g => by cases g)
      refine RunC.seq (RunC.region (RunO.part 5 (h1 := h4.push ⟨[.int .i64 1, .int .i64 15, .slice (some ⟨db, 0, none⟩) 64 (exc 64)], true⟩) rfl ?_))
      have oio := Ow.push h4 [.int .i64 1, .int .i64 15, .slice (some ⟨db, 0, none⟩) 64 (exc 64)]
      have fi : Fr no h4 (h4.push ⟨[.int .i64 1, .int .i64 15, .slice (some ⟨db, 0, none⟩) 64 (exc 64)], true⟩) := Fr.push _ _ _
      have hdb4 := od.1
      replace os := os.fr fi (fun g => g)
      have od5 := od.fr fi (fun g => g)
      generalize h4.push ⟨[.int .i64 1, .int .i64 15, .slice (some ⟨db, 0, none⟩) 64 (exc 64)], true⟩ = h5 at *
      obtain ⟨lb, hlb⟩ : ∃ q, q = h4.next := ⟨_, rfl⟩
      rw [← hlb] at oio ⊢
      have hsb5 := os.1
      refine RunO.store rfl rfl (store1_ow os rfl rfl rfl (Nat.le_of_ble_eq_true rfl)) (RunO.nil ?_)
      have fp : Fr (· = sb) h5 (h5.put sb (some ⟨sc 3 20 ((A + 2 : Nat) : Int) 512 15, true⟩)) := Fr.put _ (.inl rfl)
      have os6 : Ow (h5.put sb (some ⟨sc 3 20 ((A + 2 : Nat) : Int) 512 15, true⟩)) sb (sc 3 20 ((A + 2 : Nat) : Int) 512 15) := Ow.put _ os.1
      show RunC prog _ _ _ (h5.put sb (some ⟨sc 3 20 ((A + 2 : Nat) : Int) 512 15, true⟩)) _ _ _
      have oio6 := oio.fr fp (fun e => by have e : lb = sb := e; omega)
      have od6 := od5.fr fp (fun e => by have e : db = sb := e; omega)
      generalize h5.put sb (some ⟨sc 3 20 ((A + 2 : Nat) : Int) 512 15, true⟩) = h6 at *
      have ios1 : IosG eb h6 (.slice (some ⟨lb, 0, none⟩) 1 (exc 1)) [rIo] := by
        refine ⟨_, Gr.full oio6 rfl (by omega), fun j x hx => ?_⟩
        have hj : j = 0 := by
          have := (List.getElem?_eq_some_iff.1 hx).1
          have e : [rIo].length = 1 := rfl
          omega
        subst hj
        cases hx
        refine ⟨db, rfl, od6, r8B_len _, r8B_byt _, fun g => ?_⟩
        obtain ⟨_, _, e⟩ := g
        cases e
        omega
      have hlb6 := oio6.1
      refine RunC.region (RunO.part 2 (h1 := h6.push ⟨ftc [(15, 6)], true⟩) rfl (RunO.all rfl ?_))
      have on := Ow.push h6 (ftc [(15, 6)])
      have f6 : Fr no h6 (h6.push ⟨ftc [(15, 6)], true⟩) := Fr.push _ _ _
      exact ⟨_, _, _, _, _, _, _, ft2 hA2 hA6 hs5, os6.fr f6 (fun g => g), ios1.fr0 f6, on.all.sl rfl (by show 1 ≤ _; decide) (Cp.exc (Nat.le_refl _)), fun b o c e g => by cases e; obtain ⟨_, _, e⟩ := g; cases e; omega, ((fi.weak (fun _ g => g.elim)).trans fp (fun _ g => .inl g)).quiet f6, Le.cons rfl (Le.cons rfl (Le.cons rfl (Le.cons rfl (Le.cons rfl (Le.nil _)))))⟩
    | false =>
    refine RunC.cond rfl (fun g => by cases g) (fun _ => RunC.skip ?_)
    exact ⟨_, _, _, _, _, _, _, ft3 hA2 hA6 hs5, os, ios0, Sl.nil _ _, fun b o c e => (by cases e), Fr.refl _ _, Le.cons rfl (Le.cons rfl (Le.cons rfl (Le.cons rfl (Le.cons rfl (Le.nil _)))))⟩
  rintro E' h5 ⟨rt, sz, fi, W, want, wv, lv, ft, os, ios, sw, hwv, f5, hE⟩
  refine RunC.le hE ?_
  clear hE
  replace oi := oi.fr f5 (fun e => by have e : ib = sb := e; omega)
  obtain ⟨wA, wc_, rfl, _, _⟩ := sw.form
  refine RunC.seq (RunC.region ?_)
  refine RunO.load (v := .agg ⟨sc 3 20 rt sz fi⟩) rfl (os.ld rfl) rfl ?_
  refine RunO.callD (superBytes_ok (g := 3) (bl := 20) (rt := rt) (sz := sz) (fi := fi)) rfl rfl rfl ?_
  rintro _ h6 ⟨f6, ⟨_, qb, hqb, rfl, oq⟩ | ⟨g, _⟩⟩
  case inr => rw [ft.ok] at g; cases g
  have hlv5 : ∀ b, At lv b → eb ≤ b ∧ b < h5.next := fun b g => by
    obtain ⟨acs, gr, _⟩ := ios
    exact gr.at g
  replace oi := oi.fr f6 (fun g => g)
  replace ios := ios.fr0 f6
  have sw6 := sw.fr0 f6
  have ftst := ft.st
  have ftw := ft.want
  have ftf := ft.few
  have ftl := ft.len
  have ftb := ft.byt
  have hXd : ftX A s rt sz fi W = applyL (chain 20 A s 15) (W ++ [sbIo rt sz fi]) := rfl
  have hsl := superBlock_len 3 20 rt sz fi
  have hsbt := superBlock_byt 3 20 rt sz fi
  have hsI : sbIo rt sz fi = ((1 : Int), (0 : Int), superBlock 3 20 rt sz fi, ()) := rfl
  clear ft
  rw [hsI] at ftst hXd
  generalize superBlock 3 20 rt sz fi = SB at *
  generalize ftX A s rt sz fi W = X at *
  generalize chain 20 A s 15 = L at *
  have hn6 := f6.next
  refine RunO.all rfl ?_
  refine RunC.seq (RunC.region (RunO.part 5 (h1 := h6.push ⟨[.int .i64 1, .int .i64 0, .slice (some ⟨qb, 0, none⟩) 64 (exc 64)], true⟩) rfl ?_))
  have ot := Ow.push h6 [.int .i64 1, .int .i64 0, .slice (some ⟨qb, 0, none⟩) 64 (exc 64)]
  have f7 : Fr no h6 (h6.push ⟨[.int .i64 1, .int .i64 0, .slice (some ⟨qb, 0, none⟩) 64 (exc 64)], true⟩) := Fr.push _ _ _
  replace ios := ios.fr0 f7
  replace oi := oi.fr f7 (fun g => g)
  replace oq := oq.fr f7 (fun g => g)
  have sw7 := sw6.fr0 f7
  have hn7 := f7.next
  generalize h6.push ⟨[.int .i64 1, .int .i64 0, .slice (some ⟨qb, 0, none⟩) 64 (exc 64)], true⟩ = h7 at *
  obtain ⟨acs, gr, hk⟩ := ios
  have hibe : ib < eb := by omega
  have heb5 := (f5.next)
  refine RunO.appendG (s := 3) (j := 1) rfl rfl rfl rfl rfl rfl rfl rfl (by decide) gr ot.all rfl (Nat.le_refl 1) rfl (by show 2 * (_ + 1) * 40 ≤ _; omega) (by omega) ?_
  intro lv2 h8 row f8
  have ios2 := IosG.snoc (x := ((1 : Int), (0 : Int), SB, ())) gr hk oq hsl hsbt (fun g => by have := hlv5 qb g; omega) row f8 (show eb ≤ h7.next by omega)
  have oi2 := oi.fr f8 (fun g => by have := hlv5 ib g; omega)
  have si := sl_own oi2 hl hic (by decide)
  refine RunO.callD (devApply_ok si (by omega) (ios2.ios (by rw [List.length_append, List.length_singleton]; omega)) (by rw [List.length_append, List.length_singleton]; omega)) rfl rfl rfl ?_
  rw [hl, show (20 * 64 : Nat) = 1280 from rfl, ftst]
  rintro _ h9 ⟨f9, ⟨_, xq, xc, hxq, rfl, hxc, ox⟩ | ⟨hno, _⟩⟩
  case inr => exact absurd rfl hno
  rw [← hXd] at ox
  have slx := sl_own ox ftl hxc (by decide)
  have sw9 : Sl h9 (.slice wA want.length wc_) 2 want.length (ftc want) := (sw7.frm hwv f8).fr0 f9
  have hwl : want.length ≤ 1 := by
    rw [ftw]; unfold wantF; split
    · exact Nat.zero_le _
    · exact Nat.le_refl _
  refine RunO.all rfl ?_
  refine RunC.seq (RunC.region (RunO.part 12 rfl ?_))
  refine RunO.callDG rfl (fsckCheck_ok slx ftb (by omega)) rfl rfl rfl ?_
  rintro cv hz ⟨fz, hcv⟩
  have scv : Sl hz cv 2 want.length (ftc want) := by
    rcases hcv with ⟨g, rfl⟩ | ⟨g, fb, _, rfl, of⟩
    · have e : want = [] := by rw [ftw]; unfold wantF; rw [if_pos g]
      rw [e]; exact Sl.nil _ _
    · have e : want = [lk X] := by rw [ftw]; unfold wantF; rw [if_neg g]
      rw [e]; exact of.all.sl rfl (by show 1 ≤ _; decide) (Cp.exc (Nat.le_refl _))
  have scv0 := scv
  obtain ⟨cA, cc, rfl, _, _⟩ := scv.form
  refine RunO.part 1 rfl ?_
  refine RunO.callDG rfl (keepFaults_ok scv0 (sw9.fr0 fz) (by omega)) rfl rfl rfl ?_
  rintro _ _ ⟨rfl, rfl⟩
  rw [show (want == want) = true from beq_self_eq_true _]
  refine RunO.part 2 rfl ?_
  refine RunO.callDG rfl wakes16_ok rfl rfl rfl ?_
  rintro _ hzz ⟨rfl, fzz⟩
  exact RunO.all rfl (RunC.ret ⟨_, rfl, rfl⟩)
theorem fsckTrees_true : ∀ h xs avs, ArgsK [.int .i64, .int .i64, .int .i64] h xs avs → RunF prog 8 avs h fun v _ => v = .bool true := by
  intro h xs avs ha
  obtain ⟨n, _, _, rfl, _, ha⟩ := argInt ha
  obtain ⟨m, _, _, rfl, _, ha⟩ := argInt ha
  obtain ⟨k, _, _, rfl, _, ha⟩ := argInt ha
  obtain rfl := argNil ha
  exact fsckTrees_walk n m k
end Go.Proofs.Ytnokcbenpnmnbaa
end
