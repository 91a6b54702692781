/- BuildHas: a calculus over an abstract machine that stands beside the model, and contracts of functions by it (part 6).
Conditions: what each theorem says of its arguments. -/
import Derived.Test.YtdcggjkcbheolaaGBuildHas5
section
set_option linter.unusedVariables false
set_option linter.unusedSectionVars false
set_option maxRecDepth 100000
open Go Go.Am Go.RowKit
namespace Go.Proofs.Ytdcggjkcbheolaa
open Go.Proofs.Try
/-- A new tree that is built: the table of its nodes. -/
def bldV (L : List Int) (root : Int) (m fr : List Int) (l q : Nat) : Int := ((bldW L root m fr).1 l).getD q 0
structure BP (L : List Int) (root : Int) (m fr : List Int) : Prop where
  te : treeE L root = 0
  dev : devOk L.length = true
  ml : m.length = 512
  mr : ∀ s, s < 512 → m.getD s 0 = 0 ∨ (2 ≤ m.getD s 0 ∧ m.getD s 0 < (L.length / 64 : Nat))
  need : (freN L root m).length ≤ fr.length
  f1 : ∀ i, i < fr.length → 2 ≤ fr.getD i 0 ∧ fr.getD i 0 < (L.length / 64 : Nat)
  f2 : ∀ i j, i < j → j < fr.length → fr.getD i 0 < fr.getD j 0
  f3 : ∀ i, i < fr.length → ¬ fr.getD i 0 ∈ m ∧ ¬ fr.getD i 0 ∈ treeN L root
theorem BP.of {L : List Int} {root : Int} {m fr : List Int} (h : bldE L root m fr = 0) : BP L root m fr := by
  unfold bldE at h
  split at h
  · rename_i hb
    obtain ⟨te, me, ml⟩ := beginE_ok hb
    split at h
    · rename_i hm
      split at h
      · cases h
      · rename_i hn
        have hm : mayB (L.length / 64) m (treeM L root) (treeN L root) fr = true := hm
        unfold mayB at hm
        rw [List.all_eq_true] at hm
        have hA : ∀ i, i < fr.length → mayA (L.length / 64) fr i = false ∧ mayC m (treeM L root) (treeN L root) (fr.getD i 0) = false := fun i hi => by
          have := hm i (List.mem_range.2 hi)
          rw [Bool.and_eq_true, Bool.not_eq_true', Bool.not_eq_true'] at this
          exact this
        have hA1 : ∀ i, i < fr.length → (2 ≤ fr.getD i 0 ∧ fr.getD i 0 < (L.length / 64 : Nat)) ∧ (0 < i → fr.getD (i - 1) 0 < fr.getD i 0) := fun i hi => by
          have := (hA i hi).1
          unfold mayA at this
          rw [Bool.or_eq_false_iff, Bool.or_eq_false_iff, decide_eq_false_iff_not, decide_eq_false_iff_not, Bool.and_eq_false_iff, decide_eq_false_iff_not, decide_eq_false_iff_not] at this
          omega
        refine ⟨te, (treeE_ok te).2, ml, fun s hs => ?_, ?_, fun i hi => (hA1 i hi).1, ?_, fun i hi => ?_⟩
        · unfold mapE at me
          rw [if_pos ml] at me
          split at me
          · cases me
          · rename_i ho
            rw [Bool.not_eq_true, List.any_eq_false] at ho
            have := ho (m.getD s 0) (by rw [List.getD_eq_getElem?_getD, List.getElem?_eq_getElem (by omega)]; exact List.getElem_mem _)
            unfold offMap at this
            rw [Bool.not_eq_true, Bool.and_eq_false_iff, bne_eq_false_iff_eq, Bool.or_eq_false_iff, decide_eq_false_iff_not, decide_eq_false_iff_not] at this
            omega
        · have := of_decide_eq_false (Bool.eq_false_iff.2 hn); omega
        · intro i j hij hj
          have key : ∀ d, i + 1 + d < fr.length → fr.getD i 0 < fr.getD (i + 1 + d) 0 := by
            intro d
            induction d with
            | zero => intro h; have := (hA1 (i + 1) h).2 (by omega); simpa using this
            | succ d ih =>
              intro h
              have h1 := ih (by omega)
              have h2 := (hA1 (i + 1 + (d + 1)) h).2 (by omega)
              rw [show i + 1 + (d + 1) - 1 = i + 1 + d by omega] at h2
              omega
          have := key (j - (i + 1)) (by omega)
          rwa [show i + 1 + (j - (i + 1)) = j by omega] at this
        · have := (hA i hi).2
          unfold mayC at this
          rw [Bool.or_eq_false_iff, Bool.or_eq_false_iff] at this
          exact ⟨by simpa using this.1.1, by simpa using this.2⟩
    · cases h
  · rename_i hb; exact absurd h hb
section
variable {L : List Int} {root : Int} {m fr : List Int} (bp : BP L root m fr)
include bp
theorem BP.tree : TreeIs L root (treeM L root) ∧ treeN L root = nodL L (L.length / 64) 3 root := by
  have hd := bp.dev
  unfold devOk at hd
  exact TreeIs.of (by have : L.length % 64 = 0 ∧ 4 ≤ L.length / 64 ∧ L.length / 64 ≤ 4096 := by simpa using hd
                      omega) (treeE_ok bp.te).1
theorem BP.B : L.length % 64 = 0 ∧ 4 ≤ L.length / 64 ∧ L.length / 64 ≤ 4096 := by
  have hd := bp.dev
  unfold devOk at hd
  simpa using hd
theorem BP.pos {i : Nat} (hi : i < (freN L root m).length) : (freN L root m)[i].1 < 3 ∧ (freN L root m)[i].2 < lvN (freN L root m)[i].1 ∧ newB m (treeM L root) (freN L root m)[i].1 (freN L root m)[i].2 = true := (freP_mem m (treeM L root)).1 (List.getElem_mem hi)
theorem BP.tab : (∀ j (hj : j < (freN L root m).length), bldV L root m fr (freN L root m)[j].1 (freN L root m)[j].2 = fr.getD j 0) ∧
    (∀ l q, l < 3 → q < lvN l → newB m (treeM L root) l q = false → bldV L root m fr l q = if zrB m l q then 0 else look L (L.length / 64) (2 - l) root q) := by
  have hT := wrS_tab (m := m) (J0 := isT (wasT L (L.length / 64) root) m 3 0) (F := freN L root m) (at_ := fr.take (freN L root m).length) (fun i hi => by rw [isT_len]; exact (bp.pos hi).2.1) (fun i j hi hj e => freP_inj hi hj e) (freN L root m).length (Nat.le_refl _)
  refine ⟨fun j hj => ?_, fun l q hl hq hn => ?_⟩
  · have := hT.1 j hj hj
    rw [show (fr.take (freN L root m).length).getD j 0 = fr.getD j 0 by rw [List.getD_eq_getElem?_getD, List.getElem?_take, if_pos hj, List.getD_eq_getElem?_getD]] at this
    exact this
  · have := hT.2 l q (fun j hj _ e => by
      have := (bp.pos hj).2.2
      rw [e, hn] at this
      cases this)
    refine Eq.trans this ?_
    rw [List.getD_eq_getElem?_getD, isT_get _ _ _ _ _ hq, if_pos (.inl hl)]
    show isI _ _ _ _ = _
    unfold isI
    split
    · rfl
    · unfold wasT
      rw [List.getD_eq_getElem?_getD, List.getElem?_map, List.getElem?_range hq]; rfl
theorem BP.idx {l q : Nat} (hl : l < 3) (hq : q < lvN l) (hn : newB m (treeM L root) l q = true) : ∃ j, ∃ hj : j < (freN L root m).length, (freN L root m)[j] = (l, q) := List.mem_iff_getElem.1 ((freP_mem m (treeM L root) (x := (l, q))).2 ⟨hl, hq, hn⟩)
/-- A step's node leads to what the tables tell at last. -/
theorem BP.ptr {j : Nat} (hj : j < (freN L root m).length) : ptrOf m (wrS m (isT (wasT L (L.length / 64) root) m 3 0) (freN L root m) (fr.take (freN L root m).length) (j + 1)).1 (freN L root m)[j].1 (freN L root m)[j].2 = ptrOf m (bldW L root m fr).1 (freN L root m)[j].1 (freN L root m)[j].2 := by
  have hT := wrS_tab (m := m) (J0 := isT (wasT L (L.length / 64) root) m 3 0) (F := freN L root m) (at_ := fr.take (freN L root m).length) (fun i hi => by rw [isT_len]; exact (bp.pos hi).2.1) (fun i j hi hj e => freP_inj hi hj e)
  have hN := hT (freN L root m).length (Nat.le_refl _)
  have hJ := hT (j + 1) hj
  unfold ptrOf
  by_cases h0 : (freN L root m)[j].1 = 0
  · rw [if_pos h0, if_pos h0]
  · rw [if_neg h0, if_neg h0]
    congr 2
    apply List.ext_getElem?
    intro q
    have l1 := wrS_tlen m (isT (wasT L (L.length / 64) root) m 3 0) (freN L root m) (fr.take (freN L root m).length) (j + 1) ((freN L root m)[j].1 - 1)
    have l2 : ((bldW L root m fr).1 ((freN L root m)[j].1 - 1)).length = _ := wrS_tlen m (isT (wasT L (L.length / 64) root) m 3 0) (freN L root m) (fr.take (freN L root m).length) (freN L root m).length ((freN L root m)[j].1 - 1)
    by_cases hq : q < lvN ((freN L root m)[j].1 - 1)
    · have e : ((wrS m (isT (wasT L (L.length / 64) root) m 3 0) (freN L root m) (fr.take (freN L root m).length) (j + 1)).1 ((freN L root m)[j].1 - 1)).getD q 0 = ((bldW L root m fr).1 ((freN L root m)[j].1 - 1)).getD q 0 := by
        by_cases c : ∃ k, ∃ hk : k < (freN L root m).length, (freN L root m)[k] = ((freN L root m)[j].1 - 1, q)
        · obtain ⟨k, hk, hkq⟩ := c
          have hkj : k < j := by
            rcases Nat.lt_trichotomy k j with g | g | g
            · exact g
            · subst g; have := congrArg Prod.fst hkq; simp only at this; omega
            · have := freP_lt hj hk g
              change befP (freN L root m)[j] (freN L root m)[k] at this
              rw [hkq] at this
              rcases this with g | ⟨g, _⟩
              · exact absurd g (by simp only; omega)
              · exact absurd g (by simp only; omega)
          have a1 := hJ.1 k hk (by omega)
          have a2 := hN.1 k hk hk
          rw [hkq] at a1 a2
          exact a1.trans a2.symm
        · have a1 := hJ.2 ((freN L root m)[j].1 - 1) q (fun k hk _ e => c ⟨k, hk, e⟩)
          have a2 := hN.2 ((freN L root m)[j].1 - 1) q (fun k hk _ e => c ⟨k, hk, e⟩)
          exact a1.trans a2.symm
      rw [isT_len] at l1 l2
      rw [List.getD_eq_getElem?_getD, List.getD_eq_getElem?_getD, List.getElem?_eq_getElem (by omega), List.getElem?_eq_getElem (by omega)] at e
      rw [List.getElem?_eq_getElem (by omega), List.getElem?_eq_getElem (by omega)]
      exact congrArg some e
    · rw [isT_len] at l1 l2
      rw [List.getElem?_eq_none (by omega), List.getElem?_eq_none (by omega)]
theorem BP.out {j : Nat} (hj : j < (freN L root m).length) : (bldW L root m fr).2[j]? = some ((1 : Int), fr.getD j 0, nodD (freN L root m)[j].1 (ptrOf m (bldW L root m fr).1 (freN L root m)[j].1 (freN L root m)[j].2), ()) := by
  have := wrS_out (m := m) (J0 := isT (wasT L (L.length / 64) root) m 3 0) (F := freN L root m) (at_ := fr.take (freN L root m).length) (freN L root m).length (Nat.le_refl _) j hj hj
  rw [bp.ptr hj, show (fr.take (freN L root m).length).getD j 0 = fr.getD j 0 by rw [List.getD_eq_getElem?_getD, List.getElem?_take, if_pos hj, List.getD_eq_getElem?_getD]] at this
  exact this
theorem BP.outLen : (bldW L root m fr).2.length = (freN L root m).length := wrS_len ..
end
end Go.Proofs.Ytdcggjkcbheolaa
end
section
set_option linter.unusedVariables false
set_option linter.unusedSectionVars false
set_option maxRecDepth 100000
open Go Go.Am Go.RowKit
namespace Go.Proofs.Ytdcggjkcbheolaa
open Go.Proofs.Try
/- Writes. -/
def wrOk (n : Nat) (x : IoT) : Prop := x.1 = 1 ∧ (∃ a : Nat, x.2.1 = (a : Int) ∧ (a + 1) * 64 ≤ n) ∧ x.2.2.1.length = 64 ∧ Byt x.2.2.1
theorem applyStep_wr {o : List Int} {x : IoT} {n : Nat} (h : wrOk n x) {a : Nat} (ha : x.2.1 = (a : Int)) : applyStep o x = setBlk o a x.2.2.1 := by
  unfold applyStep
  rw [h.1, ha]; rfl
theorem applyL_wr {n : Nat} : ∀ (l : List IoT) (o : List Int), (∀ x ∈ l, wrOk n x) → o.length = n → Byt o → (applyL o l).length = n ∧ Byt (applyL o l) ∧ (∀ c : Nat, (∀ x ∈ l, x.2.1 ≠ (c : Int)) → blkI (applyL o l) c = blkI o c)
  | [], o, _, h, hb => ⟨h, hb, fun _ _ => rfl⟩
  | x :: l, o, hl, h, hb => by
    have hx := hl x (List.mem_cons_self ..)
    obtain ⟨h1, ⟨a, ha, hab⟩, h3, h4⟩ := hx
    have e : applyL o (x :: l) = applyL (setBlk o a x.2.2.1) l := by
      show List.foldl _ (applyStep o x) l = _
      rw [applyStep_wr (n := n) ⟨h1, ⟨a, ha, hab⟩, h3, h4⟩ ha]; rfl
    obtain ⟨g1, g2, g3⟩ := applyL_wr l (setBlk o a x.2.2.1) (fun y hy => hl y (List.mem_cons_of_mem _ hy)) (by rw [setBlk_len (by omega) h3]; exact h) (setBlk_byt hb h4)
    rw [e]
    refine ⟨g1, g2, fun c hc => ?_⟩
    rw [g3 c (fun y hy => hc y (List.mem_cons_of_mem _ hy)), blk_set_ne (by omega) h3 ?_]
    intro e
    exact hc x (List.mem_cons_self ..) (by rw [ha, e])
theorem applyL_at {n : Nat} : ∀ (l : List IoT) (o : List Int), (∀ x ∈ l, wrOk n x) → o.length = n → Byt o → List.Pairwise (fun x y => x.2.1 ≠ y.2.1) l → ∀ x ∈ l, blkI (applyL o l) x.2.1.toNat = x.2.2.1
  | [], _, _, _, _, _, x, hx => by cases hx
  | y :: l, o, hl, h, hb, hp, x, hx => by
    obtain ⟨h1, ⟨a, ha, hab⟩, h3, h4⟩ := hl y (List.mem_cons_self ..)
    have e : applyL o (y :: l) = applyL (setBlk o a y.2.2.1) l := by
      show List.foldl _ (applyStep o y) l = _
      rw [applyStep_wr (n := n) ⟨h1, ⟨a, ha, hab⟩, h3, h4⟩ ha]; rfl
    have hl2 := fun z (hz : z ∈ l) => hl z (List.mem_cons_of_mem _ hz)
    have hlen : (setBlk o a y.2.2.1).length = n := by rw [setBlk_len (by omega) h3]; exact h
    have hbt := setBlk_byt hb h4 (i := a)
    rw [List.pairwise_cons] at hp
    rw [e]
    rcases List.mem_cons.1 hx with rfl | hx
    · rw [ha, Int.toNat_natCast, (applyL_wr l _ hl2 hlen hbt).2.2 a (fun z hz g => hp.1 z hz (by rw [g, ha])), blk_set_same (by omega) h3]
    · exact applyL_at l _ hl2 hlen hbt hp.2 x hx
theorem stepsE_wr {n : Nat} (hd : devOk n = true) {l : List IoT} (hl : l.length ≤ 1048576) (h : ∀ x ∈ l, wrOk n x) : stepsE n l = 0 := by
  unfold stepsE
  rw [hd, if_pos rfl, decide_eq_false (by omega), if_neg Bool.false_ne_true, if_neg ?_]
  rw [Bool.not_eq_true, List.any_eq_false]
  intro x hx c
  obtain ⟨h1, ⟨a, ha, hab⟩, h3, _⟩ := h x hx
  unfold ioR at c
  rw [h1, ha, h3] at c
  rw [if_pos (by rfl), decide_eq_true (show (a : Int) ≥ 0 by omega), show decide ((a : Int) < ((n / 64 : Nat) : Int)) = true from decide_eq_true (by omega)] at c
  simp at c
/- Ways through a tree. -/
theorem look_comp (L : List Int) (B : Nat) : ∀ (a b : Nat) (p : Int) (s : Nat), s < 8 ^ (a + b) → look L B (a + b) p s = look L B b (look L B a p (s / 8 ^ b)) (s % 8 ^ b)
  | 0, b, p, s, h => by
    rw [Nat.zero_add] at h ⊢
    rw [Nat.mod_eq_of_lt h]; rfl
  | a + 1, b, p, s, h => by
    have e : a + 1 + b = (a + b) + 1 := by omega
    have hp : 8 ^ (a + b) = 8 ^ b * 8 ^ a := by rw [Nat.add_comm, Nat.pow_add]
    rw [e, look_suc, look_comp L B a b _ _ (Nat.mod_lt _ (Nat.pow_pos (by decide))), look_suc]
    rw [hp, Nat.mod_mul_right_div_self, Nat.mod_mul_right_mod, Nat.div_div_eq_div_mul]
theorem okA_look {L : List Int} {B : Nat} : ∀ (k : Nat) (p : Int) (d q : Nat), okA L B k p → d < k → q < 8 ^ d → look L B d p q ≠ 0 → atIs L B (look L B d p q) ((k - 1 - d : Nat) : Int) = true
  | 0, _, _, _, _, h, _, _ => absurd h (Nat.not_lt_zero _)
  | k + 1, p, 0, q, h, _, _, h0 => okA_at h h0
  | k + 1, p, d + 1, q, h, h1, h2, h0 => by
    have hpos : 0 < 8 ^ d := Nat.pow_pos (by decide)
    rw [look_suc] at h0 ⊢
    have hi : q / 8 ^ d < 8 := by rw [Nat.div_lt_iff_lt_mul hpos]; rw [Nat.pow_succ, Nat.mul_comm] at h2; exact h2
    have := okA_look k _ d (q % 8 ^ d) (okA_child h hi) (by omega) (Nat.mod_lt _ hpos) h0
    rw [show k + 1 - 1 - (d + 1) = k - 1 - d by omega]
    exact this
theorem nod_any {L : List Int} {B : Nat} {p lv : Int} (h : atIs L B p lv = true) : ∃ i, i < 8 ∧ (ptrsL L B p).getD i 0 ≠ 0 := by
  have hp := (atIs_ne h).1
  unfold atIs at h
  rw [Bool.and_eq_true, Bool.and_eq_true, beq_iff_eq] at h
  have hv : ptrsL L B p = nPs (blkI L p.toNat) := by
    unfold ptrsL atV nodV
    rw [if_neg (by omega), if_pos h.1, if_pos h.2.1]
  have hok : nodOk (nLv (blkI L p.toNat)) (nPs (blkI L p.toNat)) = true := by
    have hc := h.2.1
    unfold nCode at hc
    split at hc
    · split at hc
      · assumption
      · cases hc
    · rename_i h1; exact absurd hc h1
  unfold nodOk at hok
  rw [Bool.and_eq_true, Bool.and_eq_true, Bool.and_eq_true] at hok
  have ha := hok.2.2.2
  unfold anyP at ha
  rw [List.any_eq_true] at ha
  obtain ⟨x, hx, hx0⟩ := ha
  obtain ⟨i, hi, rfl⟩ := List.mem_iff_getElem.1 hx
  refine ⟨i, hi, ?_⟩
  rw [hv, List.getD_eq_getElem?_getD, List.getElem?_eq_getElem hi]
  simpa using hx0
/-- Each node has a sector under it. -/
theorem okA_sec {L : List Int} {B : Nat} : ∀ (k : Nat) (p : Int), okA L B k p → p ≠ 0 → ∃ s, s < 8 ^ k ∧ look L B k p s ≠ 0
  | 0, p, _, h0 => ⟨0, by decide, h0⟩
  | k + 1, p, h, h0 => by
    obtain ⟨i, hi, hne⟩ := nod_any (okA_at h h0)
    obtain ⟨s, hs, hl⟩ := okA_sec k _ (okA_child h hi) hne
    refine ⟨i * 8 ^ k + s, ?_, by rw [look_at hi hs]; exact hl⟩
    have : i * 8 ^ k + 8 ^ k ≤ 8 ^ k * 8 := by rw [← Nat.succ_mul, Nat.mul_comm]; exact Nat.mul_le_mul_left _ hi
    rw [Nat.pow_succ]; omega
/-- With other blocks changed a tree is as it was. -/
theorem keepN {L L' : List Int} {B : Nat} : ∀ (k : Nat) (p : Int), (∀ x ∈ nodL L B k p, blkI L' x.toNat = blkI L x.toNat) → nodL L' B k p = nodL L B k p ∧ (∀ s, s < 8 ^ k → look L' B k p s = look L B k p s) ∧ (okA L B k p → okA L' B k p)
  | 0, p, _ => ⟨rfl, fun _ _ => rfl, fun _ _ _ => trivial⟩
  | k + 1, p, h => by
    by_cases hp : p = 0
    · subst hp
      exact ⟨by rw [nodL_zero, nodL_zero], fun s _ => by rw [look_zero, look_zero], fun _ => okA_zero _ _ _⟩
    · have hn : nodL L B (k + 1) p = p :: (List.range 8).flatMap fun i => nodL L B k ((ptrsL L B p).getD i 0) := by show (if p = 0 then _ else _) = _; rw [if_neg hp]
      have hn' : nodL L' B (k + 1) p = p :: (List.range 8).flatMap fun i => nodL L' B k ((ptrsL L' B p).getD i 0) := by show (if p = 0 then _ else _) = _; rw [if_neg hp]
      rw [hn] at h
      have hb := h p (List.mem_cons_self ..)
      have hv : atV L' B p = atV L B p := by unfold atV; rw [hb]
      have hi' : ∀ lv, atIs L' B p lv = atIs L B p lv := fun lv => by unfold atIs; rw [hv, hb]
      have hpt : ptrsL L' B p = ptrsL L B p := by unfold ptrsL; rw [hv]
      have hc := fun i (hi : i < 8) => keepN k ((ptrsL L B p).getD i 0) (fun x hx => h x (List.mem_cons_of_mem _ (List.mem_flatMap.2 ⟨i, List.mem_range.2 hi, hx⟩)))
      refine ⟨?_, fun s hs => ?_, fun hok => ?_⟩
      · rw [hn, hn', hpt]
        congr 1
        have key : ∀ l : List Nat, (∀ i ∈ l, i < 8) → (l.flatMap fun i => nodL L' B k ((ptrsL L B p).getD i 0)) = l.flatMap fun i => nodL L B k ((ptrsL L B p).getD i 0) := by
          intro l
          induction l with
          | nil => intro _; rfl
          | cons i l ih =>
            intro hl
            rw [List.flatMap_cons, List.flatMap_cons, ih (fun j hj => hl j (List.mem_cons_of_mem _ hj)), (hc i (hl i (List.mem_cons_self ..))).1]
        exact key _ (fun i hi => List.mem_range.1 hi)
      · have hpos : 0 < 8 ^ k := Nat.pow_pos (by decide)
        rw [look_suc, look_suc, hpt]
        exact (hc (s / 8 ^ k) (by rw [Nat.div_lt_iff_lt_mul hpos]; rw [Nat.pow_succ, Nat.mul_comm] at hs; exact hs)).2.1 _ (Nat.mod_lt _ hpos)
      · refine okA_mk (fun _ => by rw [hi']; exact okA_at hok hp) (fun i hi => ?_)
        rw [hpt]
        exact (hc i hi).2.2 (okA_child hok hi)
theorem TreeIs.keep {L L' : List Int} {root : Int} {m : List Int} (t : TreeIs L root m) (hl : L'.length = L.length) (h : ∀ x ∈ nodL L (L.length / 64) 3 root, blkI L' x.toNat = blkI L x.toNat) : TreeIs L' root m ∧ nodL L' (L'.length / 64) 3 root = nodL L (L.length / 64) 3 root := by
  obtain ⟨h1, h2, h3⟩ := keepN (L' := L') 3 root h
  rw [hl]
  refine ⟨⟨t.len, ?_, ?_, fun s hs => ?_, fun s hs => ?_, fun s hs => ?_⟩, h1⟩
  · rw [hl]; exact h3 t.ok
  · rw [hl, h1]; exact t.nd
  · rw [hl, h2 s (by simpa using hs)]; exact t.map s hs
  · rw [hl]; exact t.lt s hs
  · rw [hl, h1]; exact t.out s hs
end Go.Proofs.Ytdcggjkcbheolaa
end
section
set_option linter.unusedVariables false
set_option linter.unusedSectionVars false
set_option maxRecDepth 100000
open Go Go.Am Go.RowKit
namespace Go.Proofs.Ytdcggjkcbheolaa
open Go.Proofs.Try
section
variable {L : List Int} {root : Int} {m fr : List Int} (bp : BP L root m fr)
include bp
theorem BP.o3 {s : Nat} (hs : s < 512) : (treeM L root).getD s 0 = look L (L.length / 64) 3 root s := (bp.tree.1.map s hs).symm
theorem BP.und {l q s : Nat} (hl : l < 3) (hq : q < lvN l) (hu : under l q s) : s < 512 ∧ s / 8 ^ (l + 1) = q ∧ s % 8 ^ (l + 1) = s - q * 8 ^ (l + 1) := by
  have h1 := (lv_span hl hq).1
  obtain ⟨u1, u2⟩ := hu
  have e : s = (s - q * 8 ^ (l + 1)) + q * 8 ^ (l + 1) := by omega
  have hlt : s - q * 8 ^ (l + 1) < 8 ^ (l + 1) := by omega
  have hpos : 0 < 8 ^ (l + 1) := Nat.pow_pos (by decide)
  refine ⟨by omega, ?_, ?_⟩
  · rw [e, Nat.add_mul_div_right _ _ hpos, Nat.div_eq_of_lt hlt, Nat.zero_add]
  · conv => lhs; rw [e]
    rw [Nat.add_mul_mod_self_right, Nat.mod_eq_of_lt hlt]
/-- A sector of the old tree, by the node above it. -/
theorem BP.oU {l q s : Nat} (hl : l < 3) (hq : q < lvN l) (hu : under l q s) : (treeM L root).getD s 0 = look L (L.length / 64) (l + 1) (look L (L.length / 64) (2 - l) root q) (s - q * 8 ^ (l + 1)) := by
  obtain ⟨h1, h2, h3⟩ := bp.und hl hq hu
  rw [bp.o3 h1]
  have := look_comp L (L.length / 64) (2 - l) (l + 1) root s (by rw [show 2 - l + (l + 1) = 3 by omega]; simpa using h1)
  rw [show 2 - l + (l + 1) = 3 by omega, h2, h3] at this
  exact this
/-- An old node leads to a sector. -/
theorem BP.oNe {l q : Nat} (hl : l < 3) (hq : q < lvN l) (h0 : look L (L.length / 64) (2 - l) root q ≠ 0) : ∃ s, under l q s ∧ (treeM L root).getD s 0 ≠ 0 := by
  have hq8 : q < 8 ^ (2 - l) := hq
  have hok : okA L (L.length / 64) (l + 1) (look L (L.length / 64) (2 - l) root q) := by
    intro s hs
    have key : ∀ (a b : Nat) (p : Int) (q : Nat), q < 8 ^ a → okA L (L.length / 64) (a + b) p → okA L (L.length / 64) b (look L (L.length / 64) a p q) := by
      intro a
      induction a with
      | zero => intro b p q _ h; rw [Nat.zero_add] at h; exact h
      | succ a ih =>
        intro b p q hq h
        have hpos : 0 < 8 ^ a := Nat.pow_pos (by decide)
        rw [look_suc]
        refine ih b _ _ (Nat.mod_lt _ hpos) ?_
        rw [show a + 1 + b = (a + b) + 1 by omega] at h
        exact okA_child h (by rw [Nat.div_lt_iff_lt_mul hpos]; rw [Nat.pow_succ, Nat.mul_comm] at hq; exact hq)
    have := key (2 - l) (l + 1) root q hq8 (by rw [show 2 - l + (l + 1) = 3 by omega]; exact bp.tree.1.ok)
    exact this s hs
  obtain ⟨s, hs, hne⟩ := okA_sec _ _ hok h0
  have hu : under l q (q * 8 ^ (l + 1) + s) := ⟨Nat.le_add_right _ _, by omega⟩
  refine ⟨_, hu, ?_⟩
  rw [bp.oU hl hq hu, Nat.add_sub_cancel_left]
  exact hne
theorem BP.ol : (treeM L root).length = 512 := treeM_len L root
/-- What a table tells. -/
theorem BP.val {l q : Nat} (hl : l < 3) (hq : q < lvN l) :
    (∃ j, ∃ hj : j < (freN L root m).length, (freN L root m)[j] = (l, q) ∧ bldV L root m fr l q = fr.getD j 0 ∧ zrB m l q = false) ∨
    (zrB m l q = true ∧ bldV L root m fr l q = 0) ∨
    (zrB m l q = false ∧ smB m (treeM L root) l q = true ∧ bldV L root m fr l q = look L (L.length / 64) (2 - l) root q ∧ look L (L.length / 64) (2 - l) root q ≠ 0) := by
  cases hn : newB m (treeM L root) l q with
  | true =>
    obtain ⟨j, hj, hjq⟩ := bp.idx hl hq hn
    refine .inl ⟨j, hj, hjq, ?_, ?_⟩
    · have := bp.tab.1 j hj
      rw [hjq] at this
      exact this
    · unfold newB at hn
      rw [Bool.not_eq_true', Bool.or_eq_false_iff] at hn
      exact hn.1
  | false =>
    have hv := bp.tab.2 l q hl hq hn
    unfold newB at hn
    rw [Bool.not_eq_false'] at hn
    cases hz : zrB m l q with
    | true => exact .inr (.inl ⟨rfl, by rw [hv, hz]; rfl⟩)
    | false =>
      rw [hz, Bool.false_or] at hn
      rw [hz] at hv
      refine .inr (.inr ⟨rfl, hn, hv, fun h0 => ?_⟩)
      have hall : zrB m l q = true := (zr_iff bp.ml hl hq).2 (fun s hs => by
        rw [(sm_iff bp.ml bp.ol hl hq).1 hn s hs, bp.oU hl hq hs, h0, look_zero])
      rw [hall] at hz; cases hz
theorem BP.oAt {l q : Nat} (hl : l < 3) (hq : q < lvN l) (h0 : look L (L.length / 64) (2 - l) root q ≠ 0) : atIs L (L.length / 64) (look L (L.length / 64) (2 - l) root q) (l : Int) = true := by
  have := okA_look 3 root (2 - l) q bp.tree.1.ok (by omega) hq h0
  rwa [show 3 - 1 - (2 - l) = l by omega] at this
theorem BP.rng {l q : Nat} (hl : l < 3) (hq : q < lvN l) : bldV L root m fr l q = 0 ∨ (2 ≤ bldV L root m fr l q ∧ bldV L root m fr l q < (L.length / 64 : Nat)) := by
  rcases bp.val hl hq with ⟨j, hj, _, hv, _⟩ | ⟨_, hv⟩ | ⟨_, _, hv, h0⟩
  · rw [hv]; exact .inr (bp.f1 j (Nat.lt_of_lt_of_le hj bp.need))
  · exact .inl hv
  · rw [hv]; exact .inr (atIs_ne (bp.oAt hl hq h0))
theorem BP.vne {l q : Nat} (hl : l < 3) (hq : q < lvN l) (hz : zrB m l q = false) : bldV L root m fr l q ≠ 0 := by
  rcases bp.val hl hq with ⟨j, hj, _, hv, _⟩ | ⟨hz2, _⟩ | ⟨_, _, hv, h0⟩
  · rw [hv]; have := bp.f1 j (Nat.lt_of_lt_of_le hj bp.need); omega
  · rw [hz] at hz2; cases hz2
  · rw [hv]; exact h0
/-- What stands so far down, so far along: nodes, at last sectors. -/
def bldX (L : List Int) (root : Int) (m fr : List Int) (d q : Nat) : Int := if d = 3 then m.getD q 0 else bldV L root m fr (2 - d) q
theorem BP.ptrGet {l q i : Nat} (hl : l < 3) (hq : q < lvN l) (hi : i < 8) : (ptrOf m (bldW L root m fr).1 l q)[i]? = some (bldX L root m fr (3 - l) (q * 8 + i)) := by
  unfold ptrOf bldX
  by_cases h0 : l = 0
  · subst h0
    rw [if_pos rfl, if_pos (by omega)]
    have := part_get bp.ml (l := 0) (p := q) (k := i) hl hq hi
    simpa using this
  · rw [if_neg h0, if_neg (by omega), List.getElem?_take, if_pos hi, List.getElem?_drop]
    have hlen : ((bldW L root m fr).1 (l - 1)).length = lvN (l - 1) := by
      have := wrS_tlen m (isT (wasT L (L.length / 64) root) m 3 0) (freN L root m) (fr.take (freN L root m).length) (freN L root m).length (l - 1)
      rw [isT_len] at this
      exact this
    have hup := lvN_up (by omega) hl
    unfold bldV
    rw [show 2 - (3 - l) = l - 1 by omega, List.getD_eq_getElem?_getD, List.getElem?_eq_getElem (by omega)]; rfl
theorem BP.ptrLen {l q : Nat} (hl : l < 3) (hq : q < lvN l) : (ptrOf m (bldW L root m fr).1 l q).length = 8 := by
  refine ptrOf_len bp.ml (fun k hk => ?_) hl hq
  have := wrS_tlen m (isT (wasT L (L.length / 64) root) m 3 0) (freN L root m) (fr.take (freN L root m).length) (freN L root m).length k
  rw [isT_len] at this
  exact this
theorem BP.xr {d q : Nat} (hd : d ≤ 3) (hq : q < 8 ^ d) : bldX L root m fr d q = 0 ∨ (2 ≤ bldX L root m fr d q ∧ bldX L root m fr d q < (L.length / 64 : Nat)) := by
  unfold bldX
  split
  · rename_i h; subst h; exact bp.mr q (by simpa using hq)
  · exact bp.rng (by omega) (by unfold lvN; rw [show 2 - (2 - d) = d by omega]; exact hq)
theorem BP.nok {l q : Nat} (hl : l < 3) (hq : q < lvN l) (hz : zrB m l q = false) : nodOk (l : Int) (ptrOf m (bldW L root m fr).1 l q) = true := by
  have hB := bp.B
  have hq8 : q * 8 + 7 < 8 ^ (3 - l) := by
    have : q < 8 ^ (2 - l) := hq
    rw [show 3 - l = (2 - l) + 1 by omega, Nat.pow_succ]; omega
  unfold nodOk
  rw [Bool.and_eq_true, Bool.and_eq_true, Bool.and_eq_true, decide_eq_false (show ¬ (l : Int) < 0 by omega), show decide ((l : Int) > 2) = false from decide_eq_false (by omega), List.all_eq_true]
  refine ⟨fun x hx => ?_, rfl, rfl, ?_⟩
  · obtain ⟨i, hi, rfl⟩ := List.mem_iff_getElem.1 hx
    have hi8 := hi
    rw [bp.ptrLen hl hq] at hi8
    have hg := bp.ptrGet hl hq hi8
    rw [List.getElem?_eq_getElem hi, Option.some.injEq] at hg
    rw [hg]
    have := bp.xr (d := 3 - l) (q := q * 8 + i) (by omega) (by omega)
    unfold ptrB
    rcases this with h | ⟨h1, h2⟩
    · rw [h]; rfl
    · rw [decide_eq_true (show bldX L root m fr (3 - l) (q * 8 + i) ≥ 2 from h1), decide_eq_true (show bldX L root m fr (3 - l) (q * 8 + i) < 4096 by omega)]; simp
  · -- one is not zero
    have hex : ∃ s, under l q s ∧ m.getD s 0 ≠ 0 := by
      apply Classical.byContradiction
      intro hno
      have : zrB m l q = true := (zr_iff bp.ml hl hq).2 (fun s hs => Classical.byContradiction fun g => hno ⟨s, hs, g⟩)
      rw [hz] at this; cases this
    obtain ⟨s, hs, hne⟩ := hex
    have hpos : 0 < 8 ^ l := Nat.pow_pos (by decide)
    have hp8 : 8 ^ (l + 1) = 8 ^ l * 8 := Nat.pow_succ ..
    obtain ⟨u1, u2⟩ := hs
    have hqm : q * 8 ^ (l + 1) = q * 8 * 8 ^ l := by rw [hp8, Nat.mul_comm (8 ^ l) 8, Nat.mul_assoc]
    have hi8 : s / 8 ^ l - q * 8 < 8 ∧ q * 8 ≤ s / 8 ^ l := by
      have h1 : q * 8 ≤ s / 8 ^ l := by rw [Nat.le_div_iff_mul_le hpos]; omega
      have h2 : s / 8 ^ l < q * 8 + 8 := by rw [Nat.div_lt_iff_lt_mul hpos, Nat.add_mul]; omega
      omega
    obtain ⟨i, hi⟩ : ∃ i, i = s / 8 ^ l - q * 8 := ⟨_, rfl⟩
    have hsi : s / 8 ^ l = q * 8 + i := by omega
    have hi8' : i < 8 := by omega
    have hX : bldX L root m fr (3 - l) (q * 8 + i) ≠ 0 := by
      unfold bldX
      by_cases h0 : l = 0
      · subst h0
        rw [if_pos (by omega)]
        rw [Nat.pow_zero, Nat.div_one] at hsi
        rw [← hsi]; exact hne
      · rw [if_neg (by omega), show 2 - (3 - l) = l - 1 by omega]
        have hq2 : q * 8 + i < lvN (l - 1) := by rw [lvN_up (by omega) hl]; omega
        refine bp.vne (by omega) hq2 ?_
        rw [← Bool.not_eq_true]
        intro hzz
        have := (zr_iff bp.ml (by omega) hq2).1 hzz s ?_
        · exact hne this
        · unfold under
          rw [show l - 1 + 1 = l by omega, ← hsi]
          have h1 := Nat.div_add_mod s (8 ^ l)
          have h2 := Nat.mod_lt s hpos
          rw [Nat.mul_comm] at h1
          constructor <;> omega
    have hg := bp.ptrGet hl hq hi8'
    unfold anyP
    rw [List.any_eq_true]
    exact ⟨_, List.mem_of_getElem? hg, bne_iff_ne.2 hX⟩
end
end Go.Proofs.Ytdcggjkcbheolaa
end
section
set_option linter.unusedVariables false
set_option linter.unusedSectionVars false
set_option maxRecDepth 100000
open Go Go.Am Go.RowKit
namespace Go.Proofs.Ytdcggjkcbheolaa
open Go.Proofs.Try
/-- The device with the new nodes written. -/
def newL (L : List Int) (root : Int) (m fr : List Int) : List Int := applyL L (bldW L root m fr).2
section
variable {L : List Int} {root : Int} {m fr : List Int} (bp : BP L root m fr) (hb : Byt L)
include bp
theorem BP.nodD_eq {j : Nat} (hj : j < (freN L root m).length) : nodD (freN L root m)[j].1 (ptrOf m (bldW L root m fr).1 (freN L root m)[j].1 (freN L root m)[j].2) = nodBlock ((freN L root m)[j].1 : Int) (ptrOf m (bldW L root m fr).1 (freN L root m)[j].1 (freN L root m)[j].2) := by
  obtain ⟨h1, h2, h3⟩ := bp.pos hj
  unfold newB at h3
  rw [Bool.not_eq_true', Bool.or_eq_false_iff] at h3
  unfold nodD
  rw [if_pos (bp.nok h1 h2 h3.1)]
theorem BP.wr : ∀ x ∈ (bldW L root m fr).2, wrOk L.length x := by
  intro x hx
  obtain ⟨j, hj, rfl⟩ := List.mem_iff_getElem.1 hx
  have hj2 := hj
  rw [bp.outLen] at hj2
  have ho := bp.out hj2
  rw [List.getElem?_eq_getElem hj, Option.some.injEq] at ho
  rw [ho, bp.nodD_eq hj2]
  obtain ⟨h1, h2, _⟩ := bp.pos hj2
  obtain ⟨f1, f2⟩ := bp.f1 j (Nat.lt_of_lt_of_le hj2 bp.need)
  have hB := bp.B
  have hpl := bp.ptrLen h1 h2
  obtain ⟨a, ha⟩ := Int.eq_ofNat_of_zero_le (show 0 ≤ fr.getD j 0 by omega)
  refine ⟨rfl, ⟨a, ha, ?_⟩, nodBlock_len hpl, nodBlock_byt hpl⟩
  have : a + 1 ≤ L.length / 64 := by omega
  have := Nat.mul_le_mul_right 64 this
  omega
theorem BP.stp : stepsE L.length (bldW L root m fr).2 = 0 := stepsE_wr bp.dev (by rw [bp.outLen]; have := freN_len L root m; omega) bp.wr
include hb
theorem BP.len : (newL L root m fr).length = L.length := (applyL_wr _ L bp.wr rfl hb).1
theorem BP.byt : Byt (newL L root m fr) := (applyL_wr _ L bp.wr rfl hb).2.1
/-- What is not written stays. -/
theorem BP.same {c : Int} (h0 : 0 ≤ c) (hc : ∀ j, j < (freN L root m).length → fr.getD j 0 ≠ c) : blkI (newL L root m fr) c.toNat = blkI L c.toNat := by
  refine (applyL_wr _ L bp.wr rfl hb).2.2 c.toNat (fun x hx g => ?_)
  obtain ⟨j, hj, rfl⟩ := List.mem_iff_getElem.1 hx
  have hj2 := hj
  rw [bp.outLen] at hj2
  have ho := bp.out hj2
  rw [List.getElem?_eq_getElem hj, Option.some.injEq] at ho
  rw [ho] at g
  exact hc j hj2 (by simpa using g.trans (Int.toNat_of_nonneg h0))
theorem BP.blk {j : Nat} (hj : j < (freN L root m).length) : blkI (newL L root m fr) (fr.getD j 0).toNat = nodBlock ((freN L root m)[j].1 : Int) (ptrOf m (bldW L root m fr).1 (freN L root m)[j].1 (freN L root m)[j].2) := by
  have hjo : j < (bldW L root m fr).2.length := by rw [bp.outLen]; exact hj
  have ho := bp.out hj
  rw [List.getElem?_eq_getElem hjo, Option.some.injEq] at ho
  have := applyL_at _ L bp.wr rfl hb (List.pairwise_iff_getElem.2 (fun i k hi hk hik => by
    have hi2 := hi
    have hk2 := hk
    rw [bp.outLen] at hi2 hk2
    have oi := bp.out hi2
    have ok := bp.out hk2
    rw [List.getElem?_eq_getElem hi, Option.some.injEq] at oi
    rw [List.getElem?_eq_getElem hk, Option.some.injEq] at ok
    rw [oi, ok]
    have := bp.f2 i k hik (Nat.lt_of_lt_of_le hk2 bp.need)
    show fr.getD i 0 ≠ fr.getD k 0
    omega)) _ (List.getElem_mem hjo)
  rw [ho, bp.nodD_eq hj] at this
  exact this
theorem BP.newV {j : Nat} (hj : j < (freN L root m).length) : atV (newL L root m fr) (L.length / 64) (fr.getD j 0) = (((freN L root m)[j].1 : Int), ptrOf m (bldW L root m fr).1 (freN L root m)[j].1 (freN L root m)[j].2) ∧ atIs (newL L root m fr) (L.length / 64) (fr.getD j 0) ((freN L root m)[j].1 : Int) = true := by
  obtain ⟨h1, h2, h3⟩ := bp.pos hj
  unfold newB at h3
  rw [Bool.not_eq_true', Bool.or_eq_false_iff] at h3
  have hok := bp.nok h1 h2 h3.1
  have hin := atIn_iff.2 (bp.f1 j (Nat.lt_of_lt_of_le hj bp.need))
  obtain ⟨g1, g2⟩ := nodV_back (bp.ptrLen h1 h2) hok
  have hv : atV (newL L root m fr) (L.length / 64) (fr.getD j 0) = (((freN L root m)[j].1 : Int), ptrOf m (bldW L root m fr).1 (freN L root m)[j].1 (freN L root m)[j].2) := by
    unfold atV
    rw [if_pos hin, bp.blk hb hj, g2]
  refine ⟨hv, ?_⟩
  unfold atIs
  rw [hin, hv, bp.blk hb hj, g1]
  simp
/-- An old node is as it was. -/
theorem BP.oldSame {x : Int} (hx : x ∈ treeN L root) (h0 : 0 ≤ x) : blkI (newL L root m fr) x.toNat = blkI L x.toNat := bp.same hb h0 (fun j hj e => (bp.f3 j (Nat.lt_of_lt_of_le hj bp.need)).2 (by rw [e]; exact hx))
theorem BP.oldMem {l q : Nat} (hl : l < 3) (hq : q < lvN l) (h0 : look L (L.length / 64) (2 - l) root q ≠ 0) : look L (L.length / 64) (2 - l) root q ∈ treeN L root := by
  rw [bp.tree.2]
  exact nodL_mem.2 ⟨h0, 2 - l, q, by omega, hq, rfl⟩
theorem BP.step {d q i : Nat} (hd : d < 3) (hq : q < 8 ^ d) (hi : i < 8) : (ptrsL (newL L root m fr) (L.length / 64) (bldX L root m fr d q)).getD i 0 = bldX L root m fr (d + 1) (q * 8 + i) := by
  obtain ⟨l, hl⟩ : ∃ l, l = 2 - d := ⟨_, rfl⟩
  have hl3 : l < 3 := by omega
  have hdl : d = 2 - l := by omega
  have hql : q < lvN l := by unfold lvN; rw [← hdl]; exact hq
  have hX : bldX L root m fr d q = bldV L root m fr l q := by unfold bldX; rw [if_neg (by omega), hl]
  rw [hX]
  have hq8 : q * 8 + i < 8 ^ (d + 1) := by rw [Nat.pow_succ]; omega
  -- places under it
  have hsub : ∀ s, d < 2 → under (l - 1) (q * 8 + i) s → under l q s := fun s hd2 ⟨u1, u2⟩ => by
    rw [show l - 1 + 1 = l by omega] at u1 u2
    have hp8 : 8 ^ (l + 1) = 8 ^ l * 8 := Nat.pow_succ ..
    have e1 : q * 8 ^ (l + 1) = q * 8 * 8 ^ l := by rw [hp8, Nat.mul_comm (8 ^ l) 8, Nat.mul_assoc]
    have e2 : (q * 8 + i) * 8 ^ l = q * 8 * 8 ^ l + i * 8 ^ l := Nat.add_mul ..
    have e3 : i * 8 ^ l + 8 ^ l ≤ 8 ^ l * 8 := by rw [← Nat.succ_mul, Nat.mul_comm]; exact Nat.mul_le_mul_left _ hi
    exact ⟨by omega, by omega⟩
  have hleaf : d = 2 → under l q (q * 8 + i) := fun e => by
    have : l = 0 := by omega
    subst this
    exact ⟨by simp, by simp; omega⟩
  have hXs : bldX L root m fr (d + 1) (q * 8 + i) = if d = 2 then m.getD (q * 8 + i) 0 else bldV L root m fr (l - 1) (q * 8 + i) := by
    unfold bldX
    by_cases e : d = 2
    · rw [if_pos (by omega), if_pos e]
    · rw [if_neg (by omega), if_neg e, show 2 - (d + 1) = l - 1 by omega]
  have hql1 : d < 2 → q * 8 + i < lvN (l - 1) := fun h => by rw [lvN_up (by omega) hl3]; omega
  rcases bp.val hl3 hql with ⟨j, hj, hjq, hv, hz⟩ | ⟨hz, hv⟩ | ⟨hz, hs, hv, h0⟩
  · rw [hv]
    obtain ⟨g1, _⟩ := bp.newV hb hj
    rw [hjq] at g1
    have hne := (bp.f1 j (Nat.lt_of_lt_of_le hj bp.need)).1
    unfold ptrsL
    rw [if_neg (by omega), g1]
    have := bp.ptrGet hl3 hql hi
    rw [List.getD_eq_getElem?_getD, this, show 3 - l = d + 1 by omega]; rfl
  · rw [hv]
    have : (ptrsL (newL L root m fr) (L.length / 64) 0).getD i 0 = 0 := by unfold ptrsL; rw [if_pos rfl, nz_get]
    rw [this, hXs]
    have hzz := (zr_iff bp.ml hl3 hql).1 hz
    by_cases e : d = 2
    · rw [if_pos e, hzz _ (hleaf e)]
    · rw [if_neg e]
      have hz1 : zrB m (l - 1) (q * 8 + i) = true := (zr_iff bp.ml (by omega) (hql1 (by omega))).2 (fun s hs => hzz s (hsub s (by omega) hs))
      rcases bp.val (show l - 1 < 3 by omega) (hql1 (by omega)) with ⟨_, _, _, _, hz2⟩ | ⟨_, hv2⟩ | ⟨hz2, _⟩
      · rw [hz1] at hz2; cases hz2
      · exact hv2.symm
      · rw [hz1] at hz2; cases hz2
  · rw [hv]
    have hmem := bp.oldMem hb hl3 hql h0
    have hpos2 := atIs_ne (bp.oAt hl3 hql h0)
    have hsame := bp.oldSame hb hmem (by omega)
    have hpt : ptrsL (newL L root m fr) (L.length / 64) (look L (L.length / 64) (2 - l) root q) = ptrsL L (L.length / 64) (look L (L.length / 64) (2 - l) root q) := by
      unfold ptrsL atV
      rw [hsame]
    rw [hpt]
    have hlast : (ptrsL L (L.length / 64) (look L (L.length / 64) (2 - l) root q)).getD i 0 = look L (L.length / 64) (d + 1) root (q * 8 + i) := by
      rw [look_last _ _ d root (q * 8 + i) hq8, ← hdl, show (q * 8 + i) / 8 = q by omega, show (q * 8 + i) % 8 = i by omega]
    rw [hlast, hXs]
    have hmo := (sm_iff bp.ml bp.ol hl3 hql).1 hs
    by_cases e : d = 2
    · rw [if_pos e]
      subst e
      have hlt : q * 8 + i < 512 := by simpa using hq8
      rw [hmo _ (hleaf rfl), bp.o3 hlt]
    · rw [if_neg e]
      have hsm1 : smB m (treeM L root) (l - 1) (q * 8 + i) = true := (sm_iff bp.ml bp.ol (by omega) (hql1 (by omega))).2 (fun s hs => hmo s (hsub s (by omega) hs))
      have hd1 : d + 1 = 2 - (l - 1) := by omega
      rw [hd1]
      rcases bp.val (show l - 1 < 3 by omega) (hql1 (by omega)) with ⟨j, hj, hjq, _, _⟩ | ⟨hz2, hv2⟩ | ⟨_, _, hv2, _⟩
      · have := (bp.pos hj).2.2
        rw [hjq] at this
        unfold newB at this
        simp only at this
        rw [hsm1, Bool.or_true] at this
        cases this
      · rw [hv2]
        apply Classical.byContradiction
        intro hne
        obtain ⟨s, hs, hs0⟩ := bp.oNe (show l - 1 < 3 by omega) (hql1 (by omega)) hne
        rw [← hmo s (hsub s (by omega) hs), (zr_iff bp.ml (by omega) (hql1 (by omega))).1 hz2 s hs] at hs0
        exact hs0 rfl
      · rw [hv2]
theorem BP.atx {d q : Nat} (hd : d < 3) (hq : q < 8 ^ d) (h0 : bldX L root m fr d q ≠ 0) : atIs (newL L root m fr) (L.length / 64) (bldX L root m fr d q) ((2 - d : Nat) : Int) = true := by
  obtain ⟨l, hl⟩ : ∃ l, l = 2 - d := ⟨_, rfl⟩
  have hl3 : l < 3 := by omega
  have hdl : d = 2 - l := by omega
  have hql : q < lvN l := by unfold lvN; rw [← hdl]; exact hq
  have hX : bldX L root m fr d q = bldV L root m fr l q := by unfold bldX; rw [if_neg (by omega), hl]
  rw [hX] at h0 ⊢
  rw [← hl]
  rcases bp.val hl3 hql with ⟨j, hj, hjq, hv, _⟩ | ⟨_, hv⟩ | ⟨_, _, hv, h1⟩
  · rw [hv]
    have := (bp.newV hb hj).2
    rw [hjq] at this
    exact this
  · exact absurd hv h0
  · rw [hv]
    have h2 := bp.oAt hl3 hql h1
    have hsame := bp.oldSame hb (bp.oldMem hb hl3 hql h1) (by have := atIs_ne h2; omega)
    unfold atIs atV at h2 ⊢
    rw [hsame]
    exact h2
theorem BP.root0 : bldR L root m fr = bldX L root m fr 0 0 := by
  unfold bldX
  rw [if_neg (by decide)]; rfl
theorem BP.lookx : ∀ d q, d ≤ 3 → q < 8 ^ d → look (newL L root m fr) (L.length / 64) d (bldR L root m fr) q = bldX L root m fr d q := by
  intro d
  induction d with
  | zero =>
    intro q _ hq
    have : q = 0 := by simpa using hq
    subst this
    exact bp.root0 hb
  | succ d ih =>
    intro q hd hq
    have hq2 : q / 8 < 8 ^ d := by rw [Nat.pow_succ] at hq; omega
    rw [look_last _ _ d _ q hq, ih (q / 8) (by omega) hq2, bp.step hb (by omega) hq2 (Nat.mod_lt _ (by decide)), show q / 8 * 8 + q % 8 = q by omega]
theorem BP.okx : ∀ k d q, k = 3 - d → d ≤ 3 → q < 8 ^ d → okA (newL L root m fr) (L.length / 64) k (bldX L root m fr d q) := by
  intro k
  induction k with
  | zero => intro d q _ _ _ s _; trivial
  | succ k ih =>
    intro d q hk hd hq
    refine okA_mk (fun h0 => ?_) (fun i hi => ?_)
    · have := bp.atx hb (by omega) hq h0
      rwa [show 2 - d = k by omega] at this
    · rw [bp.step hb (by omega) hq hi]
      exact ih (d + 1) (q * 8 + i) (by omega) (by omega) (by rw [Nat.pow_succ]; omega)
/-- A new tree is one: its map is what was asked for. -/
theorem BP.sem (hmo : ∀ s, s < 512 → m.getD s 0 ≠ 0 → ¬ m.getD s 0 ∈ treeN L root) : TreeIs (newL L root m fr) (bldR L root m fr) m := by
  have hlen := bp.len hb
  have hval : ∀ d q, d < 3 → q < 8 ^ d → bldX L root m fr d q ≠ 0 → (∃ j, ∃ hj : j < (freN L root m).length, (freN L root m)[j] = (2 - d, q) ∧ bldX L root m fr d q = fr.getD j 0) ∨ (bldX L root m fr d q = look L (L.length / 64) d root q ∧ bldX L root m fr d q ∈ treeN L root) := fun d q hd hq h0 => by
    have hql : q < lvN (2 - d) := by unfold lvN; rw [show 2 - (2 - d) = d by omega]; exact hq
    have hX : bldX L root m fr d q = bldV L root m fr (2 - d) q := by unfold bldX; rw [if_neg (by omega)]
    rw [hX] at h0 ⊢
    rcases bp.val (show 2 - d < 3 by omega) hql with ⟨j, hj, hjq, hv, _⟩ | ⟨_, hv⟩ | ⟨_, _, hv, h1⟩
    · exact .inl ⟨j, hj, hjq, hv⟩
    · exact absurd hv h0
    · rw [hv]
      have hmem := bp.oldMem hb (show 2 - d < 3 by omega) hql h1
      rw [show 2 - (2 - d) = d by omega] at hmem ⊢
      exact .inr ⟨rfl, hmem⟩
  refine ⟨bp.ml, ?_, ?_, fun s hs => ?_, fun s hs => ?_, fun s hs c => ?_⟩
  · rw [hlen, bp.root0 hb]
    exact bp.okx hb 3 0 0 rfl (by decide) (by decide)
  · rw [hlen]
    refine nodL_nodup (fun d q d' q' hd hq hd' hq' h0 e => ?_)
    rw [bp.lookx hb d q (by omega) hq] at h0 e
    rw [bp.lookx hb d' q' (by omega) hq'] at e
    have h0' : bldX L root m fr d' q' ≠ 0 := by rw [← e]; exact h0
    rcases hval d q hd hq h0 with ⟨j, hj, hjq, hv⟩ | ⟨hv, hm⟩
    · rcases hval d' q' hd' hq' h0' with ⟨k, hk, hkq, hv'⟩ | ⟨hv', hm'⟩
      · have hjk : j = k := by
          rw [hv, hv'] at e
          rcases Nat.lt_trichotomy j k with g | g | g
          · have := bp.f2 j k g (Nat.lt_of_lt_of_le hk bp.need); omega
          · exact g
          · have := bp.f2 k j g (Nat.lt_of_lt_of_le hj bp.need); omega
        subst hjk
        rw [hjq] at hkq
        have := (Prod.mk.inj hkq)
        exact ⟨by omega, this.2⟩
      · rw [← e, hv] at hm'
        exact absurd hm' (bp.f3 j (Nat.lt_of_lt_of_le hj bp.need)).2
    · rcases hval d' q' hd' hq' h0' with ⟨k, hk, hkq, hv'⟩ | ⟨hv', hm'⟩
      · rw [e, hv'] at hm
        exact absurd hm (bp.f3 k (Nat.lt_of_lt_of_le hk bp.need)).2
      · have hnd := bp.tree.1.nd
        rw [hv] at h0
        rw [hv, hv'] at e
        exact nodL_inj hnd hd hq hd' hq' h0 e
  · rw [hlen, bp.lookx hb 3 s (by decide) (by simpa using hs)]
    unfold bldX
    rw [if_pos rfl]
  · rw [hlen]
    rcases bp.mr s hs with h | h
    · rw [h]; have := bp.B; omega
    · exact h.2
  · rw [hlen, nodL_mem] at c
    obtain ⟨h0, d, q, hd, hq, hl⟩ := c
    rw [bp.lookx hb d q (by omega) hq] at hl
    rcases hval d q hd hq (by rw [hl]; exact h0) with ⟨j, hj, _, hv⟩ | ⟨_, hm⟩
    · have := (bp.f3 j (Nat.lt_of_lt_of_le hj bp.need)).1
      rw [← hv, hl] at this
      refine this ?_
      rw [List.getD_eq_getElem?_getD, List.getElem?_eq_getElem (by rw [bp.ml]; exact hs)]
      exact List.getElem_mem _
    · rw [hl] at hm
      exact hmo s hs h0 hm
/-- What was written is of the new tree. -/
theorem BP.has {j : Nat} (hj : j < (freN L root m).length) : fr.getD j 0 ∈ nodL (newL L root m fr) (L.length / 64) 3 (bldR L root m fr) := by
  obtain ⟨h1, h2, _⟩ := bp.pos hj
  have hne := (bp.f1 j (Nat.lt_of_lt_of_le hj bp.need)).1
  have hv := bp.tab.1 j hj
  refine nodL_mem.2 ⟨by omega, 2 - (freN L root m)[j].1, (freN L root m)[j].2, by omega, h2, ?_⟩
  rw [bp.lookx hb _ _ (by omega) h2, ← hv]
  unfold bldX
  rw [if_neg (by omega), show 2 - (2 - (freN L root m)[j].1) = (freN L root m)[j].1 by omega]
end
end Go.Proofs.Ytdcggjkcbheolaa
end
section
set_option linter.unusedVariables false
set_option linter.unusedSectionVars false
set_option maxRecDepth 100000
open Go Go.Am Go.RowKit
namespace Go.Proofs.Ytdcggjkcbheolaa
open Go.Proofs.Try
/- Slices of pairs. -/
def p2 (l : List (Int × Int)) : List Value := l.flatMap fun c => [.int .i64 c.1, .int .i64 c.2]
theorem p2_len : ∀ l : List (Int × Int), (p2 l).length = l.length * 2
  | [] => rfl
  | c :: l => by show (_ :: _ :: p2 l).length = _; rw [List.length_cons, List.length_cons, p2_len l, List.length_cons]; omega
theorem p2_get : ∀ (l : List (Int × Int)) (i : Nat) (h : i < l.length), (p2 l)[i * 2]? = some (.int .i64 l[i].1) ∧ (p2 l)[i * 2 + 1]? = some (.int .i64 l[i].2)
  | x :: l, 0, _ => ⟨rfl, rfl⟩
  | x :: l, i + 1, h => by
    have := p2_get l i (by simpa using h)
    have e : p2 (x :: l) = .int .i64 x.1 :: .int .i64 x.2 :: p2 l := rfl
    rw [e, show (i + 1) * 2 = i * 2 + 1 + 1 by omega]
    simp only [List.getElem?_cons_succ]
    exact this
theorem p2_of : ∀ (q : List (Int × Int × Unit)) (acs : List Value), acs.length = q.length * 2 → (∀ (j : Nat) (y : Int × Int × Unit), q[j]? = some y → (acs.drop (j * 2)).take 2 = [.int .i64 y.1, .int .i64 y.2.1]) → acs = p2 (q.map fun y => (y.1, y.2.1))
  | [], acs, hl, _ => List.eq_nil_of_length_eq_zero (by simpa using hl)
  | y :: q, acs, hl, H => by
    have h0 := H 0 y rfl
    rw [Nat.zero_mul, List.drop_zero] at h0
    have hsplit : acs = acs.take 2 ++ acs.drop 2 := (List.take_append_drop 2 acs).symm
    rw [hsplit, h0, p2_of q (acs.drop 2) (by rw [List.length_drop, hl, List.length_cons]; omega) (fun j z hz => by
      have := H (j + 1) z (by simpa using hz)
      rw [show (j + 1) * 2 = 2 + j * 2 by omega, ← List.drop_drop] at this
      exact this)]
    rfl
theorem p2_part {l : List (Int × Int)} {i : Nat} (h : i < l.length) : apart prog 3 (p2 l) (i * 2) = some (.int .i64 l[i].1) ∧ apart prog 3 (p2 l) (i * 2 + 1) = some (.int .i64 l[i].2) := by
  obtain ⟨g1, g2⟩ := p2_get l i h
  constructor
  · show nth (p2 l) (i * 2) = _
    rw [nth_eq]; exact g1
  · show nth (p2 l) (i * 2 + 1) = _
    rw [nth_eq]; exact g2
theorem argPairs {l : List Sh} {h : Heap} {x : ArgsT (.slice (.pair (.int .i64) (.pair (.int .i64) .unit)) :: l)} {vs : List Value} (a : ArgsK (.slice (.pair (.int .i64) (.pair (.int .i64) .unit)) :: l) h x vs) :
    ∃ (n : List (Int × Int)) (r : ArgsT l) (v : Value) (vr : List Value), vs = v :: vr ∧ Sl h v 2 n.length (p2 n) ∧ ArgsK l h r vr := by
  obtain ⟨v, vr, rfl, ⟨v', acs, h3, hs, H⟩, h2⟩ := a
  injection h3 with h3
  subst h3
  obtain ⟨xl, xr⟩ := x
  have key : ∀ (q : List (Int × Int × Unit)), Sl h v 2 q.length acs → (∀ (j : Nat) (y : Int × Int × Unit), nth q j = some y → (Sh.pair (.int .i64) (.pair (.int .i64) .unit)).K h y ((acs.drop (j * 2)).take 2)) → Sl h v 2 (q.map fun y => (y.1, y.2.1)).length (p2 (q.map fun y => (y.1, y.2.1))) := by
    intro q hs H
    rw [List.length_map, ← p2_of q acs hs.1 (fun j y hy => by
      obtain ⟨c1, c2, e1, e2, e3, k1, c3, c4, e4, e5, e6, k2, k3⟩ := H j y ((nth_eq _ j).trans hy)
      have k3 : c4 = [] := k3
      rw [e1, k1.1, e4, k2.1, k3]; rfl)]
    exact hs
  exact ⟨_, xr, v, vr, rfl, key xl hs H, h2⟩
theorem abin_remu {P : Program} {t : TypeId} {a b : Int} (hb : b ≠ 0) : abinop P .rem t (.int .u64 a) (.int .u64 b) = some (.int .u64 (a.tmod b)) := by
  show cond (decide (b = 0)) none (some (Value.int .u64 (a.tmod b))) = _
  rw [decide_eq_false hb]; rfl
/-- A map of few blocks. -/
def someS (bl : Nat) (m : List Int) (x : Int × Int) : List Int := m.set ((x.1 % 18446744073709551616).tmod 512).toNat (2 + (x.2 % 18446744073709551616).tmod ((bl : Int) - 2))
def someM (bl : Nat) (l : List (Int × Int)) : List Int := l.foldl (someS bl) (List.replicate 512 0)
theorem someS_len (bl : Nat) (m : List Int) (x : Int × Int) : (someS bl m x).length = m.length := List.length_set
theorem someM_fold {bl : Nat} (hb : 3 ≤ bl) : ∀ (l : List (Int × Int)) (m : List Int), m.length = 512 → (∀ x ∈ m, x = 0 ∨ (2 ≤ x ∧ x < bl)) → (l.foldl (someS bl) m).length = 512 ∧ ∀ x ∈ l.foldl (someS bl) m, x = 0 ∨ (2 ≤ x ∧ x < bl)
  | [], m, h1, h2 => ⟨h1, h2⟩
  | y :: l, m, h1, h2 => by
    rw [List.foldl_cons]
    refine someM_fold hb l _ (by rw [someS_len]; exact h1) (fun x hx => ?_)
    rcases List.mem_or_eq_of_mem_set hx with g | g
    · exact h2 x g
    · have := modU y.2 ((bl : Int) - 2) (by omega)
      exact .inr (by omega)
theorem someM_ok {bl : Nat} (hb : 3 ≤ bl) (l : List (Int × Int)) : (someM bl l).length = 512 ∧ ∀ x ∈ someM bl l, x = 0 ∨ (2 ≤ x ∧ x < bl) :=
  someM_fold hb l _ List.length_replicate (fun x hx => .inl (List.eq_of_mem_replicate hx))
set_option maxHeartbeats 8000000 in
theorem some_ok {h : Heap} {v : Value} {l : List (Int × Int)} {bl : Nat} (sl : Sl h v 2 l.length (p2 l)) (hb : 3 ≤ bl) (hb2 : bl ≤ 4096) (hl : l.length ≤ 100000) :
    RunF prog 28 [v, .int .i64 (bl : Int)] h fun r h' => Fr no h h' ∧ ∃ b, h.next ≤ b ∧ r = .slice (some ⟨b, 0, none⟩) 512 (exc 512) ∧ Ow h' b (is (someM bl l)) := by
  refine RunF.walk func28 rfl rfl ?_
  have sl0 := sl
  obtain ⟨A, c, rfl, _, _⟩ := sl.form
  refine RunC.seq (RunC.region (RunO.all rfl ?_))
  refine RunC.seq (RunC.region ?_)
  refine RunO.make (m := 512) rfl rfl rfl rfl rfl rfl (Nat.le_of_ble_eq_true rfl) (by decide) rfl ?_
  rw [reps_is]
  have ob := Ow.push h (is (List.replicate 512 0))
  have f1 : Fr no h (h.push ⟨is (List.replicate 512 0), true⟩) := Fr.push _ _ _
  generalize h.push ⟨is (List.replicate 512 0), true⟩ = h1 at *
  obtain ⟨b, hbe⟩ : ∃ b, b = h.next := ⟨_, rfl⟩
  rw [← hbe] at ob ⊢
  refine RunO.all rfl ?_
  refine RunC.seq (RunC.seq (RunC.region (RunO.all rfl ?_)))
  refine RunC.block ?_
  let I : Nat → Env → Heap → Prop := fun d E h' => ∃ i : Nat, i + d = l.length ∧ Ow h' b (is ((l.take i).foldl (someS bl) (List.replicate 512 0))) ∧ Fr no h h' ∧
    Le (upd (upd (upd (upd E0 0 (.slice A l.length c)) 1 (.int .i64 (bl : Int))) 5 (.slice (some ⟨b, 0, none⟩) 512 (exc 512))) 6 (.int .i64 (i : Int))) E
  refine RunC.loop I ?_ (k := l.length) ?_
  · rintro d E h2 ⟨i, hi, ob2, f2, hE⟩
    refine RunC.le hE ?_
    clear hE
    refine RunC.seq (RunC.seq (RunC.region (RunO.part 5 rfl ?_)))
    by_cases hlt : i < l.length
    case neg =>
      rw [show decide ((i : Int) < (l.length : Int)) = false from decide_eq_false (by omega)]
      refine RunO.all rfl (RunC.cond rfl (fun g => by cases g) (fun _ => RunC.exit ?_))
      have : l.take i = l := List.take_of_length_le (by omega)
      rw [this] at ob2
      exact RunC.seq (RunC.region (RunO.all rfl (RunC.ret ⟨_, rfl, f2, b, by omega, rfl, ob2⟩)))
    rw [show decide ((i : Int) < (l.length : Int)) = true from decide_eq_true (by omega)]
    refine RunO.part 2 rfl ?_
    rw [show decide ((bl : Int) > 2) = true from decide_eq_true (by omega)]
    refine RunO.all rfl (RunC.cond rfl (fun _ => RunC.skip ?_) (fun g => by cases g))
    have sl2 := sl0.fr0 f2
    obtain ⟨g1, g2⟩ := p2_part hlt
    have hst : (l.take (i + 1)).foldl (someS bl) (List.replicate 512 0) = someS bl ((l.take i).foldl (someS bl) (List.replicate 512 0)) l[i] := by
      rw [List.take_succ_eq_append_getElem hlt, List.foldl_append]; rfl
    have hlen : ((l.take i).foldl (someS bl) (List.replicate 512 (0 : Int))).length = 512 := (someM_fold hb _ _ List.length_replicate (fun x hx => .inl (List.eq_of_mem_replicate hx))).1
    generalize (l.take i).foldl (someS bl) (List.replicate 512 0) = M at *
    generalize l[i] = x at *
    have hm1 := modU x.1 512 (by decide)
    have hm2 := modU x.2 ((bl : Int) - 2) (by omega)
    obtain ⟨q, hq⟩ := Int.eq_ofNat_of_zero_le hm1.1
    obtain ⟨ab, ao, ac, hav, hac, rda⟩ := sl2.nz (by omega)
    injection hav with hA _ hcc
    subst hA
    have ld1 : aload prog h2 3 ⟨ab, ao + i * 2 + 0 * 1, none⟩ = some (.int .i64 x.1) := by
      exact rda.part g1
    have ld2 : aload prog h2 3 ⟨ab, ao + i * 2 + 1 * 1, none⟩ = some (.int .i64 x.2) := by
      have := rda.part g2
      rw [← Nat.add_assoc] at this
      exact this
    refine RunC.seq (RunC.block (RunC.draw0 rfl ?_))
    refine RunO.part 3 rfl ?_
    refine RunO.index (s := 2) (k := i) rfl rfl rfl rfl hlt rfl ?_
    refine RunO.part 1 rfl ?_
    refine RunO.load (v := .int .i64 x.1) rfl ld1 rfl ?_
    refine RunO.part 1 rfl ?_
    rw [fwu64']
    refine RunO.part 1 rfl ?_
    rw [hq]
    refine RunO.part 1 rfl ?_
    rw [fw64 (x := (q : Int)) (by omega) (by omega)]
    refine RunO.part 2 rfl ?_
    refine RunO.index (s := 2) (k := i) rfl rfl rfl rfl hlt rfl ?_
    refine RunO.part 1 rfl ?_
    refine RunO.load (v := .int .i64 x.2) rfl ld2 rfl ?_
    refine RunO.part 1 rfl ?_
    rw [fwu64']
    refine RunO.part 2 rfl ?_
    rw [fw64 (x := (bl : Int) - 2) (by omega) (by omega)]
    refine RunO.part 1 rfl ?_
    rw [fwu64', show ((bl : Int) - 2) % 18446744073709551616 = (bl : Int) - 2 from Int.emod_eq_of_lt (by omega) (by omega)]
    refine RunO.bin rfl rfl (abin_remu (by omega)) rfl ?_
    refine RunO.part 1 rfl ?_
    rw [fw64 (x := (x.2 % 18446744073709551616).tmod ((bl : Int) - 2)) (by omega) (by omega)]
    refine RunO.part 1 rfl ?_
    rw [fw64 (x := 2 + (x.2 % 18446744073709551616).tmod ((bl : Int) - 2)) (by omega) (by omega)]
    refine RunO.index (s := 1) (k := q) rfl rfl rfl rfl (show q < 512 by omega) rfl ?_
    refine RunO.store rfl rfl (store1_ow ob2 rfl rfl rfl (by rw [is_len]; omega)) (RunO.nil ?_)
    have e : (is M).set (0 + q * 1) (.int .i64 (2 + (x.2 % 18446744073709551616).tmod ((bl : Int) - 2))) = is (someS bl M x) := by
      rw [Nat.zero_add, Nat.mul_one]
      unfold someS is
      rw [List.map_set, hq, Int.toNat_natCast]
    rw [e, ← hst]
    refine RunC.region (RunO.all rfl ?_)
    exact ⟨d - 1, by omega, i + 1, by omega, Ow.put _ ob2.1, f2.trans (Fr.put (m := (· = b)) _ (.inl rfl)) (fun j e => .inr (by omega)), Le.cons (inc64 (by omega)) (Le.cons rfl (Le.cons rfl (Le.cons rfl (Le.nil _))))⟩
  · exact ⟨0, by omega, ob, f1, Le.cons rfl (Le.cons rfl (Le.cons rfl (Le.cons rfl (Le.nil _))))⟩
end Go.Proofs.Ytdcggjkcbheolaa
end
section
set_option linter.unusedVariables false
set_option linter.unusedSectionVars false
set_option maxRecDepth 100000
open Go Go.Am Go.RowKit
namespace Go.Proofs.Ytdcggjkcbheolaa
open Go.Proofs.Try
/- How many nodes a new tree needs, and when it is built. -/
theorem nodup_sub {α : Type} [DecidableEq α] : ∀ (l d : List α), l.Nodup → (∀ x ∈ l, x ∈ d) → l.length ≤ d.length
  | [], d, _, _ => Nat.zero_le _
  | x :: l, d, hn, hs => by
    obtain ⟨h1, h2⟩ := List.nodup_cons.1 hn
    have hx : x ∈ d := hs x (List.mem_cons_self ..)
    have := nodup_sub l (d.erase x) h2 (fun y hy => (List.mem_erase_of_ne (fun e => h1 (by rw [← e]; exact hy))).2 (hs y (List.mem_cons_of_mem _ hy)))
    rw [List.length_erase_of_mem hx] at this
    have : 0 < d.length := List.length_pos_of_mem hx
    rw [List.length_cons]; omega
theorem news_len (m o : List Int) (l n : Nat) : (news m o l n).length ≤ n := by
  unfold news
  have := List.length_filter_le (newB m o l) (List.range n)
  rwa [List.length_range] at this
theorem freP_sum (m o : List Int) : (freP m o 3 0).length = (news m o 0 (lvN 0)).length + (news m o 1 (lvN 1)).length + (news m o 2 (lvN 2)).length := by
  unfold freP
  rw [show List.range 3 = [0, 1, 2] from rfl]
  simp only [List.flatMap_cons, List.flatMap_nil, List.length_append, List.length_map, List.length_nil]
  have := news_len m o 3 0
  omega
theorem freN_73 (L : List Int) (root : Int) (m : List Int) : (freN L root m).length ≤ 73 := by
  unfold freN
  rw [freP_sum]
  have h0 := news_len m (treeM L root) 0 (lvN 0)
  have h1 := news_len m (treeM L root) 1 (lvN 1)
  have h2 := news_len m (treeM L root) 2 (lvN 2)
  have e0 : lvN 0 = 64 := rfl
  have e1 : lvN 1 = 8 := rfl
  have e2 : lvN 2 = 1 := rfl
  omega
theorem und_div {l q s : Nat} (hl : l < 3) (hq : q < lvN l) (hu : under l q s) : s < 512 ∧ s / 8 ^ (l + 1) = q := by
  have h1 := (lv_span hl hq).1
  obtain ⟨u1, u2⟩ := hu
  refine ⟨by omega, Nat.div_eq_of_lt_le (by omega) (by rw [Nat.add_mul, Nat.one_mul]; omega)⟩
theorem newB_diff {m o : List Int} (hm : m.length = 512) (ho : o.length = 512) {l p : Nat} (hl : l < 3) (hp : p < lvN l) (h : newB m o l p = true) : ∃ s, under l p s ∧ m.getD s 0 ≠ o.getD s 0 := by
  unfold newB at h
  rw [Bool.not_eq_true', Bool.or_eq_false_iff] at h
  apply Classical.byContradiction
  intro g
  rw [(sm_iff hm ho hl hp).2 (fun s hs => Classical.byContradiction fun hne => g ⟨s, hs, hne⟩)] at h
  cases h.2
theorem news_le {m o : List Int} (hm : m.length = 512) (ho : o.length = 512) {l : Nat} (hl : l < 3) {D : List Nat} (hD : ∀ s, s < 512 → m.getD s 0 ≠ o.getD s 0 → s ∈ D) : (news m o l (lvN l)).length ≤ D.length := by
  have := nodup_sub (news m o l (lvN l)) (D.map (· / 8 ^ (l + 1))) (List.nodup_range.filter _) (fun p hp => by
    unfold news at hp
    rw [List.mem_filter, List.mem_range] at hp
    obtain ⟨s, hu, hs⟩ := newB_diff hm ho hl hp.1 hp.2
    obtain ⟨h1, h2⟩ := und_div hl hp.1 hu
    exact List.mem_map.2 ⟨s, hD s h1 hs, h2⟩)
  rwa [List.length_map] at this
theorem freN_le {L : List Int} {root : Int} {m : List Int} (hm : m.length = 512) {D : List Nat} (hD : ∀ s, s < 512 → m.getD s 0 ≠ (treeM L root).getD s 0 → s ∈ D) : (freN L root m).length ≤ 3 * D.length := by
  unfold freN
  rw [freP_sum]
  have h0 := news_le hm (treeM_len L root) (l := 0) (by decide) hD
  have h1 := news_le hm (treeM_len L root) (l := 1) (by decide) hD
  have h2 := news_le hm (treeM_len L root) (l := 2) (by decide) hD
  omega
theorem freP_nil {m o : List Int} (h : ∀ l p, l < 3 → p < lvN l → newB m o l p = false) : freP m o 3 0 = [] := by
  rw [List.eq_nil_iff_forall_not_mem]
  intro x hx
  obtain ⟨h1, h2, h3⟩ := (freP_mem m o).1 hx
  rw [h _ _ h1 h2] at h3
  cases h3
theorem freN_same {L : List Int} {root : Int} {m : List Int} (hm : m.length = 512) (h : ∀ s, s < 512 → m.getD s 0 = (treeM L root).getD s 0) : freN L root m = [] := by
  refine freP_nil (fun l p hl hp => ?_)
  cases e : newB m (treeM L root) l p with
  | false => rfl
  | true =>
    obtain ⟨s, hu, hs⟩ := newB_diff hm (treeM_len L root) hl hp e
    exact absurd (h s (und_div hl hp hu).1) hs
theorem freN_zero {L : List Int} {root : Int} {m : List Int} (hm : m.length = 512) (h : ∀ s, s < 512 → m.getD s 0 = 0) : freN L root m = [] := by
  refine freP_nil (fun l p hl hp => ?_)
  unfold newB
  rw [(zr_iff hm hl hp).2 (fun s hs => h s (und_div hl hp hs).1), Bool.true_or]; rfl
/-- A sector that is changed, and not to none: the root is new. -/
theorem freN_pos {L : List Int} {root : Int} {m : List Int} (hm : m.length = 512) {s : Nat} (hs : s < 512) (h0 : m.getD s 0 ≠ 0) (h : m.getD s 0 ≠ (treeM L root).getD s 0) : 0 < (freN L root m).length := by
  have hu : under 2 0 s := by unfold under; omega
  have : ((2, 0) : Nat × Nat) ∈ freN L root m := (freP_mem m (treeM L root)).2 ⟨by decide, by decide, by
    unfold newB
    rw [Bool.not_eq_true', Bool.or_eq_false_iff]
    constructor
    · rw [Bool.eq_false_iff]
      intro g
      exact h0 ((zr_iff hm (by decide) (by decide)).1 g s hu)
    · rw [Bool.eq_false_iff]
      intro g
      exact h ((sm_iff hm (treeM_len L root) (by decide) (by decide)).1 g s hu)⟩
  exact List.length_pos_of_mem this
theorem mayB_true {B : Nat} {m o ns fr : List Int} (f1 : ∀ i, i < fr.length → 2 ≤ fr.getD i 0 ∧ fr.getD i 0 < (B : Int)) (f2 : ∀ i, i + 1 < fr.length → fr.getD i 0 < fr.getD (i + 1) 0)
    (f3 : ∀ i, i < fr.length → ¬ fr.getD i 0 ∈ m ∧ ¬ fr.getD i 0 ∈ o ∧ ¬ fr.getD i 0 ∈ ns) : mayB B m o ns fr = true := by
  unfold mayB
  rw [List.all_eq_true]
  intro i hi
  have hi := List.mem_range.1 hi
  obtain ⟨g1, g2⟩ := f1 i hi
  obtain ⟨c1, c2, c3⟩ := f3 i hi
  have hA : mayA B fr i = false := by
    unfold mayA
    rw [decide_eq_false (by omega), decide_eq_false (by omega), Bool.or_false, Bool.false_or]
    by_cases h0 : 0 < i
    · have := f2 (i - 1) (by omega)
      rw [show i - 1 + 1 = i by omega] at this
      rw [decide_eq_false (p := fr.getD (i - 1) 0 ≥ fr.getD i 0) (by omega), Bool.and_false]
    · rw [decide_eq_false (p := (i : Int) > 0) (by omega), Bool.false_and]
  have hC : mayC m o ns (fr.getD i 0) = false := by
    unfold mayC
    rw [Bool.eq_false_iff.2 (fun g => c1 (List.contains_iff_mem.1 g)), Bool.eq_false_iff.2 (fun g => c2 (List.contains_iff_mem.1 g)), Bool.eq_false_iff.2 (fun g => c3 (List.contains_iff_mem.1 g))]; rfl
  rw [hA, hC]; rfl
theorem mapE_zero {m : List Int} {B : Nat} (hm : m.length = 512) (h : ∀ s, s < 512 → m.getD s 0 = 0 ∨ (2 ≤ m.getD s 0 ∧ m.getD s 0 < (B : Int))) : mapE m (B : Int) = 0 := by
  unfold mapE
  rw [if_pos hm, if_neg]
  intro g
  obtain ⟨x, hx, ho⟩ := List.any_eq_true.1 g
  obtain ⟨s, hs, rfl⟩ := List.mem_iff_getElem.1 hx
  have := h s (by omega)
  rw [List.getD_eq_getElem?_getD, List.getElem?_eq_getElem hs] at this
  unfold offMap at ho
  simp at ho this
  omega
theorem begin_zero {L : List Int} {root : Int} {m : List Int} (te : treeE L root = 0) (hm : m.length = 512) (h : ∀ s, s < 512 → m.getD s 0 = 0 ∨ (2 ≤ m.getD s 0 ∧ m.getD s 0 < (L.length / 64 : Nat))) : beginE L root m = 0 := by
  unfold beginE
  rw [if_pos te, mapE_zero hm h]
theorem bldE_eq {L : List Int} {root : Int} {m fr : List Int} (te : treeE L root = 0) (hm : m.length = 512) (h : ∀ s, s < 512 → m.getD s 0 = 0 ∨ (2 ≤ m.getD s 0 ∧ m.getD s 0 < (L.length / 64 : Nat)))
    (f1 : ∀ i, i < fr.length → 2 ≤ fr.getD i 0 ∧ fr.getD i 0 < (L.length / 64 : Nat)) (f2 : ∀ i, i + 1 < fr.length → fr.getD i 0 < fr.getD (i + 1) 0)
    (f3 : ∀ i, i < fr.length → ¬ fr.getD i 0 ∈ m ∧ ¬ fr.getD i 0 ∈ treeM L root ∧ ¬ fr.getD i 0 ∈ treeN L root) : bldE L root m fr = if (fr.length : Int) < ((freN L root m).length : Nat) then 9 else 0 := by
  unfold bldE
  rw [if_pos (begin_zero te hm h), mayB_true f1 f2 f3, if_pos rfl]
  simp only [decide_eq_true_eq]
theorem TreeIs.te {L : List Int} {root : Int} {m : List Int} (t : TreeIs L root m) (hd : devOk L.length = true) : treeE L root = 0 := by
  unfold treeE
  rw [if_pos hd, if_pos t.tree.1]
theorem treeE_none {L : List Int} (hd : devOk L.length = true) : treeE L 0 = 0 ∧ treeM L 0 = List.replicate 512 0 ∧ treeN L 0 = [] := by
  refine ⟨?_, rfl, rfl⟩
  unfold treeE
  rw [if_pos hd]; rfl
/-- No block of a sector, no tree. -/
theorem TreeIs.root0 {L : List Int} {root : Int} {m : List Int} (t : TreeIs L root m) (h : ∀ s, s < 512 → m.getD s 0 = 0) : root = 0 := by
  apply Classical.byContradiction
  intro h0
  obtain ⟨s, hs, hl⟩ := okA_sec 3 root t.ok h0
  have hs : s < 512 := by simpa using hs
  rw [t.map s hs, h s hs] at hl
  exact hl rfl
section
variable {L : List Int} {root : Int} {m fr : List Int} (bp : BP L root m fr)
include bp
theorem BP.hval (hb : Byt L) {d q : Nat} (hd : d < 3) (hq : q < 8 ^ d) (h0 : bldX L root m fr d q ≠ 0) : (∃ j, ∃ hj : j < (freN L root m).length, (freN L root m)[j] = (2 - d, q) ∧ bldX L root m fr d q = fr.getD j 0) ∨ (bldX L root m fr d q = look L (L.length / 64) d root q ∧ bldX L root m fr d q ∈ treeN L root ∧ zrB m (2 - d) q = false ∧ smB m (treeM L root) (2 - d) q = true) := by
  have hql : q < lvN (2 - d) := by unfold lvN; rw [show 2 - (2 - d) = d by omega]; exact hq
  have hX : bldX L root m fr d q = bldV L root m fr (2 - d) q := by unfold bldX; rw [if_neg (by omega)]
  rw [hX] at h0 ⊢
  rcases bp.val (show 2 - d < 3 by omega) hql with ⟨j, hj, hjq, hv, _⟩ | ⟨_, hv⟩ | ⟨hz, hs, hv, h1⟩
  · exact .inl ⟨j, hj, hjq, hv⟩
  · exact absurd hv h0
  · rw [hv]
    have hmem := bp.oldMem hb (show 2 - d < 3 by omega) hql h1
    rw [show 2 - (2 - d) = d by omega] at hmem ⊢
    exact .inr ⟨rfl, hmem, hz, hs⟩
/-- A node of the new tree is a block that was free, or an old tree's node. -/
theorem BP.sub (hb : Byt L) {x : Int} (hx : x ∈ nodL (newL L root m fr) (L.length / 64) 3 (bldR L root m fr)) : (∃ j, j < (freN L root m).length ∧ x = fr.getD j 0) ∨ x ∈ treeN L root := by
  obtain ⟨h0, d, q, hd, hq, hl⟩ := nodL_mem.1 hx
  rw [bp.lookx hb d q (by omega) hq] at hl
  rcases bp.hval hb hd hq (by rw [hl]; exact h0) with ⟨j, hj, _, hv⟩ | ⟨_, hm, _⟩
  · exact .inl ⟨j, hj, by rw [← hl, hv]⟩
  · exact .inr (by rw [← hl]; exact hm)
/-- Without new nodes nothing is written; the root is none or the old one. -/
theorem BP.same_none (h : freN L root m = []) : (bldW L root m fr).2 = [] := List.eq_nil_of_length_eq_zero (by rw [bp.outLen, h]; rfl)
theorem BP.root_old (hb : Byt L) (h : freN L root m = []) (h0 : bldR L root m fr ≠ 0) : bldR L root m fr = root := by
  rw [bp.root0 hb] at h0 ⊢
  rcases bp.hval hb (d := 0) (q := 0) (by decide) (by decide) h0 with ⟨j, hj, _, _⟩ | ⟨hv, _⟩
  · rw [h] at hj; exact absurd hj (Nat.not_lt_zero _)
  · exact hv
theorem BP.root_zero (hb : Byt L) (h : ∀ s, s < 512 → m.getD s 0 = 0) : bldR L root m fr = 0 := by
  apply Classical.byContradiction
  intro h0
  rw [bp.root0 hb] at h0
  have hzr : zrB m 2 0 = true := (zr_iff bp.ml (by decide) (by decide)).2 (fun s hs => h s (und_div (by decide) (by decide) hs).1)
  rcases bp.hval hb (d := 0) (q := 0) (by decide) (by decide) h0 with ⟨j, hj, hjq, _⟩ | ⟨_, _, hz, _⟩
  · have hn := (bp.pos hj).2.2
    rw [hjq] at hn
    unfold newB at hn
    simp only [show 2 - 0 = 2 from rfl] at hn
    rw [hzr, Bool.true_or] at hn
    cases hn
  · rw [show 2 - 0 = 2 from rfl, hzr] at hz
    cases hz
end
end Go.Proofs.Ytdcggjkcbheolaa
end
section
set_option linter.unusedVariables false
set_option linter.unusedSectionVars false
set_option maxRecDepth 100000
open Go Go.Am Go.RowKit
namespace Go.Proofs.Ytdcggjkcbheolaa
open Go.Proofs.Try
/- A list done in part, from its front; and two trees built one beside the other. -/
def mpd (f : Int → Int) (m : List Int) (i : Nat) : List Int := (m.take i).map f ++ m.drop i
theorem mpd_zero (f : Int → Int) (m : List Int) : mpd f m 0 = m := by unfold mpd; rw [List.take_zero, List.drop_zero]; rfl
theorem mpd_all (f : Int → Int) {m : List Int} {i : Nat} (h : m.length ≤ i) : mpd f m i = m.map f := by
  unfold mpd; rw [List.take_of_length_le h, List.drop_eq_nil_of_le h, List.append_nil]
theorem mpd_len (f : Int → Int) (m : List Int) (i : Nat) : (mpd f m i).length = m.length := by
  unfold mpd; rw [List.length_append, List.length_map, ← List.length_append, List.take_append_drop]
theorem mpd_get (f : Int → Int) {m : List Int} {i : Nat} (h : i < m.length) : (mpd f m i)[i]? = some m[i] := by
  unfold mpd
  rw [List.getElem?_append_right (by rw [List.length_map, List.length_take]; omega), List.length_map, List.length_take, Nat.min_eq_left (by omega), Nat.sub_self, List.getElem?_drop, Nat.add_zero, List.getElem?_eq_getElem h]
theorem mpd_succ (f : Int → Int) {m : List Int} {i : Nat} (h : i < m.length) : mpd f m (i + 1) = (mpd f m i).set i (f m[i]) := by
  unfold mpd
  rw [List.set_append_right _ _ (by rw [List.length_map, List.length_take]; omega), List.length_map, List.length_take, Nat.min_eq_left (by omega), Nat.sub_self, List.take_succ_eq_append_getElem h, List.map_append, List.append_assoc, List.drop_eq_getElem_cons h]
  rfl
theorem mpd_skip (f : Int → Int) {m : List Int} {i : Nat} (h : i < m.length) (he : f m[i] = m[i]) : mpd f m (i + 1) = mpd f m i := by
  rw [mpd_succ f h, he]
  have hg := mpd_get f h
  have hl : i < (mpd f m i).length := by rw [mpd_len]; exact h
  rw [List.getElem?_eq_getElem hl, Option.some.injEq] at hg
  rw [← hg, List.set_getElem_self]
theorem is_at {l : List Int} {i : Nat} {x : Int} (h : l[i]? = some x) : apart prog 3 (is l) (i * 1) = some (.int .i64 x) := by
  have hi : i < l.length := (List.getElem?_eq_some_iff.1 h).1
  have hx : l[i] = x := (List.getElem?_eq_some_iff.1 h).2
  rw [is_part hi, hx]
def sh200 (x : Int) : Int := if 0 < x then x + 200 else x
def lst (n : Nat) : List Int := (List.range n).map fun (j : Nat) => (j : Int) + 2
theorem lst_len (n : Nat) : (lst n).length = n := by unfold lst; rw [List.length_map, List.length_range]
theorem lst_get {n i : Nat} (h : i < n) : (lst n).getD i 0 = (i : Int) + 2 := by
  unfold lst; rw [List.getD_eq_getElem?_getD, List.getElem?_map, List.getElem?_range h]; rfl
theorem lst_succ (n : Nat) : lst (n + 1) = lst n ++ [(n : Int) + 2] := by unfold lst; rw [List.range_succ, List.map_append]; rfl
theorem inc642 {i : Nat} (h : i < 1000) : some (Value.int .i64 (fwrap .i64 ((i : Int) + 2 + 1))) = some (.int .i64 (((i + 1 : Nat) : Int) + 2)) := by
  rw [fw64 (by omega) (by omega), show (i : Int) + 2 + 1 = ((i + 1 : Nat) : Int) + 2 by omega]
/-- A map of blocks between 200 and 300. -/
def MapOk (m : List Int) : Prop := m.length = 512 ∧ ∀ x ∈ m, x = 0 ∨ (200 ≤ x ∧ x < 300)
theorem MapOk.get {m : List Int} (h : MapOk m) {s : Nat} (hs : s < 512) : m.getD s 0 = 0 ∨ (200 ≤ m.getD s 0 ∧ m.getD s 0 < 300) := by
  have hl : s < m.length := by rw [h.1]; exact hs
  rw [List.getD_eq_getElem?_getD, List.getElem?_eq_getElem hl]
  exact h.2 _ (List.getElem_mem hl)
theorem MapOk.some {bl : Nat} (h3 : 3 ≤ bl) (h60 : bl ≤ 100) (l : List (Int × Int)) : MapOk ((someM bl l).map sh200) := by
  obtain ⟨h1, h2⟩ := someM_ok h3 l
  refine ⟨by rw [List.length_map]; exact h1, fun x hx => ?_⟩
  obtain ⟨y, hy, rfl⟩ := List.mem_map.1 hx
  unfold sh200
  rcases h2 y hy with e | e
  · rw [e, if_neg (by decide)]; exact .inl rfl
  · rw [if_pos (by omega)]; omega
theorem MapOk.zero : MapOk (List.replicate 512 0) := ⟨List.length_replicate, fun x hx => .inl (List.eq_of_mem_replicate hx)⟩
def L0 : List Int := List.replicate 19200 0
theorem L0_len : L0.length = 19200 := List.length_replicate
theorem L0_byt : Byt L0 := byt_zeros _
def n1 (m : List Int) : Nat := (freN L0 0 m).length
def T1 (m : List Int) : List Int := newL L0 0 m (lst 198)
def r1 (m : List Int) : Int := bldR L0 0 m (lst 198)
def rs1 (m : List Int) : List Int := (lst 198).drop (n1 m)
theorem n1_le (m : List Int) : n1 m ≤ 73 := freN_73 _ _ _
theorem rs1_len (m : List Int) : (rs1 m).length = 198 - n1 m := by unfold rs1; rw [List.length_drop, lst_len]
theorem rs1_get {m : List Int} {i : Nat} (h : i < 198 - n1 m) : (rs1 m).getD i 0 = (i : Int) + n1 m + 2 := by
  have := lst_get (n := 198) (i := n1 m + i) (by omega)
  unfold rs1
  rw [List.getD_eq_getElem?_getD, List.getElem?_drop, ← List.getD_eq_getElem?_getD, this]; omega
theorem first_ok {m : List Int} (h : MapOk m) : bldE L0 0 m (lst 198) = 0 := by
  have hd : devOk L0.length = true := by rw [L0_len]; decide
  obtain ⟨t1, t2, t3⟩ := treeE_none hd
  rw [bldE_eq t1 h.1 (fun s hs => by have := h.get hs; rw [L0_len]; omega) (fun i hi => ?_) (fun i hi => ?_) (fun i hi => ?_)]
  · have := freN_73 L0 0 m
    rw [if_neg (by rw [lst_len]; omega)]
  · rw [lst_len] at hi; rw [lst_get hi, L0_len]; omega
  · rw [lst_len] at hi; rw [lst_get hi, lst_get (by omega)]; omega
  · rw [lst_len] at hi
    rw [lst_get hi, t2, t3]
    refine ⟨fun g => ?_, fun g => ?_, fun g => by cases g⟩
    · have := h.2 _ g; omega
    · have := List.eq_of_mem_replicate g; omega
theorem first_tree {m : List Int} (h : MapOk m) : TreeIs (T1 m) (r1 m) m ∧ (T1 m).length = 19200 ∧ Byt (T1 m) ∧ (∀ x ∈ nodL (T1 m) ((T1 m).length / 64) 3 (r1 m), 2 ≤ x ∧ x < (n1 m : Int) + 2) := by
  have bp := BP.of (first_ok h)
  have hl := bp.len L0_byt
  refine ⟨bp.sem L0_byt (fun s hs h0 g => by cases g), hl.trans L0_len, bp.byt L0_byt, fun x hx => ?_⟩
  unfold T1 r1 at hx
  rw [hl] at hx
  rcases bp.sub L0_byt hx with ⟨j, hj, rfl⟩ | g
  · have hj : j < n1 m := hj
    have := n1_le m
    rw [lst_get (by omega)]; omega
  · cases g
/-- A second tree, beside the first. -/
theorem second_ok {m m2 fr : List Int} (h : MapOk m) (h2 : MapOk m2) (hfr : fr = rs1 m ∨ (fr = [] ∧ freN (T1 m) (r1 m) m2 = [])) : bldE (T1 m) (r1 m) m2 fr = 0 := by
  obtain ⟨t, tl, tb, tn⟩ := first_tree h
  have hd : devOk (T1 m).length = true := by rw [tl]; decide
  have hn := n1_le m
  have hg : ∀ i, i < fr.length → fr.getD i 0 = (i : Int) + n1 m + 2 ∧ i < 198 - n1 m := fun i hi => by
    rcases hfr with rfl | ⟨rfl, _⟩
    · rw [rs1_len] at hi; exact ⟨rs1_get hi, hi⟩
    · cases hi
  rw [bldE_eq (t.te hd) h2.1 (fun s hs => by have := h2.get hs; rw [tl]; omega) (fun i hi => ?_) (fun i hi => ?_) (fun i hi => ?_)]
  · have hN := freN_73 (T1 m) (r1 m) m2
    rw [if_neg]
    rcases hfr with rfl | ⟨rfl, e⟩
    · rw [rs1_len]; omega
    · rw [e]; simp
  · have := (hg i hi).2
    rw [(hg i hi).1, tl]; omega
  · rw [(hg i (by omega)).1, (hg _ hi).1]; omega
  · rw [(hg i hi).1, t.tree.2.1, t.tree.2.2]
    refine ⟨fun g => ?_, fun g => ?_, fun g => ?_⟩
    · have := h2.2 _ g; have := (hg i hi).2; omega
    · have := h.2 _ g; have := (hg i hi).2; omega
    · have := tn _ g; omega
theorem second_tree {m m2 fr : List Int} (h : MapOk m) (h2 : MapOk m2) (hfr : fr = rs1 m ∨ (fr = [] ∧ freN (T1 m) (r1 m) m2 = [])) :
    TreeIs (newL (T1 m) (r1 m) m2 fr) (bldR (T1 m) (r1 m) m2 fr) m2 ∧ TreeIs (newL (T1 m) (r1 m) m2 fr) (r1 m) m ∧ (newL (T1 m) (r1 m) m2 fr).length = 19200 ∧ Byt (newL (T1 m) (r1 m) m2 fr) := by
  obtain ⟨t, tl, tb, tn⟩ := first_tree h
  have bp := BP.of (second_ok h h2 hfr)
  have hl := bp.len tb
  have ht := t.tree
  refine ⟨bp.sem tb (fun s hs h0 g => ?_), (t.keep hl (fun x hx => ?_)).1, hl.trans tl, bp.byt tb⟩
  · rw [ht.2.2] at g
    have := tn _ g
    have := h2.get hs
    have := n1_le m
    omega
  · exact bp.oldSame tb (by rw [ht.2.2]; exact hx) (by have := tn _ hx; omega)
theorem build_good {h : Heap} {iv mv av : Value} {L m fr : List Int} {root : Int} (he : bldE L root m fr = 0) (sl : Sl h iv 1 L.length (us L)) (hb : Byt L) (hm : L.length ≤ 4611686018427387904) (smv : Sl h mv 1 m.length (is m)) (sa : Sl h av 1 fr.length (is fr)) (hf : fr.length ≤ 100000) :
    RunF prog 19 [iv, .int .i64 root, mv, av] h fun v h' => Fr no h h' ∧ ∃ ov rv, v = .tuple #[.int .i64 (bldR L root m fr), ov, rv, .int .i64 0] ∧ IosR h.next h' ov (bldW L root m fr).2 ∧ Osl h.next h' rv 1 (fr.drop (freN L root m).length).length (is (fr.drop (freN L root m).length)) := by
  refine (buildTree_ok sl hb hm smv sa hf).mono ?_
  rintro v h' ⟨f, ⟨_, g⟩ | ⟨g, _⟩⟩
  · exact ⟨f, g⟩
  · exact absurd he g
theorem apply_good {h : Heap} {iv v : Value} {L m fr : List Int} {root : Int} {lo : Nat} (he : bldE L root m fr = 0) (si : Sl h iv 1 L.length (us L)) (hb : Byt L) (hL : 2 * L.length ≤ 281474976710656) (il : IosR lo h v (bldW L root m fr).2) :
    RunF prog 29 [iv, v] h fun r h' => Fr no h h' ∧ ∃ b c, h.next ≤ b ∧ r = .tuple #[.slice (some ⟨b, 0, none⟩) L.length c, .int .i64 0] ∧ Cp 1 L.length c ∧ Ow h' b (us (newL L root m fr)) := by
  have bp := BP.of he
  have hn := freN_73 L root m
  have hl := bp.outLen
  refine (devApply_ok si hL (il.ios (by omega)) (by omega)).mono ?_
  have hs := bp.stp
  rintro r h' ⟨f, ⟨_, g⟩ | ⟨g, _⟩⟩
  · exact ⟨f, g⟩
  · exact absurd hs g
end Go.Proofs.Ytdcggjkcbheolaa
end
section
set_option linter.unusedVariables false
set_option linter.unusedSectionVars false
set_option maxRecDepth 100000
open Go Go.Am Go.RowKit
namespace Go.Proofs.Ytdcggjkcbheolaa
open Go.Proofs.Try
set_option maxHeartbeats 4000000 in
theorem buildNeeds_ok {h : Heap} {iv mv : Value} {L m : List Int} {root : Int} (he : beginE L root m = 0) (sl : Sl h iv 1 L.length (us L)) (hb : Byt L) (hm : L.length ≤ 4611686018427387904) (smv : Sl h mv 1 m.length (is m)) :
    RunF prog 18 [iv, .int .i64 root, mv] h fun v h' => Fr no h h' ∧ v = .tuple #[.int .i64 ((freN L root m).length : Nat), .int .i64 0] := by
  refine RunF.walk func18 rfl rfl ?_
  refine RunC.seq (RunC.region (RunO.all rfl ?_))
  refine RunC.seq (RunC.region (RunO.part 3 rfl ?_))
  refine RunO.callD (begin_ok (root := root) sl hb hm smv) rfl rfl rfl ?_
  rintro _ h1 ⟨f1, ⟨_, kb, lo, wb, jb, fv, ov, rfl, hkb, ks, kw, kok⟩ | ⟨g, _⟩⟩
  case inr => exact absurd he g
  have hF256 := freN_len L root m
  change KW lo h1 kb iv (L.length / 64) ov mv wb jb fv (wasT L (L.length / 64) root) (isT (wasT L (L.length / 64) root) m 3 0) (freN L root m) at kw
  refine RunO.all rfl ?_
  refine RunC.seq (RunC.seq (RunC.region (RunO.all rfl (RunC.cond rfl (fun g => by cases g) (fun _ => RunC.skip ?_)))))
  refine RunC.seq (RunC.region (RunO.part 1 rfl ?_))
  refine RunO.callD (needs_ok kw hF256) rfl rfl rfl ?_
  rintro _ _ ⟨rfl, rfl⟩
  exact RunO.all rfl (RunC.ret ⟨_, rfl, f1, rfl⟩)
theorem lawHas_ok {h : Heap} {v : Value} {l : List Int} {x : Int} (sl : Sl h v 1 l.length (is l)) (hl : l.length ≤ 100000) :
    RunF prog 33 [v, .int .i64 x] h fun r h' => r = .bool (l.contains x) ∧ h = h' := by
  refine RunF.walk func33 rfl rfl ?_
  have sl0 := sl
  obtain ⟨A, c, rfl, _, _⟩ := sl.form
  refine RunC.seq (RunC.region (RunO.all rfl ?_))
  refine RunC.seq (RunC.seq (RunC.region (RunO.all rfl ?_)))
  refine RunC.block ?_
  refine RunC.loop (fun d E h' => ∃ i : Nat, i + d = l.length ∧ ¬ x ∈ l.take i ∧ h' = h ∧
    Le (upd (upd (upd E0 0 (.slice A l.length c)) 1 (.int .i64 x)) 5 (.int .i64 (i : Int))) E) ?st (k := l.length) ?ini
  case ini => exact ⟨0, by omega, by simp, rfl, Le.cons rfl (Le.cons rfl (Le.cons rfl (Le.nil _)))⟩
  rintro d E _ ⟨i, hi, hno, rfl, hE⟩
  refine RunC.le hE ?_
  clear hE
  refine RunC.seq (RunC.seq (RunC.region (RunO.all rfl ?_)))
  refine RunC.cond rfl (fun hlt => RunC.skip ?go) (fun hge => RunC.exit ?ex)
  case go =>
    have hlt := of_decide_eq_true hlt
    have hlt : i < l.length := by omega
    refine RunC.seq (RunC.block ?_)
    refine RunC.seq (RunC.region (RunO.part 2 rfl ?_))
    refine RunO.at (s := 1) (k := i) rfl rfl sl0 rfl rfl hlt (is_part hlt) rfl rfl rfl (RunO.all rfl ?_)
    by_cases e : l[i] = x
    · rw [show (l[i] == x) = true from beq_iff_eq.2 e]
      refine RunC.cond rfl (fun _ => ?_) (fun g => by cases g)
      have hc : l.contains x = true := List.contains_iff_mem.2 (by rw [← e]; exact List.getElem_mem hlt)
      rw [hc]
      exact RunC.seq (RunC.region (RunO.all rfl (RunC.ret ⟨_, rfl, rfl, rfl⟩)))
    · rw [show (l[i] == x) = false from beq_eq_false_iff_ne.2 e]
      refine RunC.cond rfl (fun g => by cases g) (fun _ => RunC.skip ?_)
      refine RunC.region (RunO.all rfl ?_)
      refine ⟨d - 1, by omega, i + 1, by omega, ?_, rfl, Le.cons (inc64 (by omega)) (Le.cons rfl (Le.cons rfl (Le.nil _)))⟩
      rw [List.take_succ_eq_append_getElem hlt, List.mem_append]
      rintro (g | g)
      · exact hno g
      · exact e (List.mem_singleton.1 g).symm
  have hge := of_decide_eq_false hge
  obtain rfl : i = l.length := by omega
  rw [List.take_length] at hno
  rw [show l.contains x = false from Bool.eq_false_iff.2 (fun g => hno (List.contains_iff_mem.1 g))]
  exact RunC.seq (RunC.region (RunO.all rfl (RunC.ret ⟨_, rfl, rfl, rfl⟩)))
def m14 : List Int := (List.replicate 512 0).set 9 8
theorem m14_len : m14.length = 512 := by unfold m14; rw [List.length_set, List.length_replicate]
theorem m14_mem : ∀ x ∈ m14, x = 0 ∨ x = 8 := fun x hx => by
  rcases List.mem_or_eq_of_mem_set hx with g | g
  · exact .inl (List.eq_of_mem_replicate g)
  · exact .inr g
theorem m14_fre (L : List Int) : freN L 0 m14 = [(0, 1), (1, 0), (2, 0)] := by
  show freP m14 (List.replicate 512 0) 3 0 = _
  decide +kernel
def L14 : List Int := List.replicate 640 0
theorem L14_len : L14.length = 640 := List.length_replicate
theorem bld14 : bldE L14 0 m14 [2, 3, 4, 5] = 0 ∧ bldR L14 0 m14 [2, 3, 4, 5] = 4 ∧ beginE L14 0 m14 = 0 ∧ TreeIs (newL L14 0 m14 [2, 3, 4, 5]) 4 m14 := by
  have hd : devOk L14.length = true := by rw [L14_len]; decide
  obtain ⟨t1, t2, t3⟩ := treeE_none hd
  have hmr : ∀ s, s < 512 → m14.getD s 0 = 0 ∨ (2 ≤ m14.getD s 0 ∧ m14.getD s 0 < (L14.length / 64 : Nat)) := fun s hs => by
    have hl : s < m14.length := by rw [m14_len]; exact hs
    have : m14.getD s 0 = 0 ∨ m14.getD s 0 = 8 := by
      rw [List.getD_eq_getElem?_getD, List.getElem?_eq_getElem hl]
      exact m14_mem _ (List.getElem_mem hl)
    rw [L14_len]; omega
  have hg : ∀ i, i < 4 → ([2, 3, 4, 5] : List Int).getD i 0 = (i : Int) + 2 := fun i hi => by
    obtain rfl | rfl | rfl | rfl : i = 0 ∨ i = 1 ∨ i = 2 ∨ i = 3 := by omega
    all_goals rfl
  have he : bldE L14 0 m14 [2, 3, 4, 5] = 0 := by
    rw [bldE_eq t1 m14_len hmr (fun i hi => ?_) (fun i hi => ?_) (fun i hi => ?_), m14_fre]
    · rfl
    · have hi : i < 4 := hi
      rw [hg i hi, L14_len]; omega
    · have hi : i + 1 < 4 := hi
      rw [hg i (by omega), hg (i + 1) hi]; omega
    · have hi : i < 4 := hi
      rw [hg i hi, t2, t3]
      refine ⟨fun g => ?_, fun g => ?_, fun g => by cases g⟩
      · have := m14_mem _ g; omega
      · have := List.eq_of_mem_replicate g; omega
  have bp := BP.of he
  have hr : bldR L14 0 m14 [2, 3, 4, 5] = 4 := by
    have := bp.tab.1 2 (by rw [m14_fre]; decide)
    simp only [m14_fre] at this
    exact this
  have hT := bp.sem (byt_zeros 640) (fun s hs h0 g => by cases g)
  rw [hr] at hT
  exact ⟨he, hr, begin_zero t1 m14_len hmr, hT⟩
set_option maxHeartbeats 8000000 in
theorem wakes14_ok {h : Heap} : RunF prog 24 [] h fun v h' => v = .bool true ∧ Fr no h h' := by
  refine RunF.walk func24 rfl rfl ?_
  obtain ⟨he, hr, hbe, hT⟩ := bld14
  refine RunC.seq (RunC.region (RunO.all rfl ?_))
  refine RunC.seq (RunC.region ?_)
  refine RunO.make (m := 640) rfl rfl rfl rfl rfl rfl (Nat.le_of_ble_eq_true rfl) (by decide) rfl ?_
  rw [reps_us]
  have oi := Ow.push h (us (List.replicate 640 0))
  have f1 : Fr no h (h.push ⟨us (List.replicate 640 0), true⟩) := Fr.push _ _ _
  generalize h.push ⟨us (List.replicate 640 0), true⟩ = h1 at *
  obtain ⟨qi, hqi⟩ : ∃ q, q = h.next := ⟨_, rfl⟩
  rw [← hqi] at oi ⊢
  change Ow h1 qi (us L14) at oi
  refine RunO.all rfl ?_
  refine RunC.seq (RunC.region ?_)
  refine RunO.make (m := 512) rfl rfl rfl rfl rfl rfl (Nat.le_of_ble_eq_true rfl) (by decide) rfl ?_
  rw [reps_is]
  have hq1 := oi.1
  have om := Ow.push h1 (is (List.replicate 512 0))
  have f2 : Fr no h1 (h1.push ⟨is (List.replicate 512 0), true⟩) := Fr.push _ _ _
  replace oi := oi.fr f2 (fun g => g)
  generalize h1.push ⟨is (List.replicate 512 0), true⟩ = h2 at *
  obtain ⟨qm, hqm⟩ : ∃ q, q = h1.next := ⟨_, rfl⟩
  rw [← hqm] at om ⊢
  refine RunO.all rfl ?_
  refine RunC.seq (RunC.region (RunO.part 1 rfl ?_))
  refine RunO.index (s := 1) (k := 9) rfl rfl rfl rfl (show 9 < 512 by decide) rfl ?_
  refine RunO.store rfl rfl (store1_ow om rfl rfl rfl (by rw [is_len, List.length_replicate]; decide)) (RunO.nil ?_)
  have e : (is (List.replicate 512 (0 : Int))).set (0 + 9 * 1) (.int .i64 8) = is m14 := by
    unfold m14 is
    rw [List.map_set]
  rw [e]
  have f3 : Fr no h1 (h2.put qm (some ⟨is m14, true⟩)) := f2.trans (Fr.put (m := (· = qm)) _ (.inl rfl)) (fun j g => .inr (by omega))
  replace om : Ow (h2.put qm (some ⟨is m14, true⟩)) qm (is m14) := Ow.put _ om.1
  replace oi := oi.fr (Fr.put (m := (· = qm)) (some ⟨is m14, true⟩) (.inl rfl) : Fr (· = qm) h2 (h2.put qm (some ⟨is m14, true⟩))) (fun g => by have g : qi = qm := g; omega)
  have F3 := f1.same f3
  generalize h2.put qm (some ⟨is m14, true⟩) = h3 at *
  have sli : Sl h3 (.slice (some ⟨qi, 0, none⟩) 640 (exc 640)) 1 L14.length (us L14) := sl_own oi L14_len (Cp.exc (Nat.le_refl _)) (by decide)
  have slm : Sl h3 (.slice (some ⟨qm, 0, none⟩) 512 (exc 512)) 1 m14.length (is m14) := sl_owI om m14_len (Cp.exc (Nat.le_refl 512)) (by decide)
  refine RunC.seq (RunC.region (RunO.part 2 rfl ?_))
  refine RunO.callD (buildNeeds_ok hbe sli (byt_zeros 640) (by rw [L14_len]; decide) slm) rfl rfl rfl ?_
  rintro _ h4 ⟨f4, rfl⟩
  rw [m14_fre]
  replace sli := sli.fr0 f4
  replace slm := slm.fr0 f4
  have F4 := F3.same f4
  refine RunO.all rfl ?_
  refine RunC.seq (RunC.region (RunO.part 3 (h1 := h4.push ⟨is [2, 3, 4, 5], true⟩) rfl ?_))
  have ol := Ow.push h4 (is [2, 3, 4, 5])
  have f5 : Fr no h4 (h4.push ⟨is [2, 3, 4, 5], true⟩) := Fr.push _ _ _
  replace sli := sli.fr0 f5
  replace slm := slm.fr0 f5
  have F5 := F4.same f5
  generalize h4.push ⟨is [2, 3, 4, 5], true⟩ = h5 at *
  have sll := sl_owI (l := [2, 3, 4, 5]) (n := 4) ol rfl (Cp.exc (Nat.le_refl 4)) (by decide)
  refine RunO.callD (build_good he sli (byt_zeros 640) (by rw [L14_len]; decide) slm sll (by decide)) rfl rfl rfl ?_
  rintro _ h6 ⟨f6, ov, rv, rfl, ios, osr⟩
  have hl3 : (bldW L14 0 m14 [2, 3, 4, 5]).2.length = 3 := by rw [(BP.of he).outLen, m14_fre]; rfl
  rw [hr]
  rw [m14_fre] at osr
  replace sli := sli.fr0 f6
  replace slm := slm.fr0 f6
  have F6 := F5.same f6
  have iosk := ios.ios (by omega)
  obtain ⟨acs, slo, _⟩ := iosk
  rw [hl3] at slo
  obtain ⟨oA, oc, rfl, _, _⟩ := slo.form
  refine RunO.all rfl ?_
  refine RunC.seq (RunC.region (RunO.part 2 rfl ?_))
  refine RunO.callD (apply_good he sli (byt_zeros 640) (by rw [L14_len]; decide) ios) rfl rfl rfl ?_
  rintro _ h7 ⟨f7, b7, c7, hb7, rfl, hc7, o7⟩
  have hln := (BP.of he).len (byt_zeros 640)
  have hby := (BP.of he).byt (byt_zeros 640)
  have te := hT.te (by rw [hln, L14_len]; decide)
  have hG : mapG (newL L14 0 m14 [2, 3, 4, 5]) 4 = m14 := by unfold mapG; rw [if_pos te, hT.tree.2.1]
  generalize newL L14 0 m14 [2, 3, 4, 5] = T at *
  rw [L14_len] at hln hc7 ⊢
  have slT := sl_own o7 hln hc7 (by decide)
  replace slm := slm.fr0 f7
  replace osr := osr.sl.fr0 f7
  have F7 := F6.same f7
  refine RunO.all rfl ?_
  refine RunC.seq (RunC.region (RunO.part 2 rfl ?_))
  refine RunO.callD (treeMapS_ok (root := 4) slT hby (by omega)) rfl rfl rfl ?_
  rintro _ h8 ⟨f8, gv, rfl, osg⟩
  rw [te]
  rw [hG] at osg
  replace slm := slm.fr0 f8
  replace osr := osr.fr0 f8
  have F8 := F7.same f8
  refine RunO.all rfl ?_
  refine RunC.seq (RunC.region (RunO.part 21 rfl ?_))
  refine RunO.part 1 (h1 := h8.push ⟨is [5], true⟩) rfl ?_
  have o5 := Ow.push h8 (is [5])
  have f9 : Fr no h8 (h8.push ⟨is [5], true⟩) := Fr.push _ _ _
  replace slm := slm.fr0 f9
  replace osr := osr.fr0 f9
  have osg2 := osg.sl.fr0 f9
  have F9 := F8.same f9
  generalize h8.push ⟨is [5], true⟩ = h9 at *
  have sl5 := sl_owI (l := [5]) (n := 1) o5 rfl (Cp.exc (Nat.le_refl 1)) (by decide)
  refine RunO.callDG rfl (keepInts_ok osr sl5 (by decide)) rfl rfl rfl ?_
  rintro _ _ ⟨rfl, rfl⟩
  rw [show (([2, 3, 4, 5] : List Int).drop ([(0, 1), (1, 0), (2, 0)] : List (Nat × Nat)).length == [5]) = true from by decide]
  refine RunO.part 12 rfl ?_
  refine RunO.callDG rfl (keepInts_ok osg2 slm (by rw [m14_len]; decide)) rfl rfl rfl ?_
  rintro _ _ ⟨rfl, rfl⟩
  rw [show (m14 == m14) = true from beq_self_eq_true _]
  exact RunO.all rfl (RunC.ret ⟨_, rfl, rfl, F9⟩)
end Go.Proofs.Ytdcggjkcbheolaa
end
section
set_option linter.unusedVariables false
set_option maxRecDepth 100000
open Go Go.Am Go.RowKit
namespace Go.Proofs.Ytdcggjkcbheolaa
open Go.Proofs.Try
theorem trip_get {acs : List Value} {n : Nat} {a b c : Value} (h : (acs.drop n).take 3 = [a, b, c]) : acs[n + 0]? = some a ∧ acs[n + 1]? = some b := by
  have h0 := congrArg (fun l : List Value => l[0]?) h
  have h1 := congrArg (fun l : List Value => l[1]?) h
  simp only [List.getElem?_take, List.getElem?_drop] at h0 h1
  exact ⟨by simpa using h0, by simpa using h1⟩
set_option maxHeartbeats 32000000 in
theorem buildHas_walk {h : Heap} {va vb : Value} {a b : List (Int × Int)} {blocks : Int} (sa : Sl h va 2 a.length (p2 a)) (sb : Sl h vb 2 b.length (p2 b)) : RunF prog 7 [va, vb, .int .i64 blocks] h fun v _ => v = .bool true := by
  refine RunF.walk func7 rfl rfl ?_
  have sa0 := sa
  have sb0 := sb
  obtain ⟨A, ca, rfl, _, _⟩ := sa.form
  obtain ⟨Bv, cb, rfl, _, _⟩ := sb.form
  refine RunC.seq (RunC.region (RunO.all rfl ?_))
  refine RunC.seq (RunC.seqE (upd (upd (upd (upd (E0) 0 (.slice A a.length ca)) 1 (.slice Bv b.length cb)) 2 (.int .i64 blocks)) 41 (.bool (decide ((a.length : Int) > 60) || decide ((b.length : Int) > 60)))) ?_ ?_)
  · refine RunC.region (RunO.part 4 rfl ?_)
    cases decide ((a.length : Int) > 60) with
    | true => exact RunO.all rfl ⟨rfl, Le.cons rfl (Le.cons rfl (Le.cons rfl (Le.cons rfl (Le.nil _))))⟩
    | false => exact RunO.all rfl ⟨rfl, Le.cons rfl (Le.cons rfl (Le.cons rfl (Le.cons rfl (Le.nil _))))⟩
  cases hh : decide ((a.length : Int) > 60) || decide ((b.length : Int) > 60) with
  | true =>
    refine RunC.cond rfl (fun _ => ?_) (fun g => by cases g)
    exact RunC.seq (RunC.region (RunO.all rfl (RunC.ret ⟨_, rfl, rfl⟩)))
  | false =>
  rw [Bool.or_eq_false_iff, decide_eq_false_iff_not, decide_eq_false_iff_not] at hh
  have hal : a.length ≤ 60 := by omega
  have hbl : b.length ≤ 60 := by omega
  refine RunC.cond rfl (fun g => by cases g) (fun _ => RunC.skip ?_)
  -- so many blocks
  have hk := modU blocks 40 (by decide)
  obtain ⟨k, hk2⟩ := Int.eq_ofNat_of_zero_le hk.1
  refine RunC.seq (RunC.region (RunO.part 2 rfl ?_))
  rw [fwu64']
  refine RunO.part 1 rfl ?_
  rw [hk2]
  refine RunO.part 1 rfl ?_
  rw [fw64 (x := (k : Int)) (by omega) (by omega)]
  refine RunO.part 1 rfl ?_
  rw [fw64 (x := 20 + (k : Int)) (by omega) (by omega), show 20 + (k : Int) = ((20 + k : Nat) : Int) by omega]
  obtain ⟨bl, hbl1, hbl2⟩ : ∃ bl, bl = 20 + k ∧ bl < 60 := ⟨_, rfl, by omega⟩
  rw [← hbl1]
  refine RunO.all rfl ?_
  -- the image
  refine RunC.seq (RunC.region ?_)
  refine RunO.make (m := 19200) rfl rfl rfl rfl rfl rfl (Nat.le_of_ble_eq_true rfl) (by decide) rfl ?_
  rw [reps_us]
  have oi := Ow.push h (us (List.replicate 19200 0))
  have f1 : Fr no h (h.push ⟨us (List.replicate 19200 0), true⟩) := Fr.push _ _ _
  generalize h.push ⟨us (List.replicate 19200 0), true⟩ = h1 at *
  obtain ⟨qi, hqi⟩ : ∃ q, q = h.next := ⟨_, rfl⟩
  rw [← hqi] at oi ⊢
  change Ow h1 qi (us L0) at oi
  refine RunO.all rfl ?_
  -- the maps
  refine RunC.seq (RunC.region (RunO.part 2 rfl ?_))
  refine RunO.callD (some_ok (bl := bl) (sa0.fr0 f1) (by omega) (by omega) (by omega)) rfl rfl rfl ?_
  rintro _ h2 ⟨f2, bo, hbo, rfl, oo⟩
  have hqb : qi ≠ bo := by have := oi.1; omega
  replace oi := oi.fr f2 (fun g => g)
  have F2 := f1.same f2
  refine RunO.part 2 rfl ?_
  refine RunO.callD (some_ok (bl := bl) (sb0.fr0 F2) (by omega) (by omega) (by omega)) rfl rfl rfl ?_
  rintro _ h3 ⟨f3, bm, hbm, rfl, om⟩
  have hqm : qi ≠ bm ∧ bo ≠ bm := by have := oi.1; have := oo.1; omega
  replace oi := oi.fr f3 (fun g => g)
  replace oo := oo.fr f3 (fun g => g)
  have hM5_bo : (someM bl a).length = 512 := (someM_ok (by omega) a).1
  have hMb_bo := (someM_ok (bl := bl) (by omega) a).2
  have hook : MapOk ((someM bl a).map sh200) := MapOk.some (by omega) (by omega) a
  have hM5_bm : (someM bl b).length = 512 := (someM_ok (by omega) b).1
  have hMb_bm := (someM_ok (bl := bl) (by omega) b).2
  have hmok : MapOk ((someM bl b).map sh200) := MapOk.some (by omega) (by omega) b
  generalize someM bl a = M0 at *
  generalize someM bl b = M1 at *
  refine RunO.all rfl ?_
  refine RunC.seq (RunC.seq (RunC.region (RunO.all rfl ?_)))
  refine RunC.block ?_
  refine RunC.loop (fun d E h' => ∃ i : Nat, i + d = 512 ∧ Ow h' bo (is (mpd sh200 M0 i)) ∧ Ow h' bm (is (mpd sh200 M1 i)) ∧ Fr (fun j => j = bo ∨ j = bm) h3 h' ∧
    Le (upd (upd (upd (upd (upd (upd (upd (E0) 0 (.slice A a.length ca)) 1 (.slice Bv b.length cb)) 2 (.int .i64 (bl : Int))) 7 (.slice (some ⟨qi, 0, none⟩) 19200 (exc 19200))) 8 (.slice (some ⟨bo, 0, none⟩) 512 (exc 512))) 9 (.slice (some ⟨bm, 0, none⟩) 512 (exc 512))) 10 (.int .i64 (i : Int))) E) ?stb (k := 512) ?inib
  case inib => exact ⟨0, rfl, by rw [mpd_zero]; exact oo, by rw [mpd_zero]; exact om, Fr.refl _ _, Le.cons rfl (Le.cons rfl (Le.cons rfl (Le.cons rfl (Le.cons rfl (Le.cons rfl (Le.cons rfl (Le.nil _)))))))⟩
  rintro d E g1 ⟨i, hi, ob_bo, ob_bm, fi, hE⟩
  refine RunC.le hE ?_
  clear hE
  refine RunC.seq (RunC.seq (RunC.region (RunO.all rfl ?_)))
  refine RunC.cond rfl (fun hlt => RunC.skip ?gob) (fun hge => RunC.exit ?exb)
  case gob =>
    have hlt := of_decide_eq_true hlt
    have hi512 : i < 512 := by omega
    refine RunC.seq (RunC.block ?_)
    refine RunC.seqc (fun E' h' => Ow h' bo (is (mpd sh200 M0 (i + 1))) ∧ Ow h' bm (is (mpd sh200 M1 i)) ∧ Fr (fun j => j = bo ∨ j = bm) h3 h' ∧ Le (upd (upd (upd (upd (upd (upd (upd (E0) 0 (.slice A a.length ca)) 1 (.slice Bv b.length cb)) 2 (.int .i64 (bl : Int))) 7 (.slice (some ⟨qi, 0, none⟩) 19200 (exc 19200))) 8 (.slice (some ⟨bo, 0, none⟩) 512 (exc 512))) 9 (.slice (some ⟨bm, 0, none⟩) 512 (exc 512))) 10 (.int .i64 (i : Int))) E') ?fst ?snd
    case fst =>
      have hibo : i < (M0).length := by omega
      have hgbo := mpd_get sh200 hibo
      have hscbo := mpd_succ sh200 hibo
      have hskbo := mpd_skip sh200 hibo
      have hlnbo := mpd_len sh200 (M0) i
      have hxmbo : (M0)[i] ∈ M0 := List.getElem_mem hibo
      generalize (M0)[i] = x at *
      have hxbbo := hMb_bo x hxmbo
      have slbo := sl_owI ob_bo (by rw [hlnbo]; exact hM5_bo) (Cp.exc (Nat.le_refl 512)) (by decide)
      rw [hlnbo, hM5_bo] at slbo
      refine RunC.seq (RunC.region (RunO.part 2 rfl ?_))
      refine RunO.at (s := 1) (k := i) rfl rfl slbo rfl rfl hi512 (is_at hgbo) rfl rfl rfl (RunO.all rfl ?_)
      refine RunC.cond rfl (fun hx => ?_) (fun hx => RunC.skip ?_)
      · have hx := of_decide_eq_true hx
        refine RunC.region (RunO.part 4 rfl ?_)
        refine RunO.at (s := 1) (k := i) rfl rfl slbo rfl rfl hi512 (is_at hgbo) rfl rfl rfl ?_
        refine RunO.part 1 rfl ?_
        rw [fw64 (x := x + 200) (by omega) (by omega)]
        refine RunO.index (s := 1) (k := i) rfl rfl rfl rfl hi512 rfl ?_
        refine RunO.store rfl rfl (store1_ow ob_bo rfl rfl rfl (by rw [is_len, hlnbo]; omega)) (RunO.nil ?_)
        have e : (is (mpd sh200 (M0) i)).set (0 + i * 1) (.int .i64 (x + 200)) = is (mpd sh200 (M0) (i + 1)) := by
          rw [Nat.zero_add, Nat.mul_one, hscbo]
          unfold is
          rw [List.map_set]
          rw [show sh200 x = x + 200 from if_pos hx]
        rw [e]
        exact ⟨Ow.put _ ob_bo.1, ob_bm.fr (Fr.put (m := (· = bo)) _ (.inl rfl)) (fun g => hqm.2 g.symm), fi.trans (Fr.put (m := (· = bo)) _ (.inl rfl)) (fun _ g => .inl (.inl g)), Le.cons rfl (Le.cons rfl (Le.cons rfl (Le.cons rfl (Le.cons rfl (Le.cons rfl (Le.cons rfl (Le.nil _)))))))⟩
      · have hx := of_decide_eq_false hx
        exact ⟨by rw [hskbo (if_neg hx)]; exact ob_bo, ob_bm, fi, Le.cons rfl (Le.cons rfl (Le.cons rfl (Le.cons rfl (Le.cons rfl (Le.cons rfl (Le.cons rfl (Le.nil _)))))))⟩

    rintro E' g2 ⟨ob_bo, ob_bm, fi, hE⟩
    refine RunC.le hE ?_
    clear hE
    have hibm : i < (M1).length := by omega
    have hgbm := mpd_get sh200 hibm
    have hscbm := mpd_succ sh200 hibm
    have hskbm := mpd_skip sh200 hibm
    have hlnbm := mpd_len sh200 (M1) i
    have hxmbm : (M1)[i] ∈ M1 := List.getElem_mem hibm
    generalize (M1)[i] = x at *
    have hxbbm := hMb_bm x hxmbm
    have slbm := sl_owI ob_bm (by rw [hlnbm]; exact hM5_bm) (Cp.exc (Nat.le_refl 512)) (by decide)
    rw [hlnbm, hM5_bm] at slbm
    refine RunC.seq (RunC.region (RunO.part 2 rfl ?_))
    refine RunO.at (s := 1) (k := i) rfl rfl slbm rfl rfl hi512 (is_at hgbm) rfl rfl rfl (RunO.all rfl ?_)
    refine RunC.cond rfl (fun hx => ?_) (fun hx => RunC.skip ?_)
    · have hx := of_decide_eq_true hx
      refine RunC.region (RunO.part 4 rfl ?_)
      refine RunO.at (s := 1) (k := i) rfl rfl slbm rfl rfl hi512 (is_at hgbm) rfl rfl rfl ?_
      refine RunO.part 1 rfl ?_
      rw [fw64 (x := x + 200) (by omega) (by omega)]
      refine RunO.index (s := 1) (k := i) rfl rfl rfl rfl hi512 rfl ?_
      refine RunO.store rfl rfl (store1_ow ob_bm rfl rfl rfl (by rw [is_len, hlnbm]; omega)) (RunO.nil ?_)
      have e : (is (mpd sh200 (M1) i)).set (0 + i * 1) (.int .i64 (x + 200)) = is (mpd sh200 (M1) (i + 1)) := by
        rw [Nat.zero_add, Nat.mul_one, hscbm]
        unfold is
        rw [List.map_set]
        rw [show sh200 x = x + 200 from if_pos hx]
      rw [e]
      refine RunC.region (RunO.all rfl ?_)
      exact ⟨d - 1, by omega, i + 1, by omega, ob_bo.fr (Fr.put (m := (· = bm)) _ (.inl rfl)) (fun g => hqm.2 g), Ow.put _ ob_bm.1, fi.trans (Fr.put (m := (· = bm)) _ (.inl rfl)) (fun _ g => .inl (.inr g)), Le.cons (inc64 (by omega)) (Le.cons rfl (Le.cons rfl (Le.cons rfl (Le.cons rfl (Le.cons rfl (Le.cons rfl (Le.nil _)))))))⟩
    · have hx := of_decide_eq_false hx
      refine RunC.region (RunO.all rfl ?_)
      exact ⟨d - 1, by omega, i + 1, by omega, ob_bo, by rw [hskbm (if_neg hx)]; exact ob_bm, fi, Le.cons (inc64 (by omega)) (Le.cons rfl (Le.cons rfl (Le.cons rfl (Le.cons rfl (Le.cons rfl (Le.cons rfl (Le.nil _)))))))⟩

  have hge := of_decide_eq_false hge
  obtain rfl : i = 512 := by omega
  rw [mpd_all sh200 (by omega)] at ob_bo ob_bm
  replace oi := oi.fr fi (fun g => by rcases g with g | g; exact hqb g; exact hqm.1 g)
  clear oo om hMb_bo hMb_bm
  generalize M0.map sh200 = mo at *
  generalize M1.map sh200 = m at *
  have hol := hook.1
  have hml := hmok.1
  generalize g1 = h5 at *
  -- the free blocks
  refine RunC.seq (RunC.region (RunO.all rfl ?_))
  refine RunC.seq (RunC.seq (RunC.region (RunO.all rfl ?_)))
  refine RunC.block ?_
  refine RunC.loop (fun d E h' => ∃ (i : Nat) (lv : Value), i + d = 198 ∧ Row h5.next h' lv 1 (lst i).length (is (lst i)) ∧ Fr no h5 h' ∧
    Le (upd (upd (upd (upd (upd (upd (upd (upd (E0) 0 (.slice A a.length ca)) 1 (.slice Bv b.length cb)) 2 (.int .i64 (bl : Int))) 7 (.slice (some ⟨qi, 0, none⟩) 19200 (exc 19200))) 8 (.slice (some ⟨bo, 0, none⟩) 512 (exc 512))) 9 (.slice (some ⟨bm, 0, none⟩) 512 (exc 512))) 11 (lv)) 12 (.int .i64 ((i : Int) + 2))) E) ?stl (k := 198) ?inil
  case inil => exact ⟨0, _, rfl, Row.nil _ _ _, Fr.refl _ _, Le.cons rfl (Le.cons rfl (Le.cons rfl (Le.cons rfl (Le.cons rfl (Le.cons rfl (Le.cons rfl (Le.cons rfl (Le.nil _))))))))⟩
  rintro d E g1 ⟨i, lv, hi, row, fi, hE⟩
  refine RunC.le hE ?_
  clear hE
  refine RunC.seq (RunC.seq (RunC.region (RunO.all rfl ?_)))
  refine RunC.cond rfl (fun hlt => RunC.skip ?gol) (fun hge => RunC.exit ?exl)
  case gol =>
    have hlt := of_decide_eq_true hlt
    have hsc := lst_succ i
    refine RunC.seq (RunC.block ?_)
    refine RunC.region (RunO.part 3 (h1 := g1.push ⟨is [(i : Int) + 2], true⟩) rfl ?_)
    have fp : Fr no g1 (g1.push ⟨is [(i : Int) + 2], true⟩) := Fr.push _ _ _
    have ob := Ow.push g1 (is [(i : Int) + 2])
    have row2 := row.fr fp (fun _ _ _ g => g)
    generalize g1.push ⟨is [(i : Int) + 2], true⟩ = g2 at *
    have hll := lst_len i
    refine RunO.append2 (s := 1) (m := 1) rfl rfl rfl rfl rfl rfl rfl rfl (by decide) row2 ob.all rfl (Nat.le_refl 1) rfl (by show 2 * (_ + 1) * 8 ≤ _; omega) (by omega) ?_
    intro ov2 g3 row3 f3
    have f13 : Fr no h5 g3 := (fi.same fp).trans f3 (fun b g => .inr (row2.at g).1)
    replace row3 : Row h5.next g3 ov2 1 (lst (i + 1)).length (is (lst (i + 1))) := by
      have e1 : is (lst i) ++ is [(i : Int) + 2] = is (lst (i + 1)) := by rw [hsc]; exact (List.map_append ..).symm
      rw [e1] at row3
      rw [lst_len]
      rw [hll] at row3
      exact Row.lo row3 (fi.same fp).next
    refine RunO.all rfl ?_
    refine RunC.region (RunO.all rfl ?_)
    refine ⟨d - 1, by omega, i + 1, ov2, by omega, row3, f13, Le.cons (inc642 (by omega)) (Le.cons rfl (Le.cons rfl (Le.cons rfl (Le.cons rfl (Le.cons rfl (Le.cons rfl (Le.cons rfl (Le.nil _))))))))⟩
  have hge := of_decide_eq_false hge
  obtain rfl : i = 198 := by omega
  rw [lst_len] at row
  replace oi := oi.fr fi (fun g => g)
  replace ob_bo := ob_bo.fr fi (fun g => g)
  replace ob_bm := ob_bm.fr fi (fun g => g)
  generalize g1 = h6 at *
  -- the first tree
  have sli : Sl h6 (.slice (some ⟨qi, 0, none⟩) 19200 (exc 19200)) 1 L0.length (us L0) := sl_own oi L0_len (Cp.exc (Nat.le_refl _)) (by decide)
  have slo : Sl h6 (.slice (some ⟨bo, 0, none⟩) 512 (exc 512)) 1 mo.length (is mo) := sl_owI ob_bo hol (Cp.exc (Nat.le_refl 512)) (by decide)
  have slm : Sl h6 (.slice (some ⟨bm, 0, none⟩) 512 (exc 512)) 1 m.length (is m) := sl_owI ob_bm hml (Cp.exc (Nat.le_refl 512)) (by decide)
  have sll : Sl h6 lv 1 (lst 198).length (is (lst 198)) := by rw [lst_len]; exact row.sl (by decide)
  obtain ⟨lA, lc, rfl, _, _⟩ := sll.form
  obtain ⟨t1, t1l, t1b, t1n⟩ := first_tree hook
  obtain ⟨t2, t2o, t2l, t2b⟩ := second_tree (fr := rs1 mo) hook hmok (.inl rfl)
  have he1 := first_ok hook
  have he2 := second_ok (fr := rs1 mo) hook hmok (.inl rfl)
  have hd1 : devOk (T1 mo).length = true := by rw [t1l]; decide
  have hbeg := begin_zero (t1.te hd1) hml (fun s hs => by have := hmok.get hs; rw [t1l]; omega)
  have bp2 := BP.of he2
  have hhas := fun j hj => BP.has bp2 t1b (j := j) hj
  have hout : ∀ j, j < (freN (T1 mo) (r1 mo) m).length → ∃ dd : List Int, (bldW (T1 mo) (r1 mo) m (rs1 mo)).2[j]? = some ((1 : Int), (rs1 mo).getD j 0, dd, ()) := fun j hj => ⟨_, bp2.out hj⟩
  have hol2 := bp2.outLen
  have hneed := bp2.need
  have hw1 := (BP.of he1).outLen
  have hrl := rs1_len mo
  have hn1 := n1_le mo
  rw [show (freN L0 0 mo).length = n1 mo from rfl] at hw1
  refine RunC.seq (RunC.region (RunO.part 3 rfl ?_))
  refine RunO.callD (build_good he1 sli L0_byt (by rw [L0_len]; decide) slo sll (by rw [lst_len]; decide)) rfl rfl rfl ?_
  rintro _ h7 ⟨f7, ov, rv, rfl, ios, osr⟩
  replace slo := slo.fr0 f7
  replace slm := slm.fr0 f7
  refine RunO.all rfl ?_
  refine RunC.seq (RunC.region (RunO.part 2 rfl ?_))
  refine RunO.callD (apply_good he1 (sli.fr0 f7) L0_byt (by rw [L0_len]; decide) ios) rfl rfl rfl ?_
  rintro _ h8 ⟨f8, b8, c8, hb8, rfl, hc8, o8⟩
  obtain ⟨_, slx, _⟩ := ios.ios (by omega)
  rw [hw1] at slx
  obtain ⟨xA, xc, rfl, _, _⟩ := slx.form
  replace slo := slo.fr0 f8
  replace slm := slm.fr0 f8
  replace osr := osr.sl.fr0 f8
  change Ow h8 b8 (us (T1 mo)) at o8
  change Sl h8 rv 1 (rs1 mo).length (is (rs1 mo)) at osr
  have hrg : ∀ i, i < (rs1 mo).length → (rs1 mo)[i]? = some ((rs1 mo).getD i 0) := fun i hi => by
    rw [List.getD_eq_getElem?_getD, List.getElem?_eq_getElem hi]; rfl
  rw [show bldR L0 0 mo (lst 198) = r1 mo from rfl, L0_len] at *
  generalize T1 mo = T at *
  generalize r1 mo = R at *
  generalize rs1 mo = RS at *
  have slT := sl_own o8 t1l hc8 (by decide)
  clear he1 ios sli oi ob_bo ob_bm row
  obtain ⟨rA, rc, rfl, _, _⟩ := osr.form
  refine RunO.all rfl ?_
  -- the second tree
  obtain ⟨N2, hN2⟩ : ∃ N2, N2 = (freN T R m).length := ⟨_, rfl⟩
  have hN73 := freN_73 T R m
  rw [← hN2] at hhas hout hol2 hneed hN73
  refine RunC.seq (RunC.region (RunO.part 3 rfl ?_))
  refine RunO.callD (buildNeeds_ok hbeg slT t1b (by omega) slm) rfl rfl rfl ?_
  rintro _ h9 ⟨f9, rfl⟩
  rw [← hN2]
  replace slo := slo.fr0 f9
  replace slm := slm.fr0 f9
  replace slT := slT.fr0 f9
  replace osr := osr.fr0 f9
  refine RunO.all rfl ?_
  refine RunC.seq (RunC.region (RunO.part 4 rfl ?_))
  refine RunO.callD (build_good he2 slT t1b (by omega) slm osr (by omega)) rfl rfl rfl ?_
  rintro _ ha ⟨fa, ow, rw_, rfl, ios, osq⟩
  rw [← hN2] at osq
  have hql : (RS.drop N2).length = RS.length - N2 := List.length_drop
  rw [hql, hrl] at osq
  obtain ⟨wA, wc, rfl, _, _⟩ := osq.sl.form
  replace slo := slo.fr0 fa
  replace slm := slm.fr0 fa
  replace osr := osr.fr0 fa
  refine RunO.all rfl ?_
  refine RunC.seq (RunC.region (RunO.part 2 rfl ?_))
  refine RunO.callD (apply_good he2 (slT.fr0 fa) t1b (by omega) ios) rfl rfl rfl ?_
  rintro _ hb ⟨fb, bb, cb2, hbb, rfl, hcb, ob⟩
  have iosy := ios.ios (by omega)
  replace iosy := iosy.fr0 fb
  obtain ⟨acs, sly, hacs⟩ := iosy
  rw [hol2] at sly
  obtain ⟨yA, yc, rfl, _, _⟩ := sly.form
  replace slo := slo.fr0 fb
  replace slm := slm.fr0 fb
  replace osr := osr.fr0 fb
  rw [t1l] at hcb ⊢
  have hd : devOk (newL T R m RS).length = true := by rw [t2l]; decide
  have te1 := t2o.te hd
  have te2 := t2.te hd
  have hGo : mapG (newL T R m RS) R = mo := by unfold mapG; rw [if_pos te1, t2o.tree.2.1]
  have hGm : mapG (newL T R m RS) (bldR T R m RS) = m := by unfold mapG; rw [if_pos te2, t2.tree.2.1]
  have hNn : nodG (newL T R m RS) (bldR T R m RS) = nodL (newL T R m RS) (T.length / 64) 3 (bldR T R m RS) := by
    unfold nodG; rw [if_pos te2, t2.tree.2.2, t2l, t1l]
  have hnl73 : (nodG (newL T R m RS) (bldR T R m RS)).length ≤ 73 := by unfold nodG; rw [if_pos te2]; exact treeN_len _ _
  rw [← hNn] at hhas
  generalize bldR T R m RS = S at *
  generalize newL T R m RS = T2 at *
  generalize (bldW T R m RS).2 = W at *
  have slA := sl_own ob t2l hcb (by decide)
  refine RunO.all rfl ?_
  -- so far no error
  refine RunC.seq (RunC.seq (RunC.region (RunO.part 23 rfl ?_)))
  rw [show ((N2 : Int) != (N2 : Int)) = false from bne_self_eq_false _]
  refine RunO.part 9 rfl ?_
  rw [lst_len, hrl, fw64 (x := ((198 : Nat) : Int) - (n1 mo : Int)) (by omega) (by omega), show ((198 : Nat) : Int) - (n1 mo : Int) = ((198 - n1 mo : Nat) : Int) by omega]
  refine RunO.part 1 rfl ?_
  rw [show (((198 - n1 mo : Nat) : Int) != ((198 - n1 mo : Nat) : Int)) = false from bne_self_eq_false _]
  refine RunO.part 8 rfl ?_
  rw [fw64 (x := ((198 - n1 mo : Nat) : Int) - (N2 : Int)) (by omega) (by omega), show ((198 - n1 mo : Nat) : Int) - (N2 : Int) = ((198 - n1 mo - N2 : Nat) : Int) by omega]
  refine RunO.part 1 rfl ?_
  rw [show (((198 - n1 mo - N2 : Nat) : Int) != ((198 - n1 mo - N2 : Nat) : Int)) = false from bne_self_eq_false _]
  refine RunO.all rfl (RunC.cond rfl (fun g => by cases g) (fun _ => RunC.skip ?_))
  -- what the trees tell
  refine RunC.seq (RunC.region (RunO.part 2 rfl ?_))
  refine RunO.callD (treeMapS_ok (root := R) slA t2b (by omega)) rfl rfl rfl ?_
  rintro _ hc ⟨fc, gv1, rfl, og1⟩
  rw [te1]
  rw [hGo] at og1
  replace slA := slA.fr0 fc
  refine RunO.all rfl ?_
  refine RunC.seq (RunC.region (RunO.part 2 rfl ?_))
  refine RunO.callD (treeMapS_ok (root := S) slA t2b (by omega)) rfl rfl rfl ?_
  rintro _ hd_ ⟨fd, gv2, rfl, og2⟩
  rw [te2]
  rw [hGm] at og2
  replace slA := slA.fr0 fd
  refine RunO.all rfl ?_
  refine RunC.seq (RunC.region (RunO.part 2 rfl ?_))
  refine RunO.callD (treeNodesS_ok (root := S) slA t2b (by omega)) rfl rfl rfl ?_
  rintro _ he ⟨fe, nv, rfl, ogn⟩
  rw [te2]
  have Fe := (fc.same fd).same fe
  have slN := ogn.sl
  generalize nodG T2 S = NL at *
  obtain ⟨nl, hnl⟩ : ∃ nl, nl = NL.length := ⟨_, rfl⟩
  obtain ⟨nA, nc, rfl, _, _⟩ := slN.form
  have og1e := (og1.sl.fr0 fd).fr0 fe
  have og2e := og2.sl.fr0 fe
  replace slo := slo.fr0 Fe
  replace slm := slm.fr0 Fe
  replace osr := osr.fr0 Fe
  replace sly := sly.fr0 Fe
  refine RunO.all rfl ?_
  refine RunC.seq (RunC.seq (RunC.region (RunO.part 13 rfl ?_)))
  refine RunO.callDG rfl (keepInts_ok og1e slo (by omega)) rfl rfl rfl ?_
  rintro _ _ ⟨rfl, rfl⟩
  rw [show (mo == mo) = true from beq_self_eq_true _]
  refine RunO.part 5 rfl ?_
  refine RunO.callDG rfl (keepInts_ok og2e slm (by omega)) rfl rfl rfl ?_
  rintro _ _ ⟨rfl, rfl⟩
  rw [show (m == m) = true from beq_self_eq_true _]
  refine RunO.all rfl (RunC.cond rfl (fun g => by cases g) (fun _ => RunC.skip ?_))
  -- each write
  rw [← hnl]
  rw [← hnl] at slN
  rw [hrl] at osr
  refine RunC.seq (RunC.seq (RunC.region (RunO.all rfl ?_)))
  refine RunC.block ?_
  refine RunC.loop (fun d E h' => ∃ i : Nat, i + d = N2 ∧ h' = he ∧ Le (upd (upd (upd (upd (E0) 22 (.slice yA N2 yc)) 15 (.slice rA (198 - n1 mo) rc)) 31 (.slice nA nl nc)) 33 (.int .i64 (i : Int))) E) ?sty (k := N2) ?iniy
  case iniy => exact ⟨0, by omega, rfl, Le.cons rfl (Le.cons rfl (Le.cons rfl (Le.cons rfl (Le.nil _))))⟩
  rintro d E _ ⟨i, hi, rfl, hE⟩
  refine RunC.le hE ?_
  clear hE
  refine RunC.seq (RunC.seq (RunC.region (RunO.all rfl ?_)))
  refine RunC.cond rfl (fun hlt => RunC.skip ?goy) (fun hge => RunC.exit ?exy)
  case goy =>
    have hlt := of_decide_eq_true hlt
    have hlt : i < N2 := by omega
    obtain ⟨dd, hout1⟩ := hout i hlt
    obtain ⟨dv, hcs, _, _⟩ := hacs i _ hout1
    obtain ⟨ha0, ha1⟩ := trip_get hcs
    have hp0 : apart prog 3 acs (i * 3 + 0) = some (.int .i64 1) := by show nth acs _ = _; rw [nth_eq]; exact ha0
    have hp1 : apart prog 3 acs (i * 3 + 1) = some (.int .i64 (RS.getD i 0)) := by show nth acs _ = _; rw [nth_eq]; exact ha1
    have hrs := hrg i (by omega)
    have hmem := hhas i hlt
    generalize RS.getD i 0 = x at *
    refine RunC.seq (RunC.block ?_)
    refine RunC.seq (RunC.draw0 rfl ?_)
    refine RunO.part 2 rfl ?_
    refine RunO.fldG (k := i) (off := 0) rfl (fun _ => rfl) (fun _ _ => rfl) rfl rfl sly rfl rfl hlt (fun _ _ => rfl) hp0 rfl rfl rfl rfl rfl ?_
    refine RunO.part 4 rfl ?_
    refine RunO.fldG (k := i) (off := 1) rfl (fun _ => rfl) (fun _ _ => rfl) rfl rfl sly rfl rfl hlt (fun _ _ => rfl) hp1 rfl rfl rfl rfl rfl ?_
    refine RunO.part 2 rfl ?_
    refine RunO.atG (s := 1) (k := i) rfl (fun _ => rfl) rfl rfl osr rfl rfl (by omega) (is_at hrs) rfl rfl rfl ?_
    refine RunO.part 1 rfl ?_
    rw [show (x != x) = false from bne_self_eq_false _]
    refine RunO.part 5 rfl ?_
    refine RunO.fldG (k := i) (off := 1) rfl (fun _ => rfl) (fun _ _ => rfl) rfl rfl sly rfl rfl hlt (fun _ _ => rfl) hp1 rfl rfl rfl rfl rfl ?_
    refine RunO.callDG rfl (lawHas_ok (l := NL) (by rw [← hnl]; exact slN) (by omega)) rfl rfl rfl ?_
    rintro _ _ ⟨rfl, rfl⟩
    rw [show NL.contains x = true from List.contains_iff_mem.2 hmem]
    refine RunO.all rfl (RunC.cond rfl (fun g => by cases g) (fun _ => RunC.skip ?_))
    refine RunC.region (RunO.all rfl ?_)
    exact ⟨d - 1, by omega, i + 1, by omega, rfl, Le.cons (inc64 (by omega)) (Le.cons rfl (Le.cons rfl (Le.cons rfl (Le.nil _))))⟩
  refine RunC.seq (RunC.region ?_)
  refine RunO.callD wakes14_ok rfl rfl rfl ?_
  rintro _ h9 ⟨rfl, f9⟩
  exact RunO.all rfl (RunC.ret ⟨_, rfl, rfl⟩)
theorem buildHas_true : ∀ h xs avs, ArgsK [.slice (.pair (.int .i64) (.pair (.int .i64) .unit)), .slice (.pair (.int .i64) (.pair (.int .i64) .unit)), .int .i64] h xs avs → RunF prog 7 avs h fun v _ => v = .bool true := by
  intro h xs avs ha
  obtain ⟨a, _, av, _, rfl, sa, ha⟩ := argPairs ha
  obtain ⟨b, _, bv, _, rfl, sb, ha⟩ := argPairs ha
  obtain ⟨n, _, _, rfl, _, ha⟩ := argInt ha
  obtain rfl := argNil ha
  exact buildHas_walk sa sb
end Go.Proofs.Ytdcggjkcbheolaa
end
