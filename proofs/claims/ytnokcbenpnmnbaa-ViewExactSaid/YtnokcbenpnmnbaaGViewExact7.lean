/- ViewExact: a calculus over an abstract machine that stands beside the model, and contracts of functions by it (part 7).
Conditions: what each theorem says of its arguments. -/
import Derived.Test.YtnokcbenpnmnbaaGViewExact6
section
set_option linter.unusedVariables false
set_option linter.unusedSectionVars false
set_option maxRecDepth 100000
open Go Go.Am Go.RowKit
namespace Go.Proofs.Ytnokcbenpnmnbaa
open Go.Proofs.Try

theorem eres_cc {E : Env} {h : Heap} {a b : Tmp} {t u : TypeId} {ad bd : Addr} {v w : Value} (h1 : E a = some (.pointer (some ad))) (h2 : aload prog h t ad = some v) (h3 : E b = some (.pointer (some bd))) (h4 : aload prog h u bd = some w) :
    eresults prog [.cell a t, .cell b u] E h = some (.tuple #[v, w]) := by
  simp only [eresults, eres, h1, h2, h3, h4]
set_option maxHeartbeats 64000000 in
theorem refOpen10_ok {h : Heap} {iv : Value} {L : List Int} (sl : Sl h iv 1 L.length (us L)) (hb : Byt L) (hm : L.length ≤ 4611686018427387904) :
    RunF prog 15 [iv] h fun v h' => Fr no h h' ∧ (((lk L).2 = 0 ∧ ∃ rv bv mv nv cm cn, v = .tuple #[.agg ⟨imx (lkS L) (pickS L).2.1 rv bv mv nv⟩, .agg ⟨[.int .i64 0, .int .i64 0]⟩] ∧ Sl h' rv 8 (lkF L).1.length (recCs (lkF L).1) ∧ Sl h' bv 1 (lkF L).2.1.length (is (lkF L).2.1) ∧
      Sl h' mv 1 (lkR L).length cm ∧ JEl (fun _ => True) h' cm ((lkR L).map fun p => treeM L p.1) ∧ Sl h' nv 1 (lkR L).length cn ∧ JEl (fun _ => True) h' cn ((lkR L).map fun p => treeN L p.1)) ∨
      ((lk L).2 ≠ 0 ∧ v = .tuple #[.agg ⟨(imx (0, 0, 0, 0, 0) 0 (.slice none 0 0) (.slice none 0 0) (.slice none 0 0) (.slice none 0 0))⟩, .agg ⟨[.int .i64 (lk L).1, .int .i64 (lk L).2]⟩])) := by
  have hlk : lk L = if devOk L.length then (if (pickS L).2.2 then (if (lkF L).2.2.2 = 0 then lkM L else ((lkF L).2.2.2, 7)) else (0, 8)) else (0, 2) := rfl
  refine RunF.walk func15 rfl rfl ?_
  refine RunC.seq (RunC.region (RunO.part 1 (h1 := h.push ⟨(imx (0, 0, 0, 0, 0) 0 (.slice none 0 0) (.slice none 0 0) (.slice none 0 0) (.slice none 0 0)), true⟩) rfl ?_))
  have o2 := Ow.push h (imx (0, 0, 0, 0, 0) 0 (.slice none 0 0) (.slice none 0 0) (.slice none 0 0) (.slice none 0 0))
  have f0 : Fr no h (h.push ⟨(imx (0, 0, 0, 0, 0) 0 (.slice none 0 0) (.slice none 0 0) (.slice none 0 0) (.slice none 0 0)), true⟩) := Fr.push _ _ _
  have F : Fr (fun b => h.next ≤ b) h (h.push ⟨(imx (0, 0, 0, 0, 0) 0 (.slice none 0 0) (.slice none 0 0) (.slice none 0 0) (.slice none 0 0)), true⟩) := Fr.push _ _ _
  generalize h.push ⟨(imx (0, 0, 0, 0, 0) 0 (.slice none 0 0) (.slice none 0 0) (.slice none 0 0) (.slice none 0 0)), true⟩ = ha at *
  obtain ⟨q2, e2⟩ : ∃ q, q = h.next := ⟨_, rfl⟩
  rw [← e2] at o2 ⊢
  have hq2 := o2.1
  refine RunO.all (h1 := ha.push ⟨[.int .i64 0, .int .i64 0], true⟩) rfl ?_
  have o3 := Ow.push ha [.int .i64 0, .int .i64 0]
  have fa : Fr no ha (ha.push ⟨[.int .i64 0, .int .i64 0], true⟩) := Fr.push _ _ _
  replace o2 := o2.fr fa (fun g => g)
  replace f0 := f0.same fa
  replace F := F.quiet fa
  generalize ha.push ⟨[.int .i64 0, .int .i64 0], true⟩ = hb_ at *
  obtain ⟨q3, e3⟩ : ∃ q, q = ha.next := ⟨_, rfl⟩
  rw [← e3] at o3 ⊢
  have hq23 : q2 < q3 := by omega
  have hq3 := o3.1
  refine RunC.seq (RunC.region (RunO.all (h1 := hb_.push ⟨(imx (0, 0, 0, 0, 0) 0 (.slice none 0 0) (.slice none 0 0) (.slice none 0 0) (.slice none 0 0)), true⟩) rfl ?_))
  have ox := Ow.push hb_ (imx (0, 0, 0, 0, 0) 0 (.slice none 0 0) (.slice none 0 0) (.slice none 0 0) (.slice none 0 0))
  have fc : Fr no hb_ (hb_.push ⟨(imx (0, 0, 0, 0, 0) 0 (.slice none 0 0) (.slice none 0 0) (.slice none 0 0) (.slice none 0 0)), true⟩) := Fr.push _ _ _
  replace o2 := o2.fr fc (fun g => g)
  replace o3 := o3.fr fc (fun g => g)
  replace f0 := f0.same fc
  replace F := F.quiet fc
  generalize hb_.push ⟨(imx (0, 0, 0, 0, 0) 0 (.slice none 0 0) (.slice none 0 0) (.slice none 0 0) (.slice none 0 0)), true⟩ = g0 at *
  obtain ⟨xb, ex⟩ : ∃ q, q = hb_.next := ⟨_, rfl⟩
  rw [← ex] at ox ⊢
  have hq34 : q3 < xb := by omega
  have hlo : h.next ≤ q2 := by omega
  clear fa fc
  have s0 := sl.fr0 f0
  -- the device
  refine RunC.seq (RunC.region (RunO.part 1 rfl ?_))
  refine RunO.callD (refBlocks_ok s0 hm) rfl rfl rfl ?_
  rintro _ _ ⟨rfl, rfl⟩
  refine RunO.all rfl ?_
  cases hd : devOk L.length with
  | false =>
    rw [hd, if_neg Bool.false_ne_true] at hlk
    refine RunC.seq (RunC.seq (RunC.region (RunO.all rfl (RunC.cond rfl (fun _ => ?_) (fun g => by cases g)))))
    refine RunC.seq (RunC.region ?_)
    refine RunO.load (v := .agg ⟨(imx (0, 0, 0, 0, 0) 0 (.slice none 0 0) (.slice none 0 0) (.slice none 0 0) (.slice none 0 0))⟩) rfl (ox.ld rfl) rfl ?_
    refine RunO.part 1 rfl ?_
    refine RunO.store rfl rfl (store_ow (s := 10) o2 rfl rfl rfl (Nat.le_refl 10)) ?_
    show RunO prog _ _ _ _ (g0.put q2 (some ⟨(imx (0, 0, 0, 0, 0) 0 (.slice none 0 0) (.slice none 0 0) (.slice none 0 0) (.slice none 0 0)), true⟩)) _
    have w2 : Ow (g0.put q2 (some ⟨(imx (0, 0, 0, 0, 0) 0 (.slice none 0 0) (.slice none 0 0) (.slice none 0 0) (.slice none 0 0)), true⟩)) q2 (imx (0, 0, 0, 0, 0) 0 (.slice none 0 0) (.slice none 0 0) (.slice none 0 0) (.slice none 0 0)) := Ow.put _ o2.1
    have v2 : Fr (· = q2) g0 (g0.put q2 (some ⟨(imx (0, 0, 0, 0, 0) 0 (.slice none 0 0) (.slice none 0 0) (.slice none 0 0) (.slice none 0 0)), true⟩)) := Fr.put _ (.inl rfl)
    generalize g0.put q2 (some ⟨(imx (0, 0, 0, 0, 0) 0 (.slice none 0 0) (.slice none 0 0) (.slice none 0 0) (.slice none 0 0)), true⟩) = gA at *
    have w3 := o3.fr v2 (fun e => by have e : q3 = q2 := e; omega)
    refine RunO.store rfl rfl (store_ow (s := 2) w3 rfl rfl rfl (Nat.le_refl 2)) (RunO.all rfl ?_)
    show RunC prog _ _ _ (gA.put q3 (some ⟨[.int .i64 (0), .int .i64 (2)], true⟩)) _ _ _
    have w4 : Ow (gA.put q3 (some ⟨[.int .i64 (0), .int .i64 (2)], true⟩)) q3 [.int .i64 (0), .int .i64 (2)] := Ow.put _ w3.1
    have v3 : Fr (· = q3) gA (gA.put q3 (some ⟨[.int .i64 (0), .int .i64 (2)], true⟩)) := Fr.put _ (.inl rfl)
    have w5 := w2.fr v3 (fun e => by have e : q2 = q3 := e; omega)
    generalize gA.put q3 (some ⟨[.int .i64 (0), .int .i64 (2)], true⟩) = gB at *
    have VF : Fr no h gB := frNo ((F.trans v2 (fun b e => .inl (by have e : b = q2 := e; omega))).trans v3 (fun b e => .inl (by have e : b = q3 := e; omega)))
    exact RunC.ret ⟨_, eres_cc rfl (w5.all.part (k := 0) rfl) rfl (w4.all.part (k := 0) rfl), VF, .inr ⟨by rw [hlk]; first | decide | (show (7 : Int) ≠ 0; decide) | (show (6 : Int) ≠ 0; decide), by rw [hlk]; rfl⟩⟩
  | true =>
  rw [hd, if_pos rfl] at hlk
  have hdl : L.length % 64 = 0 ∧ 4 ≤ L.length / 64 ∧ L.length / 64 ≤ 4096 := by
    unfold devOk at hd
    simpa using hd
  refine RunC.seq (RunC.seq (RunC.region (RunO.all rfl (RunC.cond rfl (fun g => by cases g) (fun _ => RunC.skip ?_)))))
  -- the superblock
  refine RunC.seq (RunC.region (RunO.part 1 rfl ?_))
  refine RunO.callD (refPick_ok s0 hb hd) rfl rfl rfl ?_
  rintro _ g1 ⟨rfl, f1⟩
  have hS : lkS L = (pickS L).1 := rfl
  have hsz := fun h => lkR_sz (L := L) h
  obtain ⟨S, hSe⟩ : ∃ S, S = (pickS L).1 := ⟨_, rfl⟩
  obtain ⟨slot, hslot⟩ : ∃ S, S = (pickS L).2.1 := ⟨_, rfl⟩
  rw [← hSe, ← hslot]
  refine RunO.part 5 (h1 := g1.push ⟨sc5 (0, 0, 0, 0, 0), true⟩) rfl ?_
  refine RunO.store rfl rfl (store_ow (s := 5) (Ow.push g1 (sc5 (0, 0, 0, 0, 0))) rfl rfl rfl (Nat.le_refl 5)) (RunO.all rfl ?_)
  have os : Ow ((g1.push ⟨sc5 (0, 0, 0, 0, 0), true⟩).put g1.next (some ⟨sc5 S, true⟩)) g1.next (sc5 S) := Ow.put _ (Nat.lt_succ_self _)
  have f2 : Fr no g1 ((g1.push ⟨sc5 (0, 0, 0, 0, 0), true⟩).put g1.next (some ⟨sc5 S, true⟩)) := (Fr.push _ _ _).trans (Fr.put (m := (· = g1.next)) _ (.inl rfl)) (fun j hj => .inr (by omega))
  change RunC _ _ _ _ ((g1.push ⟨sc5 (0, 0, 0, 0, 0), true⟩).put g1.next (some ⟨sc5 S, true⟩)) _ _ _
  generalize (g1.push ⟨sc5 (0, 0, 0, 0, 0), true⟩).put g1.next (some ⟨sc5 S, true⟩) = g2 at *
  obtain ⟨sb, esb⟩ : ∃ q, q = g1.next := ⟨_, rfl⟩
  rw [← esb] at os ⊢
  have hx1 : xb < sb := by have := ox.1; have := f1.next; omega
  have f12 := f1.same f2
  replace o2 := o2.fr f12 (fun g => g)
  replace o3 := o3.fr f12 (fun g => g)
  replace ox := ox.fr f12 (fun g => g)
  replace F := F.quiet f12
  replace s0 := s0.fr0 f12
  cases hp : (pickS L).2.2 with
  | false =>
    rw [hp, if_neg Bool.false_ne_true] at hlk
    refine RunC.seq (RunC.seq (RunC.region (RunO.all rfl (RunC.cond rfl (fun _ => ?_) (fun g => by cases g)))))
    refine RunC.seq (RunC.region ?_)
    refine RunO.load (v := .agg ⟨(imx (0, 0, 0, 0, 0) 0 (.slice none 0 0) (.slice none 0 0) (.slice none 0 0) (.slice none 0 0))⟩) rfl (ox.ld rfl) rfl ?_
    refine RunO.part 1 rfl ?_
    refine RunO.store rfl rfl (store_ow (s := 10) o2 rfl rfl rfl (Nat.le_refl 10)) ?_
    show RunO prog _ _ _ _ (g2.put q2 (some ⟨(imx (0, 0, 0, 0, 0) 0 (.slice none 0 0) (.slice none 0 0) (.slice none 0 0) (.slice none 0 0)), true⟩)) _
    have w2 : Ow (g2.put q2 (some ⟨(imx (0, 0, 0, 0, 0) 0 (.slice none 0 0) (.slice none 0 0) (.slice none 0 0) (.slice none 0 0)), true⟩)) q2 (imx (0, 0, 0, 0, 0) 0 (.slice none 0 0) (.slice none 0 0) (.slice none 0 0) (.slice none 0 0)) := Ow.put _ o2.1
    have v2 : Fr (· = q2) g2 (g2.put q2 (some ⟨(imx (0, 0, 0, 0, 0) 0 (.slice none 0 0) (.slice none 0 0) (.slice none 0 0) (.slice none 0 0)), true⟩)) := Fr.put _ (.inl rfl)
    generalize g2.put q2 (some ⟨(imx (0, 0, 0, 0, 0) 0 (.slice none 0 0) (.slice none 0 0) (.slice none 0 0) (.slice none 0 0)), true⟩) = gA at *
    have w3 := o3.fr v2 (fun e => by have e : q3 = q2 := e; omega)
    refine RunO.store rfl rfl (store_ow (s := 2) w3 rfl rfl rfl (Nat.le_refl 2)) (RunO.all rfl ?_)
    show RunC prog _ _ _ (gA.put q3 (some ⟨[.int .i64 (0), .int .i64 (8)], true⟩)) _ _ _
    have w4 : Ow (gA.put q3 (some ⟨[.int .i64 (0), .int .i64 (8)], true⟩)) q3 [.int .i64 (0), .int .i64 (8)] := Ow.put _ w3.1
    have v3 : Fr (· = q3) gA (gA.put q3 (some ⟨[.int .i64 (0), .int .i64 (8)], true⟩)) := Fr.put _ (.inl rfl)
    have w5 := w2.fr v3 (fun e => by have e : q2 = q3 := e; omega)
    generalize gA.put q3 (some ⟨[.int .i64 (0), .int .i64 (8)], true⟩) = gB at *
    have VF : Fr no h gB := frNo ((F.trans v2 (fun b e => .inl (by have e : b = q2 := e; omega))).trans v3 (fun b e => .inl (by have e : b = q3 := e; omega)))
    exact RunC.ret ⟨_, eres_cc rfl (w5.all.part (k := 0) rfl) rfl (w4.all.part (k := 0) rfl), VF, .inr ⟨by rw [hlk]; first | decide | (show (7 : Int) ≠ 0; decide) | (show (6 : Int) ≠ 0; decide), by rw [hlk]; rfl⟩⟩
  | true =>
  rw [hp, if_pos rfl] at hlk
  refine RunC.seq (RunC.seq (RunC.region (RunO.all rfl (RunC.cond rfl (fun g => by cases g) (fun _ => RunC.skip ?_)))))
  -- the records
  refine RunC.seq (RunC.region (RunO.part 2 rfl ?_))
  refine RunO.load (v := .int .i64 S.2.2.2.2) rfl (os.ld rfl) rfl ?_
  have hFe : lkF L = folOf L S.2.2.2.2 := by unfold lkF lkS; rw [hSe]
  refine RunO.callD (refRecords10_ok (a := S.2.2.2.2) s0 hb hd) rfl rfl rfl ?_
  rw [← hFe]
  rintro _ g3 ⟨f3, ⟨hbad, rv, bv, rfl, rl, rb⟩ | ⟨hbad, rfl⟩⟩
  case inr =>
    rw [if_neg hbad] at hlk
    refine RunO.all rfl ?_
    refine RunC.seq (RunC.seq (RunC.region (RunO.all rfl (RunC.cond rfl (fun _ => ?_) (fun g => by cases g)))))
    refine RunC.seq (RunC.region ?_)
    replace o2 := o2.fr f3 (fun g => g)
    replace o3 := o3.fr f3 (fun g => g)
    replace ox := ox.fr f3 (fun g => g)
    replace F := F.quiet f3
    refine RunO.load (v := .agg ⟨(imx (0, 0, 0, 0, 0) 0 (.slice none 0 0) (.slice none 0 0) (.slice none 0 0) (.slice none 0 0))⟩) rfl (ox.ld rfl) rfl ?_
    refine RunO.part 2 rfl ?_
    refine RunO.store rfl rfl (store_ow (s := 10) o2 rfl rfl rfl (Nat.le_refl 10)) ?_
    show RunO prog _ _ _ _ (g3.put q2 (some ⟨(imx (0, 0, 0, 0, 0) 0 (.slice none 0 0) (.slice none 0 0) (.slice none 0 0) (.slice none 0 0)), true⟩)) _
    have w2 : Ow (g3.put q2 (some ⟨(imx (0, 0, 0, 0, 0) 0 (.slice none 0 0) (.slice none 0 0) (.slice none 0 0) (.slice none 0 0)), true⟩)) q2 (imx (0, 0, 0, 0, 0) 0 (.slice none 0 0) (.slice none 0 0) (.slice none 0 0) (.slice none 0 0)) := Ow.put _ o2.1
    have v2 : Fr (· = q2) g3 (g3.put q2 (some ⟨(imx (0, 0, 0, 0, 0) 0 (.slice none 0 0) (.slice none 0 0) (.slice none 0 0) (.slice none 0 0)), true⟩)) := Fr.put _ (.inl rfl)
    generalize g3.put q2 (some ⟨(imx (0, 0, 0, 0, 0) 0 (.slice none 0 0) (.slice none 0 0) (.slice none 0 0) (.slice none 0 0)), true⟩) = gA at *
    have w3 := o3.fr v2 (fun e => by have e : q3 = q2 := e; omega)
    refine RunO.store rfl rfl (store_ow (s := 2) w3 rfl rfl rfl (Nat.le_refl 2)) (RunO.all rfl ?_)
    show RunC prog _ _ _ (gA.put q3 (some ⟨[.int .i64 ((lkF L).2.2.2), .int .i64 (7)], true⟩)) _ _ _
    have w4 : Ow (gA.put q3 (some ⟨[.int .i64 ((lkF L).2.2.2), .int .i64 (7)], true⟩)) q3 [.int .i64 ((lkF L).2.2.2), .int .i64 (7)] := Ow.put _ w3.1
    have v3 : Fr (· = q3) gA (gA.put q3 (some ⟨[.int .i64 ((lkF L).2.2.2), .int .i64 (7)], true⟩)) := Fr.put _ (.inl rfl)
    have w5 := w2.fr v3 (fun e => by have e : q2 = q3 := e; omega)
    generalize gA.put q3 (some ⟨[.int .i64 ((lkF L).2.2.2), .int .i64 (7)], true⟩) = gB at *
    have VF : Fr no h gB := frNo ((F.trans v2 (fun b e => .inl (by have e : b = q2 := e; omega))).trans v3 (fun b e => .inl (by have e : b = q3 := e; omega)))
    exact RunC.ret ⟨_, eres_cc rfl (w5.all.part (k := 0) rfl) rfl (w4.all.part (k := 0) rfl), VF, .inr ⟨by rw [hlk]; first | decide | (show (7 : Int) ≠ 0; decide) | (show (6 : Int) ≠ 0; decide), by rw [hlk]; rfl⟩⟩
  rw [if_pos hbad] at hlk
  refine RunO.all rfl ?_
  refine RunC.seq (RunC.seq (RunC.region (RunO.all rfl (RunC.cond rfl (fun g => by cases g) (fun _ => RunC.skip ?_)))))
  have hRl : (lkR L).length = (lkF L).1.length + 1 := by unfold lkR; rw [List.length_cons, List.length_map]
  have hfo := fol_ok (L := L) (B := L.length / 64) (L.length / 64) S.2.2.2.2 [] [] 0 (fun r h => absurd h List.not_mem_nil) (fun x h => absurd h List.not_mem_nil) rfl
  have hFe2 : lkF L = fol L (L.length / 64) (L.length / 64) S.2.2.2.2 [] [] 0 := hFe
  rw [← hFe2] at hfo
  obtain ⟨hrok, hbr, hrbl, hbn⟩ := hfo
  have hbn : (lkF L).2.1.length ≤ 4096 := by have : ([] : List Int).length = 0 := rfl; omega
  have hR0 : (lkR L)[0]? = some (S.2.2.1, S.2.2.2.1) := by unfold lkR; rw [hS, ← hSe]; rfl
  have hRs : ∀ k r, (lkF L).1[k]? = some r → (lkR L)[k + 1]? = some (r.ro, r.sz) := fun k r e => by unfold lkR; rw [List.getElem?_cons_succ, List.getElem?_map, e]; rfl
  have srl := rl.sl (by omega)
  have sbl := rb.sl (by omega)
  obtain ⟨rA, rc_, rfl, _, _⟩ := srl.form
  obtain ⟨bA, bc, rfl, _, _⟩ := sbl.form
  have hrat : ∀ b, At (.slice rA (lkF L).1.length rc_) b → g2.next ≤ b := fun b g => (rl.at g).1
  have hbat : ∀ b, At (.slice bA (lkF L).2.1.length bc) b → g2.next ≤ b := fun b g => (rb.at g).1
  have hsb2 : sb < g2.next := os.1
  replace o2 := o2.fr f3 (fun g => g)
  replace o3 := o3.fr f3 (fun g => g)
  replace ox := ox.fr f3 (fun g => g)
  replace os := os.fr f3 (fun g => g)
  replace F := F.quiet f3
  replace s0 := s0.fr0 f3
  refine RunC.seq (RunC.region ?_)
  refine RunO.load (v := .agg ⟨sc5 S⟩) rfl (os.ld rfl) rfl ?_
  refine RunO.part 5 rfl ?_
  refine RunO.store rfl rfl (store_ow (s := 7) ox rfl rfl rfl (Nat.le_of_ble_eq_true rfl)) ?_
  have e1 : (imx (0, 0, 0, 0, 0) 0 (.slice none 0 0) (.slice none 0 0) (.slice none 0 0) (.slice none 0 0)).take 0 ++ cellsOf (.agg ⟨sc5 S ++ [.int .i64 slot, .slice rA (lkF L).1.length rc_]⟩) ++ (imx (0, 0, 0, 0, 0) 0 (.slice none 0 0) (.slice none 0 0) (.slice none 0 0) (.slice none 0 0)).drop (0 + 7) = imx S slot (.slice rA (lkF L).1.length rc_) (.slice none 0 0) (.slice none 0 0) (.slice none 0 0) := rfl
  show RunO prog _ _ _ _ (g3.put xb (some ⟨imx S slot (.slice rA (lkF L).1.length rc_) (.slice none 0 0) (.slice none 0 0) (.slice none 0 0), true⟩)) _
  have ox1 : Ow (g3.put xb (some ⟨imx S slot (.slice rA (lkF L).1.length rc_) (.slice none 0 0) (.slice none 0 0) (.slice none 0 0), true⟩)) xb (imx S slot (.slice rA (lkF L).1.length rc_) (.slice none 0 0) (.slice none 0 0) (.slice none 0 0)) := Ow.put _ ox.1
  have fx1 : Fr (· = xb) g3 (g3.put xb (some ⟨imx S slot (.slice rA (lkF L).1.length rc_) (.slice none 0 0) (.slice none 0 0) (.slice none 0 0), true⟩)) := Fr.put _ (.inl rfl)
  generalize g3.put xb (some ⟨imx S slot (.slice rA (lkF L).1.length rc_) (.slice none 0 0) (.slice none 0 0) (.slice none 0 0), true⟩) = g4 at *
  refine RunO.part 1 rfl ?_
  refine RunO.store rfl rfl (store1_ow ox1 rfl rfl rfl (Nat.le_of_ble_eq_true rfl)) (RunO.all rfl ?_)
  show RunC prog _ _ _ (g4.put xb (some ⟨imx S slot (.slice rA (lkF L).1.length rc_) (.slice bA (lkF L).2.1.length bc) (.slice none 0 0) (.slice none 0 0), true⟩)) _ _ _
  have ox2 : Ow (g4.put xb (some ⟨imx S slot (.slice rA (lkF L).1.length rc_) (.slice bA (lkF L).2.1.length bc) (.slice none 0 0) (.slice none 0 0), true⟩)) xb (imx S slot (.slice rA (lkF L).1.length rc_) (.slice bA (lkF L).2.1.length bc) (.slice none 0 0) (.slice none 0 0)) := Ow.put _ ox1.1
  have fx2 : Fr (· = xb) g4 (g4.put xb (some ⟨imx S slot (.slice rA (lkF L).1.length rc_) (.slice bA (lkF L).2.1.length bc) (.slice none 0 0) (.slice none 0 0), true⟩)) := Fr.put _ (.inl rfl)
  generalize g4.put xb (some ⟨imx S slot (.slice rA (lkF L).1.length rc_) (.slice bA (lkF L).2.1.length bc) (.slice none 0 0) (.slice none 0 0), true⟩) = g5 at *
  have fx := fx1.same fx2
  replace o2 := o2.fr fx (fun e => by have e : q2 = xb := e; omega)
  replace o3 := o3.fr fx (fun e => by have e : q3 = xb := e; omega)
  replace os := os.fr fx (fun e => by have e : sb = xb := e; omega)
  replace F := F.trans fx (fun b e => .inl (by have e : b = xb := e; omega))
  replace rl := rl.frm fx (fun b g e => by have := hrat b g; have e : b = xb := e; omega)
  replace rb := rb.frm fx (fun b g e => by have := hbat b g; have e : b = xb := e; omega)
  replace s0 := sl.fr0 (frNo F)
  have hlo5 : xb < g5.next ∧ sb < g5.next := ⟨ox2.1, os.1⟩
  -- the trees
  refine RunC.seq (RunC.seq (RunC.region (RunO.all rfl ?_)))
  refine RunC.block ?_
  refine RunC.loop (fun d E h' => ∃ (k : Nat) (mv nv : Value) (cm cn : List Value), k + d = (lkR L).length ∧ (∀ j (hj : j < (lkR L).length), j < k → lkX L (lkR L)[j] = false) ∧ Fr (· = xb) g5 h' ∧ Ow h' xb (imx S slot (.slice rA (lkF L).1.length rc_) (.slice bA (lkF L).2.1.length bc) mv nv) ∧ Row g5.next h' mv 1 k cm ∧ Row g5.next h' nv 1 k cn ∧
      JEl (fun b => g5.next ≤ b ∧ ¬ At mv b ∧ ¬ At nv b) h' cm (((lkR L).map fun p => treeM L p.1).take k) ∧ JEl (fun b => g5.next ≤ b ∧ ¬ At mv b ∧ ¬ At nv b) h' cn (((lkR L).map fun p => treeN L p.1).take k) ∧ (∀ b, At mv b → ¬ At nv b) ∧
      Le ((upd (upd (upd (upd (upd (upd (upd (upd (upd E0 0 (iv)) 2 (.pointer (some ⟨q2, 0, none⟩))) 3 (.pointer (some ⟨q3, 0, none⟩))) 4 (.pointer (some ⟨xb, 0, none⟩))) 5 (.int .i64 ((L.length / 64 : Nat) : Int))) 7 (.pointer (some ⟨sb, 0, none⟩))) 9 (.slice rA (lkF L).1.length rc_)) 10 (.slice bA (lkF L).2.1.length bc)) 12 (.int .i64 ((k : Int) - 1)))) E) ?st (k := (lkR L).length) ?ini
  case ini => exact ⟨0, _, _, [], [], by omega, fun j hj h => absurd h (Nat.not_lt_zero _), Fr.refl _ _, ox2, Row.nil _ _ _, Row.nil _ _ _, JEl.nil _ _, JEl.nil _ _, (fun b g => by obtain ⟨_, _, e⟩ := g; cases e), Le.cons rfl (Le.cons rfl (Le.cons rfl (Le.cons rfl (Le.cons rfl (Le.cons rfl (Le.cons rfl (Le.cons rfl (Le.cons rfl (Le.nil _)))))))))⟩
  rintro d E g6 ⟨k, mv, nv, cm, cn, hk, hno, ft, ox3, rm, rn, jm, jn, hmn, hE⟩
  refine RunC.le hE ?_
  clear hE
  have hmat : ∀ b, At mv b → g5.next ≤ b := fun b g => (rm.at g).1
  have hnat : ∀ b, At nv b → g5.next ≤ b := fun b g => (rn.at g).1
  have o26 := o2.fr ft (fun e => by have e : q2 = xb := e; omega)
  have o36 := o3.fr ft (fun e => by have e : q3 = xb := e; omega)
  have os6 := os.fr ft (fun e => by have e : sb = xb := e; omega)
  have F6 := F.trans ft (fun b e => .inl (by have e : b = xb := e; omega))
  have rl6 := rl.frm ft (fun b g e => by have := hrat b g; have e : b = xb := e; omega)
  have rb6 := rb.frm ft (fun b g e => by have := hbat b g; have e : b = xb := e; omega)
  have s06 := sl.fr0 (frNo F6)
  refine RunC.seq (RunC.seq (RunC.region (RunO.all rfl ?_)))
  refine RunC.cond rfl (fun hlt => RunC.skip ?go) (fun hge => RunC.exit ?ex)
  case go =>
    have hlt := of_decide_eq_true hlt
    have hlt : k < (lkR L).length := by omega
    have hkn : (lkR L).length ≤ 4097 := by omega
    obtain ⟨p, hpe⟩ : ∃ p, p = (lkR L)[k] := ⟨_, rfl⟩
    have hpk : (lkR L)[k]? = some p := by rw [hpe]; exact List.getElem?_eq_getElem hlt
    have hpsz := lkR_sz hp p (by rw [hpe]; exact List.getElem_mem hlt)
    obtain ⟨root, size⟩ := p
    obtain ⟨z, hz⟩ := Int.eq_ofNat_of_zero_le hpsz.1
    have hz : size = (z : Int) := hz
    subst hz
    have hz512 : z ≤ 512 := by have : (z : Int) ≤ 512 := hpsz.2; omega
    refine RunC.seq (RunC.block ?_)
    refine RunC.seq (RunC.draw0 rfl (RunO.part 1 rfl ?_))
    refine RunO.load (v := .int .i64 S.2.2.1) rfl (os6.ld rfl) rfl ?_
    refine RunO.part 1 rfl ?_
    refine RunO.load (v := .int .i64 S.2.2.2.1) rfl (os6.ld rfl) rfl ?_
    refine RunO.all rfl ?_
    refine RunC.seqc (fun E' h' => g6 = h' ∧ Le ((upd (upd (upd (upd (upd (upd (upd (upd (upd (upd (upd E0 0 (iv)) 2 (.pointer (some ⟨q2, 0, none⟩))) 3 (.pointer (some ⟨q3, 0, none⟩))) 4 (.pointer (some ⟨xb, 0, none⟩))) 5 (.int .i64 ((L.length / 64 : Nat) : Int))) 7 (.pointer (some ⟨sb, 0, none⟩))) 9 (.slice rA (lkF L).1.length rc_)) 10 (.slice bA (lkF L).2.1.length bc)) 12 (.int .i64 ((k : Int) - 1))) 13 (.int .i64 root)) 14 (.int .i64 (z : Int)))) E') ?pk ?nx
    case pk =>
      refine RunC.seq (RunC.region (RunO.all rfl ?_))
      by_cases hk0 : k = 0
      · subst hk0
        rw [hR0] at hpk
        have e := Option.some.inj hpk
        rw [show decide (((0 : Nat) : Int) - 1 ≥ 0) = false from rfl]
        refine RunC.cond rfl (fun g => by cases g) (fun _ => RunC.skip ⟨rfl, ?_⟩)
        rw [show S.2.2.1 = root from congrArg Prod.fst e, show S.2.2.2.1 = (z : Int) from congrArg Prod.snd e]
        exact Le.cons rfl (Le.cons rfl (Le.cons rfl (Le.cons rfl (Le.cons rfl (Le.cons rfl (Le.cons rfl (Le.cons rfl (Le.cons rfl (Le.cons rfl (Le.cons rfl (Le.nil _)))))))))))
      · have hk1 : k - 1 < (lkF L).1.length := by omega
        have hr := hRs (k - 1) _ (List.getElem?_eq_getElem hk1)
        rw [show k - 1 + 1 = k by omega, hpk] at hr
        have e := Option.some.inj hr
        have hf1 : apart prog 3 (recCs (lkF L).1) ((k - 1) * 8 + 3) = some (.int .i64 root) := by
          rw [recCs_fld hk1 (by decide)]
          show some (Value.int .i64 (lkF L).1[k - 1].ro) = _
          rw [show (lkF L).1[k - 1].ro = root from (congrArg Prod.fst e).symm]
        have hf2 : apart prog 3 (recCs (lkF L).1) ((k - 1) * 8 + 4) = some (.int .i64 (z : Int)) := by
          rw [recCs_fld hk1 (by decide)]
          show some (Value.int .i64 (lkF L).1[k - 1].sz) = _
          rw [show (lkF L).1[k - 1].sz = (z : Int) from (congrArg Prod.snd e).symm]
        rw [show decide ((k : Int) - 1 ≥ 0) = true from decide_eq_true (by omega)]
        refine RunC.cond rfl (fun _ => ?_) (fun g => by cases g)
        rw [show (k : Int) - 1 = ((k - 1 : Nat) : Int) by omega]
        refine RunC.draw0 rfl (RunO.part 2 rfl ?_)
        refine RunO.fldG (k := k - 1) (off := 3) rfl (fun _ => rfl) (fun _ _ => rfl) rfl rfl (rl6.sl (by omega)) rfl rfl hk1 (fun _ _ => rfl) hf1 rfl rfl rfl rfl rfl ?_
        refine RunO.part 2 rfl ?_
        refine RunO.fldG (k := k - 1) (off := 4) rfl (fun _ => rfl) (fun _ _ => rfl) rfl rfl (rl6.sl (by omega)) rfl rfl hk1 (fun _ _ => rfl) hf2 rfl rfl rfl rfl rfl ?_
        exact RunO.all rfl ⟨rfl, Le.cons rfl (Le.cons rfl (Le.cons rfl (Le.cons rfl (Le.cons rfl (Le.cons rfl (Le.cons rfl (Le.cons rfl (Le.cons rfl (Le.cons rfl (Le.cons rfl (Le.nil _)))))))))))⟩
    rintro E' _ ⟨rfl, hE⟩
    refine RunC.le hE ?_
    clear hE
    have hX : lkX L (lkR L)[k] = (!treeOk L root || bey (treeM L root) (z : Int)) := by rw [← hpe]; rfl
    have hfind : lkX L (lkR L)[k] = true → lk L = (root, 6) := fun e => by
      rw [hlk]
      unfold lkM
      rw [find_first hlt (fun j hj hjk => hno j hj hjk) e, ← hpe]
    refine RunC.seq (RunC.region (RunO.part 2 rfl ?_))
    refine RunO.callD (refTree_ok (root := root) s06 hb hd) rfl rfl rfl ?_
    rintro _ g7 ⟨f7, ⟨hok, mb, nw, hmb, rfl, om, rnw⟩ | ⟨hok, rfl⟩⟩
    case inr =>
      have hx : lkX L (lkR L)[k] = true := by rw [hX, hok]; rfl
      have hlk := hfind hx
      refine RunO.all rfl ?_
      refine RunC.seqc (fun E' h' => g7 = h' ∧ Le ((upd (upd (upd (upd (upd (upd (upd (upd (upd (upd (upd E0 0 (iv)) 2 (.pointer (some ⟨q2, 0, none⟩))) 3 (.pointer (some ⟨q3, 0, none⟩))) 4 (.pointer (some ⟨xb, 0, none⟩))) 5 (.int .i64 ((L.length / 64 : Nat) : Int))) 7 (.pointer (some ⟨sb, 0, none⟩))) 9 (.slice rA (lkF L).1.length rc_)) 10 (.slice bA (lkF L).2.1.length bc)) 12 (.int .i64 ((k : Int) - 1))) 13 (.int .i64 root)) 17 (.bool false))) E') ?lp ?nx2
      case lp =>
        refine RunC.seq (RunC.region (RunO.all rfl ?_))
        refine RunC.block ?_
        refine RunC.loop (fun d E h' => d = 0 ∧ g7 = h' ∧ Le ((upd (upd (upd (upd (upd (upd (upd (upd (upd (upd (upd (upd E0 0 (iv)) 2 (.pointer (some ⟨q2, 0, none⟩))) 3 (.pointer (some ⟨q3, 0, none⟩))) 4 (.pointer (some ⟨xb, 0, none⟩))) 5 (.int .i64 ((L.length / 64 : Nat) : Int))) 7 (.pointer (some ⟨sb, 0, none⟩))) 9 (.slice rA (lkF L).1.length rc_)) 10 (.slice bA (lkF L).2.1.length bc)) 12 (.int .i64 ((k : Int) - 1))) 13 (.int .i64 root)) 17 (.bool false)) 18 (.int .i64 (z : Int)))) E) ?st3 (k := 0) ?ini3
        case ini3 => exact ⟨rfl, rfl, Le.cons rfl (Le.cons rfl (Le.cons rfl (Le.cons rfl (Le.cons rfl (Le.cons rfl (Le.cons rfl (Le.cons rfl (Le.cons rfl (Le.cons rfl (Le.cons rfl (Le.cons rfl (Le.nil _))))))))))))⟩
        rintro d3 E _ ⟨rfl, rfl, hE⟩
        refine RunC.le hE ?_
        clear hE
        refine RunC.seq (RunC.seq (RunC.region (RunO.part 3 rfl ?_)))
        cases decide ((z : Int) < 512) with
        | true => exact RunO.all rfl (RunC.cond rfl (fun g => by cases g) (fun _ => RunC.exit ⟨rfl, Le.cons rfl (Le.cons rfl (Le.cons rfl (Le.cons rfl (Le.cons rfl (Le.cons rfl (Le.cons rfl (Le.cons rfl (Le.cons rfl (Le.cons rfl (Le.cons rfl (Le.nil _)))))))))))⟩))
        | false => exact RunO.all rfl (RunC.cond rfl (fun g => by cases g) (fun _ => RunC.exit ⟨rfl, Le.cons rfl (Le.cons rfl (Le.cons rfl (Le.cons rfl (Le.cons rfl (Le.cons rfl (Le.cons rfl (Le.cons rfl (Le.cons rfl (Le.cons rfl (Le.cons rfl (Le.nil _)))))))))))⟩))
      rintro E' _ ⟨rfl, hE⟩
      refine RunC.le hE ?_
      clear hE
      have o27 := o26.fr f7 (fun g => g)
      have o37 := o36.fr f7 (fun g => g)
      have F7 := F6.quiet f7
      refine RunC.seq (RunC.seq (RunC.region (RunO.all rfl (RunC.cond rfl (fun _ => ?_) (fun g => by cases g)))))
      refine RunC.seq (RunC.region ?_)
      refine RunO.part 3 rfl ?_
      refine RunO.store rfl rfl (store_ow (s := 10) o27 rfl rfl rfl (Nat.le_refl 10)) ?_
      show RunO prog _ _ _ _ (g7.put q2 (some ⟨(imx (0, 0, 0, 0, 0) 0 (.slice none 0 0) (.slice none 0 0) (.slice none 0 0) (.slice none 0 0)), true⟩)) _
      have w2 : Ow (g7.put q2 (some ⟨(imx (0, 0, 0, 0, 0) 0 (.slice none 0 0) (.slice none 0 0) (.slice none 0 0) (.slice none 0 0)), true⟩)) q2 (imx (0, 0, 0, 0, 0) 0 (.slice none 0 0) (.slice none 0 0) (.slice none 0 0) (.slice none 0 0)) := Ow.put _ o27.1
      have v2 : Fr (· = q2) g7 (g7.put q2 (some ⟨(imx (0, 0, 0, 0, 0) 0 (.slice none 0 0) (.slice none 0 0) (.slice none 0 0) (.slice none 0 0)), true⟩)) := Fr.put _ (.inl rfl)
      generalize g7.put q2 (some ⟨(imx (0, 0, 0, 0, 0) 0 (.slice none 0 0) (.slice none 0 0) (.slice none 0 0) (.slice none 0 0)), true⟩) = gA at *
      have w3 := o37.fr v2 (fun e => by have e : q3 = q2 := e; omega)
      refine RunO.store rfl rfl (store_ow (s := 2) w3 rfl rfl rfl (Nat.le_refl 2)) (RunO.all rfl ?_)
      show RunC prog _ _ _ (gA.put q3 (some ⟨[.int .i64 (root), .int .i64 (6)], true⟩)) _ _ _
      have w4 : Ow (gA.put q3 (some ⟨[.int .i64 (root), .int .i64 (6)], true⟩)) q3 [.int .i64 (root), .int .i64 (6)] := Ow.put _ w3.1
      have v3 : Fr (· = q3) gA (gA.put q3 (some ⟨[.int .i64 (root), .int .i64 (6)], true⟩)) := Fr.put _ (.inl rfl)
      have w5 := w2.fr v3 (fun e => by have e : q2 = q3 := e; omega)
      generalize gA.put q3 (some ⟨[.int .i64 (root), .int .i64 (6)], true⟩) = gB at *
      have VF : Fr no h gB := frNo ((F7.trans v2 (fun b e => .inl (by have e : b = q2 := e; omega))).trans v3 (fun b e => .inl (by have e : b = q3 := e; omega)))
      exact RunC.ret ⟨_, eres_cc rfl (w5.all.part (k := 0) rfl) rfl (w4.all.part (k := 0) rfl), VF, .inr ⟨by rw [hlk]; first | decide | (show (7 : Int) ≠ 0; decide) | (show (6 : Int) ≠ 0; decide), by rw [hlk]; rfl⟩⟩
    have hml : (treeM L root).length = 512 := treeM_len L root
    have o27 := o26.fr f7 (fun g => g)
    have o37 := o36.fr f7 (fun g => g)
    have F7 := F6.quiet f7
    have ft7 := ft.quiet f7
    have ox7 := ox3.fr f7 (fun g => g)
    have rm7 := rm.fr f7 (fun _ _ _ g => g)
    have rn7 := rn.fr f7 (fun _ _ _ g => g)
    have jm7 := jm.fr0 f7
    have jn7 := jn.fr0 f7
    have hg6n : g5.next ≤ g6.next := ft.next
    have sm7 : Sl g7 (.slice (some ⟨mb, 0, none⟩) 512 (exc 512)) 1 (treeM L root).length (is (treeM L root)) := by rw [hml]; exact om.all.sl (by rw [is_len, hml]) (by decide) (Cp.exc (Nat.le_refl _))
    have snw := rnw.sl (by have := treeN_len L root; omega)
    have hnat7 : ∀ b, At nw b → g6.next ≤ b := fun b g => (rnw.at g).1
    obtain ⟨nA, nc_, rfl, _, _⟩ := snw.form
    refine RunO.all rfl ?_
    -- beyond its size
    refine RunC.seqc (fun E' h' => g7 = h' ∧ Le ((upd (upd (upd (upd (upd (upd (upd (upd (upd (upd (upd (upd (upd E0 0 (iv)) 2 (.pointer (some ⟨q2, 0, none⟩))) 3 (.pointer (some ⟨q3, 0, none⟩))) 4 (.pointer (some ⟨xb, 0, none⟩))) 5 (.int .i64 ((L.length / 64 : Nat) : Int))) 7 (.pointer (some ⟨sb, 0, none⟩))) 9 (.slice rA (lkF L).1.length rc_)) 10 (.slice bA (lkF L).2.1.length bc)) 12 (.int .i64 ((k : Int) - 1))) 13 (.int .i64 root)) 15 (.slice (some ⟨mb, 0, none⟩) 512 (exc 512))) 16 (.slice nA (treeN L root).length nc_)) 17 (.bool (!bey (treeM L root) (z : Int))))) E') ?lp2 ?nx3
    case lp2 =>
      refine RunC.seq (RunC.region (RunO.all rfl ?_))
      refine RunC.block ?_
      refine RunC.loop (fun d E h' => ∃ (j : Nat) (ok : Bool), j + d = 512 ∧ z ≤ j ∧ ok = !((((treeM L root).drop z).take (j - z)).any (· != 0)) ∧ g7 = h' ∧ Le ((upd (upd (upd (upd (upd (upd (upd (upd (upd (upd (upd (upd (upd (upd E0 0 (iv)) 2 (.pointer (some ⟨q2, 0, none⟩))) 3 (.pointer (some ⟨q3, 0, none⟩))) 4 (.pointer (some ⟨xb, 0, none⟩))) 5 (.int .i64 ((L.length / 64 : Nat) : Int))) 7 (.pointer (some ⟨sb, 0, none⟩))) 9 (.slice rA (lkF L).1.length rc_)) 10 (.slice bA (lkF L).2.1.length bc)) 12 (.int .i64 ((k : Int) - 1))) 13 (.int .i64 root)) 15 (.slice (some ⟨mb, 0, none⟩) 512 (exc 512))) 16 (.slice nA (treeN L root).length nc_)) 17 (.bool ok)) 18 (.int .i64 (j : Int)))) E) ?st4 (k := 512 - z) ?ini4
      case ini4 => exact ⟨z, true, by omega, Nat.le_refl _, by rw [Nat.sub_self]; rfl, rfl, Le.cons rfl (Le.cons rfl (Le.cons rfl (Le.cons rfl (Le.cons rfl (Le.cons rfl (Le.cons rfl (Le.cons rfl (Le.cons rfl (Le.cons rfl (Le.cons rfl (Le.cons rfl (Le.cons rfl (Le.cons rfl (Le.nil _))))))))))))))⟩
      rintro d3 E _ ⟨j, ok, hj, hzj, hokj, rfl, hE⟩
      refine RunC.le hE ?_
      clear hE
      have hbey : bey (treeM L root) (z : Int) = ((treeM L root).drop z).any (· != 0) := rfl
      refine RunC.seq (RunC.seq (RunC.region (RunO.part 3 rfl ?_)))
      by_cases hj5 : j = 512
      · rw [show decide ((j : Int) < 512) = false from decide_eq_false (by omega)]
        refine RunO.all rfl (RunC.cond rfl (fun g => by cases g) (fun _ => RunC.exit ⟨rfl, ?_⟩))
        have e : ok = !bey (treeM L root) (z : Int) := by rw [hokj, hbey, List.take_of_length_le (by rw [List.length_drop, hml]; omega)]
        rw [e]
        exact Le.cons rfl (Le.cons rfl (Le.cons rfl (Le.cons rfl (Le.cons rfl (Le.cons rfl (Le.cons rfl (Le.cons rfl (Le.cons rfl (Le.cons rfl (Le.cons rfl (Le.cons rfl (Le.cons rfl (Le.nil _)))))))))))))
      rw [show decide ((j : Int) < 512) = true from decide_eq_true (by omega)]
      cases ok with
      | false =>
        refine RunO.all rfl (RunC.cond rfl (fun g => by cases g) (fun _ => RunC.exit ⟨rfl, ?_⟩))
        have e : bey (treeM L root) (z : Int) = true := by
          have h1 : (((treeM L root).drop z).take (j - z)).any (· != 0) = true := by
            cases hq : (((treeM L root).drop z).take (j - z)).any (· != 0) with
            | true => rfl
            | false => rw [hq] at hokj; cases hokj
          obtain ⟨x, hx, hx2⟩ := List.any_eq_true.1 h1
          rw [hbey]
          exact List.any_eq_true.2 ⟨x, List.mem_of_mem_take hx, hx2⟩
        rw [e]
        exact Le.cons rfl (Le.cons rfl (Le.cons rfl (Le.cons rfl (Le.cons rfl (Le.cons rfl (Le.cons rfl (Le.cons rfl (Le.cons rfl (Le.cons rfl (Le.cons rfl (Le.cons rfl (Le.cons rfl (Le.nil _)))))))))))))
      | true =>
        have hjl : j < (treeM L root).length := by omega
        have hpt := is_part hjl
        have hst : (((treeM L root).drop z).take (j + 1 - z)).any (· != 0) = ((treeM L root)[j] != 0) := by
          have hdl2 : j - z < ((treeM L root).drop z).length := by rw [List.length_drop]; omega
          have hprev : (((treeM L root).drop z).take (j - z)).any (· != 0) = false := by
            cases hq : (((treeM L root).drop z).take (j - z)).any (· != 0) with
            | false => rfl
            | true => rw [hq] at hokj; cases hokj
          rw [show j + 1 - z = (j - z) + 1 by omega, List.take_succ_eq_append_getElem hdl2, List.any_append, hprev, List.any_cons, List.any_nil, Bool.false_or, Bool.or_false, List.getElem_drop]
          congr 2
          omega
        refine RunO.all rfl (RunC.cond rfl (fun _ => RunC.skip ?_) (fun g => by cases g))
        refine RunC.seq (RunC.block ?_)
        rw [hml] at sm7
        refine RunC.region (RunO.part 2 rfl ?_)
        refine RunO.atG (s := 1) (k := j) rfl (fun _ => rfl) rfl rfl sm7 rfl rfl (by omega) hpt rfl rfl rfl ?_
        refine RunO.all rfl ?_
        refine RunC.region (RunO.all rfl ?_)
        exact ⟨d3 - 1, by omega, j + 1, ((treeM L root)[j] == 0), by omega, by omega, by rw [hst]; exact (Bool.not_not _).symm, rfl, Le.cons (inc64 (by omega)) (Le.cons rfl (Le.cons rfl (Le.cons rfl (Le.cons rfl (Le.cons rfl (Le.cons rfl (Le.cons rfl (Le.cons rfl (Le.cons rfl (Le.cons rfl (Le.cons rfl (Le.cons rfl (Le.cons rfl (Le.nil _))))))))))))))⟩
    rintro E' _ ⟨rfl, hE⟩
    refine RunC.le hE ?_
    clear hE
    cases hby : bey (treeM L root) (z : Int) with
    | true =>
      have hlk := hfind (by rw [hX, hok, hby]; rfl)
      refine RunC.seq (RunC.seq (RunC.region (RunO.all rfl (RunC.cond rfl (fun _ => ?_) (fun g => by cases g)))))
      refine RunC.seq (RunC.region ?_)
      refine RunO.part 3 rfl ?_
      refine RunO.store rfl rfl (store_ow (s := 10) o27 rfl rfl rfl (Nat.le_refl 10)) ?_
      show RunO prog _ _ _ _ (g7.put q2 (some ⟨(imx (0, 0, 0, 0, 0) 0 (.slice none 0 0) (.slice none 0 0) (.slice none 0 0) (.slice none 0 0)), true⟩)) _
      have w2 : Ow (g7.put q2 (some ⟨(imx (0, 0, 0, 0, 0) 0 (.slice none 0 0) (.slice none 0 0) (.slice none 0 0) (.slice none 0 0)), true⟩)) q2 (imx (0, 0, 0, 0, 0) 0 (.slice none 0 0) (.slice none 0 0) (.slice none 0 0) (.slice none 0 0)) := Ow.put _ o27.1
      have v2 : Fr (· = q2) g7 (g7.put q2 (some ⟨(imx (0, 0, 0, 0, 0) 0 (.slice none 0 0) (.slice none 0 0) (.slice none 0 0) (.slice none 0 0)), true⟩)) := Fr.put _ (.inl rfl)
      generalize g7.put q2 (some ⟨(imx (0, 0, 0, 0, 0) 0 (.slice none 0 0) (.slice none 0 0) (.slice none 0 0) (.slice none 0 0)), true⟩) = gA at *
      have w3 := o37.fr v2 (fun e => by have e : q3 = q2 := e; omega)
      refine RunO.store rfl rfl (store_ow (s := 2) w3 rfl rfl rfl (Nat.le_refl 2)) (RunO.all rfl ?_)
      show RunC prog _ _ _ (gA.put q3 (some ⟨[.int .i64 (root), .int .i64 (6)], true⟩)) _ _ _
      have w4 : Ow (gA.put q3 (some ⟨[.int .i64 (root), .int .i64 (6)], true⟩)) q3 [.int .i64 (root), .int .i64 (6)] := Ow.put _ w3.1
      have v3 : Fr (· = q3) gA (gA.put q3 (some ⟨[.int .i64 (root), .int .i64 (6)], true⟩)) := Fr.put _ (.inl rfl)
      have w5 := w2.fr v3 (fun e => by have e : q2 = q3 := e; omega)
      generalize gA.put q3 (some ⟨[.int .i64 (root), .int .i64 (6)], true⟩) = gB at *
      have VF : Fr no h gB := frNo ((F7.trans v2 (fun b e => .inl (by have e : b = q2 := e; omega))).trans v3 (fun b e => .inl (by have e : b = q3 := e; omega)))
      exact RunC.ret ⟨_, eres_cc rfl (w5.all.part (k := 0) rfl) rfl (w4.all.part (k := 0) rfl), VF, .inr ⟨by rw [hlk]; first | decide | (show (7 : Int) ≠ 0; decide) | (show (6 : Int) ≠ 0; decide), by rw [hlk]; rfl⟩⟩
    | false =>
    refine RunC.seq (RunC.seq (RunC.region (RunO.all rfl (RunC.cond rfl (fun g => by cases g) (fun _ => RunC.skip ?_)))))
    have hmx : ∀ b, At mv b → g5.next ≤ b ∧ b < g6.next := fun b g => rm.at g
    have hnx_ : ∀ b, At nv b → g5.next ≤ b ∧ b < g6.next := fun b g => rn.at g
    have hg67 : g6.next ≤ g7.next := f7.next
    refine RunC.drawW (fun b => b = xb ∨ At mv b ∨ At nv b) (p := (4, 6)) (ps := []) rfl ?_
    refine RunW.pure rfl rfl (fun _ => rfl) rfl ?_
    refine RunW.load (v := mv) rfl rfl (ox7.ld rfl) rfl ?_
    refine RunW.pure rfl rfl (fun _ => rfl) rfl ?_
    refine RunW.new (ob := ⟨[.slice (some ⟨mb, 0, none⟩) 512 (exc 512)], true⟩) rfl rfl (fun _ => rfl) rfl ?_
    have ot := Ow.push g7 [.slice (some ⟨mb, 0, none⟩) 512 (exc 512)]
    have f8 : Fr no g7 (g7.push ⟨[.slice (some ⟨mb, 0, none⟩) 512 (exc 512)], true⟩) := Fr.push _ _ _
    have rm8 := rm7.fr f8 (fun _ _ _ g => g)
    have rn8 := rn7.fr f8 (fun _ _ _ g => g)
    have ox8 := ox7.fr f8 (fun g => g)
    have hn8 : g7.next < (g7.push ⟨[.slice (some ⟨mb, 0, none⟩) 512 (exc 512)], true⟩).next := ot.1
    generalize g7.push ⟨[.slice (some ⟨mb, 0, none⟩) 512 (exc 512)], true⟩ = g8 at *
    obtain ⟨tb, htb⟩ : ∃ q, q = (g7.lo g7.next).next := ⟨_, rfl⟩
    have htb2 : tb = g7.next := htb
    rw [← htb]
    rw [← htb2] at ot hn8
    refine RunW.append2 (s := 1) (j := 1) rfl rfl rfl rfl rfl rfl rfl rfl rfl (by decide) rm8 ot.all rfl (Nat.le_refl 1) rfl (by show 2 * (_ + 1) * 24 ≤ _; omega) (by omega) (fun b g => .inr (.inl g)) ?_
    intro mv2 g9 rm9 f9
    have ox9 := ox8.fr f9 (fun g => by have := hmx xb g; omega)
    have rn9 := rn8.frm f9 (fun b g e => hmn b e g)
    refine RunW.pure rfl rfl (fun _ => rfl) rfl ?_
    refine RunW.load (v := nv) rfl rfl (ox9.ld rfl) rfl ?_
    refine RunW.pure rfl rfl (fun _ => rfl) rfl ?_
    refine RunW.new (ob := ⟨[.slice nA (treeN L root).length nc_], true⟩) rfl rfl (fun _ => rfl) rfl ?_
    have ou := Ow.push g9 [.slice nA (treeN L root).length nc_]
    have fa : Fr no g9 (g9.push ⟨[.slice nA (treeN L root).length nc_], true⟩) := Fr.push _ _ _
    have rma := rm9.fr fa (fun _ _ _ g => g)
    have rna := rn9.fr fa (fun _ _ _ g => g)
    have oxa := ox9.fr fa (fun g => g)
    have hna : g9.next < (g9.push ⟨[.slice nA (treeN L root).length nc_], true⟩).next := ou.1
    have hn9 := f9.next
    generalize g9.push ⟨[.slice nA (treeN L root).length nc_], true⟩ = ga at *
    refine RunW.append2 (s := 1) (j := 1) rfl rfl rfl rfl rfl rfl rfl rfl rfl (by decide) rna ou.all rfl (Nat.le_refl 1) rfl (by show 2 * (_ + 1) * 24 ≤ _; omega) (by omega) (fun b g => .inr (.inr g)) ?_
    intro nv2 gb rnb fb
    have hm2 : ∀ b, At mv2 b → g8.next ≤ b ∧ b < g9.next := fun b g => rm9.at g
    have hn2 : ∀ b, At nv2 b → ga.next ≤ b ∧ b < gb.next := fun b g => rnb.at g
    have oxb := oxa.fr fb (fun g => by have := hnx_ xb g; omega)
    have rmb := rma.frm fb (fun b g e => by have := hm2 b g; have := hnx_ b e; omega)
    refine RunW.pure rfl rfl (fun _ => rfl) rfl ?_
    have fsb : Fr (· = xb) (gb.lo gb.next) ((gb.lo gb.next).put xb (some ⟨imx S slot (.slice rA (lkF L).1.length rc_) (.slice bA (lkF L).2.1.length bc) mv2 nv, true⟩)) := Fr.put _ (.inl rfl)
    have oxc : Ow ((gb.lo gb.next).put xb (some ⟨imx S slot (.slice rA (lkF L).1.length rc_) (.slice bA (lkF L).2.1.length bc) mv2 nv, true⟩)) xb (imx S slot (.slice rA (lkF L).1.length rc_) (.slice bA (lkF L).2.1.length bc) mv2 nv) := Ow.put _ oxb.1
    have rmc := Row.frm (h := gb.lo gb.next) rmb fsb (fun b g e => by have := hm2 b g; have e : b = xb := e; omega)
    have rnc := Row.frm (h := gb.lo gb.next) rnb fsb (fun b g e => by have := hn2 b g; have e : b = xb := e; omega)
    refine RunW.store rfl rfl rfl (store1_ow (h := gb.lo gb.next) oxb rfl (rm9.cell).1 (rm9.cell).2 (Nat.le_of_ble_eq_true rfl)) (Fr.put _ (.inl (.inl rfl))) ?_
    show RunW prog _ _ _ _ _ ((gb.lo gb.next).put xb (some ⟨imx S slot (.slice rA (lkF L).1.length rc_) (.slice bA (lkF L).2.1.length bc) mv2 nv, true⟩)) _
    generalize (gb.lo gb.next).put xb (some ⟨imx S slot (.slice rA (lkF L).1.length rc_) (.slice bA (lkF L).2.1.length bc) mv2 nv, true⟩) = gc at *
    refine RunW.pure rfl rfl (fun _ => rfl) rfl ?_
    have fsc : Fr (· = xb) (gc.lo gc.next) ((gc.lo gc.next).put xb (some ⟨imx S slot (.slice rA (lkF L).1.length rc_) (.slice bA (lkF L).2.1.length bc) mv2 nv2, true⟩)) := Fr.put _ (.inl rfl)
    have oxd : Ow ((gc.lo gc.next).put xb (some ⟨imx S slot (.slice rA (lkF L).1.length rc_) (.slice bA (lkF L).2.1.length bc) mv2 nv2, true⟩)) xb (imx S slot (.slice rA (lkF L).1.length rc_) (.slice bA (lkF L).2.1.length bc) mv2 nv2) := Ow.put _ oxc.1
    have rmd := Row.frm (h := gc.lo gc.next) rmc fsc (fun b g e => by have := hm2 b g; have e : b = xb := e; omega)
    have rnd := Row.frm (h := gc.lo gc.next) rnc fsc (fun b g e => by have := hn2 b g; have e : b = xb := e; omega)
    refine RunW.store rfl rfl rfl (store1_ow (h := gc.lo gc.next) oxc rfl (rnb.cell).1 (rnb.cell).2 (Nat.le_of_ble_eq_true rfl)) (Fr.put _ (.inl (.inl rfl))) ?_
    show RunW prog _ _ _ _ _ ((gc.lo gc.next).put xb (some ⟨imx S slot (.slice rA (lkF L).1.length rc_) (.slice bA (lkF L).2.1.length bc) mv2 nv2, true⟩)) _
    generalize (gc.lo gc.next).put xb (some ⟨imx S slot (.slice rA (lkF L).1.length rc_) (.slice bA (lkF L).2.1.length bc) mv2 nv2, true⟩) = gd at *
    refine RunW.nil ⟨?_, fun lw FW => ?_⟩
    · show cond (fpOk (.wr (idsOf [mv, .slice (some ⟨tb, 0, none⟩) 1 (exc 1)])) (.rd xb)) true false = true
      rw [idsN rm8 (fun b g => by have := hmx b g; omega) (by omega)]; rfl
    have oxz : Ow (gd.lo lw) xb (imx S slot (.slice rA (lkF L).1.length rc_) (.slice bA (lkF L).2.1.length bc) mv2 nv2) := oxd
    have rmz : Row g8.next (gd.lo lw) mv2 1 (k + 1) (cm ++ [.slice (some ⟨mb, 0, none⟩) 512 (exc 512)]) := rmd
    have rnz : Row ga.next (gd.lo lw) nv2 1 (k + 1) (cn ++ [.slice nA (treeN L root).length nc_]) := rnd
    have hNV : ∀ b o c, (.slice nA (treeN L root).length nc_ : Value) = .slice (some ⟨b, o, none⟩) (treeN L root).length c → g6.next ≤ b ∧ b < g7.next := fun b o c e => ⟨Gr.ge rnw.gr b o _ c e, snw.lt b o c e⟩
    have hmbl : mb < g7.next := om.1
    have NN : ∀ {cs : List Value} {rows : List (List Int)}, JEl (fun b => g5.next ≤ b ∧ ¬ At mv b ∧ ¬ At nv b) g7 cs rows → JEl (fun b => g5.next ≤ b ∧ ¬ At mv2 b ∧ ¬ At nv2 b) (gd.lo lw) cs rows := fun j =>
      ((j.weak (M := fun b => b < g7.next ∧ (g5.next ≤ b ∧ ¬ At mv b ∧ ¬ At nv b)) (fun b hb hN => ⟨hb, hN⟩)).frm FW (fun b hN hM => by
        rcases hM with e | e | e
        · omega
        · exact hN.2.2.1 e
        · exact hN.2.2.2 e)).weak (fun b _ hN => ⟨hN.2.1, fun g => by have := hm2 b g; omega, fun g => by have := hn2 b g; omega⟩)
    have hNmb : g5.next ≤ mb ∧ ¬ At mv mb ∧ ¬ At nv mb := ⟨by omega, fun g => by have := hmx mb g; omega, fun g => by have := hnx_ mb g; omega⟩
    have jm8 := NN (jm7.snoc (w := .slice (some ⟨mb, 0, none⟩) 512 (exc 512)) (x := treeM L root) sm7 (fun b o c e => by rw [hml] at e; cases e; exact hNmb))
    have jn8 := NN (jn7.snoc (w := .slice nA (treeN L root).length nc_) (x := treeN L root) snw (fun b o c e => by
      have h1 := hNV b o c e
      exact ⟨by omega, fun g => by have := hmx b g; omega, fun g => by have := hnx_ b g; omega⟩))
    have tkM : ((lkR L).map fun p => treeM L p.1).take (k + 1) = ((lkR L).map fun p => treeM L p.1).take k ++ [treeM L root] := by
      rw [List.take_succ_eq_append_getElem (by rw [List.length_map]; exact hlt), List.getElem_map, ← hpe]
    have tkN : ((lkR L).map fun p => treeN L p.1).take (k + 1) = ((lkR L).map fun p => treeN L p.1).take k ++ [treeN L root] := by
      rw [List.take_succ_eq_append_getElem (by rw [List.length_map]; exact hlt), List.getElem_map, ← hpe]
    refine RunC.region (RunO.part 2 rfl ?_)
    rw [fw64 (x := (k : Int) - 1 + 1) (by omega) (by omega), show (k : Int) - 1 + 1 = ((k + 1 : Nat) : Int) - 1 by omega]
    refine RunO.all rfl ?_
    refine ⟨d - 1, by omega, k + 1, mv2, nv2, cm ++ [.slice (some ⟨mb, 0, none⟩) 512 (exc 512)], cn ++ [.slice nA (treeN L root).length nc_], by omega, fun j hj hjk => ?_, ft7.trans FW (fun b g => ?_), oxz, Row.lo rmz (by omega), Row.lo rnz (by omega), by rw [tkM]; exact jm8, by rw [tkN]; exact jn8, fun b g g2 => ?_, Le.cons rfl (Le.cons rfl (Le.cons rfl (Le.cons rfl (Le.cons rfl (Le.cons rfl (Le.cons rfl (Le.cons rfl (Le.cons rfl (Le.nil _)))))))))⟩
    · by_cases e : j = k
      · subst e; rw [hX, hok, hby]; rfl
      · exact hno j hj (by omega)
    · rcases g with g | g | g
      · exact .inl g
      · exact .inr (hmat b g)
      · exact .inr (hnat b g)
    · have := hm2 b g; have := hn2 b g2; omega
  have hge := of_decide_eq_false hge
  obtain rfl : k = (lkR L).length := by omega
  rw [List.take_of_length_le (by rw [List.length_map]; exact Nat.le_refl _)] at jm jn
  have hallX : ∀ p ∈ lkR L, treeOk L p.1 = true := fun p hpm => by
    obtain ⟨j, hj, e⟩ := List.mem_iff_getElem.1 hpm
    have := hno j hj hj
    rw [e] at this
    unfold lkX at this
    rw [Bool.or_eq_false_iff] at this
    have h1 := this.1
    cases hq : treeOk L p.1 with
    | true => rfl
    | false => rw [hq] at h1; cases h1
  have hfnone : (lkR L).find? (lkX L) = none := List.find?_eq_none.2 (fun p hpm => by
    obtain ⟨j, hj, e⟩ := List.mem_iff_getElem.1 hpm
    have := hno j hj hj
    rw [e] at this
    rw [this]; simp)
  have hlkM : lkM L = (lkC L, if lkC L = 0 then 0 else 6) := by unfold lkM; rw [hfnone]
  rw [hlkM] at hlk
  obtain ⟨B, hB⟩ : ∃ B, B = L.length / 64 := ⟨_, rfl⟩
  have hC : lkC L = clV (L.length / 64) (lkF L).2.1 (lkT L) := rfl
  rw [← hB] at hC hbr hdl ⊢
  have hrng := fun p hpm => tree_rng (L := L) hd (hallX p hpm)
  rw [← hB] at hrng
  obtain ⟨bl, hbl⟩ : ∃ b, b = (lkF L).2.1 := ⟨_, rfl⟩
  -- what each block is
  refine RunC.seq (RunC.region (RunO.part 1 rfl ?_))
  refine RunO.make (m := B) rfl rfl rfl rfl rfl rfl (show 8 * B ≤ _ by omega) (by omega) rfl ?_
  rw [reps_is]
  have oi := Ow.push g6 (is (List.replicate B 0))
  have f7 : Fr no g6 (g6.push ⟨is (List.replicate B 0), true⟩) := Fr.push _ _ _
  have hmat6 : ∀ b, At mv b → b < g6.next := fun b g => (rm.at g).2
  have hnat6 : ∀ b, At nv b → b < g6.next := fun b g => (rn.at g).2
  have jm6 := jm.weak (M := fun b => g5.next ≤ b ∧ b < g6.next) (fun b hb hN => ⟨hN.1, hb⟩)
  have jn6 := jn.weak (M := fun b => g5.next ≤ b ∧ b < g6.next) (fun b hb hN => ⟨hN.1, hb⟩)
  replace o26 := o26.fr f7 (fun g => g)
  replace o36 := o36.fr f7 (fun g => g)
  replace ox3 := ox3.fr f7 (fun g => g)
  replace rl6 := rl6.fr0 f7
  replace rb6 := rb6.fr0 f7
  replace rm := rm.fr f7 (fun _ _ _ g => g)
  replace rn := rn.fr f7 (fun _ _ _ g => g)
  replace jm6 := jm6.fr0 f7
  replace jn6 := jn6.fr0 f7
  clear jm jn
  replace F6 := F6.quiet f7
  have hix : xb < g6.next ∧ q2 < g6.next ∧ q3 < g6.next := ⟨by have := ft.next; omega, by have := ft.next; omega, by have := ft.next; omega⟩
  have hbat6 : ∀ b, At (.slice bA (lkF L).2.1.length bc) b → b < g6.next := fun b g => by
    have := (rb.at g).2
    have := ft.next
    omega
  have hrat6 : ∀ b, At (.slice rA (lkF L).1.length rc_) b → b < g6.next := fun b g => by
    have := (rl.at g).2
    have := ft.next
    omega
  generalize g6.push ⟨is (List.replicate B 0), true⟩ = g7 at *
  obtain ⟨ib, hib⟩ : ∃ q, q = g6.next := ⟨_, rfl⟩
  rw [← hib] at oi ⊢
  rw [← isA_zero B] at oi
  have srm := rm.sl (by omega)
  have srn := rn.sl (by omega)
  obtain ⟨mA, mc, rfl, _, _⟩ := srm.form
  obtain ⟨nA, nc_, rfl, _, _⟩ := srn.form
  refine RunO.all rfl ?_
  refine RunC.seq (RunC.seq (RunC.region (RunO.all rfl ?_)))
  refine RunC.block ?_
  refine RunC.loop (fun d E h' => ∃ i : Nat, i + d = (lkF L).2.1.length ∧ Fr (· = ib) g7 h' ∧ Ow h' ib (is (isA B ((lkF L).2.1.take i) [] [])) ∧ Le ((upd (upd (upd (upd (upd (upd (upd (upd E0 0 (iv)) 2 (.pointer (some ⟨q2, 0, none⟩))) 3 (.pointer (some ⟨q3, 0, none⟩))) 4 (.pointer (some ⟨xb, 0, none⟩))) 5 (.int .i64 (B : Int))) 10 (.slice bA (lkF L).2.1.length bc)) 19 (.slice (some ⟨ib, 0, none⟩) B (exc B))) 20 (.int .i64 (i : Int)))) E) ?sa (k := (lkF L).2.1.length) ?ia
  case ia => exact ⟨0, by omega, Fr.refl _ _, oi, Le.cons rfl (Le.cons rfl (Le.cons rfl (Le.cons rfl (Le.cons rfl (Le.cons rfl (Le.cons rfl (Le.cons rfl (Le.nil _))))))))⟩
  rintro d E g8 ⟨i, hi, fi, oi8, hE⟩
  refine RunC.le hE ?_
  clear hE
  have sb8 := (rb6.frm fi (fun b g e => by have := hbat6 b g; have e : b = ib := e; omega)).sl (by omega)
  refine RunC.seq (RunC.seq (RunC.region (RunO.all rfl ?_)))
  refine RunC.cond rfl (fun hlt => RunC.skip ?goa) (fun hge => RunC.exit ?exa)
  case goa =>
    have hlt := of_decide_eq_true hlt
    have hlt : i < (lkF L).2.1.length := by omega
    have hpt := is_part hlt
    have hr := hbr _ (List.getElem_mem hlt)
    obtain ⟨a, ha⟩ := Int.eq_ofNat_of_zero_le (show 0 ≤ (lkF L).2.1[i] by omega)
    rw [ha] at hpt
    have haB : a < B := by omega
    have hset := isA_bl hlt ha haB
    refine RunC.seq (RunC.block ?_)
    refine RunC.region (RunO.part 3 rfl ?_)
    refine RunO.at (s := 1) (k := i) rfl rfl sb8 rfl rfl hlt hpt rfl rfl rfl ?_
    refine RunO.index (s := 1) (k := a) rfl rfl rfl rfl haB rfl ?_
    refine RunO.store rfl rfl (store1_ow oi8 rfl rfl rfl (by rw [is_len, isA_len]; omega)) (RunO.nil ?_)
    rw [isv_set, hset]
    refine RunC.region (RunO.all rfl ?_)
    exact ⟨d - 1, by omega, i + 1, by omega, fi.same (Fr.put _ (.inl rfl)), Ow.put _ oi8.1, Le.cons (inc64 (by omega)) (Le.cons rfl (Le.cons rfl (Le.cons rfl (Le.cons rfl (Le.cons rfl (Le.cons rfl (Le.cons rfl (Le.nil _))))))))⟩
  have hge := of_decide_eq_false hge
  obtain rfl : i = (lkF L).2.1.length := by omega
  rw [List.take_length] at oi8
  refine RunC.seq (RunC.region (RunO.all rfl ?_))
  -- the trees' blocks
  refine RunC.seq (RunC.seq (RunC.region (RunO.all rfl ?_)))
  refine RunC.block ?_
  refine RunC.loop (fun d E h' => ∃ (i bad : Nat), i + d = (lkR L).length ∧ Fr (· = ib) g7 h' ∧ Ow h' ib (is (isA B (lkF L).2.1 (nsO L ((lkR L).take i)) (ssO L ((lkR L).take i)))) ∧ BadI B (lkF L).2.1 (nsO L ((lkR L).take i)) (ssO L ((lkR L).take i)) bad ∧ Le ((upd (upd (upd (upd (upd (upd (upd (upd (upd E0 0 (iv)) 2 (.pointer (some ⟨q2, 0, none⟩))) 3 (.pointer (some ⟨q3, 0, none⟩))) 4 (.pointer (some ⟨xb, 0, none⟩))) 5 (.int .i64 (B : Int))) 10 (.slice bA (lkF L).2.1.length bc)) 19 (.slice (some ⟨ib, 0, none⟩) B (exc B))) 11 (.int .i64 (bad : Int))) 21 (.int .i64 (i : Int)))) E) ?sb (k := (lkR L).length) ?ib_
  case ib_ => exact ⟨0, B, by omega, fi, oi8, badI_init _ _, Le.cons rfl (Le.cons rfl (Le.cons rfl (Le.cons rfl (Le.cons rfl (Le.cons rfl (Le.cons rfl (Le.cons rfl (Le.cons rfl (Le.nil _)))))))))⟩
  rintro d E g9 ⟨i, bad, hi, ff, oi9, bI, hE⟩
  refine RunC.le hE ?_
  clear hE
  have ox9 := ox3.fr ff (fun e => by have e : xb = ib := e; omega)
  have srm9 := (rm.frm ff (fun b g e => by have := hmat6 b g; have e : b = ib := e; omega)).sl (by omega)
  have srn9 := (rn.frm ff (fun b g e => by have := hnat6 b g; have e : b = ib := e; omega)).sl (by omega)
  refine RunC.seq (RunC.seq (RunC.region (RunO.part 2 rfl ?_)))
  refine RunO.load (v := .slice mA (lkR L).length mc) rfl (ox9.ld rfl) rfl ?_
  refine RunO.all rfl ?_
  refine RunC.cond rfl (fun hlt => RunC.skip ?gob) (fun hge => RunC.exit ?exb)
  case exb =>
    have hge := of_decide_eq_false hge
    obtain rfl : i = (lkR L).length := by omega
    rw [List.take_length] at bI
    have hcl : lkC L = if bad < B then (bad : Int) else 0 := by
      rw [hC]
      exact badI_cl bI (fun j => cf_cl L _ _ j)
    have o29 := o26.fr ff (fun e => by have e : q2 = ib := e; omega)
    have o39 := o36.fr ff (fun e => by have e : q3 = ib := e; omega)
    have F9 := F6.trans ff (fun b e => .inl (by have e : b = ib := e; have := F6.next; omega))
    refine RunC.seq (RunC.seq (RunC.region (RunO.all rfl ?_)))
    by_cases hbB : bad < B
    · rw [show decide ((bad : Int) < (B : Int)) = true from decide_eq_true (by omega)]
      rw [if_pos hbB] at hcl
      have hb0 : bad ≠ 0 := fun e => by
        have := bI.is hbB
        rw [cf_cl, e] at this
        rw [clP_zero (fun x hx => (hbr x hx).1) (fun t ht x hx => by
          obtain ⟨t1, ht1, rfl⟩ := List.mem_map.1 ht
          obtain ⟨p, hpm, rfl⟩ := List.mem_map.1 ht1
          exact ((hrng p hpm).2 x hx).1)] at this
        cases this
      rw [hcl, if_neg (show ¬ (bad : Int) = 0 by omega)] at hlk
      refine RunC.cond rfl (fun _ => ?_) (fun g => by cases g)
      refine RunC.seq (RunC.region ?_)
      refine RunO.part 3 rfl ?_
      refine RunO.store rfl rfl (store_ow (s := 10) o29 rfl rfl rfl (Nat.le_refl 10)) ?_
      show RunO prog _ _ _ _ (g9.put q2 (some ⟨(imx (0, 0, 0, 0, 0) 0 (.slice none 0 0) (.slice none 0 0) (.slice none 0 0) (.slice none 0 0)), true⟩)) _
      have w2 : Ow (g9.put q2 (some ⟨(imx (0, 0, 0, 0, 0) 0 (.slice none 0 0) (.slice none 0 0) (.slice none 0 0) (.slice none 0 0)), true⟩)) q2 (imx (0, 0, 0, 0, 0) 0 (.slice none 0 0) (.slice none 0 0) (.slice none 0 0) (.slice none 0 0)) := Ow.put _ o29.1
      have v2 : Fr (· = q2) g9 (g9.put q2 (some ⟨(imx (0, 0, 0, 0, 0) 0 (.slice none 0 0) (.slice none 0 0) (.slice none 0 0) (.slice none 0 0)), true⟩)) := Fr.put _ (.inl rfl)
      generalize g9.put q2 (some ⟨(imx (0, 0, 0, 0, 0) 0 (.slice none 0 0) (.slice none 0 0) (.slice none 0 0) (.slice none 0 0)), true⟩) = gA at *
      have w3 := o39.fr v2 (fun e => by have e : q3 = q2 := e; omega)
      refine RunO.store rfl rfl (store_ow (s := 2) w3 rfl rfl rfl (Nat.le_refl 2)) (RunO.all rfl ?_)
      show RunC prog _ _ _ (gA.put q3 (some ⟨[.int .i64 ((bad : Int)), .int .i64 (6)], true⟩)) _ _ _
      have w4 : Ow (gA.put q3 (some ⟨[.int .i64 ((bad : Int)), .int .i64 (6)], true⟩)) q3 [.int .i64 ((bad : Int)), .int .i64 (6)] := Ow.put _ w3.1
      have v3 : Fr (· = q3) gA (gA.put q3 (some ⟨[.int .i64 ((bad : Int)), .int .i64 (6)], true⟩)) := Fr.put _ (.inl rfl)
      have w5 := w2.fr v3 (fun e => by have e : q2 = q3 := e; omega)
      generalize gA.put q3 (some ⟨[.int .i64 ((bad : Int)), .int .i64 (6)], true⟩) = gB at *
      have VF : Fr no h gB := frNo ((F9.trans v2 (fun b e => .inl (by have e : b = q2 := e; omega))).trans v3 (fun b e => .inl (by have e : b = q3 := e; omega)))
      exact RunC.ret ⟨_, eres_cc rfl (w5.all.part (k := 0) rfl) rfl (w4.all.part (k := 0) rfl), VF, .inr ⟨by rw [hlk]; show (6 : Int) ≠ 0; decide, by rw [hlk]; rfl⟩⟩
    · rw [show decide ((bad : Int) < (B : Int)) = false from decide_eq_false (by omega)]
      rw [if_neg hbB] at hcl
      rw [hcl, if_pos rfl] at hlk
      refine RunC.cond rfl (fun g => by cases g) (fun _ => RunC.skip ?_)
      refine RunC.seq (RunC.region ?_)
      refine RunO.load (v := .agg ⟨(imx S slot (.slice rA (lkF L).1.length rc_) (.slice bA (lkF L).2.1.length bc) (.slice mA (lkR L).length mc) (.slice nA (lkR L).length nc_))⟩) rfl (ox9.ld rfl) rfl ?_
      refine RunO.part 1 rfl ?_
      refine RunO.store rfl rfl (store_ow (s := 10) o29 rfl rfl rfl (Nat.le_refl 10)) ?_
      show RunO prog _ _ _ _ (g9.put q2 (some ⟨(imx S slot (.slice rA (lkF L).1.length rc_) (.slice bA (lkF L).2.1.length bc) (.slice mA (lkR L).length mc) (.slice nA (lkR L).length nc_)), true⟩)) _
      have w2 : Ow (g9.put q2 (some ⟨(imx S slot (.slice rA (lkF L).1.length rc_) (.slice bA (lkF L).2.1.length bc) (.slice mA (lkR L).length mc) (.slice nA (lkR L).length nc_)), true⟩)) q2 (imx S slot (.slice rA (lkF L).1.length rc_) (.slice bA (lkF L).2.1.length bc) (.slice mA (lkR L).length mc) (.slice nA (lkR L).length nc_)) := Ow.put _ o29.1
      have v2 : Fr (· = q2) g9 (g9.put q2 (some ⟨(imx S slot (.slice rA (lkF L).1.length rc_) (.slice bA (lkF L).2.1.length bc) (.slice mA (lkR L).length mc) (.slice nA (lkR L).length nc_)), true⟩)) := Fr.put _ (.inl rfl)
      generalize g9.put q2 (some ⟨(imx S slot (.slice rA (lkF L).1.length rc_) (.slice bA (lkF L).2.1.length bc) (.slice mA (lkR L).length mc) (.slice nA (lkR L).length nc_)), true⟩) = gA at *
      have w3 := o39.fr v2 (fun e => by have e : q3 = q2 := e; omega)
      refine RunO.store rfl rfl (store_ow (s := 2) w3 rfl rfl rfl (Nat.le_refl 2)) (RunO.all rfl ?_)
      show RunC prog _ _ _ (gA.put q3 (some ⟨[.int .i64 (0), .int .i64 (0)], true⟩)) _ _ _
      have w4 : Ow (gA.put q3 (some ⟨[.int .i64 (0), .int .i64 (0)], true⟩)) q3 [.int .i64 (0), .int .i64 (0)] := Ow.put _ w3.1
      have v3 : Fr (· = q3) gA (gA.put q3 (some ⟨[.int .i64 (0), .int .i64 (0)], true⟩)) := Fr.put _ (.inl rfl)
      have w5 := w2.fr v3 (fun e => by have e : q2 = q3 := e; omega)
      generalize gA.put q3 (some ⟨[.int .i64 (0), .int .i64 (0)], true⟩) = gB at *
      have VF : Fr no h gB := frNo ((F9.trans v2 (fun b e => .inl (by have e : b = q2 := e; omega))).trans v3 (fun b e => .inl (by have e : b = q3 := e; omega)))
      exact RunC.ret ⟨_, eres_cc rfl (w5.all.part (k := 0) rfl) rfl (w4.all.part (k := 0) rfl), VF, .inl ⟨by rw [hlk], _, _, _, _, cm, cn, by rw [hS, ← hSe]; first | done | rfl, (((rl6.frm ff (fun b g e => by have := hrat6 b g; have e : b = ib := e; omega)).frm v2 (fun b g e => by have := hrat b g; have e : b = q2 := e; omega)).frm v3 (fun b g e => by have := hrat b g; have e : b = q3 := e; omega)).sl (by omega), (((rb6.frm ff (fun b g e => by have := hbat6 b g; have e : b = ib := e; omega)).frm v2 (fun b g e => by have := hbat b g; have e : b = q2 := e; omega)).frm v3 (fun b g e => by have := hbat b g; have e : b = q3 := e; omega)).sl (by omega), (((rm.frm ff (fun b g e => by have := hmat6 b g; have e : b = ib := e; omega)).frm v2 (fun b g e => by have := hmat b g; have e : b = q2 := e; omega)).frm v3 (fun b g e => by have := hmat b g; have e : b = q3 := e; omega)).sl (by omega), (((jm6.frm ff (fun b g e => by have e : b = ib := e; omega)).frm v2 (fun b g e => by have e : b = q2 := e; omega)).frm v3 (fun b g e => by have e : b = q3 := e; omega)).weak (fun _ _ _ => trivial), (((rn.frm ff (fun b g e => by have := hnat6 b g; have e : b = ib := e; omega)).frm v2 (fun b g e => by have := hnat b g; have e : b = q2 := e; omega)).frm v3 (fun b g e => by have := hnat b g; have e : b = q3 := e; omega)).sl (by omega), (((jn6.frm ff (fun b g e => by have e : b = ib := e; omega)).frm v2 (fun b g e => by have e : b = q2 := e; omega)).frm v3 (fun b g e => by have e : b = q3 := e; omega)).weak (fun _ _ _ => trivial)⟩⟩
  have hlt := of_decide_eq_true hlt
  have hlt : i < (lkR L).length := by omega
  obtain ⟨p, hpe⟩ : ∃ p, p = (lkR L)[i] := ⟨_, rfl⟩
  have hpm : p ∈ lkR L := by rw [hpe]; exact List.getElem_mem hlt
  obtain ⟨hrm, hrn⟩ := hrng p hpm
  have hml := treeM_len L p.1
  have hnl := treeN_len L p.1
  have tkN : nsO L ((lkR L).take (i + 1)) = nsO L ((lkR L).take i) ++ treeN L p.1 := by
    unfold nsO
    rw [List.take_succ_eq_append_getElem hlt, List.flatMap_append, ← hpe]; simp
  have tkS : ssO L ((lkR L).take (i + 1)) = ssO L ((lkR L).take i) ++ (treeM L p.1).filter (· != 0) := by
    unfold ssO
    rw [List.take_succ_eq_append_getElem hlt, List.flatMap_append, ← hpe]; simp
  obtain ⟨mw, emw, smw, hmwb⟩ := jm6.2 i (treeM L p.1) (by rw [List.getElem?_map, List.getElem?_eq_getElem hlt, ← hpe]; rfl)
  obtain ⟨nw, enw, snw, hnwb⟩ := jn6.2 i (treeN L p.1) (by rw [List.getElem?_map, List.getElem?_eq_getElem hlt, ← hpe]; rfl)
  obtain ⟨mwA, mwc, rfl, _, _⟩ := smw.form
  obtain ⟨nwA, nwc, rfl, _, _⟩ := snw.form
  have pmw := nth_sl emw
  have pnw := nth_sl enw
  have smF : ∀ {h' : Heap}, Fr (· = ib) g7 h' → Sl h' (.slice mwA (treeM L p.1).length mwc) 1 (treeM L p.1).length (is (treeM L p.1)) := fun f => smw.frm (fun b o c e g => by have := hmwb b o c e; have g : b = ib := g; omega) f
  have snF : ∀ {h' : Heap}, Fr (· = ib) g7 h' → Sl h' (.slice nwA (treeN L p.1).length nwc) 1 (treeN L p.1).length (is (treeN L p.1)) := fun f => snw.frm (fun b o c e g => by have := hnwb b o c e; have g : b = ib := g; omega) f
  have srmF : ∀ {h' : Heap}, Fr (· = ib) g7 h' → Sl h' (.slice mA (lkR L).length mc) 1 (lkR L).length cm := fun f => (rm.frm f (fun b g e => by have := hmat6 b g; have e : b = ib := e; omega)).sl (by omega)
  have srnF : ∀ {h' : Heap}, Fr (· = ib) g7 h' → Sl h' (.slice nA (lkR L).length nc_) 1 (lkR L).length cn := fun f => (rn.frm f (fun b g e => by have := hnat6 b g; have e : b = ib := e; omega)).sl (by omega)
  have oxF : ∀ {h' : Heap}, Fr (· = ib) g7 h' → Ow h' xb (imx S slot (.slice rA (lkF L).1.length rc_) (.slice bA (lkF L).2.1.length bc) (.slice mA (lkR L).length mc) (.slice nA (lkR L).length nc_)) := fun f => ox3.fr f (fun e => by have e : xb = ib := e; omega)
  clear ox9 srm9 srn9
  obtain ⟨NS, hNS⟩ : ∃ q, q = nsO L ((lkR L).take i) := ⟨_, rfl⟩
  obtain ⟨SS, hSS⟩ : ∃ q, q = ssO L ((lkR L).take i) := ⟨_, rfl⟩
  rw [← hNS, ← hSS] at oi9 bI
  rw [← hNS] at tkN
  rw [← hSS] at tkS
  refine RunC.seq (RunC.block ?_)
  -- its nodes
  refine RunC.seqc (fun E' h' => ∃ bad : Nat, Fr (· = ib) g7 h' ∧ Ow h' ib (is (isA B (lkF L).2.1 (NS ++ treeN L p.1) SS)) ∧ BadI B (lkF L).2.1 (NS ++ treeN L p.1) SS bad ∧ Le ((upd (upd (upd (upd (upd (upd (upd (upd (upd E0 0 (iv)) 2 (.pointer (some ⟨q2, 0, none⟩))) 3 (.pointer (some ⟨q3, 0, none⟩))) 4 (.pointer (some ⟨xb, 0, none⟩))) 5 (.int .i64 (B : Int))) 10 (.slice bA (lkF L).2.1.length bc)) 19 (.slice (some ⟨ib, 0, none⟩) B (exc B))) 11 (.int .i64 (bad : Int))) 21 (.int .i64 (i : Int)))) E') ?nds ?scs
  case nds =>
    refine RunC.seq (RunC.region (RunO.all rfl ?_))
    refine RunC.block ?_
    refine RunC.loop (fun d E h' => ∃ (q bad : Nat), q + d = (treeN L p.1).length ∧ Fr (· = ib) g7 h' ∧ Ow h' ib (is (isA B (lkF L).2.1 (NS ++ (treeN L p.1).take q) SS)) ∧ BadI B (lkF L).2.1 (NS ++ (treeN L p.1).take q) SS bad ∧ Le ((upd (upd (upd (upd (upd (upd (upd (upd (upd (upd E0 0 (iv)) 2 (.pointer (some ⟨q2, 0, none⟩))) 3 (.pointer (some ⟨q3, 0, none⟩))) 4 (.pointer (some ⟨xb, 0, none⟩))) 5 (.int .i64 (B : Int))) 10 (.slice bA (lkF L).2.1.length bc)) 19 (.slice (some ⟨ib, 0, none⟩) B (exc B))) 11 (.int .i64 (bad : Int))) 21 (.int .i64 (i : Int))) 22 (.int .i64 (q : Int)))) E) ?sn (k := (treeN L p.1).length) ?in_
    case in_ => exact ⟨0, bad, by omega, ff, by rw [List.take_zero, List.append_nil]; exact oi9, by rw [List.take_zero, List.append_nil]; exact bI, Le.cons rfl (Le.cons rfl (Le.cons rfl (Le.cons rfl (Le.cons rfl (Le.cons rfl (Le.cons rfl (Le.cons rfl (Le.cons rfl (Le.cons rfl (Le.nil _))))))))))⟩
    clear oi9 bI ff bad
    rintro d2 E ga ⟨q, bad, hq, ff, oia, bI, hE⟩
    refine RunC.le hE ?_
    clear hE
    refine RunC.seq (RunC.seq (RunC.region (RunO.part 2 rfl ?_)))
    refine RunO.load (v := .slice nA (lkR L).length nc_) rfl ((oxF ff).ld rfl) rfl ?_
    refine RunO.part 1 rfl ?_
    refine RunO.at (s := 1) (k := i) rfl rfl (srnF ff) rfl rfl hlt pnw rfl rfl rfl ?_
    refine RunO.all rfl ?_
    refine RunC.cond rfl (fun hlt2 => RunC.skip ?gon) (fun hge2 => RunC.exit ?exn)
    case exn =>
      have hge2 := of_decide_eq_false hge2
      obtain rfl : q = (treeN L p.1).length := by omega
      rw [List.take_length] at oia bI
      exact ⟨bad, ff, oia, bI, Le.cons rfl (Le.cons rfl (Le.cons rfl (Le.cons rfl (Le.cons rfl (Le.cons rfl (Le.cons rfl (Le.cons rfl (Le.cons rfl (Le.nil _)))))))))⟩
    have hlt2 := of_decide_eq_true hlt2
    have hlt2 : q < (treeN L p.1).length := by omega
    have hpt := is_part hlt2
    have hr := hrn _ (List.getElem_mem hlt2)
    obtain ⟨a, ha⟩ := Int.eq_ofNat_of_zero_le (show 0 ≤ (treeN L p.1)[q] by omega)
    rw [ha] at hpt
    have haB : a < B := by omega
    have tkq : NS ++ (treeN L p.1).take (q + 1) = NS ++ (treeN L p.1).take q ++ [(a : Int)] := by rw [List.take_succ_eq_append_getElem hlt2, ha, List.append_assoc]
    generalize NS ++ (treeN L p.1).take q = NQ at *
    have spt := fun (SX : List Int) (NX : List Int) => ix_at (isA_get (bl := (lkF L).2.1) (NS := NX) (SS := SX) haB)
    have sia : Sl ga (.slice (some ⟨ib, 0, none⟩) B (exc B)) 1 B (is (isA B (lkF L).2.1 NQ SS)) := oia.all.sl (by rw [is_len, isA_len, Nat.mul_one]) (by omega) (Cp.exc (by omega))
    obtain ⟨t, ht⟩ : ∃ t, t = (SS.contains (a : Int) || (lkF L).2.1.contains (a : Int)) := ⟨_, rfl⟩
    obtain ⟨bad2, hbad2⟩ : ∃ b, b = if t then min bad a else bad := ⟨_, rfl⟩
    have bI2 : BadI B (lkF L).2.1 (NQ ++ [(a : Int)]) SS bad2 := by
      rw [hbad2]
      exact bI.step haB (fun j hj => cfP_node hj) (by rw [cfP_nodeA]; exact ht.symm) (fun e => by rw [ht]; exact cfP_mono_node e)
    refine RunC.seqc (fun E' h' => Fr (· = ib) g7 h' ∧ Ow h' ib (is (isA B (lkF L).2.1 (NQ ++ [(a : Int)]) SS)) ∧ Le ((upd (upd (upd (upd (upd (upd (upd (upd (upd (upd E0 0 (iv)) 2 (.pointer (some ⟨q2, 0, none⟩))) 3 (.pointer (some ⟨q3, 0, none⟩))) 4 (.pointer (some ⟨xb, 0, none⟩))) 5 (.int .i64 (B : Int))) 10 (.slice bA (lkF L).2.1.length bc)) 19 (.slice (some ⟨ib, 0, none⟩) B (exc B))) 11 (.int .i64 (bad2 : Int))) 21 (.int .i64 (i : Int))) 22 (.int .i64 (q : Int)))) E') ?pt ?nq
    case nq =>
      rintro E' gc ⟨fg, oig, hE⟩
      refine RunC.le hE ?_
      clear hE
      refine RunC.region (RunO.all rfl ?_)
      exact ⟨d2 - 1, by omega, q + 1, bad2, by omega, fg, by rw [tkq]; exact oig, by rw [tkq]; exact bI2, Le.cons (inc64 (by omega)) (Le.cons rfl (Le.cons rfl (Le.cons rfl (Le.cons rfl (Le.cons rfl (Le.cons rfl (Le.cons rfl (Le.cons rfl (Le.cons rfl (Le.nil _))))))))))⟩
    refine RunC.block ?_
    refine RunC.seq (RunC.region (RunO.part 1 rfl ?_))
    refine RunO.load (v := .slice nA (lkR L).length nc_) rfl ((oxF ff).ld rfl) rfl ?_
    refine RunO.part 1 rfl ?_
    refine RunO.at (s := 1) (k := i) rfl rfl (srnF ff) rfl rfl hlt pnw rfl rfl rfl ?_
    refine RunO.part 1 rfl ?_
    refine RunO.at (s := 1) (k := q) rfl rfl (snF ff) rfl rfl hlt2 hpt rfl rfl rfl ?_
    refine RunO.all rfl ?_
    refine RunC.seqc (fun E' h' => ga = h' ∧ Le ((upd (upd (upd (upd (upd (upd (upd (upd (upd (upd (upd E0 0 (iv)) 2 (.pointer (some ⟨q2, 0, none⟩))) 3 (.pointer (some ⟨q3, 0, none⟩))) 4 (.pointer (some ⟨xb, 0, none⟩))) 5 (.int .i64 (B : Int))) 10 (.slice bA (lkF L).2.1.length bc)) 19 (.slice (some ⟨ib, 0, none⟩) B (exc B))) 11 (.int .i64 (bad2 : Int))) 21 (.int .i64 (i : Int))) 22 (.int .i64 (q : Int))) 23 (.int .i64 (a : Int)))) E') ?tb ?ad
    case tb =>
      refine RunC.seqc (fun E' h' => ga = h' ∧ Le ((upd (upd (upd (upd (upd (upd (upd (upd (upd (upd (upd (upd E0 0 (iv)) 2 (.pointer (some ⟨q2, 0, none⟩))) 3 (.pointer (some ⟨q3, 0, none⟩))) 4 (.pointer (some ⟨xb, 0, none⟩))) 5 (.int .i64 (B : Int))) 10 (.slice bA (lkF L).2.1.length bc)) 19 (.slice (some ⟨ib, 0, none⟩) B (exc B))) 11 (.int .i64 (bad : Int))) 21 (.int .i64 (i : Int))) 22 (.int .i64 (q : Int))) 23 (.int .i64 (a : Int))) 179 (.bool t))) E') ?t1 ?t2
      case t1 =>
        refine RunC.region (RunO.part 2 rfl ?_)
        refine RunO.at (s := 1) (k := a) rfl rfl sia rfl rfl haB (spt SS NQ) rfl rfl rfl ?_
        refine RunO.part 1 rfl ?_
        rw [isF_w1]
        refine RunO.part 2 rfl ?_
        rw [isF_t1]
        cases hbc : (lkF L).2.1.contains (a : Int) with
        | true =>
          rw [hbc, Bool.or_true] at ht
          rw [ht]
          exact RunO.all rfl ⟨rfl, Le.cons rfl (Le.cons rfl (Le.cons rfl (Le.cons rfl (Le.cons rfl (Le.cons rfl (Le.cons rfl (Le.cons rfl (Le.cons rfl (Le.cons rfl (Le.cons rfl (Le.cons rfl (Le.nil _))))))))))))⟩
        | false =>
          rw [hbc, Bool.or_false] at ht
          rw [ht]
          refine RunO.part 3 rfl ?_
          refine RunO.atG (s := 1) (k := a) rfl (fun _ => rfl) rfl rfl sia rfl rfl haB (spt SS NQ) rfl rfl rfl ?_
          refine RunO.part 1 rfl ?_
          rw [isF_w2]
          refine RunO.part 1 rfl ?_
          rw [isF_t2]
          exact RunO.all rfl ⟨rfl, Le.cons rfl (Le.cons rfl (Le.cons rfl (Le.cons rfl (Le.cons rfl (Le.cons rfl (Le.cons rfl (Le.cons rfl (Le.cons rfl (Le.cons rfl (Le.cons rfl (Le.cons rfl (Le.nil _))))))))))))⟩
      case t2 =>
        rintro E' _ ⟨rfl, hE⟩
        refine RunC.le hE ?_
        clear hE
        cases t with
        | true =>
          rw [if_pos rfl] at hbad2
          refine RunC.cond rfl (fun _ => ?_) (fun g => by cases g)
          refine RunC.region (RunO.part 3 rfl ?_)
          rw [minNat, ← hbad2]
          exact RunO.all rfl ⟨rfl, Le.cons rfl (Le.cons rfl (Le.cons rfl (Le.cons rfl (Le.cons rfl (Le.cons rfl (Le.cons rfl (Le.cons rfl (Le.cons rfl (Le.cons rfl (Le.cons rfl (Le.nil _)))))))))))⟩
        | false =>
          rw [if_neg Bool.false_ne_true] at hbad2
          rw [hbad2]
          exact RunC.cond rfl (fun g => by cases g) (fun _ => RunC.skip ⟨rfl, Le.cons rfl (Le.cons rfl (Le.cons rfl (Le.cons rfl (Le.cons rfl (Le.cons rfl (Le.cons rfl (Le.cons rfl (Le.cons rfl (Le.cons rfl (Le.cons rfl (Le.nil _)))))))))))⟩)
    case ad =>
    rintro E' _ ⟨rfl, hE⟩
    refine RunC.le hE ?_
    clear hE
    refine RunC.seq (RunC.region (RunO.part 2 rfl ?_))
    refine RunO.at (s := 1) (k := a) rfl rfl sia rfl rfl haB (spt SS NQ) rfl rfl rfl ?_
    refine RunO.part 2 rfl ?_
    rw [isF_t3]
    cases hNa : NQ.contains (a : Int) with
    | true =>
      refine RunO.all rfl (RunC.cond rfl (fun g => by cases g) (fun _ => RunC.skip ⟨ff, ?_, Le.cons rfl (Le.cons rfl (Le.cons rfl (Le.cons rfl (Le.cons rfl (Le.cons rfl (Le.cons rfl (Le.cons rfl (Le.cons rfl (Le.cons rfl (Le.nil _))))))))))⟩))
      rw [← isA_same (isF_sameN hNa)]
      exact oia
    | false =>
      have hrg := isF_rng (lkF L).2.1 NQ SS a
      refine RunO.all rfl (RunC.cond rfl (fun _ => ?_) (fun g => by cases g))
      refine RunC.region (RunO.part 2 rfl ?_)
      refine RunO.at (s := 1) (k := a) rfl rfl sia rfl rfl haB (spt SS NQ) rfl rfl rfl ?_
      refine RunO.part 1 rfl ?_
      rw [fw64 (x := isF (lkF L).2.1 NQ SS a + 1) (by omega) (by omega), isF_addN hNa]
      refine RunO.index (s := 1) (k := a) rfl rfl rfl rfl haB rfl ?_
      refine RunO.store rfl rfl (store1_ow oia rfl rfl rfl (by rw [is_len, isA_len]; omega)) (RunO.nil ?_)
      rw [isv_set, isA_set haB (fun j hj => isF_node hj)]
      exact ⟨ff.same (Fr.put _ (.inl rfl)), Ow.put _ oia.1, Le.cons rfl (Le.cons rfl (Le.cons rfl (Le.cons rfl (Le.cons rfl (Le.cons rfl (Le.cons rfl (Le.cons rfl (Le.cons rfl (Le.cons rfl (Le.nil _))))))))))⟩
  -- its sectors
  rintro E' ga ⟨bad3, ff3, oi3, bI3, hE⟩
  refine RunC.le hE ?_
  clear hE
  rw [← tkN] at oi3 bI3
  obtain ⟨NN, hNN⟩ : ∃ q, q = nsO L ((lkR L).take (i + 1)) := ⟨_, rfl⟩
  rw [← hNN] at oi3 bI3
  refine RunC.seq (RunC.region (RunO.all rfl ?_))
  refine RunC.block ?_
  refine RunC.loop (fun d E h' => ∃ (q bad : Nat), q + d = 512 ∧ Fr (· = ib) g7 h' ∧ Ow h' ib (is (isA B (lkF L).2.1 NN (SS ++ ((treeM L p.1).take q).filter (· != 0)))) ∧ BadI B (lkF L).2.1 NN (SS ++ ((treeM L p.1).take q).filter (· != 0)) bad ∧ Le ((upd (upd (upd (upd (upd (upd (upd (upd (upd (upd E0 0 (iv)) 2 (.pointer (some ⟨q2, 0, none⟩))) 3 (.pointer (some ⟨q3, 0, none⟩))) 4 (.pointer (some ⟨xb, 0, none⟩))) 5 (.int .i64 (B : Int))) 10 (.slice bA (lkF L).2.1.length bc)) 19 (.slice (some ⟨ib, 0, none⟩) B (exc B))) 11 (.int .i64 (bad : Int))) 21 (.int .i64 (i : Int))) 24 (.int .i64 (q : Int)))) E) ?ss (k := 512) ?is_
  case is_ => exact ⟨0, bad3, by omega, ff3, by rw [List.take_zero, List.filter_nil, List.append_nil]; exact oi3, by rw [List.take_zero, List.filter_nil, List.append_nil]; exact bI3, Le.cons rfl (Le.cons rfl (Le.cons rfl (Le.cons rfl (Le.cons rfl (Le.cons rfl (Le.cons rfl (Le.cons rfl (Le.cons rfl (Le.cons rfl (Le.nil _))))))))))⟩
  clear oi9 bI ff oi3 bI3 ff3
  rintro d2 E gb ⟨q, bad, hq, ff, oia, bI, hE⟩
  refine RunC.le hE ?_
  clear hE
  refine RunC.seq (RunC.seq (RunC.region (RunO.all rfl ?_)))
  refine RunC.cond rfl (fun hlt2 => RunC.skip ?gos) (fun hge2 => RunC.exit ?exs)
  case exs =>
    have hge2 := of_decide_eq_false hge2
    obtain rfl : q = 512 := by omega
    rw [List.take_of_length_le (by omega), ← tkS] at oia bI
    rw [hNN] at oia bI
    refine RunC.region (RunO.all rfl ?_)
    exact ⟨d - 1, by omega, i + 1, bad, by omega, ff, oia, bI, Le.cons (inc64 (by omega)) (Le.cons rfl (Le.cons rfl (Le.cons rfl (Le.cons rfl (Le.cons rfl (Le.cons rfl (Le.cons rfl (Le.cons rfl (Le.nil _)))))))))⟩
  have hlt2 := of_decide_eq_true hlt2
  have hlt2 : q < (treeM L p.1).length := by omega
  have hpt := is_part hlt2
  have hr := hrm _ (List.getElem_mem hlt2)
  obtain ⟨a, ha⟩ := Int.eq_ofNat_of_zero_le hr.1
  rw [ha] at hpt
  have haB : a < B := by omega
  have tkq : SS ++ ((treeM L p.1).take (q + 1)).filter (· != 0) = if a = 0 then SS ++ ((treeM L p.1).take q).filter (· != 0) else SS ++ ((treeM L p.1).take q).filter (· != 0) ++ [(a : Int)] := by
    rw [List.take_succ_eq_append_getElem hlt2, ha, List.filter_append]
    by_cases h0 : a = 0
    · subst h0
      rw [if_pos rfl, show ([((0 : Nat) : Int)].filter (· != 0)) = [] from rfl, List.append_nil]
    · rw [if_neg h0, show ([(a : Int)].filter (· != 0)) = [(a : Int)] from by rw [List.filter_cons_of_pos (by rw [bne_iff_ne]; omega), List.filter_nil], List.append_assoc]
  generalize SS ++ ((treeM L p.1).take q).filter (· != 0) = SQ at *
  have spt := fun (SX : List Int) (NX : List Int) => ix_at (isA_get (bl := (lkF L).2.1) (NS := NX) (SS := SX) haB)
  have sia : Sl gb (.slice (some ⟨ib, 0, none⟩) B (exc B)) 1 B (is (isA B (lkF L).2.1 NN SQ)) := oia.all.sl (by rw [is_len, isA_len, Nat.mul_one]) (by omega) (Cp.exc (by omega))
  refine RunC.seqc (fun E' h' => ∃ bad2 : Nat, Fr (· = ib) g7 h' ∧ Ow h' ib (is (isA B (lkF L).2.1 NN (SS ++ ((treeM L p.1).take (q + 1)).filter (· != 0)))) ∧ BadI B (lkF L).2.1 NN (SS ++ ((treeM L p.1).take (q + 1)).filter (· != 0)) bad2 ∧ Le ((upd (upd (upd (upd (upd (upd (upd (upd (upd (upd E0 0 (iv)) 2 (.pointer (some ⟨q2, 0, none⟩))) 3 (.pointer (some ⟨q3, 0, none⟩))) 4 (.pointer (some ⟨xb, 0, none⟩))) 5 (.int .i64 (B : Int))) 10 (.slice bA (lkF L).2.1.length bc)) 19 (.slice (some ⟨ib, 0, none⟩) B (exc B))) 11 (.int .i64 (bad2 : Int))) 21 (.int .i64 (i : Int))) 24 (.int .i64 (q : Int)))) E') ?pts ?nqs
  case nqs =>
    rintro E' gc ⟨bad2, fg, oig, bI2, hE⟩
    refine RunC.le hE ?_
    clear hE
    refine RunC.region (RunO.all rfl ?_)
    exact ⟨d2 - 1, by omega, q + 1, bad2, by omega, fg, oig, bI2, Le.cons (inc64 (by omega)) (Le.cons rfl (Le.cons rfl (Le.cons rfl (Le.cons rfl (Le.cons rfl (Le.cons rfl (Le.cons rfl (Le.cons rfl (Le.cons rfl (Le.nil _))))))))))⟩
  rw [tkq]
  refine RunC.block ?_
  refine RunC.seq (RunC.region (RunO.part 1 rfl ?_))
  refine RunO.load (v := .slice mA (lkR L).length mc) rfl ((oxF ff).ld rfl) rfl ?_
  refine RunO.part 1 rfl ?_
  refine RunO.at (s := 1) (k := i) rfl rfl (srmF ff) rfl rfl hlt pmw rfl rfl rfl ?_
  refine RunO.part 1 rfl ?_
  refine RunO.at (s := 1) (k := q) rfl rfl (smF ff) rfl rfl hlt2 hpt rfl rfl rfl ?_
  refine RunO.all rfl ?_
  by_cases h0 : a = 0
  · subst h0
    rw [if_pos rfl]
    refine RunC.seq (RunC.seq (RunC.region (RunO.all rfl ?_)))
    refine RunC.cond rfl (fun _ => RunC.exit ?_) (fun g => by cases g)
    exact ⟨bad, ff, oia, bI, Le.cons rfl (Le.cons rfl (Le.cons rfl (Le.cons rfl (Le.cons rfl (Le.cons rfl (Le.cons rfl (Le.cons rfl (Le.cons rfl (Le.cons rfl (Le.nil _))))))))))⟩
  rw [if_neg h0]
  refine RunC.seq (RunC.seq (RunC.region (RunO.part 2 rfl ?_)))
  rw [show ((a : Int) == 0) = false from beq_eq_false_iff_ne.2 (by omega)]
  refine RunO.all rfl (RunC.cond rfl (fun g => by cases g) (fun _ => RunC.skip ?_))
  obtain ⟨t, ht⟩ : ∃ t, t = (NN.contains (a : Int) || (lkF L).2.1.contains (a : Int)) := ⟨_, rfl⟩
  obtain ⟨bad2, hbad2⟩ : ∃ b, b = if t then min bad a else bad := ⟨_, rfl⟩
  have bI2 : BadI B (lkF L).2.1 NN (SQ ++ [(a : Int)]) bad2 := by
    rw [hbad2]
    exact bI.step haB (fun j hj => cfP_sec hj) (by rw [cfP_secA]; exact ht.symm) (fun e => by rw [ht]; exact cfP_mono_sec e)
  refine RunC.seqc (fun E' h' => gb = h' ∧ Le ((upd (upd (upd (upd (upd (upd (upd (upd (upd (upd (upd E0 0 (iv)) 2 (.pointer (some ⟨q2, 0, none⟩))) 3 (.pointer (some ⟨q3, 0, none⟩))) 4 (.pointer (some ⟨xb, 0, none⟩))) 5 (.int .i64 (B : Int))) 10 (.slice bA (lkF L).2.1.length bc)) 19 (.slice (some ⟨ib, 0, none⟩) B (exc B))) 11 (.int .i64 (bad2 : Int))) 21 (.int .i64 (i : Int))) 24 (.int .i64 (q : Int))) 25 (.int .i64 (a : Int)))) E') ?tbs ?ads
  case tbs =>
    refine RunC.seq (RunC.region (RunO.part 2 rfl ?_))
    refine RunO.at (s := 1) (k := a) rfl rfl sia rfl rfl haB (spt SQ NN) rfl rfl rfl ?_
    refine RunO.part 2 rfl ?_
    rw [isF_t4, ← ht]
    cases t with
    | true =>
      rw [if_pos rfl] at hbad2
      refine RunO.all rfl (RunC.cond rfl (fun _ => ?_) (fun g => by cases g))
      refine RunC.region (RunO.part 3 rfl ?_)
      rw [minNat, ← hbad2]
      exact RunO.all rfl ⟨rfl, Le.cons rfl (Le.cons rfl (Le.cons rfl (Le.cons rfl (Le.cons rfl (Le.cons rfl (Le.cons rfl (Le.cons rfl (Le.cons rfl (Le.cons rfl (Le.cons rfl (Le.nil _)))))))))))⟩
    | false =>
      rw [if_neg Bool.false_ne_true] at hbad2
      rw [hbad2]
      exact RunO.all rfl (RunC.cond rfl (fun g => by cases g) (fun _ => RunC.skip ⟨rfl, Le.cons rfl (Le.cons rfl (Le.cons rfl (Le.cons rfl (Le.cons rfl (Le.cons rfl (Le.cons rfl (Le.cons rfl (Le.cons rfl (Le.cons rfl (Le.cons rfl (Le.nil _)))))))))))⟩))
  rintro E' _ ⟨rfl, hE⟩
  refine RunC.le hE ?_
  clear hE
  refine RunC.seq (RunC.region (RunO.part 2 rfl ?_))
  refine RunO.at (s := 1) (k := a) rfl rfl sia rfl rfl haB (spt SQ NN) rfl rfl rfl ?_
  refine RunO.part 1 rfl ?_
  rw [isF_w2]
  refine RunO.part 1 rfl ?_
  rw [isF_t5]
  cases hNa : SQ.contains (a : Int) with
  | true =>
    refine RunO.all rfl (RunC.cond rfl (fun g => by cases g) (fun _ => RunC.skip ⟨bad2, ff, ?_, bI2, Le.cons rfl (Le.cons rfl (Le.cons rfl (Le.cons rfl (Le.cons rfl (Le.cons rfl (Le.cons rfl (Le.cons rfl (Le.cons rfl (Le.cons rfl (Le.nil _))))))))))⟩))
    rw [← isA_same (isF_sameS hNa)]
    exact oia
  | false =>
    have hrg := isF_rng (lkF L).2.1 NN SQ a
    refine RunO.all rfl (RunC.cond rfl (fun _ => ?_) (fun g => by cases g))
    refine RunC.region (RunO.part 4 rfl ?_)
    refine RunO.at (s := 1) (k := a) rfl rfl sia rfl rfl haB (spt SQ NN) rfl rfl rfl ?_
    refine RunO.part 1 rfl ?_
    rw [fw64 (x := isF (lkF L).2.1 NN SQ a + 4) (by omega) (by omega), isF_addS hNa]
    refine RunO.index (s := 1) (k := a) rfl rfl rfl rfl haB rfl ?_
    refine RunO.store rfl rfl (store1_ow oia rfl rfl rfl (by rw [is_len, isA_len]; omega)) (RunO.nil ?_)
    rw [isv_set, isA_set haB (fun j hj => isF_sec hj)]
    exact ⟨bad2, ff.same (Fr.put _ (.inl rfl)), Ow.put _ oia.1, bI2, Le.cons rfl (Le.cons rfl (Le.cons rfl (Le.cons rfl (Le.cons rfl (Le.cons rfl (Le.cons rfl (Le.cons rfl (Le.cons rfl (Le.cons rfl (Le.nil _))))))))))⟩
end Go.Proofs.Ytnokcbenpnmnbaa
end
section
set_option linter.unusedVariables false
set_option linter.unusedSectionVars false
set_option maxRecDepth 100000
open Go Go.Am Go.RowKit
namespace Go.Proofs.Ytnokcbenpnmnbaa
open Go.Proofs.Try
/- How often each block is reached. -/
def bmp (c : List Int) (p : Int) : List Int := if p = 0 then c else c.set p.toNat (c.getD p.toNat 0 + 1)
def wPs (L : List Int) (a : Int) : List Int := (nodV (blkI L a.toNat)).2
def nodeB (L : List Int) (st : List Int × List Bool) (a : Int) : List Int × List Bool := if st.2.getD a.toNat false then st else ((wPs L a).foldl bmp st.1, st.2.set a.toNat true)
def treeB (L : List Int) (st : List Int × List Bool) (x : Int × List Int) : List Int × List Bool := x.2.foldl (nodeB L) (bmp st.1 x.1, st.2)
def c0L (B : Nat) (bl : List Int) : List Int := bl.foldl (fun c a => c.set a.toNat 1) (((List.replicate B 0).set 0 1).set 1 1)
def wRs (L : List Int) : List (Int × List Int) := (lkR L).map fun p => (p.1, treeN L p.1)
def cntL (L : List Int) : List Int := ((wRs L).foldl (treeB L) (c0L (L.length / 64) (lkF L).2.1, List.replicate (L.length / 64) false)).1
/-- So long, in bounds. -/
def CB (B : Nat) (k : Int) (c : List Int) : Prop := c.length = B ∧ ∀ x ∈ c, 0 ≤ x ∧ x ≤ k
/-- In an image that opens all trees are ones. -/
theorem lk_trees {L : List Int} (h : (lk L).2 = 0) : devOk L.length = true ∧ (pickS L).2.2 = true ∧ (lkF L).2.2.2 = 0 ∧ (∀ p ∈ lkR L, treeOk L p.1 = true) ∧ (∀ p ∈ lkR L, bey (treeM L p.1) p.2 = false) ∧ lkC L = 0 := by
  unfold lk at h
  split at h
  · rename_i h1
    split at h
    · rename_i h2
      split at h
      · rename_i h3
        unfold lkM at h
        split at h
        · cases h
        · rename_i hn
          have hall := List.find?_eq_none.1 hn
          refine ⟨h1, h2, h3, fun p hp => ?_, fun p hp => ?_, ?_⟩
          · have := hall p hp
            unfold lkX at this
            rw [Bool.not_eq_true, Bool.or_eq_false_iff, Bool.not_eq_false'] at this
            exact this.1
          · have := hall p hp
            unfold lkX at this
            rw [Bool.not_eq_true, Bool.or_eq_false_iff] at this
            exact this.2
          · apply Classical.byContradiction
            intro g
            simp only at h
            rw [if_neg g] at h
            cases h
      · cases h
    · cases h
  · cases h
end Go.Proofs.Ytnokcbenpnmnbaa
end
section
set_option linter.unusedVariables false
set_option linter.unusedSectionVars false
set_option maxRecDepth 100000
open Go Go.Am Go.RowKit
namespace Go.Proofs.Ytnokcbenpnmnbaa
open Go.Proofs.Try
end Go.Proofs.Ytnokcbenpnmnbaa
end
section
set_option linter.unusedVariables false
set_option linter.unusedSectionVars false
set_option maxRecDepth 100000
open Go Go.Am Go.RowKit
namespace Go.Proofs.Ytnokcbenpnmnbaa
open Go.Proofs.Try
def c00 (B : Nat) : List Int := ((List.replicate B 0).set 0 1).set 1 1
/-- Once more, in the page's order. -/
def refC (L : List Int) : List Int := (((lkR L).flatMap fun p => treeN L p.1).foldl (nodeB L) (((lkF L).2.1.zip ((lkF L).1.map (·.ro))).foldl (fun c x => bmp (bmp c x.1) x.2) (bmp (c00 (L.length / 64)) (lkS L).2.2.1), List.replicate (L.length / 64) false)).1
end Go.Proofs.Ytnokcbenpnmnbaa
end
section
set_option linter.unusedVariables false
set_option linter.unusedSectionVars false
set_option maxRecDepth 100000
open Go Go.Am Go.RowKit
namespace Go.Proofs.Ytnokcbenpnmnbaa
open Go.Proofs.Try

end Go.Proofs.Ytnokcbenpnmnbaa
end
section
set_option linter.unusedVariables false
set_option linter.unusedSectionVars false
set_option maxRecDepth 100000
open Go Go.Am Go.RowKit
namespace Go.Proofs.Ytnokcbenpnmnbaa
open Go.Proofs.Try
/-- What the page's Open tells. -/
structure OpenR (h : Heap) (L : List Int) (S : S5) (slot : Int) (rv bv mv nv : Value) (fb : Int) : Prop where
  cells : allCells (imx S slot rv bv mv nv) = true
  good : (lk L).2 = 0 → S = lkS L ∧ slot = (pickS L).2.1 ∧ fb = 0 ∧ Sl h rv 8 (lkF L).1.length (recCs (lkF L).1) ∧ Sl h bv 1 (lkF L).2.1.length (is (lkF L).2.1) ∧ ∃ cm cn, Sl h mv 1 (lkR L).length cm ∧ JEl (fun _ => True) h cm ((lkR L).map fun p => treeM L p.1) ∧ Sl h nv 1 (lkR L).length cn ∧ JEl (fun _ => True) h cn ((lkR L).map fun p => treeN L p.1)
  bad : (lk L).2 ≠ 0 → S = (0, 0, 0, 0, 0) ∧ slot = 0 ∧ fb = (lk L).1 ∧ rv = .slice none 0 0 ∧ bv = .slice none 0 0 ∧ mv = .slice none 0 0 ∧ nv = .slice none 0 0
theorem OpenR.fr0 {h h' : Heap} {L : List Int} {S : S5} {slot : Int} {rv bv mv nv : Value} {fb : Int} (r : OpenR h L S slot rv bv mv nv fb) (f : Fr no h h') : OpenR h' L S slot rv bv mv nv fb := by
  refine ⟨r.cells, fun g => ?_, r.bad⟩
  obtain ⟨a1, a2, a3, a4, a5, cm, cn, a6, a7, a8, a9⟩ := r.good g
  exact ⟨a1, a2, a3, a4.fr0 f, a5.fr0 f, cm, cn, a6.fr0 f, a7.fr0 f, a8.fr0 f, a9.fr0 f⟩
theorem sl_cell {h : Heap} {v : Value} {s n : Nat} {cs : List Value} (r : Sl h v s n cs) : isCell v = true := by
  obtain ⟨A, c, rfl, _, _⟩ := r.form
  rfl
theorem imx_cells {S : S5} {slot : Int} {rv bv mv nv : Value} (h1 : isCell rv = true) (h2 : isCell bv = true) (h3 : isCell mv = true) (h4 : isCell nv = true) : allCells (imx S slot rv bv mv nv) = true := by
  show cond (isCell rv) (cond (isCell bv) (cond (isCell mv) (cond (isCell nv) true false) false) false) false = true
  rw [h1, h2, h3, h4]; rfl
theorem refOpen10_u {h : Heap} {iv : Value} {L : List Int} (sl : Sl h iv 1 L.length (us L)) (hb : Byt L) (hm : L.length ≤ 4611686018427387904) :
    RunF prog 15 [iv] h fun v h' => Fr no h h' ∧ ∃ S slot rv bv mv nv fb, v = .tuple #[.agg ⟨imx S slot rv bv mv nv⟩, .agg ⟨[.int .i64 fb, .int .i64 (lk L).2]⟩] ∧ OpenR h' L S slot rv bv mv nv fb := by
  refine (refOpen10_ok sl hb hm).mono ?_
  rintro v h' ⟨f, ⟨g, rv, bv, mv, nv, cm, cn, rfl, a1, a2, a3, a4, a5, a6⟩ | ⟨g, rfl⟩⟩
  · exact ⟨f, _, _, rv, bv, mv, nv, 0, by rw [g], imx_cells (sl_cell a1) (sl_cell a2) (sl_cell a3) (sl_cell a5), fun _ => ⟨rfl, rfl, rfl, a1, a2, cm, cn, a3, a4, a5, a6⟩, fun e => absurd g e⟩
  · exact ⟨f, _, _, _, _, _, _, _, rfl, rfl, fun e => absurd e g, fun _ => ⟨rfl, rfl, rfl, rfl, rfl, rfl, rfl⟩⟩
theorem imx_store (S : S5) (slot : Int) (rv bv mv nv : Value) : (imx (0, 0, 0, 0, 0) 0 (.slice none 0 0) (.slice none 0 0) (.slice none 0 0) (.slice none 0 0)).take 0 ++ cellsOf (.agg ⟨imx S slot rv bv mv nv⟩) ++ (imx (0, 0, 0, 0, 0) 0 (.slice none 0 0) (.slice none 0 0) (.slice none 0 0) (.slice none 0 0)).drop (0 + 10) = imx S slot rv bv mv nv := rfl
end Go.Proofs.Ytnokcbenpnmnbaa
end
section
set_option linter.unusedVariables false
namespace Go.Am
open Go.RowKit
section
variable {P : Program} {n : Nat} {ops rest : List Oper} {E E1 : Env} {h h1 : Heap} {Q : Env → Heap → Prop}
end
end Go.Am
end
section
set_option linter.unusedVariables false
set_option linter.unusedSectionVars false
set_option maxRecDepth 100000
open Go Go.Am Go.RowKit
namespace Go.Proofs.Ytnokcbenpnmnbaa
open Go.Proofs.Try

theorem irow_part {cs : List Value} {j : Nat} {w : Value} (h : cs[j]? = some w) : apart prog 27 cs (j * 1) = some w := by
  show nth cs (j * 1) = some w
  rw [nth_eq, Nat.mul_one]; exact h
theorem refSectors10_ok {h : Heap} {iv mv : Value} {L m : List Int} {n : Nat} (sl : Sl h iv 1 L.length (us L)) (sm : Sl h mv 1 m.length (is m)) (hr : ∀ x ∈ m, x = 0 ∨ (0 ≤ x ∧ (x.toNat + 1) * 64 ≤ L.length)) (hn : n ≤ m.length) (hmm : m.length ≤ 100000) (hm : L.length ≤ 4611686018427387904) :
    RunF prog 35 [iv, mv, .int .i64 (n : Int)] h fun v h' => Fr no h h' ∧ RwG h.next h' v (secsL L m n) := by
  refine RunF.walk func35 rfl rfl ?_
  have sl0 := sl
  obtain ⟨A, c, rfl, hc, hA⟩ := sl.form
  have sm0 := sm
  obtain ⟨mA, mc, rfl, _, _⟩ := sm.form
  refine RunC.seq (RunC.region (RunO.all rfl ?_))
  refine RunC.seq (RunC.region (RunO.all rfl ?_))
  refine RunC.seq (RunC.seq (RunC.region (RunO.all rfl ?_)))
  have e0 : secsL L m n = (m.take n).map (secB L) := rfl
  rw [e0]
  refine RunC.block ?_
  refine RunC.loop (fun d E h' => ∃ (i : Nat) (ov : Value), i + d = n ∧ Fr no h h' ∧ RwG h.next h' ov ((m.take i).map (secB L)) ∧ Le ((upd (upd (upd (upd (upd E0 0 (.slice A L.length c)) 1 (.slice mA m.length mc)) 2 (.int .i64 (n : Int))) 7 (ov)) 8 (.int .i64 (i : Int)))) E) ?st (k := n) ?ini
  case ini => exact ⟨0, .slice none 0 0, by omega, Fr.refl _ _, RwG.nil _ _, Le.cons rfl (Le.cons rfl (Le.cons rfl (Le.cons rfl (Le.cons rfl (Le.nil _)))))⟩
  rintro d E g1 ⟨i, ov, hi, fg, rg, hE⟩
  refine RunC.le hE ?_
  clear hE
  refine RunC.seq (RunC.seq (RunC.region (RunO.all rfl ?_)))
  refine RunC.cond rfl (fun hlt => RunC.skip ?go) (fun hge => RunC.exit ?ex)
  case ex =>
    have hge := of_decide_eq_false hge
    obtain rfl : i = n := by omega
    refine RunC.seq (RunC.region (RunO.all rfl ?_))
    exact RunC.ret ⟨_, rfl, fg, rg⟩
  have hlt := of_decide_eq_true hlt
  have hin : i < n := by omega
  have hlt : i < m.length := by omega
  have hpt := is_part hlt
  have hxr := hr m[i] (List.getElem_mem hlt)
  have hrow : (m.take (i + 1)).map (secB L) = (m.take i).map (secB L) ++ [secB L m[i]] := by rw [List.take_succ_eq_append_getElem hlt, List.map_append]; rfl
  have hrl : ((m.take i).map (secB L)).length = i := by rw [List.length_map, List.length_take]; omega
  have hl512 : i < 100000 := by omega
  generalize (m.take i).map (secB L) = rows at *
  generalize m[i] = x at *
  refine RunC.seq (RunC.block ?_)
  refine RunC.seq (RunC.region ?_)
  refine RunO.make (m := 64) rfl rfl rfl rfl rfl rfl (Nat.le_of_ble_eq_true rfl) (by decide) rfl ?_
  rw [reps_us]
  have od := Ow.push g1 (us (List.replicate 64 0))
  have f3 : Fr no g1 (g1.push ⟨us (List.replicate 64 0), true⟩) := Fr.push _ _ _
  have hov : ∀ b, At ov b → b < g1.next := fun b g => (rg.at g).2
  have hov2 : ∀ b, At ov b → h.next ≤ b := fun b g => (rg.at g).1
  have hng := fg.next
  generalize g1.push ⟨us (List.replicate 64 0), true⟩ = g2 at *
  obtain ⟨db, hdb⟩ : ∃ q, q = g1.next := ⟨_, rfl⟩
  rw [← hdb] at od hov ⊢
  have hdbn : h.next ≤ db := by omega
  refine RunO.all rfl ?_
  have sm1 := (sm0.fr0 fg).fr0 f3
  refine (RunC.seqc (fun E' h' => Fr no g1 h' ∧ Ow h' db (us (secB L x)) ∧ Le ((upd (upd (upd (upd (upd (upd E0 0 (.slice A L.length c)) 1 (.slice mA m.length mc)) 2 (.int .i64 (n : Int))) 7 (ov)) 8 (.int .i64 (i : Int))) 9 (.slice (some ⟨db, 0, none⟩) 64 (exc 64)))) E') ?cp ?ap)
  case cp =>
    refine RunC.seq (RunC.region (RunO.part 2 rfl ?_))
    refine RunO.at (s := 1) (k := i) rfl rfl sm1 rfl rfl hlt hpt rfl rfl rfl ?_
    by_cases h0 : x = 0
    · refine RunO.part 1 rfl ?_
      rw [show (x != 0) = false from by rw [h0]; rfl]
      refine RunO.all rfl (RunC.cond rfl (fun g => by cases g) (fun _ => RunC.skip ?_))
      have hs0 : secB L x = List.replicate 64 0 := by unfold secB; rw [if_pos h0]
      exact ⟨f3, by rw [hs0]; exact od, Le.cons rfl (Le.cons rfl (Le.cons rfl (Le.cons rfl (Le.cons rfl (Le.cons rfl (Le.nil _))))))⟩
    · refine RunO.part 1 rfl ?_
      rw [show (x != 0) = true from bne_iff_ne.2 h0]
      refine RunO.all rfl (RunC.cond rfl (fun _ => ?_) (fun g => by cases g))
      have hx := hxr.resolve_left h0
      have hs0 : secB L x = blkI L x.toNat := by unfold secB; rw [if_neg h0]
      rw [hs0]
      obtain ⟨y, rfl⟩ := Int.eq_ofNat_of_zero_le hx.1
      rw [Int.toNat_natCast] at hx ⊢
      refine RunC.region (RunO.part 4 rfl ?_)
      refine RunO.at (s := 1) (k := i) rfl rfl sm1 rfl rfl hlt hpt rfl rfl rfl ?_
      refine RunO.callD (refBlock_ok ((sl0.fr0 fg).fr0 f3) hx.2 hm) rfl rfl rfl ?_
      rintro bb _ ⟨sb, rfl⟩
      have hbl := blkI_len hx.2
      refine RunO.copy (k := 64) rfl rfl rfl rfl od sb (allCells_map (f := Value.int .u8) (fun _ => rfl) _) rfl (by rw [us_len, List.length_replicate]; decide) rfl ?_
      intro g3 oc f4 _
      have e1 : (us (blkI L y)).take 64 ++ (us (List.replicate 64 0)).drop 64 = us (blkI L y) := by
        rw [List.take_of_length_le (by rw [us_len, hbl]; decide), List.drop_eq_nil_of_le (by rw [us_len, List.length_replicate]; decide), List.append_nil]
      rw [e1] at oc
      refine RunO.nil ?_
      exact ⟨f3.trans f4 (fun b e => .inr (by have e : b = db := e; omega)), oc, Le.cons rfl (Le.cons rfl (Le.cons rfl (Le.cons rfl (Le.cons rfl (Le.cons rfl (Le.nil _))))))⟩
  rintro E' g3 ⟨f5, od, hE⟩
  refine RunC.le hE ?_
  clear hE
  have hl64 : (secB L x).length = 64 := by
    unfold secB
    split
    · rfl
    · rename_i h0
      exact blkI_len (hxr.resolve_left h0).2
  have so : OwR g3 (.slice (some ⟨db, 0, none⟩) 64 (exc 64)) (secB L x) := ⟨db, by rw [hl64], od⟩
  have sw : Sl g3 (.slice (some ⟨db, 0, none⟩) 64 (exc 64)) 1 (secB L x).length (us (secB L x)) := by
    have hl := hl64
    rw [hl]
    exact od.all.sl (by rw [us_len, hl]) (by decide) (Cp.exc (Nat.le_refl _))
  have fg5 := fg.same f5
  have rg5 := rg.fr0 f5
  have hdb1 := od.1
  refine RunC.region (RunO.part 3 (h1 := g3.push ⟨[.slice (some ⟨db, 0, none⟩) 64 (exc 64)], true⟩) rfl ?_)
  have ot := Ow.push g3 [.slice (some ⟨db, 0, none⟩) 64 (exc 64)]
  have f6 : Fr no g3 (g3.push ⟨[.slice (some ⟨db, 0, none⟩) 64 (exc 64)], true⟩) := Fr.push _ _ _
  replace sw := sw.fr0 f6
  replace so := so.fr0 f6
  have fg6 := fg5.same f6
  have rg6 := rg5.fr0 f6
  generalize g3.push ⟨[.slice (some ⟨db, 0, none⟩) 64 (exc 64)], true⟩ = g4 at *
  obtain ⟨cs, row, kk⟩ := rg6
  refine RunO.appendG (s := 1) (j := 1) rfl rfl rfl rfl rfl rfl rfl rfl (by decide) row.gr ot.all rfl (Nat.le_refl 1) rfl (by show 2 * (_ + 1) * 24 ≤ _; omega) (by omega) ?_
  intro ov2 g5 row2 f7
  have rg7 := RwG.snoc row kk sw so (fun b o c e => by injection e with e1; injection e1 with e1; injection e1 with e1; exact ⟨by omega, fun a => by have := hov b a; omega⟩) row2 f7 fg6.next
  refine RunO.all rfl ?_
  refine RunC.region (RunO.all rfl ?_)
  exact ⟨d - 1, by omega, i + 1, ov2, by omega, fg6.trans f7 (fun b g => .inr (hov2 b g)), by rw [hrow]; exact rg7, Le.cons (inc64 (by omega)) (Le.cons rfl (Le.cons rfl (Le.cons rfl (Le.cons rfl (Le.nil _)))))⟩

set_option maxHeartbeats 16000000 in
theorem refView10_ok {h : Heap} {iv rv bv mv nv : Value} {L : List Int} {cm : List Value} (sl : Sl h iv 1 L.length (us L)) (hm : L.length ≤ 4611686018427387904) (h0 : (lk L).2 = 0) (srl : Sl h rv 8 (lkF L).1.length (recCs (lkF L).1)) (smv : Sl h mv 1 (lkR L).length cm) (jm : JEl (fun _ => True) h cm ((lkR L).map fun p => treeM L p.1)) (hbv : isCell bv = true) (hnv : isCell nv = true) :
    RunF prog 30 [iv, .agg ⟨imx (lkS L) (pickS L).2.1 rv bv mv nv⟩] h fun v h' => Fr no h h' ∧ ∃ hv sv ov, v = .agg ⟨[hv, sv, ov]⟩ ∧ Rws h' hv (vwH L) ∧ Sns h' sv (vwS L (lkF L).1) ∧ Sns h' ov (vwO L (lkF L).1) := by
  refine RunF.walk func30 rfl rfl ?_
  have sl0 := sl
  obtain ⟨A, c, rfl, _, _⟩ := sl.form
  have slr := srl
  have smv0 := smv
  obtain ⟨rA, rc, erv, _, _⟩ := srl.form
  obtain ⟨mA, mc, emv, _, _⟩ := smv.form
  refine RunC.seq (RunC.region (RunO.part 1 (h1 := h.push ⟨imx (lkS L) (pickS L).2.1 rv bv mv nv, true⟩) rfl ?_))
  have ox := Ow.push h (imx (lkS L) (pickS L).2.1 rv bv mv nv)
  have f1 : Fr no h (h.push ⟨imx (lkS L) (pickS L).2.1 rv bv mv nv, true⟩) := Fr.push _ _ _
  generalize h.push ⟨imx (lkS L) (pickS L).2.1 rv bv mv nv, true⟩ = h1 at *
  obtain ⟨xb, hxbe⟩ : ∃ q, q = h.next := ⟨_, rfl⟩
  rw [← hxbe] at ox ⊢
  have hxn := ox.1
  refine RunO.part 1 (h1 := h1.push ⟨[.slice none 0 0, .slice none 0 0, .slice none 0 0], true⟩) rfl (RunO.all rfl ?_)
  have oq := Ow.push h1 [.slice none 0 0, .slice none 0 0, .slice none 0 0]
  have f2 : Fr no h1 (h1.push ⟨[.slice none 0 0, .slice none 0 0, .slice none 0 0], true⟩) := Fr.push _ _ _
  generalize h1.push ⟨[.slice none 0 0, .slice none 0 0, .slice none 0 0], true⟩ = h2 at *
  obtain ⟨qb, hqb⟩ : ∃ q, q = h1.next := ⟨_, rfl⟩
  rw [← hqb] at oq ⊢
  replace ox := ox.fr f2 (fun g => g)
  have hnx := oq.1
  obtain ⟨hdv, hpk⟩ := lk_trees2 h0
  have hdl : L.length % 64 = 0 ∧ 4 ≤ L.length / 64 ∧ L.length / 64 ≤ 4096 := by
    unfold devOk at hdv
    simpa using hdv
  obtain ⟨hrok, _, hrl, hrb⟩ := fol_ok (L := L) (B := L.length / 64) (L.length / 64) (lkS L).2.2.2.2 [] [] 0 (fun r h => absurd h List.not_mem_nil) (fun x h => absurd h List.not_mem_nil) rfl
  have hrok : ∀ r ∈ (lkF L).1, r8Ok r = true := hrok
  have hrsl : (lkF L).1.length ≤ 4096 := by
    have e : (lkF L).1.length = (lkF L).2.1.length := hrl
    have e2 : (lkF L).2.1.length ≤ ([] : List Int).length + L.length / 64 := hrb
    rw [List.length_nil] at e2
    omega
  have hsz := ((superOk_iff _ _ _ _ _).1 (pick_ok2 hpk)).2.2.1
  have hsz : 0 ≤ (lkS L).2.2.2.1 ∧ (lkS L).2.2.2.1 ≤ 512 := hsz
  have htE : ∀ p ∈ lkR L, treeE L p.1 = 0 := fun p hp => by
    have := (lk_trees h0).2.2.2.1 p hp
    unfold treeE
    rw [hdv, this]; rfl
  have hTl : (lkR L).length = (lkF L).1.length + 1 := by
    unfold lkR
    rw [List.length_cons, List.length_map]
  have hJ : ∀ i (hi : i < (lkR L).length), ∃ w, cm[i]? = some w ∧ Sl h2 w 1 (treeM L (lkR L)[i].1).length (is (treeM L (lkR L)[i].1)) ∧ (treeM L (lkR L)[i].1).length = 512 ∧ ∀ x ∈ treeM L (lkR L)[i].1, x = 0 ∨ (0 ≤ x ∧ (x.toNat + 1) * 64 ≤ L.length) := fun i hi => by
    obtain ⟨w, e, sw, _⟩ := jm.2 i (treeM L (lkR L)[i].1) (by rw [List.getElem?_map, List.getElem?_eq_getElem hi]; rfl)
    exact ⟨w, e, (sw.fr0 f1).fr0 f2, treeM_len L _, treeM_rng (htE _ (List.getElem_mem hi))⟩
  generalize hrsE : (lkF L).1 = rs at *
  have slr0 := (slr.fr0 f1).fr0 f2
  have hn1 := f1.next
  have hn2 := f2.next
  have slI := (sl0.fr0 f1).fr0 f2
  have smv2 := (smv0.fr0 f1).fr0 f2
  -- the head
  refine RunC.seq (RunC.draw0 rfl (RunO.part 2 rfl ?_))
  refine RunO.load (v := mv) rfl (ox.ld (by rw [erv, emv]; rfl)) rfl ?_
  obtain ⟨mv0, hm0, sm0, hl0, hr0⟩ := hJ 0 (by omega)
  have hr00 : (lkR L)[0].1 = (lkS L).2.2.1 := rfl
  rw [hr00] at sm0 hl0 hr0
  refine RunO.at (s := 1) (k := 0) rfl rfl smv2 rfl rfl (show 0 < (lkR L).length by omega) (irow_part (j := 0) hm0) rfl rfl rfl ?_
  refine RunO.part 3 rfl ?_
  refine RunO.load (v := .int .i64 (lkS L).2.2.2.1) rfl (ox.ld rfl) rfl ?_
  have eH : vwH L = secsL L (treeM L (lkS L).2.2.1) (lkS L).2.2.2.1.toNat := rfl
  have hsn : (((lkS L).2.2.2.1.toNat : Nat) : Int) = (lkS L).2.2.2.1 := by omega
  have hsec := refSectors10_ok (n := (lkS L).2.2.2.1.toNat) slI sm0 hr0 (by omega) (by omega) hm
  rw [hsn, ← eH] at hsec
  refine RunO.callD hsec rfl rfl rfl ?_
  rintro hv h3 ⟨f3, rh⟩
  have hvl : (vwH L).length ≤ 512 := by rw [eH, secsL_len _ _ (by omega)]; omega
  have hN0 := rh.rwN (by omega)
  generalize vwH L = HR at *
  obtain ⟨hA_, hc_, rfl⟩ : ∃ a b, hv = .slice a HR.length b := by
    obtain ⟨cs, row, _⟩ := rh
    obtain ⟨a, b, e, _⟩ := (row.sl (by omega)).form
    exact ⟨a, b, e⟩
  obtain ⟨hv, hhv⟩ : ∃ q, q = Value.slice hA_ HR.length hc_ := ⟨_, rfl⟩
  have hvc : isCell hv = true := by rw [hhv]; rfl
  refine RunO.part 2 (h1 := h3.push ⟨[.slice none 0 0, .slice none 0 0, .slice none 0 0], true⟩) rfl ?_
  rw [← hhv] at hN0 ⊢
  refine RunO.store rfl rfl (store_ow (s := 3) (Ow.push h3 [.slice none 0 0, .slice none 0 0, .slice none 0 0]) rfl rfl (by show cond (isCell hv) true false = true; rw [hvc]; rfl) (Nat.le_refl 3)) (RunO.nil ?_)
  have e3 : ([.slice none 0 0, .slice none 0 0, .slice none 0 0] : List Value).take 0 ++ cellsOf (.agg ⟨[hv, .slice none 0 0, .slice none 0 0]⟩) ++ ([.slice none 0 0, .slice none 0 0, .slice none 0 0] : List Value).drop (0 + 3) = [hv, .slice none 0 0, .slice none 0 0] := rfl
  rw [e3]
  have ot : Ow ((h3.push ⟨[.slice none 0 0, .slice none 0 0, .slice none 0 0], true⟩).put h3.next (some ⟨[hv, .slice none 0 0, .slice none 0 0], true⟩)) h3.next [hv, .slice none 0 0, .slice none 0 0] := Ow.put _ (Nat.lt_succ_self _)
  have f4 : Fr no h3 ((h3.push ⟨[.slice none 0 0, .slice none 0 0, .slice none 0 0], true⟩).put h3.next (some ⟨[hv, .slice none 0 0, .slice none 0 0], true⟩)) := (Fr.push _ _ _).trans (Fr.put (m := (· = h3.next)) _ (.inl rfl)) (fun j hj => .inr (by omega))
  obtain ⟨tb, htb⟩ : ∃ q, q = h3.next := ⟨_, rfl⟩
  rw [← htb] at ot f4 ⊢
  have hN0 := (hN0.weak (M := fun b => qb < b ∧ b < tb) (fun b g g2 => by have g2 : h2.next ≤ b := g2; exact ⟨by omega, by omega⟩)).fr0 f4
  have hh4 : ((h3.push ⟨[.slice none 0 0, .slice none 0 0, .slice none 0 0], true⟩).put tb (some ⟨[hv, .slice none 0 0, .slice none 0 0], true⟩)).next = tb + 1 := by rw [htb]; rfl
  generalize (h3.push ⟨[.slice none 0 0, .slice none 0 0, .slice none 0 0], true⟩).put tb (some ⟨[hv, .slice none 0 0, .slice none 0 0], true⟩) = h4 at *
  have ftb := f3.next
  have hbt := ot.1
  replace ox := ox.fr f3 (fun g => g)
  replace oq := oq.fr f3 (fun g => g)
  replace slr0 := slr0.fr0 f3
  replace slI := slI.fr0 f3
  replace smv2 := smv2.fr0 f3
  have F3 := (f1.same f2).same f3
  have hqb3 := oq.1
  refine RunC.seq (RunC.seq (RunC.region (RunO.all rfl ?_)))
  refine RunC.block ?_
  refine RunC.loop (fun d E h' => ∃ (i : Nat) (sv ov : Value), i + d = rs.length ∧ Fr (· = tb) h4 h' ∧ Ow h' tb [hv, sv, ov] ∧ RwN (fun b => qb < b ∧ b < tb) h' hv HR
    ∧ LS (fun b => (qb < b ∧ b ≠ tb) ∧ ¬ At sv b ∧ ¬ At ov b) (tb + 1) h' sv (vwS L (rs.take i)) ∧ LS (fun b => (qb < b ∧ b ≠ tb) ∧ ¬ At sv b ∧ ¬ At ov b) (tb + 1) h' ov (vwO L (rs.take i)) ∧ (∀ b, At sv b → ¬ At ov b) ∧ Le ((upd (upd (upd (upd (upd E0 0 (.slice A L.length c)) 3 (.pointer (some ⟨xb, 0, none⟩))) 4 (.pointer (some ⟨qb, 0, none⟩))) 5 (.pointer (some ⟨tb, 0, none⟩))) 6 (.int .i64 (i : Int)))) E) ?st (k := rs.length) ?ini
  case ini => exact ⟨0, .slice none 0 0, .slice none 0 0, by omega, Fr.refl _ _, ot, hN0, LS.nil _ _ _, LS.nil _ _ _, (fun b ⟨_, _, e⟩ => by cases e), Le.cons rfl (Le.cons rfl (Le.cons rfl (Le.cons rfl (Le.cons rfl (Le.nil _)))))⟩
  clear ot
  rintro d E g1 ⟨i, sv, ov, hi, fg, ot, hN, ls, lo, hso, hE⟩
  refine RunC.le hE ?_
  clear hE
  have hg1n := fg.next
  have F3g : Fr no h3 g1 := f4.trans fg (fun b e => .inr (by have e : b = tb := e; omega))
  refine RunC.seq (RunC.seq (RunC.region (RunO.part 3 rfl ?_)))
  refine RunO.load (v := .slice rA rs.length rc) rfl ((ox.fr F3g (fun g => g)).ld (by rw [erv]; rfl)) rfl ?_
  refine RunO.all rfl ?_
  refine RunC.cond rfl (fun hlt => RunC.skip ?go) (fun hge => RunC.exit ?ex)
  case ex =>
    have hge := of_decide_eq_false hge
    obtain rfl : i = rs.length := by omega
    rw [List.take_length] at ls lo
    have hls : (vwS L rs).length ≤ 4096 := by unfold vwS; rw [List.length_map]; exact Nat.le_trans (List.length_filter_le _ _) hrsl
    have hlo : (vwO L rs).length ≤ 4096 := by unfold vwO; rw [List.length_map]; exact Nat.le_trans (List.length_filter_le _ _) hrsl
    have hcc : ∀ (v : Value) (l : List Sn), LS (fun b => (qb < b ∧ b ≠ tb) ∧ ¬ At sv b ∧ ¬ At ov b) (tb + 1) g1 v l → isCell v = true := fun v l r => by
      obtain ⟨cs, row, _⟩ := r
      rcases row.2 with ⟨e, _⟩ | ⟨b, _, e, _⟩ <;> (rw [e]; rfl)
    have hc1 := hcc _ _ ls
    have hc2 := hcc _ _ lo
    replace oq := oq.fr F3g (fun g => g)
    refine RunC.seq (RunC.region ?_)
    refine RunO.load (v := .agg ⟨[hv, sv, ov]⟩) rfl (ot.ld rfl) rfl ?_
    refine RunO.store rfl rfl (store_ow (s := 3) oq rfl rfl (by show cond (isCell hv) (cond (isCell sv) (cond (isCell ov) true false) false) false = true; rw [hvc, hc1, hc2]; rfl) (Nat.le_refl 3)) ?_
    have e3 : ([.slice none 0 0, .slice none 0 0, .slice none 0 0] : List Value).take 0 ++ cellsOf (.agg ⟨[hv, sv, ov]⟩) ++ ([.slice none 0 0, .slice none 0 0, .slice none 0 0] : List Value).drop (0 + 3) = [hv, sv, ov] := rfl
    rw [e3]
    have oq2 : Ow (g1.put qb (some ⟨[hv, sv, ov], true⟩)) qb [hv, sv, ov] := Ow.put _ oq.1
    have f5 : Fr (· = qb) g1 (g1.put qb (some ⟨[hv, sv, ov], true⟩)) := Fr.put _ (.inl rfl)
    have hN2 := (hN.frm f5 (fun b g e => by have e : b = qb := e; omega)).weak (M := fun b => qb ≤ b) (fun b _ g => by show qb ≤ b; have := g.1; omega)
    have hS2 := (ls.frm f5 (fun b g e => by have e : b = qb := e; omega) (fun b g e => by have e : b = qb := e; have := (ls.at g).1; omega)).sns (by omega)
    have hO2 := (lo.frm f5 (fun b g e => by have e : b = qb := e; omega) (fun b g e => by have e : b = qb := e; have := (lo.at g).1; omega)).sns (by omega)
    generalize g1.put qb (some ⟨[hv, sv, ov], true⟩) = g2 at *
    exact RunO.all rfl (RunC.ret ⟨_, eresults_cell1 rfl (oq2.ld rfl), (F3.same F3g).trans f5 (fun b e => .inr (by have e : b = qb := e; omega)), hv, sv, ov, rfl, hN2.rws, hS2, hO2⟩)
  have hlt := of_decide_eq_true hlt
  have hlt : i < rs.length := by omega
  have hri := hrok rs[i] (List.getElem_mem hlt)
  have hsz2 := r8_sz hri
  have htk : rs.take (i + 1) = rs.take i ++ [rs[i]] := List.take_succ_eq_append_getElem hlt
  have hS1 : vwS L (rs.take (i + 1)) = if (rs[i].ki == 1) = true then vwS L (rs.take i) else vwS L (rs.take i) ++ [snP L rs[i]] := by
    rw [htk]
    unfold vwS
    rw [List.filter_append, List.map_append]
    cases e : (rs[i].ki == 1) with
    | true => rw [if_pos rfl, show [rs[i]].filter (fun r => !(r.ki == 1)) = [] by rw [List.filter_cons, e]; rfl]; exact List.append_nil _
    | false => rw [if_neg (by decide), show [rs[i]].filter (fun r => !(r.ki == 1)) = [rs[i]] by rw [List.filter_cons, e]; rfl]; rfl
  have hO1 : vwO L (rs.take (i + 1)) = if (rs[i].ki == 1) = true then vwO L (rs.take i) ++ [snP L rs[i]] else vwO L (rs.take i) := by
    rw [htk]
    unfold vwO
    rw [List.filter_append, List.map_append]
    cases e : (rs[i].ki == 1) with
    | true => rw [if_pos rfl, show [rs[i]].filter (fun r => r.ki == 1) = [rs[i]] by rw [List.filter_cons, e]; rfl]; rfl
    | false => rw [if_neg (by decide), show [rs[i]].filter (fun r => r.ki == 1) = [] by rw [List.filter_cons, e]; rfl]; exact List.append_nil _
  have hlS : (vwS L (rs.take i)).length ≤ 4096 := by unfold vwS; rw [List.length_map]; exact Nat.le_trans (List.length_filter_le _ _) (by rw [List.length_take]; omega)
  have hlO : (vwO L (rs.take i)).length ≤ 4096 := by unfold vwO; rw [List.length_map]; exact Nat.le_trans (List.length_filter_le _ _) (by rw [List.length_take]; omega)
  generalize vwS L (rs.take i) = S at *
  generalize vwO L (rs.take i) = O at *
  have hi1 : i + 1 < (lkR L).length := by omega
  obtain ⟨mvq, hmq, smq, hlq, hrq⟩ := hJ (i + 1) hi1
  have hro : (lkR L)[i + 1].1 = rs[i].ro := by
    have e1 : (lkR L)[i + 1]? = ((lkF L).1.map fun r => (r.ro, r.sz))[i]? := rfl
    rw [hrsE, List.getElem?_map, List.getElem?_eq_getElem hlt, List.getElem?_eq_getElem hi1] at e1
    injection e1 with e1
    rw [e1]
  rw [hro] at smq hlq hrq
  have hpt := recCs_part hlt
  have hsnP : snP L rs[i] = (rs[i].id, rs[i].pa, secsL L (treeM L rs[i].ro) rs[i].sz.toNat, rs[i].fr, rs[i].di) := rfl
  rw [hsnP] at hS1 hO1
  have smq := smq.fr0 f3
  generalize rs[i] = r at *
  refine RunC.seq (RunC.block ?_)
  refine RunC.seq (RunC.region (RunO.part 2 rfl ?_))
  refine RunO.load (v := .slice rA rs.length rc) rfl ((ox.fr F3g (fun g => g)).ld (by rw [erv]; rfl)) rfl ?_
  refine RunO.part 1 rfl ?_
  rw [erv] at slr0
  refine RunO.at (s := 8) (k := i) rfl rfl (slr0.fr0 F3g) rfl rfl hlt hpt rfl rfl rfl ?_
  refine RunO.part 1 (h1 := g1.push ⟨rc8 ⟨0, 0, 0, 0, 0, 0, 0, 0⟩, true⟩) rfl ?_
  refine RunO.store rfl rfl (store_ow (s := 8) (Ow.push g1 (rc8 ⟨0, 0, 0, 0, 0, 0, 0, 0⟩)) rfl rfl rfl (Nat.le_refl 8)) (RunO.nil ?_)
  have e8 : (rc8 ⟨0, 0, 0, 0, 0, 0, 0, 0⟩).take 0 ++ cellsOf (.agg ⟨rc8 r⟩) ++ (rc8 ⟨0, 0, 0, 0, 0, 0, 0, 0⟩).drop (0 + 8) = rc8 r := rfl
  rw [e8]
  have on : Ow ((g1.push ⟨rc8 ⟨0, 0, 0, 0, 0, 0, 0, 0⟩, true⟩).put g1.next (some ⟨rc8 r, true⟩)) g1.next (rc8 r) := Ow.put _ (Nat.lt_succ_self _)
  have f6 : Fr no g1 ((g1.push ⟨rc8 ⟨0, 0, 0, 0, 0, 0, 0, 0⟩, true⟩).put g1.next (some ⟨rc8 r, true⟩)) := (Fr.push _ _ _).trans (Fr.put (m := (· = g1.next)) _ (.inl rfl)) (fun j hj => .inr (by omega))
  have hotn := ot.1
  generalize (g1.push ⟨rc8 ⟨0, 0, 0, 0, 0, 0, 0, 0⟩, true⟩).put g1.next (some ⟨rc8 r, true⟩) = g2 at *
  obtain ⟨pb, hpb⟩ : ∃ q, q = g1.next := ⟨_, rfl⟩
  rw [← hpb] at on ⊢
  have hg2n := f6.next
  have F2g := F3g.same f6
  refine RunC.seq (RunC.drawT 19 (fun b => g2.next ≤ b) rfl ?_)
  refine RunQ.part 1 rfl ?_
  refine RunQ.load (v := .int .i64 r.id) rfl rfl (on.ld rfl) rfl ?_
  refine RunQ.part 1 rfl ?_
  refine RunQ.load (v := .int .i64 r.pa) rfl rfl (on.ld rfl) rfl ?_
  refine RunQ.part 2 rfl ?_
  refine RunQ.load (v := mv) rfl rfl ((ox.fr F2g (fun g => g)).ld (by rw [erv, emv]; rfl)) rfl ?_
  refine RunQ.part 2 rfl ?_
  rw [fw64 (x := (i : Int) + 1) (by omega) (by omega), show (i : Int) + 1 = ((i + 1 : Nat) : Int) by omega]
  refine RunQ.at (s := 1) (k := i + 1) rfl (fun _ => rfl) rfl rfl (smv2.fr0 F2g) rfl rfl hi1 (irow_part hmq) rfl rfl rfl ?_
  refine RunQ.part 1 rfl ?_
  refine RunQ.load (v := .int .i64 r.sz) rfl rfl (on.ld rfl) rfl ?_
  have hszn : ((r.sz.toNat : Nat) : Int) = r.sz := by omega
  have slI2_ := slI.fr0 F2g
  have slI2 : Sl (g2.lo g2.next) (.slice A L.length c) 1 L.length (us L) := slI2_
  have smq2_ := smq.fr0 F2g
  have smq2 : Sl (g2.lo g2.next) mvq 1 (treeM L r.ro).length (is (treeM L r.ro)) := smq2_
  have hsec := refSectors10_ok (n := r.sz.toNat) slI2 smq2 hrq (by omega) (by omega) hm
  rw [hszn] at hsec
  refine RunQ.call rfl hsec (fun v h1 q => q.1) rfl rfl rfl ?_
  have hsl_ : (secsL L (treeM L r.ro) r.sz.toNat).length ≤ 512 := by rw [secsL_len _ _ (by omega)]; omega
  generalize secsL L (treeM L r.ro) r.sz.toNat = SR at *
  rintro wv g3 ⟨f7, rwv⟩
  have f7 : Fr no g2 g3 := f7.trans (Fr.refl no _) (fun _ g => g.elim) |> fun f => ⟨f.next, f.get, fun l a b c => f.low l b b c⟩
  have rwv : RwG g2.next g3 wv SR := rwv
  have hwN := rwv.rwN (by omega)
  obtain ⟨wA, wc_, rfl⟩ : ∃ a b, wv = .slice a SR.length b := by
    obtain ⟨cs, row, _⟩ := rwv
    obtain ⟨a, b, e, _⟩ := (row.sl (by omega)).form
    exact ⟨a, b, e⟩
  have on3 := on.fr f7 (fun g => g)
  refine RunQ.part 1 rfl ?_
  refine RunQ.load (v := .int .i64 r.fr) rfl rfl (on3.ld rfl) rfl ?_
  refine RunQ.part 1 rfl ?_
  refine RunQ.load (v := .int .i64 r.di) rfl rfl (on3.ld rfl) rfl ?_
  refine RunQ.all rfl ?_
  have hg3n := f7.next
  refine RunT.new (ob := ⟨[.int .i64 0, .int .i64 0, .slice none 0 0, .int .i64 0, .int .i64 0], true⟩) rfl rfl (fun _ => rfl) rfl ?_
  obtain ⟨wv, hwv⟩ : ∃ q, q = Value.slice wA SR.length wc_ := ⟨_, rfl⟩
  have hwc : isCell wv = true := by rw [hwv]; rfl
  rw [← hwv] at hwN ⊢
  have hst : astore prog ((g3.push ⟨[.int .i64 0, .int .i64 0, .slice none 0 0, .int .i64 0, .int .i64 0], true⟩).lo (g3.push ⟨[.int .i64 0, .int .i64 0, .slice none 0 0, .int .i64 0, .int .i64 0], true⟩).next) 93 ⟨g3.next, 0, none⟩ (.agg ⟨[.int .i64 r.id, .int .i64 r.pa, wv, .int .i64 r.fr, .int .i64 r.di]⟩) = _ := store_ow (s := 5) (h := (g3.push ⟨[.int .i64 0, .int .i64 0, .slice none 0 0, .int .i64 0, .int .i64 0], true⟩).lo (g3.push ⟨[.int .i64 0, .int .i64 0, .slice none 0 0, .int .i64 0, .int .i64 0], true⟩).next) (Ow.push g3 [.int .i64 0, .int .i64 0, .slice none 0 0, .int .i64 0, .int .i64 0]) rfl rfl (by show cond (isCell wv) true false = true; rw [hwc]; rfl) (Nat.le_refl 5)
  refine RunT.store rfl rfl rfl hst (Fr.put (m := fun b => g2.next ≤ b) _ (.inl hg3n)) (RunT.nil ?_)
  intro lw F8a
  have F8b := F8a.weak (m1 := no) (fun b g => .inr g)
  clear F8a
  have fY : Fr no g3 ((g3.push ⟨[.int .i64 0, .int .i64 0, .slice none 0 0, .int .i64 0, .int .i64 0], true⟩).put g3.next (some ⟨snC (r.id, r.pa, SR, r.fr, r.di) wv, true⟩)) := (Fr.push _ _ _).trans (Fr.put (m := (· = g3.next)) _ (.inl rfl)) (fun j hj => .inr (by omega))
  have oY : Ow ((g3.push ⟨[.int .i64 0, .int .i64 0, .slice none 0 0, .int .i64 0, .int .i64 0], true⟩).put g3.next (some ⟨snC (r.id, r.pa, SR, r.fr, r.di) wv, true⟩)) g3.next (snC (r.id, r.pa, SR, r.fr, r.di) wv) := Ow.put _ (Nat.lt_succ_self _)
  have hwNY := hwN.fr0 fY
  have onb : Ow ((((g3.push ⟨[.int .i64 0, .int .i64 0, .slice none 0 0, .int .i64 0, .int .i64 0], true⟩).lo (g3.push ⟨[.int .i64 0, .int .i64 0, .slice none 0 0, .int .i64 0, .int .i64 0], true⟩).next).put g3.next (some ⟨snC (r.id, r.pa, SR, r.fr, r.di) wv, true⟩)).lo lw) g3.next (snC (r.id, r.pa, SR, r.fr, r.di) wv) := oY
  have hwN4 : RwN (fun b => g2.next ≤ b) ((((g3.push ⟨[.int .i64 0, .int .i64 0, .slice none 0 0, .int .i64 0, .int .i64 0], true⟩).lo (g3.push ⟨[.int .i64 0, .int .i64 0, .slice none 0 0, .int .i64 0, .int .i64 0], true⟩).next).put g3.next (some ⟨snC (r.id, r.pa, SR, r.fr, r.di) wv, true⟩)).lo lw) wv SR := hwNY
  clear hst oY hwNY fY
  show RunC prog _ _ _ ((((g3.push ⟨[.int .i64 0, .int .i64 0, .slice none 0 0, .int .i64 0, .int .i64 0], true⟩).lo (g3.push ⟨[.int .i64 0, .int .i64 0, .slice none 0 0, .int .i64 0, .int .i64 0], true⟩).next).put g3.next (some ⟨snC (r.id, r.pa, SR, r.fr, r.di) wv, true⟩)).lo lw) _ _ _
  have F8 : Fr no g2 ((((g3.push ⟨[.int .i64 0, .int .i64 0, .slice none 0 0, .int .i64 0, .int .i64 0], true⟩).lo (g3.push ⟨[.int .i64 0, .int .i64 0, .slice none 0 0, .int .i64 0, .int .i64 0], true⟩).next).put g3.next (some ⟨snC (r.id, r.pa, SR, r.fr, r.di) wv, true⟩)).lo lw) := F8b
  clear F8b
  generalize (((g3.push ⟨[.int .i64 0, .int .i64 0, .slice none 0 0, .int .i64 0, .int .i64 0], true⟩).lo (g3.push ⟨[.int .i64 0, .int .i64 0, .slice none 0 0, .int .i64 0, .int .i64 0], true⟩).next).put g3.next (some ⟨snC (r.id, r.pa, SR, r.fr, r.di) wv, true⟩)).lo lw = g4 at *
  have on4 := on.fr F8 (fun g => g)
  have F14 := f6.same F8
  have ot4 := ot.fr F14 (fun g => g)
  have hN4 := hN.fr0 F14
  have ls4 := ls.fr0 F14
  have lo4 := lo.fr0 F14
  have hg4n := F14.next
  refine RunC.seq (RunC.region (RunO.part 1 rfl ?_))
  refine RunO.load (v := .int .i64 r.ki) rfl (on4.ld rfl) rfl ?_
  refine RunO.all rfl ?_
  cases hki : (r.ki == 1) with
  | true =>
    rw [hki] at hS1 hO1
    refine RunC.cond rfl (fun _ => ?_) (fun g => by cases g)
    refine RunC.region (RunO.part 1 rfl ?_)
    refine RunO.load (v := ov) rfl (ot4.ld rfl) rfl ?_
    refine RunO.load (v := .agg ⟨snC (r.id, r.pa, SR, r.fr, r.di) wv⟩) rfl (onb.ld rfl) rfl ?_
    refine RunO.part 1 (h1 := g4.push ⟨snC (r.id, r.pa, SR, r.fr, r.di) wv, true⟩) rfl ?_
    have ol := Ow.push g4 (snC (r.id, r.pa, SR, r.fr, r.di) wv)
    have f9 : Fr no g4 (g4.push ⟨snC (r.id, r.pa, SR, r.fr, r.di) wv, true⟩) := Fr.push _ _ _
    replace ot4 := ot4.fr f9 (fun g => g)
    replace hN4 := hN4.fr0 f9
    replace hwN4 := hwN4.fr0 f9
    replace ls4 := ls4.fr0 f9
    replace lo4 := lo4.fr0 f9
    have F9 := F14.same f9
    have hg5n := f9.next
    generalize g4.push ⟨snC (r.id, r.pa, SR, r.fr, r.di) wv, true⟩ = g5 at *
    generalize g4.next = lb at *
    have hgg := F9.next
    have l4 := lo4.weak (M := fun b => ((qb < b ∧ b ≠ tb) ∧ ¬ At sv b ∧ ¬ At ov b) ∧ b < g5.next) (fun b g1 g2 => ⟨g2, g1⟩)
    have k4 := ls4.weak (M := fun b => ((qb < b ∧ b ≠ tb) ∧ ¬ At sv b ∧ ¬ At ov b) ∧ b < g5.next) (fun b g1 g2 => ⟨g2, g1⟩)
    have hwN5 := hwN4.weak (M := fun b => ((qb < b ∧ b ≠ tb) ∧ ¬ At sv b ∧ ¬ At ov b) ∧ b < g5.next) (fun b g1 g2 => ⟨⟨⟨by omega, by omega⟩, fun a => by have := (ls.at a).2; omega, fun a => by have := (lo.at a).2; omega⟩, g1⟩)
    obtain ⟨cs, row, kk⟩ := l4
    refine RunO.appendG (s := 5) (j := 1) rfl rfl rfl rfl rfl rfl rfl rfl (by decide) row.gr ol.all rfl (Nat.le_refl 1) (by show cond (isCell wv) true false = true; rw [hwc]; rfl) (by show 2 * (_ + 1) * 56 ≤ _; omega) (by omega) ?_
    intro ov2 g6 row2 f10
    have l6 := LS.snoc (x := (r.id, r.pa, SR, r.fr, r.di)) row kk hwN5 row2 f10 (fun b g a => (fun b g a => g.2.2 a) b g.1 a) (show tb + 1 ≤ g5.next by omega)
    have k6 := k4.frm f10 (fun b g a => (fun b g a => g.2.2 a) b g.1 a) (fun b g e => hso b g e)
    have hN6 := hN4.frm f10 (fun b g a => by have := (lo.at a).1; omega)
    have ot6 := ot4.fr f10 (fun a => by have := (lo.at a).1; omega)
    have l6 := l6.weak (M := fun b => (qb < b ∧ b ≠ tb) ∧ ¬ At sv b ∧ ¬ At ov2 b) (fun b _ g => ⟨g.1.1, g.1.2.1, fun a => by have := (row2.at a).1; have := g.2; omega⟩)
    have k6 := k6.weak (M := fun b => (qb < b ∧ b ≠ tb) ∧ ¬ At sv b ∧ ¬ At ov2 b) (fun b _ g => ⟨g.1.1, g.1.2.1, fun a => by have := (row2.at a).1; have := g.2; omega⟩)
    have hcv : isCell ov2 = true := by rcases row2.2 with ⟨e, _⟩ | ⟨b, _, e, _⟩ <;> (rw [e]; rfl)
    have hcc : cellsOf ov2 = [ov2] := by rcases row2.2 with ⟨e, _⟩ | ⟨b, _, e, _⟩ <;> (rw [e]; rfl)
    refine RunO.part 1 rfl ?_
    refine RunO.store rfl rfl (store1_ow ot6 rfl hcc hcv (Nat.le_of_ble_eq_true rfl)) (RunO.nil ?_)
    have f11 : Fr (· = tb) g6 (g6.put tb (some ⟨[hv, sv, ov2], true⟩)) := Fr.put _ (.inl rfl)
    have ot7 : Ow (g6.put tb (some ⟨[hv, sv, ov2], true⟩)) tb [hv, sv, ov2] := Ow.put _ ot6.1
    have hN7 := hN6.frm f11 (fun b g e => by have e : b = tb := e; omega)
    have loz := l6.frm f11 (fun b g e => g.1.2 e) (fun b g e => by have e : b = tb := e; have := (row2.at g).1; omega)
    have lsz := k6.frm f11 (fun b g e => g.1.2 e) (fun b g e => by have e : b = tb := e; have := (ls.at g).1; omega)
    show RunC prog _ _ _ (g6.put tb (some ⟨[hv, sv, ov2], true⟩)) _ _ _
    have F11 : Fr (· = tb) h4 (g6.put tb (some ⟨[hv, sv, ov2], true⟩)) := ((fg.quiet F9).trans f10 (fun b a => .inr (by have := (lo.at a).1; omega))).same f11
    generalize g6.put tb (some ⟨[hv, sv, ov2], true⟩) = g7 at *
    refine RunC.region (RunO.all rfl ?_)
    exact ⟨d - 1, by omega, i + 1, sv, ov2, by omega, F11, ot7, hN7, by rw [hS1, if_pos rfl]; exact lsz, by rw [hO1, if_pos rfl]; exact loz, fun b g a => by have := (row2.at a).1; have := (ls.at g).2; omega, Le.cons (inc64 (by omega)) (Le.cons rfl (Le.cons rfl (Le.cons rfl (Le.cons rfl (Le.nil _)))))⟩
  | false =>
    rw [hki] at hS1 hO1
    refine RunC.cond rfl (fun g => by cases g) (fun _ => ?_)
    refine RunC.region (RunO.part 1 rfl ?_)
    refine RunO.load (v := sv) rfl (ot4.ld rfl) rfl ?_
    refine RunO.load (v := .agg ⟨snC (r.id, r.pa, SR, r.fr, r.di) wv⟩) rfl (onb.ld rfl) rfl ?_
    refine RunO.part 1 (h1 := g4.push ⟨snC (r.id, r.pa, SR, r.fr, r.di) wv, true⟩) rfl ?_
    have ol := Ow.push g4 (snC (r.id, r.pa, SR, r.fr, r.di) wv)
    have f9 : Fr no g4 (g4.push ⟨snC (r.id, r.pa, SR, r.fr, r.di) wv, true⟩) := Fr.push _ _ _
    replace ot4 := ot4.fr f9 (fun g => g)
    replace hN4 := hN4.fr0 f9
    replace hwN4 := hwN4.fr0 f9
    replace ls4 := ls4.fr0 f9
    replace lo4 := lo4.fr0 f9
    have F9 := F14.same f9
    have hg5n := f9.next
    generalize g4.push ⟨snC (r.id, r.pa, SR, r.fr, r.di) wv, true⟩ = g5 at *
    generalize g4.next = lb at *
    have hgg := F9.next
    have l4 := ls4.weak (M := fun b => ((qb < b ∧ b ≠ tb) ∧ ¬ At sv b ∧ ¬ At ov b) ∧ b < g5.next) (fun b g1 g2 => ⟨g2, g1⟩)
    have k4 := lo4.weak (M := fun b => ((qb < b ∧ b ≠ tb) ∧ ¬ At sv b ∧ ¬ At ov b) ∧ b < g5.next) (fun b g1 g2 => ⟨g2, g1⟩)
    have hwN5 := hwN4.weak (M := fun b => ((qb < b ∧ b ≠ tb) ∧ ¬ At sv b ∧ ¬ At ov b) ∧ b < g5.next) (fun b g1 g2 => ⟨⟨⟨by omega, by omega⟩, fun a => by have := (ls.at a).2; omega, fun a => by have := (lo.at a).2; omega⟩, g1⟩)
    obtain ⟨cs, row, kk⟩ := l4
    refine RunO.appendG (s := 5) (j := 1) rfl rfl rfl rfl rfl rfl rfl rfl (by decide) row.gr ol.all rfl (Nat.le_refl 1) (by show cond (isCell wv) true false = true; rw [hwc]; rfl) (by show 2 * (_ + 1) * 56 ≤ _; omega) (by omega) ?_
    intro sv2 g6 row2 f10
    have l6 := LS.snoc (x := (r.id, r.pa, SR, r.fr, r.di)) row kk hwN5 row2 f10 (fun b g a => (fun b g a => g.2.1 a) b g.1 a) (show tb + 1 ≤ g5.next by omega)
    have k6 := k4.frm f10 (fun b g a => (fun b g a => g.2.1 a) b g.1 a) (fun b g e => hso b e g)
    have hN6 := hN4.frm f10 (fun b g a => by have := (ls.at a).1; omega)
    have ot6 := ot4.fr f10 (fun a => by have := (ls.at a).1; omega)
    have l6 := l6.weak (M := fun b => (qb < b ∧ b ≠ tb) ∧ ¬ At sv2 b ∧ ¬ At ov b) (fun b _ g => ⟨g.1.1, fun a => by have := (row2.at a).1; have := g.2; omega, g.1.2.2⟩)
    have k6 := k6.weak (M := fun b => (qb < b ∧ b ≠ tb) ∧ ¬ At sv2 b ∧ ¬ At ov b) (fun b _ g => ⟨g.1.1, fun a => by have := (row2.at a).1; have := g.2; omega, g.1.2.2⟩)
    have hcv : isCell sv2 = true := by rcases row2.2 with ⟨e, _⟩ | ⟨b, _, e, _⟩ <;> (rw [e]; rfl)
    have hcc : cellsOf sv2 = [sv2] := by rcases row2.2 with ⟨e, _⟩ | ⟨b, _, e, _⟩ <;> (rw [e]; rfl)
    refine RunO.part 1 rfl ?_
    refine RunO.store rfl rfl (store1_ow ot6 rfl hcc hcv (Nat.le_of_ble_eq_true rfl)) (RunO.nil ?_)
    have f11 : Fr (· = tb) g6 (g6.put tb (some ⟨[hv, sv2, ov], true⟩)) := Fr.put _ (.inl rfl)
    have ot7 : Ow (g6.put tb (some ⟨[hv, sv2, ov], true⟩)) tb [hv, sv2, ov] := Ow.put _ ot6.1
    have hN7 := hN6.frm f11 (fun b g e => by have e : b = tb := e; omega)
    have lsz := l6.frm f11 (fun b g e => g.1.2 e) (fun b g e => by have e : b = tb := e; have := (row2.at g).1; omega)
    have loz := k6.frm f11 (fun b g e => g.1.2 e) (fun b g e => by have e : b = tb := e; have := (lo.at g).1; omega)
    show RunC prog _ _ _ (g6.put tb (some ⟨[hv, sv2, ov], true⟩)) _ _ _
    have F11 : Fr (· = tb) h4 (g6.put tb (some ⟨[hv, sv2, ov], true⟩)) := ((fg.quiet F9).trans f10 (fun b a => .inr (by have := (ls.at a).1; omega))).same f11
    generalize g6.put tb (some ⟨[hv, sv2, ov], true⟩) = g7 at *
    refine RunC.region (RunO.all rfl ?_)
    exact ⟨d - 1, by omega, i + 1, sv2, ov, by omega, F11, ot7, hN7, by rw [hS1, if_neg (by decide)]; exact lsz, by rw [hO1, if_neg (by decide)]; exact loz, fun b a g => by have := (row2.at a).1; have := (lo.at g).2; omega, Le.cons (inc64 (by omega)) (Le.cons rfl (Le.cons rfl (Le.cons rfl (Le.cons rfl (Le.nil _)))))⟩

end Go.Proofs.Ytnokcbenpnmnbaa
end
section
set_option linter.unusedVariables false
set_option linter.unusedSectionVars false
set_option maxRecDepth 100000
open Go Go.Am Go.RowKit
namespace Go.Proofs.Ytnokcbenpnmnbaa
open Go.Proofs.Try
/-- Whole numbers of an int. -/
def In64 (x : Int) : Prop := -9223372036854775808 ≤ x ∧ x ≤ 9223372036854775807
abbrev I8 : Sh := .int .i64
abbrev ShS5 : Sh := .pair I8 (.pair I8 (.pair I8 (.pair I8 (.pair I8 .unit))))
abbrev ShR8 : Sh := .pair I8 (.pair I8 (.pair I8 (.pair I8 (.pair I8 (.pair I8 (.pair I8 (.pair I8 .unit)))))))
abbrev ShState : Sh := .pair ShS5 (.pair I8 (.pair (.slice ShR8) .unit))
def r8Of (y : ShR8.T) : R8 := ⟨y.1, y.2.1, y.2.2.1, y.2.2.2.1, y.2.2.2.2.1, y.2.2.2.2.2.1, y.2.2.2.2.2.2.1, y.2.2.2.2.2.2.2.1⟩
def R8In (r : R8) : Prop := In64 r.nx ∧ In64 r.id ∧ In64 r.pa ∧ In64 r.ro ∧ In64 r.sz ∧ In64 r.ki ∧ In64 r.fr ∧ In64 r.di
def S5In (s : S5) : Prop := In64 s.1 ∧ In64 s.2.1 ∧ In64 s.2.2.1 ∧ In64 s.2.2.2.1 ∧ In64 s.2.2.2.2
end Go.Proofs.Ytnokcbenpnmnbaa
end
section
set_option linter.unusedVariables false
set_option linter.unusedSectionVars false
set_option maxRecDepth 100000
open Go Go.Am Go.RowKit
namespace Go.Proofs.Ytnokcbenpnmnbaa
open Go.Proofs.Try
abbrev ShRow : Sh := .slice (.int .u8)
abbrev ShRows : Sh := .slice ShRow
abbrev ShSn : Sh := .pair I8 (.pair I8 (.pair ShRows (.pair I8 (.pair I8 .unit))))
abbrev ShView : Sh := .pair ShRows (.pair (.slice ShSn) (.pair (.slice ShSn) .unit))
theorem rowsK {h : Heap} {q : List (List Int)} {cs : List Value} (k : ShRows.K h q cs) : ∃ v, cs = [v] ∧ Rws h v q ∧ RwB q := by
  obtain ⟨v, acs, h3, hs, H⟩ := k
  have hs : Sl h v 1 q.length acs := hs
  have H : ∀ (j : Nat) (y : List Int), q[j]? = some y → ∃ w, (acs.drop j).take 1 = [w] ∧ Sl h w 1 y.length (us y) ∧ Byt y := fun j y hy => by
    have := H j y ((nth_eq q j).trans hy)
    obtain ⟨w, e, sw, wf⟩ := slInts this
    have e : (acs.drop (j * 1)).take 1 = [w] := e
    rw [Nat.mul_one] at e
    exact ⟨w, e, sw, fun x hx => wf_u8 (wf x hx)⟩
  refine ⟨v, h3, ⟨acs, hs, fun j x hx => ?_⟩, hs.2.1, fun x hx => ?_⟩
  · obtain ⟨w, e, sw, _⟩ := H j x hx
    refine ⟨w, ?_, sw⟩
    have := congrArg (fun l => l[0]?) e
    simpa using this
  · obtain ⟨j, hj, e⟩ := List.mem_iff_getElem.1 hx
    obtain ⟨w, _, sw, hb⟩ := H j x (by rw [List.getElem?_eq_getElem hj, e])
    exact ⟨sw.2.1, hb⟩
def snOf (y : ShSn.T) : Sn := (y.1, y.2.1, y.2.2.1, y.2.2.2.1, y.2.2.2.2.1)
theorem snK {h : Heap} {y : ShSn.T} {cs : List Value} (k : ShSn.K h y cs) : ∃ w, cs = snC (snOf y) w ∧ Rws h w (snOf y).2.2.1 ∧ RwB (snOf y).2.2.1 := by
  obtain ⟨c1, d1, rfl, _, _, ⟨rfl, w1⟩, c2, d2, rfl, _, _, ⟨rfl, w2⟩, c3, d3, rfl, _, _, k3, c4, d4, rfl, _, _, ⟨rfl, w4⟩, c5, d5, rfl, _, _, ⟨rfl, w5⟩, e⟩ := k
  have e : d5 = [] := e
  subst e
  obtain ⟨w, rfl, rw_, rb⟩ := rowsK k3
  exact ⟨w, rfl, rw_, rb⟩
theorem snsK {h : Heap} {q : List ShSn.T} {cs : List Value} (k : (Sh.slice ShSn).K h q cs) : ∃ v, cs = [v] ∧ Sns h v (q.map snOf) ∧ SB (q.map snOf) := by
  obtain ⟨v, acs, h3, hs, H⟩ := k
  have hs : Sl h v 5 q.length acs := hs
  have H : ∀ (j : Nat) (y : ShSn.T), q[j]? = some y → ShSn.K h y ((acs.drop (j * 5)).take 5) := fun j y hy => H j y ((nth_eq q j).trans hy)
  refine ⟨v, h3, ⟨acs, by rw [List.length_map]; exact hs, fun j x hx => ?_⟩, by rw [List.length_map]; exact hs.2.1, fun x hx => ?_⟩
  · rw [List.getElem?_map] at hx
    cases hq : q[j]? with
    | none => rw [hq] at hx; cases hx
    | some y =>
      rw [hq] at hx
      cases hx
      obtain ⟨w, e, r, _⟩ := snK (H j y hq)
      exact ⟨w, e, r⟩
  · obtain ⟨y, hy, rfl⟩ := List.mem_map.1 hx
    obtain ⟨j, hj, e⟩ := List.mem_iff_getElem.1 hy
    obtain ⟨w, _, _, rb⟩ := snK (H j y (by rw [List.getElem?_eq_getElem hj, e]))
    exact rb
theorem argView {l : List Sh} {h : Heap} {x : ArgsT (ShView :: l)} {vs : List Value} (a : ArgsK (ShView :: l) h x vs) :
    ∃ (H : List (List Int)) (S O : List Sn) (r : ArgsT l) (hv sv ov : Value) (vr : List Value), vs = .agg ⟨[hv, sv, ov]⟩ :: vr ∧ Rws h hv H ∧ Sns h sv S ∧ Sns h ov O ∧ RwB H ∧ SB S ∧ SB O ∧ ArgsK l h r vr := by
  obtain ⟨v, vr, rfl, h1, h2⟩ := a
  obtain ⟨cs, rfl, k⟩ : ∃ cs, v = .agg ⟨cs⟩ ∧ ShView.K h x.1 cs := h1
  obtain ⟨c1, d1, rfl, _, _, k1, c2, d2, rfl, _, _, k2, c3, d3, rfl, _, _, k3, e⟩ := k
  have e : d3 = [] := e
  subst e
  obtain ⟨hv, rfl, r1, b1⟩ := rowsK k1
  obtain ⟨sv, rfl, r2, b2⟩ := snsK k2
  obtain ⟨ov, rfl, r3, b3⟩ := snsK k3
  exact ⟨_, _, _, x.2, hv, sv, ov, vr, rfl, r1, r2, r3, b1, b2, b3, h2⟩
end Go.Proofs.Ytnokcbenpnmnbaa
end
section
set_option linter.unusedVariables false
set_option linter.unusedSectionVars false
set_option maxRecDepth 100000
open Go Go.Am Go.RowKit
namespace Go.Proofs.Ytnokcbenpnmnbaa
open Go.Proofs.Try
/-- The numbers below n with p, in order. -/
def idxs (p : Nat → Bool) (n : Nat) : List Int := ((List.range n).filter p).map fun (j : Nat) => (j : Int)
def cntI (p : Nat → Bool) (n : Nat) : Nat := ((List.range n).filter p).length
def posP (c : List Int) (j : Nat) : Bool := decide (c.getD j 0 > 0)
def shP (c : List Int) (j : Nat) : Bool := decide ((j : Int) ≥ 2) && decide (c.getD j 0 > 1)
section
variable {h : Heap} {iv : Value} {L : List Int} (sl : Sl h iv 1 L.length (us L)) (hb : Byt L) (hm : L.length ≤ 4611686018427387904)
include sl hb hm
/-- How many are reached. -/
def usedL (L : List Int) : Nat := if (lk L).2 = 0 then cntI (posP (cntL L)) (L.length / 64) else 0
def sharedL (L : List Int) : List Int := if (lk L).2 = 0 then idxs (shP (cntL L)) (L.length / 64) else []
end
end Go.Proofs.Ytnokcbenpnmnbaa
end
section
set_option linter.unusedVariables false
set_option linter.unusedSectionVars false
set_option maxRecDepth 100000
open Go Go.Am Go.RowKit
namespace Go.Proofs.Ytnokcbenpnmnbaa
open Go.Proofs.Try
/- With no trees only the slots and the records are reached. -/
end Go.Proofs.Ytnokcbenpnmnbaa
end
section
set_option linter.unusedVariables false
set_option linter.unusedSectionVars false
set_option maxRecDepth 100000
open Go Go.Am Go.RowKit
namespace Go.Proofs.Ytnokcbenpnmnbaa
open Go.Proofs.Try
/- Which blocks are reached. -/
def Pos (c : List Int) (i : Nat) : Prop := 0 < c.getD i 0
def NN (B : Nat) (c : List Int) : Prop := c.length = B ∧ ∀ x ∈ c, 0 ≤ x
def inD (B : Nat) (p : Int) : Prop := p = 0 ∨ (2 ≤ p ∧ p < (B : Int))
def Ptd (L : List Int) (a : Int) (i : Nat) : Prop := ∃ p ∈ wPs L a, p ≠ 0 ∧ p = (i : Int)
structure WInv (L : List Int) (B : Nat) (st : List Int × List Bool) (Q : Nat → Prop) : Prop where
  nn : NN B st.1
  len : st.2.length = B
  pos : ∀ i, Pos st.1 i ↔ Q i
  met : ∀ a : Nat, st.2.getD a false = true → ∀ i, Ptd L a i → Q i
/-- The blocks of a tree: its nodes and its sectors' blocks. -/
def inT (L : List Int) (r : Int) (i : Nat) : Prop := (i : Int) ∈ treeN L r ∨ (i ≠ 0 ∧ (i : Int) ∈ treeM L r)
/-- What is reached. -/
def rch (L : List Int) (i : Nat) : Prop := i < 2 ∨ (i : Int) ∈ (lkF L).2.1 ∨ ∃ p ∈ lkR L, inT L p.1 i
theorem lk_dev {L : List Int} (h : (lk L).2 = 0) : L.length % 64 = 0 ∧ 4 ≤ L.length / 64 ∧ L.length / 64 ≤ 4096 := by
  have hd := (lk_trees h).1
  unfold devOk at hd
  simpa using hd
end Go.Proofs.Ytnokcbenpnmnbaa
end
section
set_option linter.unusedVariables false
set_option linter.unusedSectionVars false
set_option maxRecDepth 100000
open Go Go.Am Go.RowKit
namespace Go.Proofs.Ytnokcbenpnmnbaa
open Go.Proofs.Try
/- A row of marks, and what is marked. -/
structure OnI (B : Nat) (o : List Bool) (Q : Nat → Prop) : Prop where
  len : o.length = B
  iff : ∀ j, o.getD j false = true ↔ Q j
/-- What the first m rounds mark. -/
def mkd (L : List Int) (m : Nat) (j : Nat) : Prop := j < 2 ∨ (j : Int) ∈ (lkF L).2.1.take (m - 1) ∨ ∃ p ∈ (lkR L).take m, inT L p.1 j
def lsT (L : List Int) (r : Int) : List Int := treeN L r ++ treeM L r
theorem recs_look {L : List Int} (h : (lk L).2 = 0) : recsE L (lkS L).2.2.2.2 = 0 ∧ (lkF L).1.length = (lkF L).2.1.length ∧ (lkF L).2.1.length ≤ L.length / 64 := by
  obtain ⟨hd, _, hf, _⟩ := lk_trees h
  obtain ⟨_, _, h3, h4⟩ := fol_ok (L := L) (B := L.length / 64) (L.length / 64) (lkS L).2.2.2.2 [] [] 0 (fun r h => absurd h List.not_mem_nil) (fun x h => absurd h List.not_mem_nil) rfl
  refine ⟨?_, h3, ?_⟩
  · unfold recsE
    rw [if_pos hd]
    have : (folOf L (lkS L).2.2.2.2).2.2.2 = 0 := hf
    rw [if_pos this]
  · have : ([] : List Int).length + L.length / 64 = L.length / 64 := Nat.zero_add _
    rw [this] at h4
    exact h4
end Go.Proofs.Ytnokcbenpnmnbaa
end
section
set_option linter.unusedVariables false
set_option linter.unusedSectionVars false
set_option maxRecDepth 100000
open Go Go.Am Go.RowKit
namespace Go.Proofs.Ytnokcbenpnmnbaa
open Go.Proofs.Try

theorem view_RB {L : List Int} (hb : Byt L) (h : (lk L).2 = 0) : RwB (vwH L) ∧ SB (vwS L (lkF L).1) ∧ SB (vwO L (lkF L).1) := by
  obtain ⟨hd, _, _, htr, _, _⟩ := lk_trees h
  have hte : ∀ p ∈ lkR L, treeE L p.1 = 0 := fun p hp => by unfold treeE; rw [if_pos hd, if_pos (htr p hp)]
  have key : ∀ p ∈ lkR L, ∀ n, RwB (secsL L (treeM L p.1) n) := fun p hp n => secsL_RB hb (treeM_rng (hte p hp)) (by rw [treeM_len]; decide)
  have hdl := lk_dev h
  obtain ⟨_, hrl, hbl⟩ := recs_look h
  have hs : ∀ r ∈ (lkF L).1, RwB (snP L r).2.2.1 := fun r hr => key (r.ro, r.sz) (by unfold lkR; exact List.mem_cons_of_mem _ (List.mem_map.2 ⟨r, hr, rfl⟩)) _
  refine ⟨key ((lkS L).2.2.1, (lkS L).2.2.2.1) (by unfold lkR; exact List.mem_cons_self ..) (lkS L).2.2.2.1.toNat, ⟨?_, fun x hx => ?_⟩, ⟨?_, fun x hx => ?_⟩⟩
  · unfold vwS; rw [List.length_map]; exact Nat.le_trans (List.length_filter_le _ _) (by omega)
  · unfold vwS at hx
    obtain ⟨r, hr, rfl⟩ := List.mem_map.1 hx
    exact hs r (List.mem_filter.1 hr).1
  · unfold vwO; rw [List.length_map]; exact Nat.le_trans (List.length_filter_le _ _) (by omega)
  · unfold vwO at hx
    obtain ⟨r, hr, rfl⟩ := List.mem_map.1 hx
    exact hs r (List.mem_filter.1 hr).1
theorem sn_fld2 {cs : List Value} {j : Nat} {x : Sn} {w : Value} (h : (cs.drop (j * 5)).take 5 = snC x w) : apart prog 52 cs (j * 5 + 2) = some w := by
  show nth cs (j * 5 + 2) = some w
  rw [nth_eq]
  have := congrArg (fun l => l[2]?) h
  simp only [List.getElem?_take, List.getElem?_drop] at this
  exact this
/-- More than is played, or not. -/
theorem heavy17_ok {h : Heap} {hv sv ov : Value} {H : List (List Int)} {S O : List Sn} (a1 : Rws h hv H) (a2 : Sns h sv S) (a3 : Sns h ov O) : RunF prog 25 [.agg ⟨[hv, sv, ov]⟩] h fun v h' => (∃ b : Bool, v = .bool b) ∧ Fr no h h' := by
  refine RunF.walk func25 rfl rfl ?_
  obtain ⟨hcs, sh, hsh⟩ := a1
  obtain ⟨scs, ss, hss⟩ := a2
  obtain ⟨ocs, so, hso⟩ := a3
  have hhn := sh.2.1
  have hsn := ss.2.1
  have hon := so.2.1
  have sh0 := sh
  obtain ⟨hA, hc, rfl, _, _⟩ := sh0.form
  have ss0 := ss
  obtain ⟨sA, sc_, rfl, _, _⟩ := ss0.form
  have so0 := so
  obtain ⟨oA, oc, rfl, _, _⟩ := so0.form
  refine RunC.seq (RunC.region (RunO.part 1 (h1 := h.push ⟨[.slice hA H.length hc, .slice sA S.length sc_, .slice oA O.length oc], true⟩) rfl (RunO.all rfl ?_)))
  have o1 := Ow.push h [.slice hA H.length hc, .slice sA S.length sc_, .slice oA O.length oc]
  have f1 : Fr no h (h.push ⟨[.slice hA H.length hc, .slice sA S.length sc_, .slice oA O.length oc], true⟩) := Fr.push _ _ _
  replace sh := sh.fr0 f1
  replace ss := ss.fr0 f1
  replace so := so.fr0 f1
  replace hsh : ∀ (j : Nat) (x : List Int), H[j]? = some x → ∃ w, hcs[j]? = some w ∧ Sl (h.push ⟨[.slice hA H.length hc, .slice sA S.length sc_, .slice oA O.length oc], true⟩) w 1 x.length (us x) := fun j x hx => by obtain ⟨w, e, r⟩ := hsh j x hx; exact ⟨w, e, r.fr0 f1⟩
  replace hss : ∀ (j : Nat) (x : Sn), S[j]? = some x → ∃ w, (scs.drop (j * 5)).take 5 = snC x w ∧ Rws (h.push ⟨[.slice hA H.length hc, .slice sA S.length sc_, .slice oA O.length oc], true⟩) w x.2.2.1 := fun j x hx => by obtain ⟨w, e, r⟩ := hss j x hx; exact ⟨w, e, r.fr0 f1⟩
  replace hso : ∀ (j : Nat) (x : Sn), O[j]? = some x → ∃ w, (ocs.drop (j * 5)).take 5 = snC x w ∧ Rws (h.push ⟨[.slice hA H.length hc, .slice sA S.length sc_, .slice oA O.length oc], true⟩) w x.2.2.1 := fun j x hx => by obtain ⟨w, e, r⟩ := hso j x hx; exact ⟨w, e, r.fr0 f1⟩
  generalize h.push ⟨[.slice hA H.length hc, .slice sA S.length sc_, .slice oA O.length oc], true⟩ = h1 at *
  obtain ⟨p1, hp1⟩ : ∃ q, q = h.next := ⟨_, rfl⟩
  rw [← hp1] at o1 ⊢
  refine RunC.seq (RunC.region (RunO.part 1 rfl ?_))
  refine RunO.load (v := .slice hA H.length hc) rfl (o1.ld rfl) rfl (RunO.all rfl ?_)
  refine RunC.seqc (fun E' h' => h1 = h' ∧ ∃ n : Int, Le ((upd (upd (upd E0 1 (.pointer (some ⟨p1, 0, none⟩))) 2 (.bool false)) 3 (.int .i64 n))) E') ?g1 ?x1
  case g1 =>
    refine RunC.seqc (fun E' h' => h1 = h' ∧ ∃ (b : Bool) (n : Int), Le ((upd (upd (upd (upd E0 1 (.pointer (some ⟨p1, 0, none⟩))) 2 (.bool false)) 3 (.int .i64 n)) 19 (.bool b))) E') ?r1 ?c1
    case r1 =>
      refine RunC.region (RunO.part 1 rfl ?_)
      refine RunO.load (v := .slice sA S.length sc_) rfl (o1.ld rfl) rfl ?_
      refine RunO.part 3 rfl ?_
      cases decide ((S.length : Int) > 70) with
      | true => exact RunO.all rfl ⟨rfl, true, _, Le.cons rfl (Le.cons rfl (Le.cons rfl (Le.cons rfl (Le.nil _))))⟩
      | false =>
        refine RunO.part 1 rfl ?_
        refine RunO.loadG (v := .slice oA O.length oc) rfl rfl (o1.ld rfl) rfl ?_
        exact RunO.all rfl ⟨rfl, _, _, Le.cons rfl (Le.cons rfl (Le.cons rfl (Le.cons rfl (Le.nil _))))⟩
    rintro E' _ ⟨rfl, b, n, hE⟩
    refine RunC.le hE ?_
    clear hE
    cases b with
    | true =>
      refine RunC.cond rfl (fun _ => ?_) (fun g => by cases g)
      exact RunC.seq (RunC.region (RunO.all rfl (RunC.ret ⟨_, rfl, ⟨_, rfl⟩, f1⟩)))
    | false => exact RunC.cond rfl (fun g => by cases g) (fun _ => RunC.skip ⟨rfl, n, Le.cons rfl (Le.cons rfl (Le.cons rfl (Le.nil _)))⟩)
  rintro E' _ ⟨rfl, n, hE⟩
  refine RunC.le hE ?_
  clear hE
  refine RunC.seqc (fun E' h' => h1 = h' ∧ ∃ n : Int, Le ((upd (upd (upd E0 1 (.pointer (some ⟨p1, 0, none⟩))) 2 (.bool false)) 3 (.int .i64 n))) E') ?la ?xa
  case la =>
    refine RunC.seq (RunC.region (RunO.all rfl ?_))
    refine RunC.block ?_
    refine RunC.loop (fun d E h' => ∃ (i : Nat) (n : Int), i + d = S.length ∧ h1 = h' ∧ Le ((upd (upd (upd (upd E0 1 (.pointer (some ⟨p1, 0, none⟩))) 2 (.bool false)) 3 (.int .i64 n)) 4 (.int .i64 (i : Int)))) E) ?sta (k := S.length) ?inia
    case inia => exact ⟨0, n, by omega, rfl, Le.cons rfl (Le.cons rfl (Le.cons rfl (Le.cons rfl (Le.nil _))))⟩
    rintro d E _ ⟨i, n, hi, rfl, hE⟩
    refine RunC.le hE ?_
    clear hE
    refine RunC.seq (RunC.seq (RunC.region (RunO.part 2 rfl ?_)))
    refine RunO.load (v := .slice sA S.length sc_) rfl (o1.ld rfl) rfl ?_
    refine RunO.all rfl ?_
    refine RunC.cond rfl (fun hlt => RunC.skip ?goa) (fun hge => RunC.exit ⟨rfl, n, Le.cons rfl (Le.cons rfl (Le.cons rfl (Le.nil _)))⟩)
    have hlt := of_decide_eq_true hlt
    have hlt : i < S.length := by omega
    obtain ⟨w, ew, rws⟩ := hss i S[i] (List.getElem?_eq_getElem hlt)
    obtain ⟨_, sw, _⟩ := rws
    obtain ⟨uA, uc, rfl, _, _⟩ := sw.form
    refine RunC.seq (RunC.block ?_)
    refine RunC.region (RunO.part 2 rfl ?_)
    refine RunO.load (v := .slice sA S.length sc_) rfl (o1.ld rfl) rfl ?_
    refine RunO.part 1 rfl ?_
    refine RunO.fldG (s := 5) (k := i) (off := 2) rfl (fun _ => rfl) (fun _ _ => rfl) rfl rfl ss rfl rfl hlt (fun _ _ => rfl) (sn_fld2 ew) rfl rfl rfl rfl rfl ?_
    refine RunO.all rfl ?_
    refine RunC.region (RunO.all rfl ?_)
    exact ⟨d - 1, by omega, i + 1, _, by omega, rfl, Le.cons (inc64x (by omega)) (Le.cons rfl (Le.cons rfl (Le.cons rfl (Le.nil _))))⟩
  rintro E' _ ⟨rfl, n, hE⟩
  refine RunC.le hE ?_
  clear hE

  refine RunC.seqc (fun E' h' => h1 = h' ∧ ∃ n : Int, Le ((upd (upd (upd E0 1 (.pointer (some ⟨p1, 0, none⟩))) 2 (.bool false)) 3 (.int .i64 n))) E') ?lb ?xb
  case lb =>
    refine RunC.seq (RunC.region (RunO.all rfl ?_))
    refine RunC.block ?_
    refine RunC.loop (fun d E h' => ∃ (i : Nat) (n : Int), i + d = O.length ∧ h1 = h' ∧ Le ((upd (upd (upd (upd E0 1 (.pointer (some ⟨p1, 0, none⟩))) 2 (.bool false)) 3 (.int .i64 n)) 5 (.int .i64 (i : Int)))) E) ?stb (k := O.length) ?inib
    case inib => exact ⟨0, n, by omega, rfl, Le.cons rfl (Le.cons rfl (Le.cons rfl (Le.cons rfl (Le.nil _))))⟩
    rintro d E _ ⟨i, n, hi, rfl, hE⟩
    refine RunC.le hE ?_
    clear hE
    refine RunC.seq (RunC.seq (RunC.region (RunO.part 2 rfl ?_)))
    refine RunO.load (v := .slice oA O.length oc) rfl (o1.ld rfl) rfl ?_
    refine RunO.all rfl ?_
    refine RunC.cond rfl (fun hlt => RunC.skip ?gob) (fun hge => RunC.exit ⟨rfl, n, Le.cons rfl (Le.cons rfl (Le.cons rfl (Le.nil _)))⟩)
    have hlt := of_decide_eq_true hlt
    have hlt : i < O.length := by omega
    obtain ⟨w, ew, rws⟩ := hso i O[i] (List.getElem?_eq_getElem hlt)
    obtain ⟨_, sw, _⟩ := rws
    obtain ⟨uA, uc, rfl, _, _⟩ := sw.form
    refine RunC.seq (RunC.block ?_)
    refine RunC.region (RunO.part 2 rfl ?_)
    refine RunO.load (v := .slice oA O.length oc) rfl (o1.ld rfl) rfl ?_
    refine RunO.part 1 rfl ?_
    refine RunO.fldG (s := 5) (k := i) (off := 2) rfl (fun _ => rfl) (fun _ _ => rfl) rfl rfl so rfl rfl hlt (fun _ _ => rfl) (sn_fld2 ew) rfl rfl rfl rfl rfl ?_
    refine RunO.all rfl ?_
    refine RunC.region (RunO.all rfl ?_)
    exact ⟨d - 1, by omega, i + 1, _, by omega, rfl, Le.cons (inc64x (by omega)) (Le.cons rfl (Le.cons rfl (Le.cons rfl (Le.nil _))))⟩
  rintro E' _ ⟨rfl, n, hE⟩
  refine RunC.le hE ?_
  clear hE

  refine RunC.seqc (fun E' h' => h1 = h' ∧ Le ((upd (upd E0 1 (.pointer (some ⟨p1, 0, none⟩))) 2 (.bool false))) E') ?g2 ?x2
  case g2 =>
    refine RunC.seq (RunC.region (RunO.all rfl ?_))
    cases decide (n > 300) with
    | true =>
      refine RunC.cond rfl (fun _ => ?_) (fun g => by cases g)
      exact RunC.seq (RunC.region (RunO.all rfl (RunC.ret ⟨_, rfl, ⟨_, rfl⟩, f1⟩)))
    | false => exact RunC.cond rfl (fun g => by cases g) (fun _ => RunC.skip ⟨rfl, Le.cons rfl (Le.cons rfl (Le.nil _))⟩)
  rintro E' _ ⟨rfl, hE⟩
  refine RunC.le hE ?_
  clear hE
  refine RunC.seq (RunC.seq (RunC.region (RunO.all rfl ?_)))
  refine RunC.block ?_
  refine RunC.loop (fun d E h' => ∃ (i : Nat), i + d = H.length ∧ h1 = h' ∧ Le ((upd (upd (upd E0 1 (.pointer (some ⟨p1, 0, none⟩))) 2 (.bool false)) 6 (.int .i64 (i : Int)))) E) ?stc (k := H.length) ?inic
  case inic => exact ⟨0, by omega, rfl, Le.cons rfl (Le.cons rfl (Le.cons rfl (Le.nil _)))⟩
  rintro d E _ ⟨i, hi, rfl, hE⟩
  refine RunC.le hE ?_
  clear hE
  refine RunC.seq (RunC.seq (RunC.region (RunO.part 2 rfl ?_)))
  refine RunO.load (v := .slice hA H.length hc) rfl (o1.ld rfl) rfl ?_
  refine RunO.all rfl ?_
  refine RunC.cond rfl (fun hlt => RunC.skip ?goc) (fun hge => RunC.exit (RunC.seq (RunC.region (RunO.all rfl (RunC.ret ⟨_, rfl, ⟨_, rfl⟩, f1⟩)))))
  have hlt := of_decide_eq_true hlt
  have hlt : i < H.length := by omega
  obtain ⟨w, ew, sw⟩ := hsh i H[i] (List.getElem?_eq_getElem hlt)
  obtain ⟨uA, uc, rfl, _, _⟩ := sw.form
  refine RunC.seq (RunC.block ?_)
  refine RunC.seq (RunC.region (RunO.part 1 rfl ?_))
  refine RunO.load (v := .slice hA H.length hc) rfl (o1.ld rfl) rfl ?_
  refine RunO.part 1 rfl ?_
  refine RunO.at (s := 1) (k := i) rfl rfl sh rfl rfl hlt (row_part ew) rfl rfl rfl (RunO.all rfl ?_)
  cases decide ((H[i].length : Int) > 200) with
  | true =>
    refine RunC.cond rfl (fun _ => ?_) (fun g => by cases g)
    exact RunC.seq (RunC.region (RunO.all rfl (RunC.ret ⟨_, rfl, ⟨_, rfl⟩, f1⟩)))
  | false =>
    refine RunC.cond rfl (fun g => by cases g) (fun _ => RunC.skip ?_)
    refine RunC.region (RunO.all rfl ?_)
    exact ⟨d - 1, by omega, i + 1, by omega, rfl, Le.cons (inc64x (by omega)) (Le.cons rfl (Le.cons rfl (Le.nil _)))⟩
/-- A row of one's own, written over. -/
theorem spoil_ok {h : Heap} {b : Nat} {x : List Int} (ow : Ow h b (us x)) (hx : x.length ≤ 9223372036854775807) : RunF prog 31 [.slice (some ⟨b, 0, none⟩) x.length (exc x.length)] h fun v h' => Fr (· = b) h h' ∧ ∃ y : List Int, y.length = x.length ∧ Ow h' b (us y) := by
  refine RunF.walk func31 rfl rfl ?_
  refine RunC.seq (RunC.region (RunO.all rfl ?_))
  refine RunC.block ?_
  refine RunC.loop (fun d E h' => ∃ (i : Nat) (y : List Int), i + d = x.length ∧ y.length = x.length ∧ Ow h' b (us y) ∧ Fr (· = b) h h' ∧ Le ((upd (upd E0 0 (.slice (some ⟨b, 0, none⟩) x.length (exc x.length))) 2 (.int .i64 (i : Int)))) E) ?st (k := x.length) ?ini
  case ini => exact ⟨0, x, by omega, rfl, ow, Fr.refl _ _, Le.cons rfl (Le.cons rfl (Le.nil _))⟩
  rintro d E g ⟨i, y, hi, hy, oy, fy, hE⟩
  refine RunC.le hE ?_
  clear hE
  refine RunC.seq (RunC.seq (RunC.region (RunO.all rfl ?_)))
  refine RunC.cond rfl (fun hlt => RunC.skip ?go) (fun hge => RunC.exit ⟨_, rfl, fy, y, hy, oy⟩)
  have hlt := of_decide_eq_true hlt
  have hlt : i < x.length := by omega
  have hly : i < y.length := by omega
  refine RunC.seq (RunC.block ?_)
  refine RunC.region (RunO.part 4 rfl ?_)
  refine RunO.index (s := 1) (k := i) rfl rfl rfl rfl hlt rfl ?_
  refine RunO.load (v := .int .u8 y[i]) rfl (oy.all.cell1 (k := i * 1) rfl (by rw [Nat.mul_one]; exact us_nth hly)) rfl ?_
  refine RunO.part 1 rfl ?_
  refine RunO.index (s := 1) (k := i) rfl rfl rfl rfl hlt rfl ?_
  rw [Nat.mul_one, Nat.zero_add]
  refine RunO.store rfl rfl (store1_ow oy rfl rfl rfl (by rw [us_len]; exact hly)) (RunO.nil ?_)
  have e : (us y).set i (.int .u8 (fwrap .u8 (y[i] + 7))) = us (y.set i (fwrap .u8 (y[i] + 7))) := by unfold us; rw [List.map_set]
  rw [e]
  have f2 : Fr (· = b) g (g.put b (some ⟨us (y.set i (fwrap .u8 (y[i] + 7))), true⟩)) := Fr.put _ (.inl rfl)
  have o2 : Ow (g.put b (some ⟨us (y.set i (fwrap .u8 (y[i] + 7))), true⟩)) b (us (y.set i (fwrap .u8 (y[i] + 7)))) := Ow.put _ oy.1
  generalize g.put b (some ⟨us (y.set i (fwrap .u8 (y[i] + 7))), true⟩) = g2 at *
  refine RunC.region (RunO.all rfl ?_)
  exact ⟨d - 1, by omega, i + 1, _, by omega, by rw [List.length_set]; exact hy, o2, fy.trans f2 (fun b g => .inl g), Le.cons (inc64x (by omega)) (Le.cons rfl (Le.nil _))⟩
/-- Rows of one's own, of any content. -/
def RwE (N : Nat → Prop) (h : Heap) (v : Value) (n : Nat) : Prop :=
  ∃ cs, Sl h v 1 n cs ∧ (∀ b o c, v = .slice (some ⟨b, o, none⟩) n c → N b ∧ o = 0) ∧ ∀ j, j < n → ∃ (b : Nat) (x : List Int), cs[j]? = some (.slice (some ⟨b, 0, none⟩) x.length (exc x.length)) ∧ x.length ≤ 9223372036854775807 ∧ Ow h b (us x) ∧ N b ∧ ¬ At v b
theorem RwN.rwE {N : Nat → Prop} {h : Heap} {v : Value} {rows : List (List Int)} (r : RwN N h v rows) : RwE N h v rows.length := by
  obtain ⟨cs, h1, h2, h3⟩ := r
  refine ⟨cs, h1, h2, fun j hj => ?_⟩
  obtain ⟨w, e, sw, so, hw⟩ := h3 j rows[j] (List.getElem?_eq_getElem hj)
  obtain ⟨b, rfl, ow⟩ := so
  have := hw b 0 _ rfl
  exact ⟨b, rows[j], e, sw.2.1, ow, this.1, this.2⟩
theorem RwE.fr0 {N : Nat → Prop} {h h' : Heap} {v : Value} {n : Nat} (r : RwE N h v n) (f : Fr no h h') : RwE N h' v n := by
  obtain ⟨cs, h1, h2, h3⟩ := r
  refine ⟨cs, h1.fr0 f, h2, fun j hj => ?_⟩
  obtain ⟨b, x, e, hx, ow, g1, g2⟩ := h3 j hj
  exact ⟨b, x, e, hx, ow.fr f (fun g => g), g1, g2⟩
theorem RwE.put {N : Nat → Prop} {h h' : Heap} {A : Option Addr} {c n b0 : Nat} {y : List Int} (r : RwE N h (.slice A n c) n) (f : Fr (· = b0) h h') (hb : ¬ At (.slice A n c) b0) (oy : Ow h' b0 (us y)) (hy : ∀ x : List Int, Ow h b0 (us x) → y.length = x.length) : RwE N h' (.slice A n c) n := by
  obtain ⟨cs, h1, h2, h3⟩ := r
  refine ⟨cs, h1.frm (fun b o c e g => hb (by have g : b = b0 := g; subst g; obtain ⟨_, rfl⟩ := h2 b o c e; exact ⟨n, c, e⟩)) f, h2, fun j hj => ?_⟩
  obtain ⟨b, x, e, hx, ow, g1, g2⟩ := h3 j hj
  by_cases hbb : b = b0
  · subst hbb
    have := hy x ow
    exact ⟨b, y, by rw [e, this], by omega, oy, g1, g2⟩
  · exact ⟨b, x, e, hx, ow.fr f hbb, g1, g2⟩
end Go.Proofs.Ytnokcbenpnmnbaa
end
section
set_option linter.unusedVariables false
set_option linter.unusedSectionVars false
set_option maxRecDepth 100000
open Go Go.Am Go.RowKit
namespace Go.Proofs.Ytnokcbenpnmnbaa
open Go.Proofs.Try

theorem lk_two {L : List Int} (h : (lk L).2 = 2) : devOk L.length = false := by
  cases hd : devOk L.length with
  | false => rfl
  | true =>
    exfalso
    unfold lk at h
    rw [hd, if_pos rfl] at h
    split at h
    · split at h
      · unfold lkM at h
        split at h
        · cases h
        · split at h <;> cases h
      · cases h
    · cases h
set_option maxHeartbeats 64000000 in
theorem viewExact_true : ∀ h xs avs, ArgsK [.slice (.int .u8), .int .i64, .int .i64, ShView, ShView] h xs avs → RunF prog 4 avs h fun v _ => v = .bool true := by
  intro h xs avs ha
  obtain ⟨L, _, iv, _, rfl, sl, hwf, ha⟩ := argInts ha
  obtain ⟨root, _, _, rfl, _, ha⟩ := argInt ha
  obtain ⟨size, _, _, rfl, _, ha⟩ := argInt ha
  obtain ⟨H1, S1, O1, _, hv1, sv1, ov1, _, rfl, a1, a2, a3, c1, c2, c3, ha⟩ := argView ha
  obtain ⟨H2, S2, O2, _, hv2, sv2, ov2, _, rfl, b1, b2, b3, d1, d2, d3, ha⟩ := argView ha
  obtain rfl := argNil ha
  have hb : Byt L := fun x hx => wf_u8 (hwf x hx)
  have sl0 : Sl h iv 1 L.length (us L) := sl
  clear sl
  obtain ⟨iA, ic, rfl, _, _⟩ := sl0.form
  have t_ := a1
  obtain ⟨_, t_, _⟩ := t_
  obtain ⟨hA1, hc1, rfl, _, _⟩ := t_.form
  clear t_
  have t_ := a2
  obtain ⟨_, t_, _⟩ := t_
  obtain ⟨sA1, sc1, rfl, _, _⟩ := t_.form
  clear t_
  have t_ := a3
  obtain ⟨_, t_, _⟩ := t_
  obtain ⟨oA1, oc1, rfl, _, _⟩ := t_.form
  clear t_
  have t_ := b1
  obtain ⟨_, t_, _⟩ := t_
  obtain ⟨hA2, hc2, rfl, _, _⟩ := t_.form
  clear t_
  have t_ := b2
  obtain ⟨_, t_, _⟩ := t_
  obtain ⟨sA2, sc2, rfl, _, _⟩ := t_.form
  clear t_
  have t_ := b3
  obtain ⟨_, t_, _⟩ := t_
  obtain ⟨oA2, oc2, rfl, _, _⟩ := t_.form
  clear t_

  refine RunF.walk func4 rfl rfl ?_
  refine RunC.seq (RunC.region (RunO.part 1 (h1 := h.push ⟨[.slice hA1 H1.length hc1, .slice sA1 S1.length sc1, .slice oA1 O1.length oc1], true⟩) rfl ?_))
  have o8 := Ow.push h ([.slice hA1 H1.length hc1, .slice sA1 S1.length sc1, .slice oA1 O1.length oc1])
  have f0 : Fr no h (h.push ⟨[.slice hA1 H1.length hc1, .slice sA1 S1.length sc1, .slice oA1 O1.length oc1], true⟩) := Fr.push _ _ _
  generalize h.push ⟨[.slice hA1 H1.length hc1, .slice sA1 S1.length sc1, .slice oA1 O1.length oc1], true⟩ = h00 at *
  obtain ⟨p8, hp8⟩ : ∃ q, q = h.next := ⟨_, rfl⟩
  rw [← hp8] at o8 ⊢
  refine RunO.part 1 (h1 := h00.push ⟨[.slice hA2 H2.length hc2, .slice sA2 S2.length sc2, .slice oA2 O2.length oc2], true⟩) rfl (RunO.all rfl ?_)
  have o9 := Ow.push h00 ([.slice hA2 H2.length hc2, .slice sA2 S2.length sc2, .slice oA2 O2.length oc2])
  have f00 : Fr no h00 (h00.push ⟨[.slice hA2 H2.length hc2, .slice sA2 S2.length sc2, .slice oA2 O2.length oc2], true⟩) := Fr.push _ _ _
  replace o8 := o8.fr f00 (fun g => g)
  generalize h00.push ⟨[.slice hA2 H2.length hc2, .slice sA2 S2.length sc2, .slice oA2 O2.length oc2], true⟩ = h0 at *
  obtain ⟨p9, hp9⟩ : ∃ q, q = h00.next := ⟨_, rfl⟩
  rw [← hp9] at o9 ⊢
  have F0 := f0.same f00
  clear hp8 hp9 f0 f00
  replace sl0 := sl0.fr0 F0
  replace a1 := a1.fr0 F0
  replace a2 := a2.fr0 F0
  replace a3 := a3.fr0 F0
  replace b1 := b1.fr0 F0
  replace b2 := b2.fr0 F0
  replace b3 := b3.fr0 F0
  clear F0
  refine RunC.seqc (fun E' h' => Fr no h0 h' ∧ L.length ≤ 19200 ∧ Le ((upd (upd (upd (upd (upd E0 0 (.slice iA L.length ic)) 1 (.int .i64 root)) 2 (.int .i64 size)) 8 (.pointer (some ⟨p8, 0, none⟩))) 9 (.pointer (some ⟨p9, 0, none⟩)))) E') ?hv ?nx
  case hv =>
    refine RunC.seqc (fun E' h' => Fr no h0 h' ∧ ∃ b : Bool, (b = true ∨ L.length ≤ 19200) ∧ Le ((upd (upd (upd (upd (upd (upd E0 0 (.slice iA L.length ic)) 1 (.int .i64 root)) 2 (.int .i64 size)) 8 (.pointer (some ⟨p8, 0, none⟩))) 9 (.pointer (some ⟨p9, 0, none⟩))) 31 (.bool b))) E') ?hr ?hc
    case hc =>
      rintro E' h' ⟨f, b, hb1, hE⟩
      refine RunC.le hE ?_
      clear hE
      cases b with
      | true =>
        refine RunC.cond rfl (fun _ => ?_) (fun g => by cases g)
        exact RunC.seq (RunC.region (RunO.all rfl (RunC.ret ⟨_, rfl, rfl⟩)))
      | false =>
        have q1 := hb1.resolve_left (fun g => by cases g)
        exact RunC.cond rfl (fun g => by cases g) (fun _ => RunC.skip ⟨f, q1, Le.cons rfl (Le.cons rfl (Le.cons rfl (Le.cons rfl (Le.cons rfl (Le.nil _)))))⟩)
    refine RunC.region ?_
    (repeat (first | refine RunO.step rfl ?_ | refine RunO.loadG rfl rfl (Ow.ld (by assumption) (by rfl)) rfl ?_ | refine RunO.nil ?_))
    refine RunO.callD (heavy_ok sl0) rfl rfl rfl ?_
    rintro _ _ ⟨rfl, rfl⟩
    by_cases g1 : (L.length : Int) > 19200
    · rw [decide_eq_true g1]
      (repeat (first | refine RunO.step rfl ?_ | refine RunO.loadG rfl rfl (Ow.ld (by assumption) (by rfl)) rfl ?_ | refine RunO.nil ?_))
      exact ⟨Fr.refl _ _, true, .inl rfl, Le.cons rfl (Le.cons rfl (Le.cons rfl (Le.cons rfl (Le.cons rfl (Le.cons rfl (Le.nil _))))))⟩
    rw [decide_eq_false g1]
    (repeat (first | refine RunO.step rfl ?_ | refine RunO.loadG rfl rfl (Ow.ld (by assumption) (by rfl)) rfl ?_ | refine RunO.nil ?_))
    refine RunO.callDG rfl (heavy17_ok a1 a2 a3) rfl rfl rfl ?_
    rintro _ k1 ⟨⟨x, rfl⟩, e1⟩
    have o9k := o9.fr e1 (fun g => g)
    cases x with
    | true =>
      (repeat (first | refine RunO.step rfl ?_ | refine RunO.loadG rfl rfl (Ow.ld (by assumption) (by rfl)) rfl ?_ | refine RunO.nil ?_))
      exact ⟨e1, true, .inl rfl, Le.cons rfl (Le.cons rfl (Le.cons rfl (Le.cons rfl (Le.cons rfl (Le.cons rfl (Le.nil _))))))⟩
    | false =>
      (repeat (first | refine RunO.step rfl ?_ | refine RunO.loadG rfl rfl (Ow.ld (by assumption) (by rfl)) rfl ?_ | refine RunO.nil ?_))
      refine RunO.callDG rfl (heavy17_ok (b1.fr0 e1) (b2.fr0 e1) (b3.fr0 e1)) rfl rfl rfl ?_
      rintro _ k2 ⟨⟨y, rfl⟩, e2⟩
      (repeat (first | refine RunO.step rfl ?_ | refine RunO.loadG rfl rfl (Ow.ld (by assumption) (by rfl)) rfl ?_ | refine RunO.nil ?_))
      exact ⟨e1.same e2, y, .inr (by omega), Le.cons rfl (Le.cons rfl (Le.cons rfl (Le.cons rfl (Le.cons rfl (Le.cons rfl (Le.nil _))))))⟩
  rintro E' h1 ⟨f1, hL, hE⟩
  refine RunC.le hE ?_
  clear hE
  have hm : L.length ≤ 4611686018427387904 := by omega
  -- the twin
  refine RunC.seq (RunC.region (RunO.part 1 rfl ?_))
  refine RunO.callD (twin_ok (sl0.fr0 f1) (by omega)) rfl rfl rfl ?_
  rintro w h2 ⟨row, f2⟩
  have sw := row.sl (by omega)
  obtain ⟨wA, wc, rfl, _, _⟩ := sw.form
  refine RunO.all rfl ?_
  -- the view
  refine RunC.seq (RunC.region (RunO.part 1 rfl ?_))
  refine RunO.callD (viewOfN_ok sw hb hm) rfl rfl rfl ?_
  rintro v3 h3 ⟨f3, hv⟩
  have hn23 := f3.next
  obtain ⟨hA, hn, hc, sv, ov, rfl, rE, hsv, hov, hV0, hV1⟩ : ∃ hA hn hc sv ov, v3 = .tuple #[.agg ⟨[.slice hA hn hc, sv, ov]⟩, .int .i64 (lk L).2] ∧ RwE (fun b => h2.next ≤ b ∧ b < h3.next) h3 (.slice hA hn hc) hn ∧ isCell sv = true ∧ isCell ov = true ∧ ((lk L).2 = 0 → Rws h3 (.slice hA hn hc) (vwH L) ∧ Sns h3 sv (vwS L (lkF L).1) ∧ Sns h3 ov (vwO L (lkF L).1)) ∧ ((lk L).2 ≠ 0 → hA = none ∧ hn = 0 ∧ hc = 0 ∧ sv = .slice none 0 0 ∧ ov = .slice none 0 0) := by
    rcases hv with ⟨g, hv, sv, ov, rfl, r1, r2, r3⟩ | ⟨g, rfl⟩
    · have r1' := r1
      obtain ⟨_, t_, _⟩ := r1'
      obtain ⟨hA, hc, rfl, _, _⟩ := t_.form
      have r2' := r2
      obtain ⟨_, t2_, _⟩ := r2'
      obtain ⟨sA, sc_, rfl, _, _⟩ := t2_.form
      have r3' := r3
      obtain ⟨_, t3_, _⟩ := r3'
      obtain ⟨oA, oc, rfl, _, _⟩ := t3_.form
      refine ⟨hA, _, hc, _, _, by rw [g], (r1.weak (M := fun b => h2.next ≤ b ∧ b < h3.next) (fun b g1 g2 => ⟨g2, g1⟩)).rwE, rfl, rfl, fun _ => ⟨r1.rws, r2, r3⟩, fun e => absurd g e⟩
    · exact ⟨none, 0, 0, _, _, rfl, ⟨[], Sl.nil _ _, (fun b o c e => by cases e), fun j hj => absurd hj (Nat.not_lt_zero _)⟩, rfl, rfl, fun e => absurd e g, fun _ => ⟨rfl, rfl, rfl, rfl, rfl⟩⟩
  clear hv
  refine RunO.part 4 (h1 := h3.push ⟨[.slice none 0 0, .slice none 0 0, .slice none 0 0], true⟩) rfl ?_
  have o12z := Ow.push h3 [.slice none 0 0, .slice none 0 0, .slice none 0 0]
  have f4 : Fr no h3 (h3.push ⟨[.slice none 0 0, .slice none 0 0, .slice none 0 0], true⟩) := Fr.push _ _ _
  generalize h3.push ⟨[.slice none 0 0, .slice none 0 0, .slice none 0 0], true⟩ = h4 at *
  obtain ⟨p12, hp12⟩ : ∃ q, q = h3.next := ⟨_, rfl⟩
  rw [← hp12] at o12z ⊢
  refine RunO.store rfl rfl (store_ow (s := 3) o12z rfl rfl (by show cond (isCell sv) (cond (isCell ov) true false) false = true; rw [hsv, hov]; rfl) (Nat.le_refl 3)) (RunO.all rfl ?_)
  have o12 : Ow (h4.put p12 (some ⟨[.slice hA hn hc, sv, ov], true⟩)) p12 [.slice hA hn hc, sv, ov] := Ow.put _ o12z.1
  have f5 : Fr (· = p12) h4 (h4.put p12 (some ⟨[.slice hA hn hc, sv, ov], true⟩)) := Fr.put _ (.inl rfl)
  show RunC prog _ _ _ (h4.put p12 (some ⟨[.slice hA hn hc, sv, ov], true⟩)) _ _ _
  generalize h4.put p12 (some ⟨[.slice hA hn hc, sv, ov], true⟩) = h5 at *
  have F35 : Fr no h3 h5 := f4.trans f5 (fun b g => .inr (by have g : b = p12 := g; omega))
  clear o12z f4 f5
  have sw5 := (sw.fr0 f3).fr0 F35
  have hn35 := F35.next
  -- sectors
  refine RunC.seq (RunC.region (RunO.part 3 rfl ?_))
  refine RunO.callD (viewSectors_ok sw5 hb hm) rfl rfl rfl ?_
  rintro v6 h6 ⟨f6, hv⟩
  obtain ⟨lA, ln, lc, rfl, hL0, hL1⟩ : ∃ lA ln lc, v6 = .tuple #[.slice lA ln lc, .int .i64 (vsE L root size)] ∧ (vsE L root size ≠ 0 → ln = 0) ∧ (vsE L root size = 0 → RwN (fun b => h5.next ≤ b) h6 (.slice lA ln lc) (secsL L (treeM L root) size.toNat)) := by
    rcases hv with ⟨g, rv, rfl, r⟩ | ⟨g, rfl⟩
    · have rN := r.rwN (by unfold secsL; rw [List.length_map, List.length_take, treeM_len]; omega)
      have rN' := rN
      obtain ⟨_, t_, _⟩ := rN'
      obtain ⟨lA, lc, rfl, _, _⟩ := t_.form
      exact ⟨lA, _, lc, by rw [g], fun e => absurd g e, fun _ => rN⟩
    · exact ⟨none, 0, 0, rfl, fun _ => rfl, fun e => absurd e g⟩
  clear hv
  refine RunO.all rfl ?_
  have F06 : Fr no h0 h6 := f1.same (f2.same (f3.same (F35.same f6)))
  have o8_6 := o8.fr F06 (fun g => g)
  have o9_6 := o9.fr F06 (fun g => g)
  -- the same
  refine RunC.seqc (fun E' h' => Fr no h6 h' ∧ Le ((upd (upd (upd (upd (upd (upd (upd (upd (upd (upd E0 0 (.slice iA L.length ic)) 1 (.int .i64 root)) 2 (.int .i64 size)) 8 (.pointer (some ⟨p8, 0, none⟩))) 9 (.pointer (some ⟨p9, 0, none⟩))) 11 (.slice wA L.length wc)) 12 (.pointer (some ⟨p12, 0, none⟩))) 13 (.int .i64 (lk L).2)) 14 (.slice lA ln lc)) 15 (.int .i64 (vsE L root size)))) E') ?sm ?nx2
  case sm =>
    refine RunC.seq (RunC.drawQ rfl ?_)
    (repeat (first | refine RunQ.step rfl ?_ | refine RunQ.load rfl rfl (Ow.ld (by assumption) (by rfl)) rfl ?_ | refine RunQ.nil ?_))
    refine RunQ.call rfl (viewSame_ok (h := h6.lo h6.next) (show Rws h6 _ _ from a1.fr0 F06) (show Sns h6 _ _ from a2.fr0 F06) (show Sns h6 _ _ from a3.fr0 F06) (show Rws h6 _ _ from b1.fr0 F06) (show Sns h6 _ _ from b2.fr0 F06) (show Sns h6 _ _ from b3.fr0 F06) c1 c2 c3 d1 d2 d3) (fun v h1 q => q.2) rfl rfl rfl ?_
    rintro _ g1 ⟨rfl, e1⟩
    have o8a := Ow.fr (h := Heap.lo h6 h6.next) o8_6 e1 (fun g => g)
    have o9a := Ow.fr (h := Heap.lo h6 h6.next) o9_6 e1 (fun g => g)
    have E1 : Fr no h0 g1 := F06.trans (h := h0) (Fr.refl no h6) (fun b g => g.elim) |> fun f => f.same ⟨e1.next, e1.get, fun l a b c => e1.low l b b c⟩
    (repeat (first | refine RunQ.step rfl ?_ | refine RunQ.load rfl rfl (Ow.ld (by assumption) (by rfl)) rfl ?_ | refine RunQ.nil ?_))
    refine RunQ.call rfl (keepView_ok (h := g1.lo g1.next) (show Rws g1 _ _ from a1.fr0 E1) (show Sns g1 _ _ from a2.fr0 E1) (show Sns g1 _ _ from a3.fr0 E1) (show Rws g1 _ _ from b1.fr0 E1) (show Sns g1 _ _ from b2.fr0 E1) (show Sns g1 _ _ from b3.fr0 E1) c1 c2 c3 d1 d2 d3) (fun v h1 q => q.2) rfl rfl rfl ?_
    rintro _ g2 ⟨rfl, e2⟩
    have o8b := Ow.fr (h := Heap.lo g1 g1.next) o8a e2 (fun g => g)
    have E2 : Fr no h0 g2 := E1.same ⟨e2.next, e2.get, fun l a b c => e2.low l b b c⟩
    generalize (((H1 == H2) && (S1 == S2)) && (O1 == O2)) = X
    cases X <;> (
      (repeat (first | refine RunQ.step rfl ?_ | refine RunQ.load rfl rfl (Ow.ld (by assumption) (by rfl)) rfl ?_ | refine RunQ.nil ?_))
      refine RunQ.call rfl (viewSame_ok (h := g2.lo g2.next) (show Rws g2 _ _ from a1.fr0 E2) (show Sns g2 _ _ from a2.fr0 E2) (show Sns g2 _ _ from a3.fr0 E2) (show Rws g2 _ _ from a1.fr0 E2) (show Sns g2 _ _ from a2.fr0 E2) (show Sns g2 _ _ from a3.fr0 E2) c1 c2 c3 c1 c2 c3) (fun v h1 q => q.2) rfl rfl rfl ?_
      rintro _ g3 ⟨rfl, e3⟩
      rw [beq_self_eq_true H1, beq_self_eq_true S1, beq_self_eq_true O1]
      (repeat (first | refine RunQ.step rfl ?_ | refine RunQ.load rfl rfl (Ow.ld (by assumption) (by rfl)) rfl ?_ | refine RunQ.nil ?_))
      intro lw Fd
      exact RunC.cond rfl (fun g => by cases g) (fun _ => RunC.skip ⟨Fd, Le.cons rfl (Le.cons rfl (Le.cons rfl (Le.cons rfl (Le.cons rfl (Le.cons rfl (Le.cons rfl (Le.cons rfl (Le.cons rfl (Le.cons rfl (Le.nil _))))))))))⟩))
  rintro E' h7 ⟨f7, hE⟩
  refine RunC.le hE ?_
  clear hE
  have F07 := F06.same f7
  have F27 : Fr no h2 h7 := f3.same (F35.same (f6.same f7))
  have F37 : Fr no h3 h7 := F35.same (f6.same f7)
  have sl7 := sl0.fr0 F07
  replace o12 := (o12.fr f6 (fun g => g)).fr f7 (fun g => g)
  have hn7 := F37.next
  -- the page
  refine RunC.seq (RunC.region (RunO.part 1 rfl ?_))
  refine RunO.callD (refOpen10_u sl7 hb hm) rfl rfl rfl ?_
  rintro _ ho ⟨fo1, S, slot, rv, bv, mv, nv, fb, rfl, orr⟩
  refine RunO.part 4 (h1 := ho.push ⟨(imx (0, 0, 0, 0, 0) 0 (.slice none 0 0) (.slice none 0 0) (.slice none 0 0) (.slice none 0 0)), true⟩) rfl ?_
  have ox := Ow.push ho (imx (0, 0, 0, 0, 0) 0 (.slice none 0 0) (.slice none 0 0) (.slice none 0 0) (.slice none 0 0))
  have fo2 : Fr no ho (ho.push ⟨(imx (0, 0, 0, 0, 0) 0 (.slice none 0 0) (.slice none 0 0) (.slice none 0 0) (.slice none 0 0)), true⟩) := Fr.push _ _ _
  generalize ho.push ⟨(imx (0, 0, 0, 0, 0) 0 (.slice none 0 0) (.slice none 0 0) (.slice none 0 0) (.slice none 0 0)), true⟩ = ho1 at *
  obtain ⟨qx, hqx⟩ : ∃ q, q = ho.next := ⟨_, rfl⟩
  rw [← hqx] at ox ⊢
  refine RunO.part 1 (h1 := ho1.push ⟨[.int .i64 0, .int .i64 0], true⟩) rfl ?_
  have of := Ow.push ho1 [.int .i64 0, .int .i64 0]
  have fo3 : Fr no ho1 (ho1.push ⟨[.int .i64 0, .int .i64 0], true⟩) := Fr.push _ _ _
  have hxl := ox.1
  replace ox := ox.fr fo3 (fun g => g)
  generalize ho1.push ⟨[.int .i64 0, .int .i64 0], true⟩ = ho2 at *
  obtain ⟨qf, hqf⟩ : ∃ q, q = ho1.next := ⟨_, rfl⟩
  rw [← hqf] at of ⊢
  refine RunO.store rfl rfl (store_ow (s := 10) ox rfl rfl orr.cells (Nat.le_refl 10)) ?_
  rw [imx_store]
  have fo4 : Fr (· = qx) ho2 (ho2.put qx (some ⟨imx S slot rv bv mv nv, true⟩)) := Fr.put _ (.inl rfl)
  have ox' : Ow (ho2.put qx (some ⟨imx S slot rv bv mv nv, true⟩)) qx (imx S slot rv bv mv nv) := Ow.put _ ox.1
  have of' := of.fr fo4 (fun e => by have e : qf = qx := e; omega)
  generalize ho2.put qx (some ⟨imx S slot rv bv mv nv, true⟩) = ho3 at *
  refine RunO.store rfl rfl (store_ow (s := 2) of' rfl rfl rfl (Nat.le_refl 2)) (RunO.all rfl ?_)
  have fo5 : Fr (· = qf) ho3 (ho3.put qf (some ⟨[.int .i64 fb, .int .i64 (lk L).2], true⟩)) := Fr.put _ (.inl rfl)
  have of'' : Ow (ho3.put qf (some ⟨[.int .i64 fb, .int .i64 (lk L).2], true⟩)) qf [.int .i64 fb, .int .i64 (lk L).2] := Ow.put _ of'.1
  replace ox' := ox'.fr fo5 (fun e => by have e : qx = qf := e; omega)
  show RunC prog _ _ _ (ho3.put qf (some ⟨[.int .i64 fb, .int .i64 (lk L).2], true⟩)) _ _ _
  have foo : Fr no ho (ho3.put qf (some ⟨[.int .i64 fb, .int .i64 (lk L).2], true⟩)) := ((fo2.same fo3).trans fo4 (fun b e => .inr (by have e : b = qx := e; omega))).trans fo5 (fun b e => .inr (by have e : b = qf := e; have := fo2.next; omega))
  have fo : Fr no h7 (ho3.put qf (some ⟨[.int .i64 fb, .int .i64 (lk L).2], true⟩)) := fo1.same foo
  replace orr := orr.fr0 foo
  generalize ho3.put qf (some ⟨[.int .i64 fb, .int .i64 (lk L).2], true⟩) = h8 at *
  have hqfn : h7.next ≤ qf := by have := fo1.next; have := fo2.next; omega
  clear fo1 fo2 fo3 fo4 fo5 foo ox of of' hxl

  have sl8 := sl7.fr0 fo
  have F38 := F37.same fo
  replace o12 := o12.fr fo (fun g => g)
  have hqf3 : h3.next ≤ qf := by omega
  refine RunC.seqc (fun E' h' => Fr no h8 h' ∧ Le ((upd (upd (upd (upd (upd (upd (upd (upd (upd (upd (upd (upd E0 0 (.slice iA L.length ic)) 1 (.int .i64 root)) 2 (.int .i64 size)) 8 (.pointer (some ⟨p8, 0, none⟩))) 9 (.pointer (some ⟨p9, 0, none⟩))) 11 (.slice wA L.length wc)) 12 (.pointer (some ⟨p12, 0, none⟩))) 13 (.int .i64 (lk L).2)) 14 (.slice lA ln lc)) 15 (.int .i64 (vsE L root size))) 16 (.pointer (some ⟨qx, 0, none⟩))) 17 (.pointer (some ⟨qf, 0, none⟩)))) E') ?vw ?nx3
  case vw =>
    by_cases hg : (lk L).2 = 0
    case neg =>
      obtain ⟨t1, t2, t3, t4, t5⟩ := hV1 hg
      subst t1; subst t2; subst t3; subst t4; subst t5
      refine RunC.seq (RunC.region (RunO.part 1 rfl ?_))
      refine RunO.load (v := .int .i64 (lk L).2) rfl (of''.ld rfl) rfl ?_
      refine RunO.part 1 rfl ?_
      rw [show ((lk L).2 != 0) = true from bne_iff_ne.2 hg]
      refine RunO.all rfl (RunC.cond rfl (fun _ => ?_) (fun g => by cases g))
      refine RunC.seq (RunC.region (RunO.part 2 rfl ?_))
      refine RunO.load (v := .int .i64 (lk L).2) rfl (of''.ld rfl) rfl ?_
      refine RunO.part 1 rfl ?_
      rw [bne_self_eq_false (lk L).2]
      (repeat (first | refine RunO.step rfl ?_ | refine RunO.loadG rfl rfl (Ow.ld (by assumption) (by rfl)) rfl ?_ | refine RunO.nil ?_))
      refine RunO.callDG rfl (keepView_ok (H := []) (H' := []) (S := []) (S' := []) (O := []) (O' := []) (Rws.nil _) (Sns.nil _) (Sns.nil _) (Rws.nil _) (Sns.nil _) (Sns.nil _) RwB.nil SB.nil SB.nil RwB.nil SB.nil SB.nil) rfl rfl rfl ?_
      rintro _ g1 ⟨rfl, e1⟩
      (repeat (first | refine RunO.step rfl ?_ | refine RunO.loadG rfl rfl (Ow.ld (by assumption) (by rfl)) rfl ?_ | refine RunO.nil ?_))
      exact RunC.cond rfl (fun g => by cases g) (fun _ => RunC.skip ⟨e1, Le.cons rfl (Le.cons rfl (Le.cons rfl (Le.cons rfl (Le.cons rfl (Le.cons rfl (Le.cons rfl (Le.cons rfl (Le.cons rfl (Le.cons rfl (Le.cons rfl (Le.cons rfl (Le.nil _))))))))))))⟩)
    obtain ⟨r1, r2, r3⟩ := hV0 hg
    obtain ⟨x1, x2, x3, srl, sbl, cm, cn_, smv, jm, snv, jn⟩ := orr.good hg
    subst x1; subst x2
    obtain ⟨rA_, rc1, y1, _, _⟩ := srl.form
    obtain ⟨bA_, bc1, y2, _, _⟩ := sbl.form
    obtain ⟨mA_, mc1, y3, _, _⟩ := smv.form
    obtain ⟨nA_, nc1, y4, _, _⟩ := snv.form
    obtain ⟨w1, w2, w3⟩ := view_RB hb hg
    rw [hg]
    rw [hg] at of''
    refine RunC.seq (RunC.region (RunO.part 1 rfl ?_))
    refine RunO.load (v := .int .i64 0) rfl (of''.ld rfl) rfl ?_
    refine RunO.all rfl (RunC.cond rfl (fun g => by cases g) (fun _ => ?_))
    refine RunC.seq (RunC.drawQ rfl ?_)
    refine RunQ.part 3 rfl ?_
    have hvl : aload prog h8 55 ⟨p12, 0, none⟩ = some (.agg ⟨[.slice hA hn hc, sv, ov]⟩) := o12.ld (by
      obtain ⟨_, t2_, _⟩ := r2
      obtain ⟨_, _, rfl, _, _⟩ := t2_.form
      obtain ⟨_, t3_, _⟩ := r3
      obtain ⟨_, _, rfl, _, _⟩ := t3_.form
      rfl)
    refine RunQ.load (v := .agg ⟨[.slice hA hn hc, sv, ov]⟩) rfl rfl hvl rfl ?_
    refine RunQ.part 1 rfl ?_
    refine RunQ.load (v := .agg ⟨imx (lkS L) (pickS L).2.1 rv bv mv nv⟩) rfl rfl (ox'.ld (by rw [y1, y2, y3, y4]; rfl)) rfl ?_
    refine RunQ.call rfl (refView10_ok (h := h8.lo h8.next) (show Sl h8 _ _ _ _ from sl8) hm hg (show Sl h8 _ _ _ _ from srl) (show Sl h8 _ _ _ _ from smv) (show JEl _ h8 _ _ from jm) (sl_cell sbl) (sl_cell snv)) (fun v h1 q => q.1) rfl rfl rfl ?_
    rintro _ g1 ⟨e1, hv', sv', ov', rfl, q1, q2, q3⟩
    have E1 : Fr no h3 g1 := F38.same ⟨e1.next, e1.get, fun l a b c => e1.low l b b c⟩
    refine RunQ.call rfl (keepView_ok (h := g1.lo g1.next) (show Rws g1 _ _ from r1.fr0 E1) (show Sns g1 _ _ from r2.fr0 E1) (show Sns g1 _ _ from r3.fr0 E1) (show Rws g1 _ _ from q1) (show Sns g1 _ _ from q2) (show Sns g1 _ _ from q3) w1 w2 w3 w1 w2 w3) (fun v h1 q => q.2) rfl rfl rfl ?_
    rintro _ g2 ⟨rfl, e2⟩
    rw [beq_self_eq_true (vwH L), beq_self_eq_true (vwS L (lkF L).1), beq_self_eq_true (vwO L (lkF L).1)]
    (repeat (first | refine RunQ.step rfl ?_ | refine RunQ.load rfl rfl (Ow.ld (by assumption) (by rfl)) rfl ?_ | refine RunQ.nil ?_))
    intro lw Fd
    exact RunC.cond rfl (fun g => by cases g) (fun _ => RunC.skip ⟨Fd, Le.cons rfl (Le.cons rfl (Le.cons rfl (Le.cons rfl (Le.cons rfl (Le.cons rfl (Le.cons rfl (Le.cons rfl (Le.cons rfl (Le.cons rfl (Le.cons rfl (Le.cons rfl (Le.nil _))))))))))))⟩)
  rintro E' h9 ⟨f9, hE⟩
  refine RunC.le hE ?_
  clear hE
  have F39 := F38.same f9
  replace o12 := o12.fr f9 (fun g => g)
  have of9 := of''.fr f9 (fun g => g)
  have rE9 := rE.fr0 F39
  -- spoilt
  have hp12b : ¬ (h2.next ≤ p12 ∧ p12 < h3.next) := by omega
  refine RunC.seqc (fun E' h' => Fr (fun b => h2.next ≤ b ∧ b < h3.next) h9 h' ∧ Le ((upd (upd (upd (upd (upd (upd (upd (upd (upd (upd (upd (upd E0 0 (.slice iA L.length ic)) 1 (.int .i64 root)) 2 (.int .i64 size)) 8 (.pointer (some ⟨p8, 0, none⟩))) 9 (.pointer (some ⟨p9, 0, none⟩))) 11 (.slice wA L.length wc)) 12 (.pointer (some ⟨p12, 0, none⟩))) 13 (.int .i64 (lk L).2)) 14 (.slice lA ln lc)) 15 (.int .i64 (vsE L root size))) 16 (.pointer (some ⟨qx, 0, none⟩))) 17 (.pointer (some ⟨qf, 0, none⟩)))) E') ?sp ?nx4
  case sp =>
    refine RunC.seq (RunC.region (RunO.all rfl ?_))
    refine RunC.block ?_
    refine RunC.loop (fun d E h' => ∃ (i : Nat), i + d = hn ∧ Fr (fun b => h2.next ≤ b ∧ b < h3.next) h9 h' ∧ RwE (fun b => h2.next ≤ b ∧ b < h3.next) h' (.slice hA hn hc) hn ∧ Le ((upd (upd (upd (upd (upd (upd (upd (upd (upd (upd (upd (upd (upd E0 0 (.slice iA L.length ic)) 1 (.int .i64 root)) 2 (.int .i64 size)) 8 (.pointer (some ⟨p8, 0, none⟩))) 9 (.pointer (some ⟨p9, 0, none⟩))) 11 (.slice wA L.length wc)) 12 (.pointer (some ⟨p12, 0, none⟩))) 13 (.int .i64 (lk L).2)) 14 (.slice lA ln lc)) 15 (.int .i64 (vsE L root size))) 16 (.pointer (some ⟨qx, 0, none⟩))) 17 (.pointer (some ⟨qf, 0, none⟩))) 18 (.int .i64 (i : Int)))) E) ?st (k := hn) ?ini
    case ini => exact ⟨0, by omega, Fr.refl _ _, rE9, Le.cons rfl (Le.cons rfl (Le.cons rfl (Le.cons rfl (Le.cons rfl (Le.cons rfl (Le.cons rfl (Le.cons rfl (Le.cons rfl (Le.cons rfl (Le.cons rfl (Le.cons rfl (Le.cons rfl (Le.nil _)))))))))))))⟩
    rintro d E g ⟨i, hi, fg, rg, hE⟩
    refine RunC.le hE ?_
    clear hE
    have og := o12.fr fg hp12b
    refine RunC.seq (RunC.seq (RunC.region (RunO.part 2 rfl ?_)))
    refine RunO.load (v := .slice hA hn hc) rfl (og.ld rfl) rfl ?_
    refine RunO.all rfl ?_
    refine RunC.cond rfl (fun hlt => RunC.skip ?go) (fun hge => RunC.exit ⟨fg, Le.cons rfl (Le.cons rfl (Le.cons rfl (Le.cons rfl (Le.cons rfl (Le.cons rfl (Le.cons rfl (Le.cons rfl (Le.cons rfl (Le.cons rfl (Le.cons rfl (Le.cons rfl (Le.nil _))))))))))))⟩)
    have hlt := of_decide_eq_true hlt
    have hlt : i < hn := by omega
    have rg0 := rg
    obtain ⟨cs, sc1, hcs, hrw⟩ := rg
    obtain ⟨b, x, e, hx, ow, ⟨n1, n2⟩, nat⟩ := hrw i hlt
    have hmx : hn ≤ 9223372036854775807 := sc1.2.1
    refine RunC.seq (RunC.block ?_)
    refine RunC.region (RunO.part 1 rfl ?_)
    refine RunO.load (v := .slice hA hn hc) rfl (og.ld rfl) rfl ?_
    refine RunO.part 1 rfl ?_
    refine RunO.at (s := 1) (k := i) rfl rfl sc1 rfl rfl hlt (row_part e) rfl rfl rfl ?_
    refine RunO.callD (spoil_ok ow hx) rfl rfl rfl ?_
    rintro _ g2 ⟨f2_, y, hy, oy⟩
    refine RunO.all rfl ?_
    refine RunC.region (RunO.all rfl ?_)
    exact ⟨d - 1, by omega, i + 1, by omega, fg.trans f2_ (fun q g => .inl (by have g : q = b := g; subst g; exact ⟨n1, n2⟩)), rg0.put f2_ nat oy (fun x' ox' => by
      have := ow.2.symm.trans ox'.2
      injection this with this
      injection this with this
      have := congrArg List.length this
      rw [us_len, us_len] at this
      omega), Le.cons (inc64x (by omega)) (Le.cons rfl (Le.cons rfl (Le.cons rfl (Le.cons rfl (Le.cons rfl (Le.cons rfl (Le.cons rfl (Le.cons rfl (Le.cons rfl (Le.cons rfl (Le.cons rfl (Le.cons rfl (Le.nil _)))))))))))))⟩
  rintro E' h10 ⟨f10, hE⟩
  refine RunC.le hE ?_
  clear hE
  have hn29 := (f3.same F39).next
  have G2 : Fr no h2 h10 := (f3.same F39).trans f10 (fun b g => .inr (by have : h2.next ≤ b := g.1; exact this))
  have G0 : Fr no h0 h10 := f1.same (f2.same G2)
  have sw10 := sw.fr0 G2
  have sl10 := sl0.fr0 G0
  have of10 := of9.fr f10 (fun g => by have g : h2.next ≤ qf ∧ qf < h3.next := g; omega)
  have hl10 : vsE L root size = 0 → RwN (fun b => h5.next ≤ b) h10 (.slice lA ln lc) (secsL L (treeM L root) size.toNat) := fun g => (((hL1 g).fr0 (f7.same fo)).fr0 f9).frm f10 (fun b g1 g2 => by have g1 : h5.next ≤ b := g1; have g2 : h2.next ≤ b ∧ b < h3.next := g2; omega)
  refine RunC.seq ?_
  refine RunC.seq (RunC.region (RunO.part 2 rfl ?_))
  refine RunO.callD (keepBytesS_ok sw10 sl10 hm) rfl rfl rfl ?_
  rintro _ _ ⟨rfl, rfl⟩
  rw [beq_self_eq_true L]
  refine RunO.all rfl (RunC.cond rfl (fun g => by cases g) (fun _ => RunC.skip ?_))
  -- a device
  refine RunC.seqc (fun E' h' => h10 = h' ∧ devOk L.length = true ∧ Le ((upd (upd (upd (upd (upd (upd (upd (upd (upd (upd (upd (upd E0 0 (.slice iA L.length ic)) 1 (.int .i64 root)) 2 (.int .i64 size)) 8 (.pointer (some ⟨p8, 0, none⟩))) 9 (.pointer (some ⟨p9, 0, none⟩))) 11 (.slice wA L.length wc)) 12 (.pointer (some ⟨p12, 0, none⟩))) 13 (.int .i64 (lk L).2)) 14 (.slice lA ln lc)) 15 (.int .i64 (vsE L root size))) 16 (.pointer (some ⟨qx, 0, none⟩))) 17 (.pointer (some ⟨qf, 0, none⟩)))) E') ?dv ?nx5
  case dv =>
    refine RunC.seq (RunC.region (RunO.part 1 rfl ?_))
    refine RunO.load (v := .int .i64 (lk L).2) rfl (of10.ld rfl) rfl ?_
    refine RunO.part 1 rfl ?_
    by_cases h2e : (lk L).2 = 2
    · have hd := lk_two h2e
      have ev : vsE L root size = 2 := by unfold vsE treeE; rw [hd]; rfl
      have tl := hL0 (by rw [ev]; decide)
      subst tl
      rw [ev]
      rw [show ((lk L).2 == 2) = true from beq_iff_eq.2 h2e]
      refine RunO.all rfl (RunC.cond rfl (fun _ => ?_) (fun g => by cases g))
      refine RunC.seq (RunC.region ?_)
      (repeat (first | refine RunO.step rfl ?_ | refine RunO.loadG rfl rfl (Ow.ld (by assumption) (by rfl)) rfl ?_ | refine RunO.nil ?_))
      refine RunO.callDG rfl wakes17_ok rfl rfl rfl ?_
      rintro _ h99 ⟨rfl, f99⟩
      exact RunO.all rfl (RunC.ret ⟨_, rfl, rfl⟩)
    · have hd : devOk L.length = true := by
        cases hd : devOk L.length with
        | true => rfl
        | false => exact absurd (by unfold lk; rw [hd]; rfl) h2e
      rw [show ((lk L).2 == 2) = false from beq_eq_false_iff_ne.2 h2e]
      exact RunO.all rfl (RunC.cond rfl (fun g => by cases g) (fun _ => RunC.skip ⟨rfl, hd, Le.cons rfl (Le.cons rfl (Le.cons rfl (Le.cons rfl (Le.cons rfl (Le.cons rfl (Le.cons rfl (Le.cons rfl (Le.cons rfl (Le.cons rfl (Le.cons rfl (Le.cons rfl (Le.nil _))))))))))))⟩))
  rintro E' _ ⟨rfl, hd, hE⟩
  refine RunC.le hE ?_
  clear hE
  refine RunC.seq (RunC.region (RunO.part 2 rfl ?_))
  refine RunO.callD (refTree_ok sl10 hb hd) rfl rfl rfl ?_
  rintro _ h11 ⟨f11, ⟨hto, mb, nv_, hmb, rfl, om, rn⟩ | ⟨hto, rfl⟩⟩
  case inr =>
    have ev : vsE L root size = 6 := by unfold vsE treeE; rw [hd, hto]; rfl
    have tl := hL0 (by rw [ev]; decide)
    subst tl
    rw [ev]
    refine RunO.all rfl ?_
    refine RunC.seq (RunC.block ?_)
    refine RunC.seq (RunC.region (RunO.all rfl ?_))
    refine RunC.cond rfl (fun _ => ?_) (fun g => by cases g)
    refine RunC.seq (RunC.region ?_)
    (repeat (first | refine RunO.step rfl ?_ | refine RunO.loadG rfl rfl (Ow.ld (by assumption) (by rfl)) rfl ?_ | refine RunO.nil ?_))
    refine RunO.callDG rfl wakes17_ok rfl rfl rfl ?_
    rintro _ h99 ⟨rfl, f99⟩
    exact RunO.all rfl (RunC.ret ⟨_, rfl, rfl⟩)
  have ete : treeE L root = 0 := by unfold treeE; rw [hd, hto]; rfl
  refine RunO.all rfl ?_
  by_cases hsz : size < 0 ∨ size > 512
  · have ev : vsE L root size = 1 := by unfold vsE; rw [if_pos ete, if_pos hsz]
    have tl := hL0 (by rw [ev]; decide)
    subst tl
    rw [ev]
    refine RunC.seq (RunC.block ?_)
    refine RunC.seq (RunC.region (RunO.all rfl ?_))
    refine RunC.cond rfl (fun g => by cases g) (fun _ => ?_)
    refine RunC.seqE ((upd (upd (upd E0 15 (.int .i64 1)) 14 (.slice lA 0 lc)) 137 (.bool true))) ?_ ?_
    · refine RunC.region (RunO.part 3 rfl ?_)
      by_cases g0 : size < 0
      · rw [decide_eq_true g0]
        exact RunO.all rfl ⟨rfl, Le.cons rfl (Le.cons rfl (Le.cons rfl (Le.nil _)))⟩
      · rw [decide_eq_false g0]
        refine RunO.part 2 rfl ?_
        rw [decide_eq_true (hsz.resolve_left g0)]
        exact RunO.all rfl ⟨rfl, Le.cons rfl (Le.cons rfl (Le.cons rfl (Le.nil _)))⟩
    refine RunC.cond rfl (fun _ => ?_) (fun g => by cases g)
    refine RunC.seq (RunC.region ?_)
    (repeat (first | refine RunO.step rfl ?_ | refine RunO.loadG rfl rfl (Ow.ld (by assumption) (by rfl)) rfl ?_ | refine RunO.nil ?_))
    refine RunO.callDG rfl wakes17_ok rfl rfl rfl ?_
    rintro _ h99 ⟨rfl, f99⟩
    exact RunO.all rfl (RunC.ret ⟨_, rfl, rfl⟩)
  have ev : vsE L root size = 0 := by unfold vsE; rw [if_pos ete, if_neg hsz]
  have rl := (hl10 ev).fr0 f11
  have slm : Sl h11 (.slice (some ⟨mb, 0, none⟩) 512 (exc 512)) 1 (treeM L root).length (is (treeM L root)) := by have := sl_owI om (treeM_len L root) (Cp.exc (Nat.le_refl _)) (by decide); exact this
  have rng := treeM_rng ete
  obtain ⟨z, rfl⟩ := Int.eq_ofNat_of_zero_le (show 0 ≤ size by omega)
  rw [ev]
  refine RunC.seq (RunC.block ?_)
  refine RunC.seq (RunC.region (RunO.all rfl ?_))
  refine RunC.cond rfl (fun g => by cases g) (fun _ => ?_)
  refine RunC.seq (RunC.region ?_)
  (repeat (first | refine RunO.step rfl ?_ | refine RunO.loadG rfl rfl (Ow.ld (by assumption) (by rfl)) rfl ?_ | refine RunO.nil ?_))
  rw [decide_eq_false (show ¬ ((z : Int) < 0) by omega)]
  (repeat (first | refine RunO.step rfl ?_ | refine RunO.loadG rfl rfl (Ow.ld (by assumption) (by rfl)) rfl ?_ | refine RunO.nil ?_))
  rw [decide_eq_false (show ¬ ((z : Int) > 512) by omega)]
  (repeat (first | refine RunO.step rfl ?_ | refine RunO.loadG rfl rfl (Ow.ld (by assumption) (by rfl)) rfl ?_ | refine RunO.nil ?_))
  refine RunC.cond rfl (fun g => by cases g) (fun _ => RunC.skip ?_)
  refine RunC.seq (RunC.region ?_)
  (repeat (first | refine RunO.step rfl ?_ | refine RunO.loadG rfl rfl (Ow.ld (by assumption) (by rfl)) rfl ?_ | refine RunO.nil ?_))
  refine RunO.callDG rfl (refSectors10_ok (n := z) (sl10.fr0 f11) slm rng (by rw [treeM_len]; omega) (by rw [treeM_len]; decide) hm) rfl rfl rfl ?_
  rintro rv12 h12 ⟨f12, r12⟩
  rw [Int.toNat_natCast] at rl
  have rb := secsL_RB (n := z) hb rng (by rw [treeM_len]; decide)
  have hsl : (secsL L (treeM L root) z).length ≤ 9223372036854775807 := rb.1
  refine RunO.callDG rfl (keepRows_ok (rl.fr0 f12).rws (r12.rws hsl) hsl (fun x hx => (rb.2 x hx).1)) rfl rfl rfl ?_
  rintro _ _ ⟨rfl, rfl⟩
  rw [beq_self_eq_true (secsL L (treeM L root) z)]
  (repeat (first | refine RunO.step rfl ?_ | refine RunO.loadG rfl rfl (Ow.ld (by assumption) (by rfl)) rfl ?_ | refine RunO.nil ?_))
  refine RunO.callDG rfl wakes17_ok rfl rfl rfl ?_
  rintro _ h99 ⟨rfl, f99⟩
  exact RunO.all rfl (RunC.ret ⟨_, rfl, rfl⟩)
end Go.Proofs.Ytnokcbenpnmnbaa
end
