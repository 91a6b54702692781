/- ViewOne: a calculus over an abstract machine that stands beside the model, and contracts of functions by it (part 7).
Conditions: what each theorem says of its arguments. -/
import Derived.Test.YtnokcbenpnmnbaaGViewOne6
section
set_option linter.unusedVariables false
set_option linter.unusedSectionVars false
set_option maxRecDepth 100000
open Go Go.Am Go.RowKit
namespace Go.Proofs.Ytnokcbenpnmnbaa
open Go.Proofs.Try

/- Rows of bytes whose blocks all are such. -/
def RwN (N : Nat → Prop) (h : Heap) (v : Value) (rows : List (List Int)) : Prop :=
  ∃ cs, Sl h v 1 rows.length cs ∧ (∀ b o c, v = .slice (some ⟨b, o, none⟩) rows.length c → N b) ∧ ∀ (j : Nat) (x : List Int), rows[j]? = some x → ∃ w, cs[j]? = some w ∧ Sl h w 1 x.length (us x) ∧ ∀ b o c, w = .slice (some ⟨b, o, none⟩) x.length c → N b
theorem RwN.frm {N M : Nat → Prop} {h h' : Heap} {v : Value} {rows : List (List Int)} (r : RwN N h v rows) (f : Fr M h h') (hn : ∀ b, N b → ¬ M b) : RwN N h' v rows := by
  obtain ⟨cs, h1, h2, h3⟩ := r
  refine ⟨cs, h1.frm (fun b o c e => hn b (h2 b o c e)) f, h2, fun j x hx => ?_⟩
  obtain ⟨w, e, sw, hw⟩ := h3 j x hx
  exact ⟨w, e, sw.frm (fun b o c e => hn b (hw b o c e)) f, hw⟩
theorem RwN.fr0 {N : Nat → Prop} {h h' : Heap} {v : Value} {rows : List (List Int)} (r : RwN N h v rows) (f : Fr no h h') : RwN N h' v rows := r.frm f (fun _ _ g => g)
theorem RwN.weak {N M : Nat → Prop} {h : Heap} {v : Value} {rows : List (List Int)} (r : RwN N h v rows) (hn : ∀ b, b < h.next → N b → M b) : RwN M h v rows := by
  obtain ⟨cs, h1, h2, h3⟩ := r
  refine ⟨cs, h1, fun b o c e => hn b (h1.lt b o c e) (h2 b o c e), fun j x hx => ?_⟩
  obtain ⟨w, e, sw, hw⟩ := h3 j x hx
  exact ⟨w, e, sw, fun b o c e => hn b (sw.lt b o c e) (hw b o c e)⟩
theorem RwN.rws {N : Nat → Prop} {h : Heap} {v : Value} {rows : List (List Int)} (r : RwN N h v rows) : Rws h v rows := by
  obtain ⟨cs, h1, _, h3⟩ := r
  refine ⟨cs, h1, fun j x hx => ?_⟩
  obtain ⟨w, e, sw, hw⟩ := h3 j x hx
  exact ⟨w, e, sw⟩
theorem RwG.rwN {lo : Nat} {h : Heap} {v : Value} {rows : List (List Int)} (r : RwG lo h v rows) (hm : rows.length ≤ 9223372036854775807) : RwN (fun b => lo ≤ b) h v rows := by
  obtain ⟨cs, h1, h2⟩ := r
  refine ⟨cs, h1.sl hm, fun b o c e => ?_, fun j x hx => ?_⟩
  · rcases h1.2 with ⟨e', _⟩ | ⟨b', g1, e', _⟩
    · rw [e'] at e; injection e with e1; cases e1
    · rw [e'] at e; injection e with e1; injection e1 with e1; injection e1 with e1; omega
  · obtain ⟨w, e, sw, hw⟩ := h2 j x hx
    exact ⟨w, e, sw, fun b o c e => (hw b o c e).1⟩
/- Snapshots in memory. -/
abbrev Sn := Int × Int × List (List Int) × Int × Int
def snC (x : Sn) (w : Value) : List Value := [.int .i64 x.1, .int .i64 x.2.1, w, .int .i64 x.2.2.2.1, .int .i64 x.2.2.2.2]
def Sns (h : Heap) (v : Value) (l : List Sn) : Prop :=
  ∃ cs, Sl h v 5 l.length cs ∧ ∀ (j : Nat) (x : Sn), l[j]? = some x → ∃ w, (cs.drop (j * 5)).take 5 = snC x w ∧ Rws h w x.2.2.1
theorem Sns.fr0 {h h' : Heap} {v : Value} {l : List Sn} (r : Sns h v l) (f : Fr no h h') : Sns h' v l := by
  obtain ⟨cs, h1, h2⟩ := r
  refine ⟨cs, h1.fr0 f, fun j x hx => ?_⟩
  obtain ⟨w, e, sw⟩ := h2 j x hx
  exact ⟨w, e, sw.fr0 f⟩
def LS (N : Nat → Prop) (lo : Nat) (h : Heap) (v : Value) (l : List Sn) : Prop :=
  ∃ cs, Row lo h v 5 l.length cs ∧ ∀ (j : Nat) (x : Sn), l[j]? = some x → ∃ w, (cs.drop (j * 5)).take 5 = snC x w ∧ RwN N h w x.2.2.1
theorem LS.nil (N : Nat → Prop) (lo : Nat) (h : Heap) : LS N lo h (.slice none 0 0) [] := ⟨[], Row.nil lo h 5, fun j x hx => by cases hx⟩
theorem LS.at {N : Nat → Prop} {lo : Nat} {h : Heap} {v : Value} {l : List Sn} (r : LS N lo h v l) {b : Nat} (g : At v b) : lo ≤ b ∧ b < h.next := by
  obtain ⟨cs, h1, _⟩ := r
  exact h1.at g
theorem LS.frm {N M : Nat → Prop} {lo : Nat} {h h' : Heap} {v : Value} {l : List Sn} (r : LS N lo h v l) (f : Fr M h h') (hn : ∀ b, N b → ¬ M b) (hv : ∀ b, At v b → ¬ M b) : LS N lo h' v l := by
  obtain ⟨cs, h1, h2⟩ := r
  refine ⟨cs, h1.frm f hv, fun j x hx => ?_⟩
  obtain ⟨w, e, sw⟩ := h2 j x hx
  exact ⟨w, e, sw.frm f hn⟩
theorem LS.fr0 {N : Nat → Prop} {lo : Nat} {h h' : Heap} {v : Value} {l : List Sn} (r : LS N lo h v l) (f : Fr no h h') : LS N lo h' v l := r.frm f (fun _ _ g => g) (fun _ _ g => g)
theorem LS.weak {N M : Nat → Prop} {lo : Nat} {h : Heap} {v : Value} {l : List Sn} (r : LS N lo h v l) (hn : ∀ b, b < h.next → N b → M b) : LS M lo h v l := by
  obtain ⟨cs, h1, h2⟩ := r
  refine ⟨cs, h1, fun j x hx => ?_⟩
  obtain ⟨w, e, sw⟩ := h2 j x hx
  exact ⟨w, e, sw.weak hn⟩
theorem LS.sns {N : Nat → Prop} {lo : Nat} {h : Heap} {v : Value} {l : List Sn} (r : LS N lo h v l) (hm : l.length ≤ 9223372036854775807) : Sns h v l := by
  obtain ⟨cs, h1, h2⟩ := r
  refine ⟨cs, h1.sl hm, fun j x hx => ?_⟩
  obtain ⟨w, e, sw⟩ := h2 j x hx
  exact ⟨w, e, sw.rws⟩
theorem LS.snoc {N : Nat → Prop} {lo : Nat} {h h' : Heap} {v v' w : Value} {l : List Sn} {x : Sn} {cs : List Value} (row : Row lo h v 5 l.length cs)
    (k : ∀ (j : Nat) (x : Sn), l[j]? = some x → ∃ w, (cs.drop (j * 5)).take 5 = snC x w ∧ RwN N h w x.2.2.1) (sw : RwN N h w x.2.2.1)
    (row' : Row h.next h' v' 5 (l.length + 1) (cs ++ snC x w)) (f : Fr (At v) h h') (hn : ∀ b, N b → ¬ At v b) (hlo : lo ≤ h.next) : LS N lo h' v' (l ++ [x]) := by
  have hl : cs.length = l.length * 5 := row.1
  refine ⟨_, by rw [List.length_append]; exact Row.lo row' hlo, fun j y hy => ?_⟩
  by_cases hj : j < l.length
  · rw [List.getElem?_append_left hj] at hy
    obtain ⟨u, e, su⟩ := k j y hy
    refine ⟨u, ?_, su.frm f hn⟩
    rw [List.drop_append_of_le_length (by omega), List.take_append_of_le_length (by rw [List.length_drop]; omega)]
    exact e
  · have hj2 : j = l.length := by
      have := (List.getElem?_eq_some_iff.1 hy).1
      rw [List.length_append, List.length_singleton] at this
      omega
    subst hj2
    rw [List.getElem?_append_right (Nat.le_refl _), Nat.sub_self] at hy
    have hy : some x = some y := hy
    cases hy
    refine ⟨w, ?_, sw.frm f hn⟩
    rw [← hl, List.drop_append_of_le_length (Nat.le_refl _), List.drop_length, List.nil_append]; rfl
/-- What an image holds. -/
def snP (L : List Int) (r : R8) : Sn := (r.id, r.pa, secsL L (treeM L r.ro) r.sz.toNat, r.fr, r.di)
def vwH (L : List Int) : List (List Int) := secsL L (treeM L (lkS L).2.2.1) (lkS L).2.2.2.1.toNat
def vwS (L : List Int) (rs : List R8) : List Sn := (rs.filter fun r => !(r.ki == 1)).map (snP L)
def vwO (L : List Int) (rs : List R8) : List Sn := (rs.filter fun r => r.ki == 1).map (snP L)
theorem pick_ok2 {L : List Int} (h : (pickS L).2.2 = true) : superOk (pickS L).1.1 (pickS L).1.2.1 (pickS L).1.2.2.1 (pickS L).1.2.2.2.1 (pickS L).1.2.2.2.2 = true := by
  obtain ⟨i, _, e, _, hc, _⟩ := pick_is h
  rw [e]
  unfold sVal
  rw [if_pos hc]
  unfold sCode at hc
  split at hc
  · split at hc
    · assumption
    · cases hc
  · rename_i g; exact absurd hc g
theorem lk_trees2 {L : List Int} (h : (lk L).2 = 0) : devOk L.length = true ∧ (pickS L).2.2 = true := by
  unfold lk at h
  split at h
  · rename_i h1
    split at h
    · rename_i h2; exact ⟨h1, h2⟩
    · cases h
  · cases h
set_option maxHeartbeats 32000000 in
theorem viewOf_ok {h : Heap} {iv : Value} {L : List Int} (sl : Sl h iv 1 L.length (us L)) (hb : Byt L) (hm : L.length ≤ 4611686018427387904) :
    RunF prog 26 [iv] h fun v h' => Fr no h h' ∧ (((lk L).2 = 0 ∧ ∃ hv sv ov, v = .tuple #[.agg ⟨[hv, sv, ov]⟩, .int .i64 0] ∧ Rws h' hv (vwH L) ∧ Sns h' sv (vwS L (lkF L).1) ∧ Sns h' ov (vwO L (lkF L).1)) ∨ ((lk L).2 ≠ 0 ∧ v = .tuple #[.agg ⟨[.slice none 0 0, .slice none 0 0, .slice none 0 0]⟩, .int .i64 (lk L).2])) := by
  refine RunF.walk func26 rfl rfl ?_
  have sl0 := sl
  obtain ⟨A, c, rfl, _, _⟩ := sl.form
  refine RunC.seq (RunC.region (RunO.all (h1 := h.push ⟨[.slice none 0 0, .slice none 0 0, .slice none 0 0], true⟩) rfl ?_))
  have oq := Ow.push h [.slice none 0 0, .slice none 0 0, .slice none 0 0]
  have f1 : Fr no h (h.push ⟨[.slice none 0 0, .slice none 0 0, .slice none 0 0], true⟩) := Fr.push _ _ _
  generalize h.push ⟨[.slice none 0 0, .slice none 0 0, .slice none 0 0], true⟩ = h1 at *
  obtain ⟨qb, hqb⟩ : ∃ q, q = h.next := ⟨_, rfl⟩
  rw [← hqb] at oq ⊢
  have hnx := oq.1
  refine RunC.seq (RunC.region (RunO.part 1 rfl ?_))
  refine RunO.callD (openLook_ok (sl0.fr0 f1) hb hm) rfl rfl rfl ?_
  rintro _ h2 ⟨f2, ⟨h0, xb, rfl, rv, bv, tv, TL, hxb, ox, rl, rb, stv, hTL, htr⟩ | ⟨h0, rfl⟩⟩
  case inr =>
    replace oq := oq.fr f2 (fun g => g)
    refine RunO.all rfl ?_
    refine RunC.seq (RunC.seq (RunC.region (RunO.all rfl ?_)))
    rw [show ((lk L).2 != 0) = true from bne_iff_ne.2 h0]
    refine RunC.cond rfl (fun _ => ?_) (fun g => by cases g)
    refine RunC.seq (RunC.region (RunO.part 2 rfl ?_))
    refine RunO.store rfl rfl (store_ow (s := 3) oq rfl rfl rfl (Nat.le_of_ble_eq_true rfl)) ?_
    have oq2 : Ow (h2.put qb (some ⟨[.slice none 0 0, .slice none 0 0, .slice none 0 0], true⟩)) qb [.slice none 0 0, .slice none 0 0, .slice none 0 0] := Ow.put _ oq.1
    have f3 : Fr (· = qb) h2 (h2.put qb (some ⟨[.slice none 0 0, .slice none 0 0, .slice none 0 0], true⟩)) := Fr.put _ (.inl rfl)
    show RunO prog _ _ _ _ (h2.put qb (some ⟨[.slice none 0 0, .slice none 0 0, .slice none 0 0], true⟩)) _
    generalize h2.put qb (some ⟨[.slice none 0 0, .slice none 0 0, .slice none 0 0], true⟩) = h3 at *
    exact RunO.all rfl (RunC.ret ⟨_, eresults_cell2 rfl (oq2.ld rfl) rfl, (f1.same f2).trans f3 (fun b e => .inr (by have e : b = qb := e; omega)), .inr ⟨h0, rfl⟩⟩)
  obtain ⟨hdv, hpk⟩ := lk_trees2 h0
  have hdl : L.length % 64 = 0 ∧ 4 ≤ L.length / 64 ∧ L.length / 64 ≤ 4096 := by
    unfold devOk at hdv
    simpa using hdv
  obtain ⟨hrok, _, hrl, hrb⟩ := fol_ok (L := L) (B := L.length / 64) (L.length / 64) (lkS L).2.2.2.2 [] [] 0 (fun r h => absurd h List.not_mem_nil) (fun x h => absurd h List.not_mem_nil) rfl
  have hrok : ∀ r ∈ (lkF L).1, r8Ok r = true := hrok
  have hrsl : (lkF L).1.length ≤ 4096 := by
    have e : (lkF L).1.length = (lkF L).2.1.length := hrl
    have e2 : (lkF L).2.1.length ≤ ([] : List Int).length + L.length / 64 := hrb
    rw [List.length_nil] at e2
    omega
  have hsz := ((superOk_iff _ _ _ _ _).1 (pick_ok2 hpk)).2.2.1
  have hsz : 0 ≤ (lkS L).2.2.2.1 ∧ (lkS L).2.2.2.1 ≤ 512 := hsz
  have hT : ∀ i (hi : i < TL.length), TL[i].2 = ((treeM L ((lkR L).getD i (0, 0)).1), treeN L ((lkR L).getD i (0, 0)).1) := fun i hi => by
    have e1 : (TL.map (·.2))[i]? = some TL[i].2 := by rw [List.getElem?_map, List.getElem?_eq_getElem hi]; rfl
    rw [hTL] at e1
    unfold lkT at e1
    rw [List.getElem?_map] at e1
    cases e2 : (lkR L)[i]? with
    | none => rw [e2] at e1; cases e1
    | some p =>
      rw [e2] at e1
      rw [List.getD_eq_getElem?_getD, e2]
      have e1 : some (treeM L p.1, treeN L p.1) = some TL[i].2 := e1
      injection e1 with e1
      exact e1.symm
  have hTl : TL.length = (lkF L).1.length + 1 := by
    have := congrArg List.length hTL
    rw [List.length_map] at this
    rw [this]
    unfold lkT lkR
    rw [List.length_map, List.length_cons, List.length_map]
  have hrng : ∀ t ∈ TL, ∀ x ∈ t.2.1, x = 0 ∨ (0 ≤ x ∧ (x.toNat + 1) * 64 ≤ L.length) := fun t ht x hx => by
    obtain ⟨_, _, _, _, _, _, _, _, hr, _⟩ := htr t ht
    have := hr x hx
    exact .inr ⟨this.1, by omega⟩
  generalize hrsE : (lkF L).1 = rs at *
  have slr := rl.sl (by omega)
  have slr0 := slr
  obtain ⟨rA, rc, rfl, _, _⟩ := slr.form
  have oq := oq.fr f2 (fun g => g)
  have hxn := ox.1
  have hn1 := f1.next
  have hn2 := f2.next
  have slI := (sl0.fr0 f1).fr0 f2
  refine RunO.all rfl ?_
  refine RunC.seq (RunC.seq (RunC.region (RunO.all rfl (RunC.cond rfl (fun g => by cases g) (fun _ => RunC.skip ?_)))))
  -- the head
  refine RunC.seq (RunC.draw0 rfl (RunO.part 4 rfl ?_))
  refine RunO.load (v := tv) rfl (ox.ld rfl) rfl ?_
  refine RunO.at (s := 1) (k := 0) rfl rfl stv rfl rfl (show 0 < TL.length by omega) (tps_part (by omega)) rfl rfl rfl ?_
  have ht0 := htr TL[0] (List.getElem_mem (by omega))
  have hr0 := hrng TL[0] (List.getElem_mem (by omega))
  have he0 := hT 0 (by omega)
  have he0 : TL[0].2.1 = treeM L (lkS L).2.2.1 := by rw [he0]; rfl
  obtain ⟨iv0, mv0, nv0, ow0, sm0, _, hl0, _⟩ := ht0
  rw [he0] at sm0 hl0 hr0
  generalize TL[0].1 = w0 at *
  refine RunO.part 2 rfl ?_
  refine RunO.load (v := mv0) rfl (ow0.ld rfl) rfl ?_
  refine RunO.part 5 rfl ?_
  refine RunO.load (v := .int .i64 (lkS L).2.2.2.1) rfl (ox.ld rfl) rfl ?_
  have eH : vwH L = secsL L (treeM L (lkS L).2.2.1) (lkS L).2.2.2.1.toNat := rfl
  have hsn : (((lkS L).2.2.2.1.toNat : Nat) : Int) = (lkS L).2.2.2.1 := by omega
  have hsec := sectors_ok (n := (lkS L).2.2.2.1.toNat) slI sm0 hr0 (by omega) (by omega) hm
  rw [hsn, ← eH] at hsec
  refine RunO.callD hsec rfl rfl rfl ?_
  rintro hv h3 ⟨f3, rh⟩
  have hvl : (vwH L).length ≤ 512 := by rw [eH, secsL_len _ _ (by omega)]; omega
  have hN0 := rh.rwN (by omega)
  generalize vwH L = HR at *
  obtain ⟨hA_, hc_, rfl⟩ : ∃ a b, hv = .slice a HR.length b := by
    obtain ⟨cs, row, _⟩ := rh
    obtain ⟨a, b, e, _⟩ := (row.sl (by omega)).form
    exact ⟨a, b, e⟩
  obtain ⟨hv, hhv⟩ : ∃ q, q = Value.slice hA_ HR.length hc_ := ⟨_, rfl⟩
  have hvc : isCell hv = true := by rw [hhv]; rfl
  refine RunO.part 2 (h1 := h3.push ⟨[.slice none 0 0, .slice none 0 0, .slice none 0 0], true⟩) rfl ?_
  rw [← hhv] at hN0 ⊢
  refine RunO.store rfl rfl (store_ow (s := 3) (Ow.push h3 [.slice none 0 0, .slice none 0 0, .slice none 0 0]) rfl rfl (by show cond (isCell hv) true false = true; rw [hvc]; rfl) (Nat.le_refl 3)) (RunO.nil ?_)
  have e3 : ([.slice none 0 0, .slice none 0 0, .slice none 0 0] : List Value).take 0 ++ cellsOf (.agg ⟨[hv, .slice none 0 0, .slice none 0 0]⟩) ++ ([.slice none 0 0, .slice none 0 0, .slice none 0 0] : List Value).drop (0 + 3) = [hv, .slice none 0 0, .slice none 0 0] := rfl
  rw [e3]
  have ot : Ow ((h3.push ⟨[.slice none 0 0, .slice none 0 0, .slice none 0 0], true⟩).put h3.next (some ⟨[hv, .slice none 0 0, .slice none 0 0], true⟩)) h3.next [hv, .slice none 0 0, .slice none 0 0] := Ow.put _ (Nat.lt_succ_self _)
  have f4 : Fr no h3 ((h3.push ⟨[.slice none 0 0, .slice none 0 0, .slice none 0 0], true⟩).put h3.next (some ⟨[hv, .slice none 0 0, .slice none 0 0], true⟩)) := (Fr.push _ _ _).trans (Fr.put (m := (· = h3.next)) _ (.inl rfl)) (fun j hj => .inr (by omega))
  obtain ⟨tb, htb⟩ : ∃ q, q = h3.next := ⟨_, rfl⟩
  rw [← htb] at ot f4 ⊢
  have hN0 := (hN0.weak (M := fun b => qb < b ∧ b < tb) (fun b g g2 => by have g2 : h2.next ≤ b := g2; exact ⟨by omega, by omega⟩)).fr0 f4
  have hh4 : ((h3.push ⟨[.slice none 0 0, .slice none 0 0, .slice none 0 0], true⟩).put tb (some ⟨[hv, .slice none 0 0, .slice none 0 0], true⟩)).next = tb + 1 := by rw [htb]; rfl
  generalize (h3.push ⟨[.slice none 0 0, .slice none 0 0, .slice none 0 0], true⟩).put tb (some ⟨[hv, .slice none 0 0, .slice none 0 0], true⟩) = h4 at *
  have ftb := f3.next
  have hbt := ot.1
  replace ox := ox.fr f3 (fun g => g)
  replace oq := oq.fr f3 (fun g => g)
  replace slr0 := slr0.fr0 f3
  replace slI := slI.fr0 f3
  replace stv := stv.fr0 f3
  replace htr : ∀ t ∈ TL, TrOk (L.length / 64) h3 t := fun t ht => (htr t ht).fr0 f3
  have F3 := (f1.same f2).same f3
  have hqb3 := oq.1
  refine RunC.seq (RunC.seq (RunC.region (RunO.part 4 rfl ?_)))
  refine RunO.load (v := .slice rA rs.length rc) rfl ((ox.fr f4 (fun g => g)).ld rfl) rfl (RunO.all rfl ?_)
  refine RunC.block ?_
  refine RunC.loop (fun d E h' => ∃ (i : Nat) (sv ov : Value), i + d = rs.length ∧ Fr (· = tb) h4 h' ∧ Ow h' tb [hv, sv, ov] ∧ RwN (fun b => qb < b ∧ b < tb) h' hv HR
    ∧ LS (fun b => (qb < b ∧ b ≠ tb) ∧ ¬ At sv b ∧ ¬ At ov b) (tb + 1) h' sv (vwS L (rs.take i)) ∧ LS (fun b => (qb < b ∧ b ≠ tb) ∧ ¬ At sv b ∧ ¬ At ov b) (tb + 1) h' ov (vwO L (rs.take i)) ∧ (∀ b, At sv b → ¬ At ov b) ∧ Le ((upd (upd (upd (upd (upd (upd (upd E0 0 (.slice A L.length c)) 2 (.pointer (some ⟨qb, 0, none⟩))) 4 (.pointer (some ⟨xb, 0, none⟩))) 7 (.pointer (some ⟨tb, 0, none⟩))) 43 (.slice rA rs.length rc)) 44 (.int .i64 (rs.length : Int))) 45 (.int .i64 (i : Int)))) E) ?st (k := rs.length) ?ini
  case ini => exact ⟨0, .slice none 0 0, .slice none 0 0, by omega, Fr.refl _ _, ot, hN0, LS.nil _ _ _, LS.nil _ _ _, (fun b ⟨_, _, e⟩ => by cases e), Le.cons rfl (Le.cons rfl (Le.cons rfl (Le.cons rfl (Le.cons rfl (Le.cons rfl (Le.cons rfl (Le.nil _)))))))⟩
  clear ot
  rintro d E g1 ⟨i, sv, ov, hi, fg, ot, hN, ls, lo, hso, hE⟩
  refine RunC.le hE ?_
  clear hE
  have hg1n := fg.next
  have F3g : Fr no h3 g1 := f4.trans fg (fun b e => .inr (by have e : b = tb := e; omega))
  refine RunC.seq (RunC.region (RunO.all rfl ?_))
  refine RunC.seq (RunC.cond rfl (fun hlt => RunC.skip ?go) (fun hge => RunC.exit ?ex))
  case ex =>
    have hge := of_decide_eq_false hge
    obtain rfl : i = rs.length := by omega
    rw [List.take_length] at ls lo
    have hls : (vwS L rs).length ≤ 4096 := by unfold vwS; rw [List.length_map]; exact Nat.le_trans (List.length_filter_le _ _) hrsl
    have hlo : (vwO L rs).length ≤ 4096 := by unfold vwO; rw [List.length_map]; exact Nat.le_trans (List.length_filter_le _ _) hrsl
    have hcc : ∀ (v : Value) (l : List Sn), LS (fun b => (qb < b ∧ b ≠ tb) ∧ ¬ At sv b ∧ ¬ At ov b) (tb + 1) g1 v l → isCell v = true := fun v l r => by
      obtain ⟨cs, row, _⟩ := r
      rcases row.2 with ⟨e, _⟩ | ⟨b, _, e, _⟩ <;> (rw [e]; rfl)
    have hc1 := hcc _ _ ls
    have hc2 := hcc _ _ lo
    replace oq := oq.fr F3g (fun g => g)
    refine RunC.seq (RunC.region ?_)
    refine RunO.load (v := .agg ⟨[hv, sv, ov]⟩) rfl (ot.ld rfl) rfl ?_
    refine RunO.store rfl rfl (store_ow (s := 3) oq rfl rfl (by show cond (isCell hv) (cond (isCell sv) (cond (isCell ov) true false) false) false = true; rw [hvc, hc1, hc2]; rfl) (Nat.le_refl 3)) ?_
    have e3 : ([.slice none 0 0, .slice none 0 0, .slice none 0 0] : List Value).take 0 ++ cellsOf (.agg ⟨[hv, sv, ov]⟩) ++ ([.slice none 0 0, .slice none 0 0, .slice none 0 0] : List Value).drop (0 + 3) = [hv, sv, ov] := rfl
    rw [e3]
    have oq2 : Ow (g1.put qb (some ⟨[hv, sv, ov], true⟩)) qb [hv, sv, ov] := Ow.put _ oq.1
    have f5 : Fr (· = qb) g1 (g1.put qb (some ⟨[hv, sv, ov], true⟩)) := Fr.put _ (.inl rfl)
    have hN2 := (hN.frm f5 (fun b g e => by have e : b = qb := e; omega)).rws
    have hS2 := (ls.frm f5 (fun b g e => by have e : b = qb := e; omega) (fun b g e => by have e : b = qb := e; have := (ls.at g).1; omega)).sns (by omega)
    have hO2 := (lo.frm f5 (fun b g e => by have e : b = qb := e; omega) (fun b g e => by have e : b = qb := e; have := (lo.at g).1; omega)).sns (by omega)
    generalize g1.put qb (some ⟨[hv, sv, ov], true⟩) = g2 at *
    exact RunO.all rfl (RunC.ret ⟨_, eresults_cell2 rfl (oq2.ld rfl) rfl, (F3.same F3g).trans f5 (fun b e => .inr (by have e : b = qb := e; omega)), .inl ⟨h0, hv, sv, ov, rfl, hN2, hS2, hO2⟩⟩)
  have hlt := of_decide_eq_true hlt
  have hlt : i < rs.length := by omega
  have hri := hrok rs[i] (List.getElem_mem hlt)
  have hsz2 := r8_sz hri
  have htk : rs.take (i + 1) = rs.take i ++ [rs[i]] := List.take_succ_eq_append_getElem hlt
  have hS1 : vwS L (rs.take (i + 1)) = if (rs[i].ki == 1) = true then vwS L (rs.take i) else vwS L (rs.take i) ++ [snP L rs[i]] := by
    rw [htk]
    unfold vwS
    rw [List.filter_append, List.map_append]
    cases e : (rs[i].ki == 1) with
    | true => rw [if_pos rfl, show [rs[i]].filter (fun r => !(r.ki == 1)) = [] by rw [List.filter_cons, e]; rfl]; exact List.append_nil _
    | false => rw [if_neg (by decide), show [rs[i]].filter (fun r => !(r.ki == 1)) = [rs[i]] by rw [List.filter_cons, e]; rfl]; rfl
  have hO1 : vwO L (rs.take (i + 1)) = if (rs[i].ki == 1) = true then vwO L (rs.take i) ++ [snP L rs[i]] else vwO L (rs.take i) := by
    rw [htk]
    unfold vwO
    rw [List.filter_append, List.map_append]
    cases e : (rs[i].ki == 1) with
    | true => rw [if_pos rfl, show [rs[i]].filter (fun r => r.ki == 1) = [rs[i]] by rw [List.filter_cons, e]; rfl]; rfl
    | false => rw [if_neg (by decide), show [rs[i]].filter (fun r => r.ki == 1) = [] by rw [List.filter_cons, e]; rfl]; exact List.append_nil _
  have hlS : (vwS L (rs.take i)).length ≤ 4096 := by unfold vwS; rw [List.length_map]; exact Nat.le_trans (List.length_filter_le _ _) (by rw [List.length_take]; omega)
  have hlO : (vwO L (rs.take i)).length ≤ 4096 := by unfold vwO; rw [List.length_map]; exact Nat.le_trans (List.length_filter_le _ _) (by rw [List.length_take]; omega)
  generalize vwS L (rs.take i) = S at *
  generalize vwO L (rs.take i) = O at *
  have hi1 : i + 1 < TL.length := by omega
  have htq := htr TL[i + 1] (List.getElem_mem hi1)
  have hrq := hrng TL[i + 1] (List.getElem_mem hi1)
  have heq := hT (i + 1) hi1
  have hro : ((lkR L).getD (i + 1) (0, 0)).1 = rs[i].ro := by
    have : (lkR L).getD (i + 1) (0, 0) = ((lkF L).1.map fun r => (r.ro, r.sz)).getD i (0, 0) := rfl
    rw [this, hrsE, List.getD_eq_getElem?_getD, List.getElem?_map, List.getElem?_eq_getElem hlt]; rfl
  have heq : TL[i + 1].2.1 = treeM L rs[i].ro := by rw [heq, hro]
  have hpt := recCs_part hlt
  have htp := tps_part hi1
  obtain ⟨ivq, mvq, nvq, owq, smq, _, hlq, _⟩ := htq
  rw [heq] at smq hlq hrq
  have hsnP : snP L rs[i] = (rs[i].id, rs[i].pa, secsL L (treeM L rs[i].ro) rs[i].sz.toNat, rs[i].fr, rs[i].di) := rfl
  rw [hsnP] at hS1 hO1
  generalize rs[i] = r at *
  generalize TL[i + 1].1 = wq at *
  refine RunC.seq (RunC.block ?_)
  refine RunC.seq (RunC.region (RunO.part 1 rfl ?_))
  refine RunO.at (s := 8) (k := i) rfl rfl (slr0.fr0 F3g) rfl rfl hlt hpt rfl rfl rfl ?_
  refine RunO.part 2 (h1 := g1.push ⟨rc8 ⟨0, 0, 0, 0, 0, 0, 0, 0⟩, true⟩) rfl ?_
  refine RunO.store rfl rfl (store_ow (s := 8) (Ow.push g1 (rc8 ⟨0, 0, 0, 0, 0, 0, 0, 0⟩)) rfl rfl rfl (Nat.le_refl 8)) (RunO.nil ?_)
  have e8 : (rc8 ⟨0, 0, 0, 0, 0, 0, 0, 0⟩).take 0 ++ cellsOf (.agg ⟨rc8 r⟩) ++ (rc8 ⟨0, 0, 0, 0, 0, 0, 0, 0⟩).drop (0 + 8) = rc8 r := rfl
  rw [e8]
  have on : Ow ((g1.push ⟨rc8 ⟨0, 0, 0, 0, 0, 0, 0, 0⟩, true⟩).put g1.next (some ⟨rc8 r, true⟩)) g1.next (rc8 r) := Ow.put _ (Nat.lt_succ_self _)
  have f6 : Fr no g1 ((g1.push ⟨rc8 ⟨0, 0, 0, 0, 0, 0, 0, 0⟩, true⟩).put g1.next (some ⟨rc8 r, true⟩)) := (Fr.push _ _ _).trans (Fr.put (m := (· = g1.next)) _ (.inl rfl)) (fun j hj => .inr (by omega))
  have hotn := ot.1
  generalize (g1.push ⟨rc8 ⟨0, 0, 0, 0, 0, 0, 0, 0⟩, true⟩).put g1.next (some ⟨rc8 r, true⟩) = g2 at *
  obtain ⟨pb, hpb⟩ : ∃ q, q = g1.next := ⟨_, rfl⟩
  rw [← hpb] at on ⊢
  have hg2n := f6.next
  have F2g := F3g.same f6
  refine RunC.seq (RunC.drawT 24 (fun b => g2.next ≤ b) rfl ?_)
  refine RunQ.part 1 rfl ?_
  refine RunQ.load (v := .int .i64 r.id) rfl rfl (on.ld rfl) rfl ?_
  refine RunQ.part 1 rfl ?_
  refine RunQ.load (v := .int .i64 r.pa) rfl rfl (on.ld rfl) rfl ?_
  refine RunQ.part 4 rfl ?_
  refine RunQ.load (v := tv) rfl rfl ((ox.fr F2g (fun g => g)).ld rfl) rfl ?_
  refine RunQ.part 2 rfl ?_
  rw [fw64 (x := (i : Int) + 1) (by omega) (by omega), show (i : Int) + 1 = ((i + 1 : Nat) : Int) by omega]
  refine RunQ.at (s := 1) (k := i + 1) rfl (fun _ => rfl) rfl rfl (stv.fr0 F2g) rfl rfl hi1 htp rfl rfl rfl ?_
  refine RunQ.part 2 rfl ?_
  refine RunQ.load (v := mvq) rfl rfl ((owq.fr F2g (fun g => g)).ld rfl) rfl ?_
  refine RunQ.part 1 rfl ?_
  refine RunQ.load (v := .int .i64 r.sz) rfl rfl (on.ld rfl) rfl ?_
  have hszn : ((r.sz.toNat : Nat) : Int) = r.sz := by omega
  have slI2_ := slI.fr0 F2g
  have slI2 : Sl (g2.lo g2.next) (.slice A L.length c) 1 L.length (us L) := slI2_
  have smq2_ := smq.fr0 F2g
  have smq2 : Sl (g2.lo g2.next) mvq 1 (treeM L r.ro).length (is (treeM L r.ro)) := smq2_
  have hsec := sectors_ok (n := r.sz.toNat) slI2 smq2 hrq (by omega) (by omega) hm
  rw [hszn] at hsec
  refine RunQ.call rfl hsec (fun v h1 q => q.1) rfl rfl rfl ?_
  have hsl_ : (secsL L (treeM L r.ro) r.sz.toNat).length ≤ 512 := by rw [secsL_len _ _ (by omega)]; omega
  generalize secsL L (treeM L r.ro) r.sz.toNat = SR at *
  rintro wv g3 ⟨f7, rwv⟩
  have f7 : Fr no g2 g3 := f7.trans (Fr.refl no _) (fun _ g => g.elim) |> fun f => ⟨f.next, f.get, fun l a b c => f.low l b b c⟩
  have rwv : RwG g2.next g3 wv SR := rwv
  have hwN := rwv.rwN (by omega)
  obtain ⟨wA, wc_, rfl⟩ : ∃ a b, wv = .slice a SR.length b := by
    obtain ⟨cs, row, _⟩ := rwv
    obtain ⟨a, b, e, _⟩ := (row.sl (by omega)).form
    exact ⟨a, b, e⟩
  have on3 := on.fr f7 (fun g => g)
  refine RunQ.part 1 rfl ?_
  refine RunQ.load (v := .int .i64 r.fr) rfl rfl (on3.ld rfl) rfl ?_
  refine RunQ.part 1 rfl ?_
  refine RunQ.load (v := .int .i64 r.di) rfl rfl (on3.ld rfl) rfl ?_
  refine RunQ.all rfl ?_
  have hg3n := f7.next
  refine RunT.new (ob := ⟨[.int .i64 0, .int .i64 0, .slice none 0 0, .int .i64 0, .int .i64 0], true⟩) rfl rfl (fun _ => rfl) rfl ?_
  obtain ⟨wv, hwv⟩ : ∃ q, q = Value.slice wA SR.length wc_ := ⟨_, rfl⟩
  have hwc : isCell wv = true := by rw [hwv]; rfl
  rw [← hwv] at hwN ⊢
  have hst : astore prog ((g3.push ⟨[.int .i64 0, .int .i64 0, .slice none 0 0, .int .i64 0, .int .i64 0], true⟩).lo (g3.push ⟨[.int .i64 0, .int .i64 0, .slice none 0 0, .int .i64 0, .int .i64 0], true⟩).next) 93 ⟨g3.next, 0, none⟩ (.agg ⟨[.int .i64 r.id, .int .i64 r.pa, wv, .int .i64 r.fr, .int .i64 r.di]⟩) = _ := store_ow (s := 5) (h := (g3.push ⟨[.int .i64 0, .int .i64 0, .slice none 0 0, .int .i64 0, .int .i64 0], true⟩).lo (g3.push ⟨[.int .i64 0, .int .i64 0, .slice none 0 0, .int .i64 0, .int .i64 0], true⟩).next) (Ow.push g3 [.int .i64 0, .int .i64 0, .slice none 0 0, .int .i64 0, .int .i64 0]) rfl rfl (by show cond (isCell wv) true false = true; rw [hwc]; rfl) (Nat.le_refl 5)
  refine RunT.store rfl rfl rfl hst (Fr.put (m := fun b => g2.next ≤ b) _ (.inl hg3n)) (RunT.nil ?_)
  intro lw F8a
  have F8b := F8a.weak (m1 := no) (fun b g => .inr g)
  clear F8a
  have fY : Fr no g3 ((g3.push ⟨[.int .i64 0, .int .i64 0, .slice none 0 0, .int .i64 0, .int .i64 0], true⟩).put g3.next (some ⟨snC (r.id, r.pa, SR, r.fr, r.di) wv, true⟩)) := (Fr.push _ _ _).trans (Fr.put (m := (· = g3.next)) _ (.inl rfl)) (fun j hj => .inr (by omega))
  have oY : Ow ((g3.push ⟨[.int .i64 0, .int .i64 0, .slice none 0 0, .int .i64 0, .int .i64 0], true⟩).put g3.next (some ⟨snC (r.id, r.pa, SR, r.fr, r.di) wv, true⟩)) g3.next (snC (r.id, r.pa, SR, r.fr, r.di) wv) := Ow.put _ (Nat.lt_succ_self _)
  have hwNY := hwN.fr0 fY
  have onb : Ow ((((g3.push ⟨[.int .i64 0, .int .i64 0, .slice none 0 0, .int .i64 0, .int .i64 0], true⟩).lo (g3.push ⟨[.int .i64 0, .int .i64 0, .slice none 0 0, .int .i64 0, .int .i64 0], true⟩).next).put g3.next (some ⟨snC (r.id, r.pa, SR, r.fr, r.di) wv, true⟩)).lo lw) g3.next (snC (r.id, r.pa, SR, r.fr, r.di) wv) := oY
  have hwN4 : RwN (fun b => g2.next ≤ b) ((((g3.push ⟨[.int .i64 0, .int .i64 0, .slice none 0 0, .int .i64 0, .int .i64 0], true⟩).lo (g3.push ⟨[.int .i64 0, .int .i64 0, .slice none 0 0, .int .i64 0, .int .i64 0], true⟩).next).put g3.next (some ⟨snC (r.id, r.pa, SR, r.fr, r.di) wv, true⟩)).lo lw) wv SR := hwNY
  clear hst oY hwNY fY
  show RunC prog _ _ _ ((((g3.push ⟨[.int .i64 0, .int .i64 0, .slice none 0 0, .int .i64 0, .int .i64 0], true⟩).lo (g3.push ⟨[.int .i64 0, .int .i64 0, .slice none 0 0, .int .i64 0, .int .i64 0], true⟩).next).put g3.next (some ⟨snC (r.id, r.pa, SR, r.fr, r.di) wv, true⟩)).lo lw) _ _ _
  have F8 : Fr no g2 ((((g3.push ⟨[.int .i64 0, .int .i64 0, .slice none 0 0, .int .i64 0, .int .i64 0], true⟩).lo (g3.push ⟨[.int .i64 0, .int .i64 0, .slice none 0 0, .int .i64 0, .int .i64 0], true⟩).next).put g3.next (some ⟨snC (r.id, r.pa, SR, r.fr, r.di) wv, true⟩)).lo lw) := F8b
  clear F8b
  generalize (((g3.push ⟨[.int .i64 0, .int .i64 0, .slice none 0 0, .int .i64 0, .int .i64 0], true⟩).lo (g3.push ⟨[.int .i64 0, .int .i64 0, .slice none 0 0, .int .i64 0, .int .i64 0], true⟩).next).put g3.next (some ⟨snC (r.id, r.pa, SR, r.fr, r.di) wv, true⟩)).lo lw = g4 at *
  have on4 := on.fr F8 (fun g => g)
  have F14 := f6.same F8
  have ot4 := ot.fr F14 (fun g => g)
  have hN4 := hN.fr0 F14
  have ls4 := ls.fr0 F14
  have lo4 := lo.fr0 F14
  have hg4n := F14.next
  refine RunC.seq (RunC.region (RunO.part 1 rfl ?_))
  refine RunO.load (v := .int .i64 r.ki) rfl (on4.ld rfl) rfl ?_
  refine RunO.all rfl ?_
  cases hki : (r.ki == 1) with
  | true =>
    rw [hki] at hS1 hO1
    refine RunC.cond rfl (fun _ => ?_) (fun g => by cases g)
    refine RunC.region (RunO.part 1 rfl ?_)
    refine RunO.load (v := ov) rfl (ot4.ld rfl) rfl ?_
    refine RunO.load (v := .agg ⟨snC (r.id, r.pa, SR, r.fr, r.di) wv⟩) rfl (onb.ld rfl) rfl ?_
    refine RunO.part 1 (h1 := g4.push ⟨snC (r.id, r.pa, SR, r.fr, r.di) wv, true⟩) rfl ?_
    have ol := Ow.push g4 (snC (r.id, r.pa, SR, r.fr, r.di) wv)
    have f9 : Fr no g4 (g4.push ⟨snC (r.id, r.pa, SR, r.fr, r.di) wv, true⟩) := Fr.push _ _ _
    replace ot4 := ot4.fr f9 (fun g => g)
    replace hN4 := hN4.fr0 f9
    replace hwN4 := hwN4.fr0 f9
    replace ls4 := ls4.fr0 f9
    replace lo4 := lo4.fr0 f9
    have F9 := F14.same f9
    have hg5n := f9.next
    generalize g4.push ⟨snC (r.id, r.pa, SR, r.fr, r.di) wv, true⟩ = g5 at *
    generalize g4.next = lb at *
    have hgg := F9.next
    have l4 := lo4.weak (M := fun b => ((qb < b ∧ b ≠ tb) ∧ ¬ At sv b ∧ ¬ At ov b) ∧ b < g5.next) (fun b g1 g2 => ⟨g2, g1⟩)
    have k4 := ls4.weak (M := fun b => ((qb < b ∧ b ≠ tb) ∧ ¬ At sv b ∧ ¬ At ov b) ∧ b < g5.next) (fun b g1 g2 => ⟨g2, g1⟩)
    have hwN5 := hwN4.weak (M := fun b => ((qb < b ∧ b ≠ tb) ∧ ¬ At sv b ∧ ¬ At ov b) ∧ b < g5.next) (fun b g1 g2 => ⟨⟨⟨by omega, by omega⟩, fun a => by have := (ls.at a).2; omega, fun a => by have := (lo.at a).2; omega⟩, g1⟩)
    obtain ⟨cs, row, kk⟩ := l4
    refine RunO.appendG (s := 5) (j := 1) rfl rfl rfl rfl rfl rfl rfl rfl (by decide) row.gr ol.all rfl (Nat.le_refl 1) (by show cond (isCell wv) true false = true; rw [hwc]; rfl) (by show 2 * (_ + 1) * 56 ≤ _; omega) (by omega) ?_
    intro ov2 g6 row2 f10
    have l6 := LS.snoc (x := (r.id, r.pa, SR, r.fr, r.di)) row kk hwN5 row2 f10 (fun b g a => (fun b g a => g.2.2 a) b g.1 a) (show tb + 1 ≤ g5.next by omega)
    have k6 := k4.frm f10 (fun b g a => (fun b g a => g.2.2 a) b g.1 a) (fun b g e => hso b g e)
    have hN6 := hN4.frm f10 (fun b g a => by have := (lo.at a).1; omega)
    have ot6 := ot4.fr f10 (fun a => by have := (lo.at a).1; omega)
    have l6 := l6.weak (M := fun b => (qb < b ∧ b ≠ tb) ∧ ¬ At sv b ∧ ¬ At ov2 b) (fun b _ g => ⟨g.1.1, g.1.2.1, fun a => by have := (row2.at a).1; have := g.2; omega⟩)
    have k6 := k6.weak (M := fun b => (qb < b ∧ b ≠ tb) ∧ ¬ At sv b ∧ ¬ At ov2 b) (fun b _ g => ⟨g.1.1, g.1.2.1, fun a => by have := (row2.at a).1; have := g.2; omega⟩)
    have hcv : isCell ov2 = true := by rcases row2.2 with ⟨e, _⟩ | ⟨b, _, e, _⟩ <;> (rw [e]; rfl)
    have hcc : cellsOf ov2 = [ov2] := by rcases row2.2 with ⟨e, _⟩ | ⟨b, _, e, _⟩ <;> (rw [e]; rfl)
    refine RunO.part 1 rfl ?_
    refine RunO.store rfl rfl (store1_ow ot6 rfl hcc hcv (Nat.le_of_ble_eq_true rfl)) (RunO.nil ?_)
    have f11 : Fr (· = tb) g6 (g6.put tb (some ⟨[hv, sv, ov2], true⟩)) := Fr.put _ (.inl rfl)
    have ot7 : Ow (g6.put tb (some ⟨[hv, sv, ov2], true⟩)) tb [hv, sv, ov2] := Ow.put _ ot6.1
    have hN7 := hN6.frm f11 (fun b g e => by have e : b = tb := e; omega)
    have loz := l6.frm f11 (fun b g e => g.1.2 e) (fun b g e => by have e : b = tb := e; have := (row2.at g).1; omega)
    have lsz := k6.frm f11 (fun b g e => g.1.2 e) (fun b g e => by have e : b = tb := e; have := (ls.at g).1; omega)
    show RunC prog _ _ _ (g6.put tb (some ⟨[hv, sv, ov2], true⟩)) _ _ _
    have F11 : Fr (· = tb) h4 (g6.put tb (some ⟨[hv, sv, ov2], true⟩)) := ((fg.quiet F9).trans f10 (fun b a => .inr (by have := (lo.at a).1; omega))).same f11
    generalize g6.put tb (some ⟨[hv, sv, ov2], true⟩) = g7 at *
    refine RunC.region (RunO.all rfl ?_)
    exact ⟨d - 1, by omega, i + 1, sv, ov2, by omega, F11, ot7, hN7, by rw [hS1, if_pos rfl]; exact lsz, by rw [hO1, if_pos rfl]; exact loz, fun b g a => by have := (row2.at a).1; have := (ls.at g).2; omega, Le.cons (inc64 (by omega)) (Le.cons rfl (Le.cons rfl (Le.cons rfl (Le.cons rfl (Le.cons rfl (Le.cons rfl (Le.nil _)))))))⟩
  | false =>
    rw [hki] at hS1 hO1
    refine RunC.cond rfl (fun g => by cases g) (fun _ => ?_)
    refine RunC.region (RunO.part 1 rfl ?_)
    refine RunO.load (v := sv) rfl (ot4.ld rfl) rfl ?_
    refine RunO.load (v := .agg ⟨snC (r.id, r.pa, SR, r.fr, r.di) wv⟩) rfl (onb.ld rfl) rfl ?_
    refine RunO.part 1 (h1 := g4.push ⟨snC (r.id, r.pa, SR, r.fr, r.di) wv, true⟩) rfl ?_
    have ol := Ow.push g4 (snC (r.id, r.pa, SR, r.fr, r.di) wv)
    have f9 : Fr no g4 (g4.push ⟨snC (r.id, r.pa, SR, r.fr, r.di) wv, true⟩) := Fr.push _ _ _
    replace ot4 := ot4.fr f9 (fun g => g)
    replace hN4 := hN4.fr0 f9
    replace hwN4 := hwN4.fr0 f9
    replace ls4 := ls4.fr0 f9
    replace lo4 := lo4.fr0 f9
    have F9 := F14.same f9
    have hg5n := f9.next
    generalize g4.push ⟨snC (r.id, r.pa, SR, r.fr, r.di) wv, true⟩ = g5 at *
    generalize g4.next = lb at *
    have hgg := F9.next
    have l4 := ls4.weak (M := fun b => ((qb < b ∧ b ≠ tb) ∧ ¬ At sv b ∧ ¬ At ov b) ∧ b < g5.next) (fun b g1 g2 => ⟨g2, g1⟩)
    have k4 := lo4.weak (M := fun b => ((qb < b ∧ b ≠ tb) ∧ ¬ At sv b ∧ ¬ At ov b) ∧ b < g5.next) (fun b g1 g2 => ⟨g2, g1⟩)
    have hwN5 := hwN4.weak (M := fun b => ((qb < b ∧ b ≠ tb) ∧ ¬ At sv b ∧ ¬ At ov b) ∧ b < g5.next) (fun b g1 g2 => ⟨⟨⟨by omega, by omega⟩, fun a => by have := (ls.at a).2; omega, fun a => by have := (lo.at a).2; omega⟩, g1⟩)
    obtain ⟨cs, row, kk⟩ := l4
    refine RunO.appendG (s := 5) (j := 1) rfl rfl rfl rfl rfl rfl rfl rfl (by decide) row.gr ol.all rfl (Nat.le_refl 1) (by show cond (isCell wv) true false = true; rw [hwc]; rfl) (by show 2 * (_ + 1) * 56 ≤ _; omega) (by omega) ?_
    intro sv2 g6 row2 f10
    have l6 := LS.snoc (x := (r.id, r.pa, SR, r.fr, r.di)) row kk hwN5 row2 f10 (fun b g a => (fun b g a => g.2.1 a) b g.1 a) (show tb + 1 ≤ g5.next by omega)
    have k6 := k4.frm f10 (fun b g a => (fun b g a => g.2.1 a) b g.1 a) (fun b g e => hso b e g)
    have hN6 := hN4.frm f10 (fun b g a => by have := (ls.at a).1; omega)
    have ot6 := ot4.fr f10 (fun a => by have := (ls.at a).1; omega)
    have l6 := l6.weak (M := fun b => (qb < b ∧ b ≠ tb) ∧ ¬ At sv2 b ∧ ¬ At ov b) (fun b _ g => ⟨g.1.1, fun a => by have := (row2.at a).1; have := g.2; omega, g.1.2.2⟩)
    have k6 := k6.weak (M := fun b => (qb < b ∧ b ≠ tb) ∧ ¬ At sv2 b ∧ ¬ At ov b) (fun b _ g => ⟨g.1.1, fun a => by have := (row2.at a).1; have := g.2; omega, g.1.2.2⟩)
    have hcv : isCell sv2 = true := by rcases row2.2 with ⟨e, _⟩ | ⟨b, _, e, _⟩ <;> (rw [e]; rfl)
    have hcc : cellsOf sv2 = [sv2] := by rcases row2.2 with ⟨e, _⟩ | ⟨b, _, e, _⟩ <;> (rw [e]; rfl)
    refine RunO.part 1 rfl ?_
    refine RunO.store rfl rfl (store1_ow ot6 rfl hcc hcv (Nat.le_of_ble_eq_true rfl)) (RunO.nil ?_)
    have f11 : Fr (· = tb) g6 (g6.put tb (some ⟨[hv, sv2, ov], true⟩)) := Fr.put _ (.inl rfl)
    have ot7 : Ow (g6.put tb (some ⟨[hv, sv2, ov], true⟩)) tb [hv, sv2, ov] := Ow.put _ ot6.1
    have hN7 := hN6.frm f11 (fun b g e => by have e : b = tb := e; omega)
    have lsz := l6.frm f11 (fun b g e => g.1.2 e) (fun b g e => by have e : b = tb := e; have := (row2.at g).1; omega)
    have loz := k6.frm f11 (fun b g e => g.1.2 e) (fun b g e => by have e : b = tb := e; have := (lo.at g).1; omega)
    show RunC prog _ _ _ (g6.put tb (some ⟨[hv, sv2, ov], true⟩)) _ _ _
    have F11 : Fr (· = tb) h4 (g6.put tb (some ⟨[hv, sv2, ov], true⟩)) := ((fg.quiet F9).trans f10 (fun b a => .inr (by have := (ls.at a).1; omega))).same f11
    generalize g6.put tb (some ⟨[hv, sv2, ov], true⟩) = g7 at *
    refine RunC.region (RunO.all rfl ?_)
    exact ⟨d - 1, by omega, i + 1, sv2, ov, by omega, F11, ot7, hN7, by rw [hS1, if_neg (by decide)]; exact lsz, by rw [hO1, if_neg (by decide)]; exact loz, fun b a g => by have := (row2.at a).1; have := (lo.at g).2; omega, Le.cons (inc64 (by omega)) (Le.cons rfl (Le.cons rfl (Le.cons rfl (Le.cons rfl (Le.cons rfl (Le.cons rfl (Le.nil _)))))))⟩
end Go.Proofs.Ytnokcbenpnmnbaa
end
section
set_option linter.unusedVariables false
set_option linter.unusedSectionVars false
set_option maxRecDepth 100000
open Go Go.Am Go.RowKit
namespace Go.Proofs.Ytnokcbenpnmnbaa
open Go.Proofs.Try

theorem mk_eq {l m : List Int} (hl : Byt l) (hm : Byt m) : ((mkStr l).data.toList == (mkStr m).data.toList) = (l == m) := by
  rw [mkStr_data, mkStr_data, Bool.eq_iff_iff, beq_iff_eq, beq_iff_eq]
  have key : ∀ a : List Int, Byt a → (a.map (fun n => UInt8.ofNat n.toNat)).map (fun u : UInt8 => (u.toNat : Int)) = a := by
    intro a ha
    rw [List.map_map]
    conv => rhs; rw [← List.map_id a]
    refine List.map_congr_left (fun x hx => ?_)
    have h1 := ha x hx
    show (((UInt8.ofNat x.toNat).toNat : Nat) : Int) = x
    rw [UInt8.toNat_ofNat', Nat.mod_eq_of_lt (by omega)]
    omega
  constructor
  · intro e
    have := congrArg (List.map (fun u : UInt8 => (u.toNat : Int))) e
    rwa [key l hl, key m hm] at this
  · rintro rfl; rfl
theorem bytesEqual_ok {h : Heap} {v w : Value} {l m : List Int} (sl : Sl h v 1 l.length (us l)) (sm : Sl h w 1 m.length (us m)) (hl : Byt l) (hm : Byt m) :
    RunF prog 85 [v, w] h fun r h' => r = .bool (l == m) ∧ h = h' := by
  refine RunF.walk func85 rfl rfl ?_
  have s1 := strOf_ok sl
  have s2 := strOf_ok sm
  obtain ⟨A, c, rfl, _, _⟩ := sl.form
  obtain ⟨B, d, rfl, _, _⟩ := sm.form
  refine RunC.seq (RunC.region (RunO.all rfl ?_))
  refine RunC.seq (RunC.region (RunO.part 1 rfl ?_))
  refine RunO.one rfl (v := .string (mkStr l)) (E1 := upd _ 6 (.string (mkStr l))) (h1 := h) ?_ rfl ?_
  · show pureR h (abytes prog h 22 9 _) = _
    rw [s1]; rfl
  refine RunO.part 1 rfl ?_
  refine RunO.one rfl (v := .string (mkStr m)) (E1 := upd _ 8 (.string (mkStr m))) (h1 := h) ?_ rfl ?_
  · show pureR h (abytes prog h 22 9 _) = _
    rw [s2]; rfl
  refine RunO.bin (v := .bool (l == m)) rfl rfl ?_ rfl ?_
  · show some (Value.bool ((mkStr l).data.toList == (mkStr m).data.toList)) = _
    rw [mk_eq hl hm]
  exact RunO.all rfl (RunC.ret ⟨_, rfl, rfl, rfl⟩)
/-- Rows, snapshots of bytes. -/
def RB (l : List (List Int)) : Prop := l.length ≤ 4611686018427387904 ∧ ∀ x ∈ l, x.length ≤ 4611686018427387904 ∧ Byt x
def SB (l : List Sn) : Prop := l.length ≤ 4611686018427387904 ∧ ∀ x ∈ l, RB x.2.2.1
set_option maxHeartbeats 1600000 in
theorem eqRows_ok {h : Heap} {v w : Value} {l m : List (List Int)} (sl : Rws h v l) (sm : Rws h w m) (hl : RB l) (hm : RB m) :
    RunF prog 84 [v, w, .func (.func 85) #[] #[]] h fun v h' => v = .bool (l == m) ∧ Fr no h h' := by
  refine RunF.walk func84 rfl rfl ?_
  have hlen := hl.1
  obtain ⟨cs, s1, k1⟩ := sl
  obtain ⟨ds, s2, k2⟩ := sm
  have s10 := s1
  have s20 := s2
  obtain ⟨A, c, rfl, hc, _⟩ := s1.form
  obtain ⟨B, d, rfl, hd, _⟩ := s2.form
  refine RunC.seq (RunC.region (RunO.all rfl ?_))
  refine RunC.seq (RunC.seq (RunC.region (RunO.all rfl ?_)))
  by_cases hn : l.length = m.length
  case neg =>
    rw [show ((l.length : Int) != (m.length : Int)) = true from bne_iff_ne.2 (by omega)]
    refine RunC.cond rfl (fun _ => ?_) (fun g => by cases g)
    rw [show (l == m) = false from beq_eq_false_iff_ne.2 (fun e => hn (by rw [e]))]
    exact RunC.seq (RunC.region (RunO.all rfl (RunC.ret ⟨_, rfl, rfl, Fr.refl _ _⟩)))
  rw [show ((l.length : Int) != (m.length : Int)) = false from by rw [hn]; exact bne_self_eq_false _]
  refine RunC.cond rfl (fun g => by cases g) (fun _ => RunC.skip ?_)
  refine RunC.seq (RunC.seq (RunC.region (RunO.all rfl ?_)))
  refine RunC.block ?_

  refine RunC.loop (fun k E h' => ∃ i : Nat, i + k = l.length ∧ l.take i = m.take i ∧ Fr no h h' ∧ Le ((upd (upd (upd (upd (upd E0 1 (.slice B m.length d)) 2 (.func (.func 85) #[] #[])) 15 (.slice A l.length c)) 16 (.int .i64 (l.length : Int))) 17 (.int .i64 (i : Int)))) E) ?st (k := l.length) ?ini
  case ini => exact ⟨0, by omega, rfl, Fr.refl _ _, Le.cons rfl (Le.cons rfl (Le.cons rfl (Le.cons rfl (Le.cons rfl (Le.nil _)))))⟩
  rintro k E g ⟨i, hi, ht, fg, hE⟩
  refine RunC.le hE ?_
  clear hE
  refine RunC.seq (RunC.region (RunO.all rfl ?_))
  refine RunC.seq (RunC.cond rfl (fun hlt => RunC.skip ?go) (fun hge => RunC.exit ?ex))
  case go =>
    have hlt := of_decide_eq_true hlt
    have h1 : i < l.length := by omega
    have h2 : i < m.length := by omega
    obtain ⟨w1, e1, sw1⟩ := k1 i l[i] (List.getElem?_eq_getElem h1)
    obtain ⟨w2, e2, sw2⟩ := k2 i m[i] (List.getElem?_eq_getElem h2)
    refine RunC.seq (RunC.block ?_)
    refine RunC.seq (RunC.region (RunO.part 1 rfl ?_))
    refine RunO.at (s := 1) (k := i) rfl rfl (s10.fr0 fg) rfl rfl h1 (row_part e1) rfl rfl rfl (RunO.all rfl ?_)
    refine RunC.seq (RunC.region (RunO.part 2 rfl ?_))
    refine RunO.at (s := 1) (k := i) rfl rfl (s20.fr0 fg) rfl rfl h2 (row_part e2) rfl rfl rfl (RunO.all rfl ?_)
    refine RunC.seq (RunC.region (RunO.part 3 rfl ?_))
    refine RunO.callD (bytesEqual_ok (sw1.fr0 fg) (sw2.fr0 fg) (hl.2 _ (List.getElem_mem h1)).2 (hm.2 _ (List.getElem_mem h2)).2) rfl rfl rfl ?_
    rintro _ _ ⟨rfl, rfl⟩

    by_cases he : l[i] = m[i]
    · rw [show (l[i] == m[i]) = true from beq_iff_eq.2 he]
      refine RunO.all rfl (RunC.cond rfl (fun g => by cases g) (fun _ => RunC.skip ?_))
      refine RunC.region (RunO.all rfl ?_)
      refine ⟨k - 1, by omega, i + 1, by omega, ?_, fg, Le.cons (inc64 (by omega)) (Le.cons rfl (Le.cons rfl (Le.cons rfl (Le.cons rfl (Le.nil _)))))⟩
      rw [List.take_succ_eq_append_getElem h1, List.take_succ_eq_append_getElem h2, ht, he]
    · rw [show (l[i] == m[i]) = false from beq_eq_false_iff_ne.2 he]
      refine RunO.all rfl (RunC.cond rfl (fun _ => ?_) (fun g => by cases g))
      have hlm : (l == m) = false := beq_eq_false_iff_ne.2 (fun e => he (by simp [e]))
      rw [hlm]
      exact RunC.seq (RunC.region (RunO.all rfl (RunC.ret ⟨_, rfl, rfl, fg⟩)))
  have hge := of_decide_eq_false hge
  have hi2 : i = l.length := by omega
  rw [hi2, List.take_length, hn, List.take_length] at ht
  have hlm : (l == m) = true := beq_iff_eq.2 ht
  rw [hlm]
  exact RunC.seq (RunC.region (RunO.all rfl (RunC.ret ⟨_, rfl, rfl, fg⟩)))

theorem alike_ok {h : Heap} {v w : Value} {l m : List (List Int)} (sl : Rws h v l) (sm : Rws h w m) (hl : RB l) (hm : RB m) :
    RunF prog 55 [v, w] h fun v h' => v = .bool (l == m) ∧ Fr no h h' := by
  refine RunF.walk func55 rfl rfl ?_
  refine RunC.seq (RunC.region (RunO.all rfl ?_))
  refine RunC.seq (RunC.region (RunO.part 2 rfl ?_))
  refine RunO.callD (eqRows_ok sl sm hl hm) rfl rfl rfl ?_
  rintro _ h1 ⟨rfl, f1⟩
  exact RunO.all rfl (RunC.ret ⟨_, rfl, rfl, f1⟩)
theorem snE_eq (x y : Sn) : (x == y) = (((((x.1 == y.1) && (x.2.1 == y.2.1)) && (x.2.2.2.1 == y.2.2.2.1)) && (x.2.2.2.2 == y.2.2.2.2)) && (x.2.2.1 == y.2.2.1)) := by
  obtain ⟨x1, x2, x3, x4, x5⟩ := x
  obtain ⟨y1, y2, y3, y4, y5⟩ := y
  rw [Bool.eq_iff_iff, Bool.and_eq_true, Bool.and_eq_true, Bool.and_eq_true, Bool.and_eq_true, beq_iff_eq, beq_iff_eq, beq_iff_eq, beq_iff_eq, beq_iff_eq, beq_iff_eq]
  constructor
  · intro e
    cases e
    exact ⟨⟨⟨⟨rfl, rfl⟩, rfl⟩, rfl⟩, rfl⟩
  · rintro ⟨⟨⟨⟨e1, e2⟩, e3⟩, e4⟩, e5⟩
    have e1 : x1 = y1 := e1
    have e2 : x2 = y2 := e2
    have e3 : x4 = y4 := e3
    have e4 : x5 = y5 := e4
    have e5 : x3 = y3 := e5
    rw [e1, e2, e3, e4, e5]
theorem sn_part {cs : List Value} {j : Nat} {l : List Value} (h : (cs.drop (j * 5)).take 5 = l) (hl : l.length = 5) : apart prog 93 cs (j * 5) = some (.agg ⟨l⟩) := by
  show (match takeN 5 (dropN (j * 5) cs) with | some l => some (Value.agg ⟨l⟩) | none => none) = _
  have hk : 5 ≤ (cs.drop (j * 5)).length := by
    have := congrArg List.length h
    rw [List.length_take] at this
    omega
  rw [takeN_eq, dropN_eq, h, if_pos hk]
set_option maxHeartbeats 1600000 in
theorem vwSnap_ok {h : Heap} {w w' : Value} {x y : Sn} (sl : Rws h w x.2.2.1) (sm : Rws h w' y.2.2.1) (b1 : RB x.2.2.1) (b2 : RB y.2.2.1) :
    RunF prog 57 [.agg ⟨snC x w⟩, .agg ⟨snC y w'⟩] h fun v h' => v = .bool (x == y) ∧ Fr no h h' := by
  rw [snE_eq]
  obtain ⟨x1, x2, x3, x4, x5⟩ := x
  obtain ⟨y1, y2, y3, y4, y5⟩ := y
  have sl : Rws h w x3 := sl
  have sm : Rws h w' y3 := sm
  have b1 : RB x3 := b1
  have b2 : RB y3 := b2
  show RunF prog _ [.agg ⟨[.int .i64 x1, .int .i64 x2, w, .int .i64 x4, .int .i64 x5]⟩, .agg ⟨[.int .i64 y1, .int .i64 y2, w', .int .i64 y4, .int .i64 y5]⟩] h fun v h' => v = .bool (((((x1 == y1) && (x2 == y2)) && (x4 == y4)) && (x5 == y5)) && (x3 == y3)) ∧ Fr no h h'
  refine RunF.walk func57 rfl rfl ?_
  refine RunC.seq (RunC.region (RunO.part 1 (h1 := h.push ⟨[.int .i64 x1, .int .i64 x2, w, .int .i64 x4, .int .i64 x5], true⟩) rfl ?_))
  have o1 := Ow.push h [.int .i64 x1, .int .i64 x2, w, .int .i64 x4, .int .i64 x5]
  have f1 : Fr no h (h.push ⟨[.int .i64 x1, .int .i64 x2, w, .int .i64 x4, .int .i64 x5], true⟩) := Fr.push _ _ _
  generalize h.push ⟨[.int .i64 x1, .int .i64 x2, w, .int .i64 x4, .int .i64 x5], true⟩ = h1 at *
  generalize h.next = p1 at *
  refine RunO.part 1 (h1 := h1.push ⟨[.int .i64 y1, .int .i64 y2, w', .int .i64 y4, .int .i64 y5], true⟩) rfl ?_
  have o2 := Ow.push h1 [.int .i64 y1, .int .i64 y2, w', .int .i64 y4, .int .i64 y5]
  have f2 : Fr no h1 (h1.push ⟨[.int .i64 y1, .int .i64 y2, w', .int .i64 y4, .int .i64 y5], true⟩) := Fr.push _ _ _
  replace o1 := o1.fr f2 (fun g => g)
  have F2 := f1.same f2
  replace sl := sl.fr0 F2
  replace sm := sm.fr0 F2
  generalize h1.push ⟨[.int .i64 y1, .int .i64 y2, w', .int .i64 y4, .int .i64 y5], true⟩ = h2 at *
  generalize h1.next = p2 at *
  refine RunO.all rfl ?_
  refine RunC.seq (RunC.region (RunO.part 1 rfl ?_))
  refine RunO.load (v := .int .i64 x1) rfl (o1.ld rfl) rfl ?_
  refine RunO.part 1 rfl ?_
  refine RunO.load (v := .int .i64 y1) rfl (o2.ld rfl) rfl ?_
  refine RunO.part 2 rfl ?_
  cases (x1 == y1) with
  | false => exact RunO.all rfl (RunC.ret ⟨_, rfl, rfl, F2⟩)
  | true =>
  refine RunO.part 1 rfl ?_
  refine RunO.loadG (v := .int .i64 x2) rfl rfl (o1.ld rfl) rfl ?_
  refine RunO.part 1 rfl ?_
  refine RunO.loadG (v := .int .i64 y2) rfl rfl (o2.ld rfl) rfl ?_
  refine RunO.part 3 rfl ?_
  cases (x2 == y2) with
  | false => exact RunO.all rfl (RunC.ret ⟨_, rfl, rfl, F2⟩)
  | true =>
  refine RunO.part 1 rfl ?_
  refine RunO.loadG (v := .int .i64 x4) rfl rfl (o1.ld rfl) rfl ?_
  refine RunO.part 1 rfl ?_
  refine RunO.loadG (v := .int .i64 y4) rfl rfl (o2.ld rfl) rfl ?_
  refine RunO.part 3 rfl ?_
  cases (x4 == y4) with
  | false => exact RunO.all rfl (RunC.ret ⟨_, rfl, rfl, F2⟩)
  | true =>
  refine RunO.part 1 rfl ?_
  refine RunO.loadG (v := .int .i64 x5) rfl rfl (o1.ld rfl) rfl ?_
  refine RunO.part 1 rfl ?_
  refine RunO.loadG (v := .int .i64 y5) rfl rfl (o2.ld rfl) rfl ?_
  refine RunO.part 3 rfl ?_
  cases (x5 == y5) with
  | false => exact RunO.all rfl (RunC.ret ⟨_, rfl, rfl, F2⟩)
  | true =>
  refine RunO.part 1 rfl ?_
  refine RunO.loadG (v := w) rfl rfl (o1.ld rfl) rfl ?_
  refine RunO.part 1 rfl ?_
  refine RunO.loadG (v := w') rfl rfl (o2.ld rfl) rfl ?_
  refine RunO.callDG rfl (alike_ok sl sm b1 b2) rfl rfl rfl ?_
  rintro _ h3 ⟨rfl, f3⟩
  exact RunO.all rfl (RunC.ret ⟨_, rfl, rfl, F2.same f3⟩)
set_option maxHeartbeats 1600000 in
theorem kpSnap_ok {h : Heap} {w w' : Value} {x y : Sn} (sl : Rws h w x.2.2.1) (sm : Rws h w' y.2.2.1) (b1 : RB x.2.2.1) (b2 : RB y.2.2.1) :
    RunF prog 68 [.agg ⟨snC x w⟩, .agg ⟨snC y w'⟩] h fun v h' => v = .bool (x == y) ∧ Fr no h h' := by
  rw [snE_eq]
  obtain ⟨x1, x2, x3, x4, x5⟩ := x
  obtain ⟨y1, y2, y3, y4, y5⟩ := y
  have sl : Rws h w x3 := sl
  have sm : Rws h w' y3 := sm
  have b1 : RB x3 := b1
  have b2 : RB y3 := b2
  show RunF prog _ [.agg ⟨[.int .i64 x1, .int .i64 x2, w, .int .i64 x4, .int .i64 x5]⟩, .agg ⟨[.int .i64 y1, .int .i64 y2, w', .int .i64 y4, .int .i64 y5]⟩] h fun v h' => v = .bool (((((x1 == y1) && (x2 == y2)) && (x4 == y4)) && (x5 == y5)) && (x3 == y3)) ∧ Fr no h h'
  refine RunF.walk func68 rfl rfl ?_
  refine RunC.seq (RunC.region (RunO.part 1 (h1 := h.push ⟨[.int .i64 x1, .int .i64 x2, w, .int .i64 x4, .int .i64 x5], true⟩) rfl ?_))
  have o1 := Ow.push h [.int .i64 x1, .int .i64 x2, w, .int .i64 x4, .int .i64 x5]
  have f1 : Fr no h (h.push ⟨[.int .i64 x1, .int .i64 x2, w, .int .i64 x4, .int .i64 x5], true⟩) := Fr.push _ _ _
  generalize h.push ⟨[.int .i64 x1, .int .i64 x2, w, .int .i64 x4, .int .i64 x5], true⟩ = h1 at *
  generalize h.next = p1 at *
  refine RunO.part 1 (h1 := h1.push ⟨[.int .i64 y1, .int .i64 y2, w', .int .i64 y4, .int .i64 y5], true⟩) rfl ?_
  have o2 := Ow.push h1 [.int .i64 y1, .int .i64 y2, w', .int .i64 y4, .int .i64 y5]
  have f2 : Fr no h1 (h1.push ⟨[.int .i64 y1, .int .i64 y2, w', .int .i64 y4, .int .i64 y5], true⟩) := Fr.push _ _ _
  replace o1 := o1.fr f2 (fun g => g)
  have F2 := f1.same f2
  replace sl := sl.fr0 F2
  replace sm := sm.fr0 F2
  generalize h1.push ⟨[.int .i64 y1, .int .i64 y2, w', .int .i64 y4, .int .i64 y5], true⟩ = h2 at *
  generalize h1.next = p2 at *
  refine RunO.all rfl ?_
  refine RunC.seq (RunC.region (RunO.part 1 rfl ?_))
  refine RunO.load (v := .int .i64 x1) rfl (o1.ld rfl) rfl ?_
  refine RunO.part 1 rfl ?_
  refine RunO.load (v := .int .i64 y1) rfl (o2.ld rfl) rfl ?_
  refine RunO.part 2 rfl ?_
  cases (x1 == y1) with
  | false => exact RunO.all rfl (RunC.ret ⟨_, rfl, rfl, F2⟩)
  | true =>
  refine RunO.part 1 rfl ?_
  refine RunO.loadG (v := .int .i64 x2) rfl rfl (o1.ld rfl) rfl ?_
  refine RunO.part 1 rfl ?_
  refine RunO.loadG (v := .int .i64 y2) rfl rfl (o2.ld rfl) rfl ?_
  refine RunO.part 3 rfl ?_
  cases (x2 == y2) with
  | false => exact RunO.all rfl (RunC.ret ⟨_, rfl, rfl, F2⟩)
  | true =>
  refine RunO.part 1 rfl ?_
  refine RunO.loadG (v := .int .i64 x4) rfl rfl (o1.ld rfl) rfl ?_
  refine RunO.part 1 rfl ?_
  refine RunO.loadG (v := .int .i64 y4) rfl rfl (o2.ld rfl) rfl ?_
  refine RunO.part 3 rfl ?_
  cases (x4 == y4) with
  | false => exact RunO.all rfl (RunC.ret ⟨_, rfl, rfl, F2⟩)
  | true =>
  refine RunO.part 1 rfl ?_
  refine RunO.loadG (v := .int .i64 x5) rfl rfl (o1.ld rfl) rfl ?_
  refine RunO.part 1 rfl ?_
  refine RunO.loadG (v := .int .i64 y5) rfl rfl (o2.ld rfl) rfl ?_
  refine RunO.part 3 rfl ?_
  cases (x5 == y5) with
  | false => exact RunO.all rfl (RunC.ret ⟨_, rfl, rfl, F2⟩)
  | true =>
  refine RunO.part 1 rfl ?_
  refine RunO.loadG (v := w) rfl rfl (o1.ld rfl) rfl ?_
  refine RunO.part 1 rfl ?_
  refine RunO.loadG (v := w') rfl rfl (o2.ld rfl) rfl ?_
  refine RunO.callDG rfl (keepRows_ok sl sm b1.1 (fun x hx => (b1.2 x hx).1)) rfl rfl rfl ?_
  rintro _ _ ⟨rfl, rfl⟩
  exact RunO.all rfl (RunC.ret ⟨_, rfl, rfl, F2⟩)

set_option maxHeartbeats 1600000 in
theorem keepSnaps_ok {h : Heap} {v w : Value} {l m : List Sn} (sl : Sns h v l) (sm : Sns h w m) (hl : SB l) (hm : SB m) :
    RunF prog 45 [v, w] h fun v h' => v = .bool (l == m) ∧ Fr no h h' := by
  refine RunF.walk func45 rfl rfl ?_
  have hlen := hl.1
  obtain ⟨cs, s1, k1⟩ := sl
  obtain ⟨ds, s2, k2⟩ := sm
  have s10 := s1
  have s20 := s2
  obtain ⟨A, c, rfl, hc, _⟩ := s1.form
  obtain ⟨B, d, rfl, hd, _⟩ := s2.form
  refine RunC.seq (RunC.region (RunO.all rfl ?_))
  refine RunC.seq (RunC.seq (RunC.region (RunO.all rfl ?_)))
  by_cases hn : l.length = m.length
  case neg =>
    rw [show ((l.length : Int) != (m.length : Int)) = true from bne_iff_ne.2 (by omega)]
    refine RunC.cond rfl (fun _ => ?_) (fun g => by cases g)
    rw [show (l == m) = false from beq_eq_false_iff_ne.2 (fun e => hn (by rw [e]))]
    exact RunC.seq (RunC.region (RunO.all rfl (RunC.ret ⟨_, rfl, rfl, Fr.refl _ _⟩)))
  rw [show ((l.length : Int) != (m.length : Int)) = false from by rw [hn]; exact bne_self_eq_false _]
  refine RunC.cond rfl (fun g => by cases g) (fun _ => RunC.skip ?_)
  refine RunC.seq (RunC.seq (RunC.region (RunO.all rfl ?_)))
  refine RunC.block ?_

  refine RunC.loop (fun k E h' => ∃ i : Nat, i + k = l.length ∧ l.take i = m.take i ∧ Fr no h h' ∧ Le ((upd (upd (upd E0 0 (.slice A l.length c)) 1 (.slice B m.length d)) 5 (.int .i64 (i : Int)))) E) ?st (k := l.length) ?ini
  case ini => exact ⟨0, by omega, rfl, Fr.refl _ _, Le.cons rfl (Le.cons rfl (Le.cons rfl (Le.nil _)))⟩
  rintro k E g ⟨i, hi, ht, fg, hE⟩
  refine RunC.le hE ?_
  clear hE
  refine RunC.seq (RunC.seq (RunC.region (RunO.all rfl ?_)))
  refine RunC.cond rfl (fun hlt => RunC.skip ?go) (fun hge => RunC.exit ?ex)
  case go =>
    have hlt := of_decide_eq_true hlt
    have h1 : i < l.length := by omega
    have h2 : i < m.length := by omega
    obtain ⟨w1, e1, sw1⟩ := k1 i l[i] (List.getElem?_eq_getElem h1)
    obtain ⟨w2, e2, sw2⟩ := k2 i m[i] (List.getElem?_eq_getElem h2)
    refine RunC.seq (RunC.block ?_)
    refine RunC.seq (RunC.draw0 rfl (RunO.part 2 rfl ?_))
    refine RunO.at (s := 5) (k := i) rfl rfl (s10.fr0 fg) rfl rfl h1 (sn_part e1 rfl) rfl rfl rfl ?_
    refine RunO.part 2 rfl ?_
    refine RunO.at (s := 5) (k := i) rfl rfl (s20.fr0 fg) rfl rfl h2 (sn_part e2 rfl) rfl rfl rfl ?_
    refine RunO.callD (kpSnap_ok (sw1.fr0 fg) (sw2.fr0 fg) (hl.2 _ (List.getElem_mem h1)) (hm.2 _ (List.getElem_mem h2))) rfl rfl rfl ?_
    rintro _ g2 ⟨rfl, f2⟩

    by_cases he : l[i] = m[i]
    · rw [show (l[i] == m[i]) = true from beq_iff_eq.2 he]
      refine RunO.all rfl (RunC.cond rfl (fun g => by cases g) (fun _ => RunC.skip ?_))
      refine RunC.region (RunO.all rfl ?_)
      refine ⟨k - 1, by omega, i + 1, by omega, ?_, fg.same f2, Le.cons (inc64 (by omega)) (Le.cons rfl (Le.cons rfl (Le.nil _)))⟩
      rw [List.take_succ_eq_append_getElem h1, List.take_succ_eq_append_getElem h2, ht, he]
    · rw [show (l[i] == m[i]) = false from beq_eq_false_iff_ne.2 he]
      refine RunO.all rfl (RunC.cond rfl (fun _ => ?_) (fun g => by cases g))
      have hlm : (l == m) = false := beq_eq_false_iff_ne.2 (fun e => he (by simp [e]))
      rw [hlm]
      exact RunC.seq (RunC.region (RunO.all rfl (RunC.ret ⟨_, rfl, rfl, fg.same f2⟩)))
  have hge := of_decide_eq_false hge
  have hi2 : i = l.length := by omega
  rw [hi2, List.take_length, hn, List.take_length] at ht
  have hlm : (l == m) = true := beq_iff_eq.2 ht
  rw [hlm]
  exact RunC.seq (RunC.region (RunO.all rfl (RunC.ret ⟨_, rfl, rfl, fg⟩)))

set_option maxHeartbeats 1600000 in
theorem eqSnaps_ok {h : Heap} {v w : Value} {l m : List Sn} (sl : Sns h v l) (sm : Sns h w m) (hl : SB l) (hm : SB m) :
    RunF prog 56 [v, w, .func (.func 57) #[] #[]] h fun v h' => v = .bool (l == m) ∧ Fr no h h' := by
  refine RunF.walk func56 rfl rfl ?_
  have hlen := hl.1
  obtain ⟨cs, s1, k1⟩ := sl
  obtain ⟨ds, s2, k2⟩ := sm
  have s10 := s1
  have s20 := s2
  obtain ⟨A, c, rfl, hc, _⟩ := s1.form
  obtain ⟨B, d, rfl, hd, _⟩ := s2.form
  refine RunC.seq (RunC.region (RunO.all rfl ?_))
  refine RunC.seq (RunC.seq (RunC.region (RunO.all rfl ?_)))
  by_cases hn : l.length = m.length
  case neg =>
    rw [show ((l.length : Int) != (m.length : Int)) = true from bne_iff_ne.2 (by omega)]
    refine RunC.cond rfl (fun _ => ?_) (fun g => by cases g)
    rw [show (l == m) = false from beq_eq_false_iff_ne.2 (fun e => hn (by rw [e]))]
    exact RunC.seq (RunC.region (RunO.all rfl (RunC.ret ⟨_, rfl, rfl, Fr.refl _ _⟩)))
  rw [show ((l.length : Int) != (m.length : Int)) = false from by rw [hn]; exact bne_self_eq_false _]
  refine RunC.cond rfl (fun g => by cases g) (fun _ => RunC.skip ?_)
  refine RunC.seq (RunC.seq (RunC.region (RunO.all rfl ?_)))
  refine RunC.block ?_

  refine RunC.loop (fun k E h' => ∃ i : Nat, i + k = l.length ∧ l.take i = m.take i ∧ Fr no h h' ∧ Le ((upd (upd (upd (upd (upd E0 1 (.slice B m.length d)) 2 (.func (.func 57) #[] #[])) 15 (.slice A l.length c)) 16 (.int .i64 (l.length : Int))) 17 (.int .i64 (i : Int)))) E) ?st (k := l.length) ?ini
  case ini => exact ⟨0, by omega, rfl, Fr.refl _ _, Le.cons rfl (Le.cons rfl (Le.cons rfl (Le.cons rfl (Le.cons rfl (Le.nil _)))))⟩
  rintro k E g ⟨i, hi, ht, fg, hE⟩
  refine RunC.le hE ?_
  clear hE
  refine RunC.seq (RunC.region (RunO.all rfl ?_))
  refine RunC.seq (RunC.cond rfl (fun hlt => RunC.skip ?go) (fun hge => RunC.exit ?ex))
  case go =>
    have hlt := of_decide_eq_true hlt
    have h1 : i < l.length := by omega
    have h2 : i < m.length := by omega
    obtain ⟨w1, e1, sw1⟩ := k1 i l[i] (List.getElem?_eq_getElem h1)
    obtain ⟨w2, e2, sw2⟩ := k2 i m[i] (List.getElem?_eq_getElem h2)
    obtain ⟨wA, wc, hw1⟩ : ∃ a b, w1 = .slice a l[i].2.2.1.length b := by
      obtain ⟨cs, s, _⟩ := sw1
      obtain ⟨a, b, e, _⟩ := s.form
      exact ⟨a, b, e⟩
    obtain ⟨uA, uc, hw2⟩ : ∃ a b, w2 = .slice a m[i].2.2.1.length b := by
      obtain ⟨cs, s, _⟩ := sw2
      obtain ⟨a, b, e, _⟩ := s.form
      exact ⟨a, b, e⟩
    have c1 : isCell w1 = true := by rw [hw1]; rfl
    have c2 : isCell w2 = true := by rw [hw2]; rfl
    refine RunC.seq (RunC.block ?_)
    refine RunC.seq (RunC.region (RunO.part 1 rfl ?_))
    refine RunO.at (s := 5) (k := i) rfl rfl (s10.fr0 fg) rfl rfl h1 (sn_part e1 rfl) rfl rfl rfl ?_
    refine RunO.part 2 (h1 := g.push ⟨[.int .i64 0, .int .i64 0, .slice none 0 0, .int .i64 0, .int .i64 0], true⟩) rfl ?_
    refine RunO.store rfl rfl (store_ow (s := 5) (Ow.push g [.int .i64 0, .int .i64 0, .slice none 0 0, .int .i64 0, .int .i64 0]) rfl rfl (by show cond (isCell w1) true false = true; rw [c1]; rfl) (Nat.le_refl 5)) (RunO.nil ?_)
    have o1 : Ow ((g.push ⟨[.int .i64 0, .int .i64 0, .slice none 0 0, .int .i64 0, .int .i64 0], true⟩).put g.next (some ⟨snC l[i] w1, true⟩)) g.next (snC l[i] w1) := Ow.put _ (Nat.lt_succ_self _)
    have f1 : Fr no g ((g.push ⟨[.int .i64 0, .int .i64 0, .slice none 0 0, .int .i64 0, .int .i64 0], true⟩).put g.next (some ⟨snC l[i] w1, true⟩)) := (Fr.push _ _ _).trans (Fr.put (m := (· = g.next)) _ (.inl rfl)) (fun j hj => .inr (by omega))
    show RunC prog _ _ _ ((g.push ⟨[.int .i64 0, .int .i64 0, .slice none 0 0, .int .i64 0, .int .i64 0], true⟩).put g.next (some ⟨snC l[i] w1, true⟩)) _ _ _
    generalize (g.push ⟨[.int .i64 0, .int .i64 0, .slice none 0 0, .int .i64 0, .int .i64 0], true⟩).put g.next (some ⟨snC l[i] w1, true⟩) = g1 at *
    generalize g.next = p1 at *
    replace fg := fg.same f1
    refine RunC.seq (RunC.region (RunO.part 2 rfl ?_))
    refine RunO.at (s := 5) (k := i) rfl rfl (s20.fr0 fg) rfl rfl h2 (sn_part e2 rfl) rfl rfl rfl ?_
    refine RunO.part 1 (h1 := g1.push ⟨[.int .i64 0, .int .i64 0, .slice none 0 0, .int .i64 0, .int .i64 0], true⟩) rfl ?_
    refine RunO.store rfl rfl (store_ow (s := 5) (Ow.push g1 [.int .i64 0, .int .i64 0, .slice none 0 0, .int .i64 0, .int .i64 0]) rfl rfl (by show cond (isCell w2) true false = true; rw [c2]; rfl) (Nat.le_refl 5)) (RunO.nil ?_)
    have o2 : Ow ((g1.push ⟨[.int .i64 0, .int .i64 0, .slice none 0 0, .int .i64 0, .int .i64 0], true⟩).put g1.next (some ⟨snC m[i] w2, true⟩)) g1.next (snC m[i] w2) := Ow.put _ (Nat.lt_succ_self _)
    have f2 : Fr no g1 ((g1.push ⟨[.int .i64 0, .int .i64 0, .slice none 0 0, .int .i64 0, .int .i64 0], true⟩).put g1.next (some ⟨snC m[i] w2, true⟩)) := (Fr.push _ _ _).trans (Fr.put (m := (· = g1.next)) _ (.inl rfl)) (fun j hj => .inr (by omega))
    show RunC prog _ _ _ ((g1.push ⟨[.int .i64 0, .int .i64 0, .slice none 0 0, .int .i64 0, .int .i64 0], true⟩).put g1.next (some ⟨snC m[i] w2, true⟩)) _ _ _
    generalize (g1.push ⟨[.int .i64 0, .int .i64 0, .slice none 0 0, .int .i64 0, .int .i64 0], true⟩).put g1.next (some ⟨snC m[i] w2, true⟩) = g2 at *
    generalize g1.next = p2 at *
    replace fg := fg.same f2
    replace o1 := o1.fr f2 (fun g => g)
    refine RunC.seq (RunC.region (RunO.part 1 rfl ?_))
    refine RunO.load (v := .agg ⟨snC l[i] w1⟩) rfl (o1.ld rfl) rfl ?_
    refine RunO.load (v := .agg ⟨snC m[i] w2⟩) rfl (o2.ld rfl) rfl ?_
    refine RunO.callD (vwSnap_ok (sw1.fr0 fg) (sw2.fr0 fg) (hl.2 _ (List.getElem_mem h1)) (hm.2 _ (List.getElem_mem h2))) rfl rfl rfl ?_
    rintro _ g3 ⟨rfl, f3⟩

    by_cases he : l[i] = m[i]
    · rw [show (l[i] == m[i]) = true from beq_iff_eq.2 he]
      refine RunO.all rfl (RunC.cond rfl (fun g => by cases g) (fun _ => RunC.skip ?_))
      refine RunC.region (RunO.all rfl ?_)
      refine ⟨k - 1, by omega, i + 1, by omega, ?_, fg.same f3, Le.cons (inc64 (by omega)) (Le.cons rfl (Le.cons rfl (Le.cons rfl (Le.cons rfl (Le.nil _)))))⟩
      rw [List.take_succ_eq_append_getElem h1, List.take_succ_eq_append_getElem h2, ht, he]
    · rw [show (l[i] == m[i]) = false from beq_eq_false_iff_ne.2 he]
      refine RunO.all rfl (RunC.cond rfl (fun _ => ?_) (fun g => by cases g))
      have hlm : (l == m) = false := beq_eq_false_iff_ne.2 (fun e => he (by simp [e]))
      rw [hlm]
      exact RunC.seq (RunC.region (RunO.all rfl (RunC.ret ⟨_, rfl, rfl, fg.same f3⟩)))
  have hge := of_decide_eq_false hge
  have hi2 : i = l.length := by omega
  rw [hi2, List.take_length, hn, List.take_length] at ht
  have hlm : (l == m) = true := beq_iff_eq.2 ht
  rw [hlm]
  exact RunC.seq (RunC.region (RunO.all rfl (RunC.ret ⟨_, rfl, rfl, fg⟩)))
set_option maxHeartbeats 1600000 in
theorem viewSame_ok {h : Heap} {hv sv ov hv' sv' ov' : Value} {H H' : List (List Int)} {S S' O O' : List Sn} (a1 : Rws h hv H) (a2 : Sns h sv S) (a3 : Sns h ov O) (b1 : Rws h hv' H') (b2 : Sns h sv' S') (b3 : Sns h ov' O')
    (c1 : RB H) (c2 : SB S) (c3 : SB O) (d1 : RB H') (d2 : SB S') (d3 : SB O') :
    RunF prog 28 [.agg ⟨[hv, sv, ov]⟩, .agg ⟨[hv', sv', ov']⟩] h fun v h' => v = .bool (((H == H') && (S == S')) && (O == O')) ∧ Fr no h h' := by
  refine RunF.walk func28 rfl rfl ?_
  refine RunC.seq (RunC.region (RunO.part 1 (h1 := h.push ⟨[hv, sv, ov], true⟩) rfl ?_))
  have o1 := Ow.push h [hv, sv, ov]
  have f1 : Fr no h (h.push ⟨[hv, sv, ov], true⟩) := Fr.push _ _ _
  generalize h.push ⟨[hv, sv, ov], true⟩ = h1 at *
  generalize h.next = p1 at *
  refine RunO.part 1 (h1 := h1.push ⟨[hv', sv', ov'], true⟩) rfl ?_
  have o2 := Ow.push h1 [hv', sv', ov']
  have f2 : Fr no h1 (h1.push ⟨[hv', sv', ov'], true⟩) := Fr.push _ _ _
  replace o1 := o1.fr f2 (fun g => g)
  have F2 := f1.same f2
  generalize h1.push ⟨[hv', sv', ov'], true⟩ = h2 at *
  generalize h1.next = p2 at *
  refine RunO.all rfl ?_
  refine RunC.seq (RunC.region (RunO.part 1 rfl ?_))
  refine RunO.load (v := hv) rfl (o1.ld rfl) rfl ?_
  refine RunO.part 1 rfl ?_
  refine RunO.load (v := hv') rfl (o2.ld rfl) rfl ?_
  refine RunO.callD (alike_ok (a1.fr0 F2) (b1.fr0 F2) c1 d1) rfl rfl rfl ?_
  rintro _ h2_ ⟨rfl, f2_⟩
  replace F2 := F2.same f2_
  replace o1 := o1.fr f2_ (fun g => g)
  replace o2 := o2.fr f2_ (fun g => g)
  refine RunO.part 1 rfl ?_
  cases (H == H') with
  | false => exact RunO.all rfl (RunC.ret ⟨_, rfl, rfl, F2⟩)
  | true =>
  refine RunO.part 1 rfl ?_
  refine RunO.loadG (v := sv) rfl rfl (o1.ld rfl) rfl ?_
  refine RunO.part 1 rfl ?_
  refine RunO.loadG (v := sv') rfl rfl (o2.ld rfl) rfl ?_
  refine RunO.callDG rfl (eqSnaps_ok (a2.fr0 F2) (b2.fr0 F2) c2 d2) rfl rfl rfl ?_
  rintro _ h3 ⟨rfl, f3⟩
  have F3 := F2.same f3
  refine RunO.part 2 rfl ?_
  cases (S == S') with
  | false => exact RunO.all rfl (RunC.ret ⟨_, rfl, rfl, F3⟩)
  | true =>
  replace o1 := o1.fr f3 (fun g => g)
  replace o2 := o2.fr f3 (fun g => g)
  refine RunO.part 1 rfl ?_
  refine RunO.loadG (v := ov) rfl rfl (o1.ld rfl) rfl ?_
  refine RunO.part 1 rfl ?_
  refine RunO.loadG (v := ov') rfl rfl (o2.ld rfl) rfl ?_
  refine RunO.callDG rfl (eqSnaps_ok (a3.fr0 F3) (b3.fr0 F3) c3 d3) rfl rfl rfl ?_
  rintro _ h4 ⟨rfl, f4⟩
  exact RunO.all rfl (RunC.ret ⟨_, rfl, rfl, F3.same f4⟩)
set_option maxHeartbeats 1600000 in
theorem keepView_ok {h : Heap} {hv sv ov hv' sv' ov' : Value} {H H' : List (List Int)} {S S' O O' : List Sn} (a1 : Rws h hv H) (a2 : Sns h sv S) (a3 : Sns h ov O) (b1 : Rws h hv' H') (b2 : Sns h sv' S') (b3 : Sns h ov' O')
    (c1 : RB H) (c2 : SB S) (c3 : SB O) (d1 : RB H') (d2 : SB S') (d3 : SB O') :
    RunF prog 29 [.agg ⟨[hv, sv, ov]⟩, .agg ⟨[hv', sv', ov']⟩] h fun v h' => v = .bool (((H == H') && (S == S')) && (O == O')) ∧ Fr no h h' := by
  refine RunF.walk func29 rfl rfl ?_
  refine RunC.seq (RunC.region (RunO.part 1 (h1 := h.push ⟨[hv, sv, ov], true⟩) rfl ?_))
  have o1 := Ow.push h [hv, sv, ov]
  have f1 : Fr no h (h.push ⟨[hv, sv, ov], true⟩) := Fr.push _ _ _
  generalize h.push ⟨[hv, sv, ov], true⟩ = h1 at *
  generalize h.next = p1 at *
  refine RunO.part 1 (h1 := h1.push ⟨[hv', sv', ov'], true⟩) rfl ?_
  have o2 := Ow.push h1 [hv', sv', ov']
  have f2 : Fr no h1 (h1.push ⟨[hv', sv', ov'], true⟩) := Fr.push _ _ _
  replace o1 := o1.fr f2 (fun g => g)
  have F2 := f1.same f2
  generalize h1.push ⟨[hv', sv', ov'], true⟩ = h2 at *
  generalize h1.next = p2 at *
  refine RunO.all rfl ?_
  refine RunC.seq (RunC.region (RunO.part 1 rfl ?_))
  refine RunO.load (v := hv) rfl (o1.ld rfl) rfl ?_
  refine RunO.part 1 rfl ?_
  refine RunO.load (v := hv') rfl (o2.ld rfl) rfl ?_
  refine RunO.callD (keepRows_ok (a1.fr0 F2) (b1.fr0 F2) c1.1 (fun x hx => (c1.2 x hx).1)) rfl rfl rfl ?_
  rintro _ _ ⟨rfl, rfl⟩
  refine RunO.part 1 rfl ?_
  cases (H == H') with
  | false => exact RunO.all rfl (RunC.ret ⟨_, rfl, rfl, F2⟩)
  | true =>
  refine RunO.part 1 rfl ?_
  refine RunO.loadG (v := sv) rfl rfl (o1.ld rfl) rfl ?_
  refine RunO.part 1 rfl ?_
  refine RunO.loadG (v := sv') rfl rfl (o2.ld rfl) rfl ?_
  refine RunO.callDG rfl (keepSnaps_ok (a2.fr0 F2) (b2.fr0 F2) c2 d2) rfl rfl rfl ?_
  rintro _ h3 ⟨rfl, f3⟩
  have F3 := F2.same f3
  refine RunO.part 2 rfl ?_
  cases (S == S') with
  | false => exact RunO.all rfl (RunC.ret ⟨_, rfl, rfl, F3⟩)
  | true =>
  replace o1 := o1.fr f3 (fun g => g)
  replace o2 := o2.fr f3 (fun g => g)
  refine RunO.part 1 rfl ?_
  refine RunO.loadG (v := ov) rfl rfl (o1.ld rfl) rfl ?_
  refine RunO.part 1 rfl ?_
  refine RunO.loadG (v := ov') rfl rfl (o2.ld rfl) rfl ?_
  refine RunO.callDG rfl (keepSnaps_ok (a3.fr0 F3) (b3.fr0 F3) c3 d3) rfl rfl rfl ?_
  rintro _ h4 ⟨rfl, f4⟩
  exact RunO.all rfl (RunC.ret ⟨_, rfl, rfl, F3.same f4⟩)

end Go.Proofs.Ytnokcbenpnmnbaa
end
section
set_option linter.unusedVariables false
set_option linter.unusedSectionVars false
set_option maxRecDepth 100000
open Go Go.Am Go.RowKit
namespace Go.Proofs.Ytnokcbenpnmnbaa
open Go.Proofs.Try

def vsE (L : List Int) (root size : Int) : Int := if treeE L root = 0 then (if size < 0 ∨ size > 512 then 1 else 0) else treeE L root
theorem treeM_rng {L : List Int} {root : Int} (h : treeE L root = 0) : ∀ x ∈ treeM L root, x = 0 ∨ (0 ≤ x ∧ (x.toNat + 1) * 64 ≤ L.length) := by
  obtain ⟨h1, h2⟩ := treeE_ok h
  have hdl : L.length % 64 = 0 ∧ 4 ≤ L.length / 64 ∧ L.length / 64 ≤ 4096 := by
    unfold devOk at h2
    simpa using h2
  intro x hx
  have := (tree_rng h2 h1).1 x hx
  exact .inr ⟨this.1, by omega⟩
set_option maxHeartbeats 4000000 in
theorem viewSectors_ok {h : Heap} {iv : Value} {L : List Int} {root size : Int} (sl : Sl h iv 1 L.length (us L)) (hb : Byt L) (hm : L.length ≤ 4611686018427387904) :
    RunF prog 27 [iv, .int .i64 root, .int .i64 size] h fun v h' => Fr no h h' ∧ ((vsE L root size = 0 ∧ ∃ rv, v = .tuple #[rv, .int .i64 0] ∧ RwG h.next h' rv (secsL L (treeM L root) size.toNat)) ∨ (vsE L root size ≠ 0 ∧ v = .tuple #[.slice none 0 0, .int .i64 (vsE L root size)])) := by
  refine RunF.walk func27 rfl rfl ?_
  have sl0 := sl
  obtain ⟨A, c, rfl, _, _⟩ := sl.form
  refine RunC.seq (RunC.region (RunO.all rfl ?_))
  refine RunC.seq (RunC.region (RunO.part 2 rfl ?_))
  refine RunO.callD (treeMap_ok sl0 hb hm) rfl rfl rfl ?_
  rintro _ h1 ⟨f1, ⟨e0, mb, hmb, rfl, om⟩ | ⟨e0, rfl⟩⟩
  case inr =>
    have hv : vsE L root size = treeE L root := by unfold vsE; rw [if_neg e0]
    rw [hv]
    generalize treeE L root = e at *
    refine RunO.all rfl ?_
    refine RunC.seq (RunC.block ?_)
    refine RunC.seq (RunC.region (RunO.part 1 rfl ?_))
    refine RunO.part 1 rfl ?_
    rw [show (e != 0) = true from bne_iff_ne.2 e0]
    refine RunO.all rfl (RunC.cond rfl (fun _ => ?_) (fun g => by cases g))
    exact RunC.seq (RunC.region (RunO.all rfl (RunC.ret ⟨_, rfl, f1, .inr ⟨e0, rfl⟩⟩)))
  have hv : vsE L root size = if size < 0 ∨ size > 512 then 1 else 0 := by unfold vsE; rw [if_pos e0]
  rw [hv]
  refine RunO.all rfl ?_
  have hrng := treeM_rng e0
  have hml := treeM_len L root
  have slm : Sl h1 (.slice (some ⟨mb, 0, none⟩) 512 (exc 512)) 1 (treeM L root).length (is (treeM L root)) := sl_owI om hml (Cp.exc (Nat.le_refl _)) (by omega)
  by_cases h0 : size < 0
  · refine RunC.seq (RunC.block ?_)
    refine RunC.seq (RunC.region (RunO.all rfl (RunC.cond rfl (fun g => by cases g) (fun _ => ?_))))
    refine RunC.seq (RunC.region (RunO.part 2 rfl ?_))
    rw [decide_eq_true h0]
    refine RunO.all rfl (RunC.cond rfl (fun _ => ?_) (fun g => by cases g))
    rw [if_pos (.inl h0)]
    exact RunC.seq (RunC.region (RunO.all rfl (RunC.ret ⟨_, rfl, f1, .inr ⟨by decide, rfl⟩⟩)))
  by_cases h5 : size > 512
  · refine RunC.seq (RunC.block ?_)
    refine RunC.seq (RunC.region (RunO.all rfl (RunC.cond rfl (fun g => by cases g) (fun _ => ?_))))
    refine RunC.seq (RunC.region (RunO.part 2 rfl ?_))
    rw [decide_eq_false h0]
    refine RunO.part 3 rfl ?_
    rw [decide_eq_true h5]
    refine RunO.all rfl (RunC.cond rfl (fun _ => ?_) (fun g => by cases g))
    rw [if_pos (.inr h5)]
    exact RunC.seq (RunC.region (RunO.all rfl (RunC.ret ⟨_, rfl, f1, .inr ⟨by decide, rfl⟩⟩)))
  rw [if_neg (fun g => g.elim h0 h5)]
  obtain ⟨n, rfl⟩ := Int.eq_ofNat_of_zero_le (show 0 ≤ size by omega)
  rw [Int.toNat_natCast]
  have hsec := sectors_ok (n := n) (sl0.fr0 f1) slm hrng (by omega) (by omega) hm
  refine RunC.seq (RunC.block ?_)
  refine RunC.seq (RunC.region (RunO.all rfl (RunC.cond rfl (fun g => by cases g) (fun _ => ?_))))
  refine RunC.seq (RunC.region (RunO.part 2 rfl ?_))
  rw [decide_eq_false h0]
  refine RunO.part 3 rfl ?_
  rw [decide_eq_false h5]
  refine RunO.all rfl (RunC.cond rfl (fun g => by cases g) (fun _ => RunC.skip ?_))
  refine RunC.seq (RunC.region (RunO.part 3 rfl ?_))
  refine RunO.callD hsec rfl rfl rfl ?_
  rintro rv h2 ⟨f2, rr⟩
  exact RunO.all rfl (RunC.ret ⟨_, rfl, f1.same f2, .inl ⟨rfl, rv, rfl, by
    obtain ⟨cs, row, k⟩ := rr
    refine ⟨cs, Row.lo row f1.next, fun j x hx => ?_⟩
    obtain ⟨w, e, sw, hw⟩ := k j x hx
    exact ⟨w, e, sw, fun b o c e => ⟨by have := (hw b o c e).1; have := f1.next; omega, (hw b o c e).2⟩⟩⟩⟩)
theorem secsL_RB {L m : List Int} {n : Nat} (hb : Byt L) (hr : ∀ x ∈ m, x = 0 ∨ (0 ≤ x ∧ (x.toNat + 1) * 64 ≤ L.length)) (hm : m.length ≤ 100000) : RB (secsL L m n) := by
  refine ⟨?_, fun r hr2 => ?_⟩
  · unfold secsL; rw [List.length_map, List.length_take]; omega
  · unfold secsL at hr2
    obtain ⟨x, hx, rfl⟩ := List.mem_map.1 hr2
    have := hr x (List.mem_of_mem_take hx)
    unfold secB
    split
    · refine ⟨by rw [List.length_replicate]; decide, fun y hy => ?_⟩
      rw [List.eq_of_mem_replicate hy]; decide
    · rename_i h0
      exact ⟨by rw [blkI_len (this.resolve_left h0).2]; decide, byt_blk hb _⟩
theorem Sns.nil (h : Heap) : Sns h (.slice none 0 0) [] := ⟨[], Sl.nil h 5, fun j x hx => by cases hx⟩
theorem RB.nil : RB [] := ⟨by decide, fun x hx => by cases hx⟩
theorem SB.nil : SB [] := ⟨by decide, fun x hx => by cases hx⟩
set_option maxHeartbeats 16000000 in
theorem wakes17_ok {h : Heap} : RunF prog 32 [] h fun v h' => v = .bool true ∧ Fr no h h' := by
  refine RunF.walk func32 rfl rfl ?_
  have h4 : 4 ≤ 8 := by decide
  have hB : 8 ≤ 4096 := by decide
  refine RunC.seq (RunC.region (RunO.all rfl ?_))
  refine RunC.seq (RunC.region ?_)
  refine RunO.callD (openNew_ok (B := 8) h4 hB) rfl rfl rfl ?_
  rintro _ h1 ⟨f1, ib, hib, rfl, oi⟩
  obtain ⟨k1, k2, k3⟩ := lk_new h4 hB
  have hl := newI_len (B := 8) (by decide)
  have hby := newI_byt 8
  generalize newI 8 = L at *
  have k0 : (lk L).2 = 0 := by rw [k1]
  have eH : vwH L = [] := by unfold vwH; rw [k3]; rfl
  have eS : vwS L (lkF L).1 = [] := by rw [k2]; rfl
  have eO : vwO L (lkF L).1 = [] := by rw [k2]; rfl
  have sli := sl_own oi hl (Cp.exc (Nat.le_refl _)) (by decide)
  refine RunO.all rfl ?_
  refine RunC.seq (RunC.region (RunO.part 1 rfl ?_))
  refine RunO.callD (viewOf_ok sli hby (by omega)) rfl rfl rfl ?_
  rintro _ h2 ⟨f2, ⟨_, hv, sv, ov, rfl, a1, a2, a3⟩ | ⟨g, _⟩⟩
  case inr => exact absurd k0 g
  rw [eH] at a1
  rw [eS] at a2
  rw [eO] at a3
  obtain ⟨hA, hc, rfl⟩ : ∃ a b, hv = .slice a 0 b := by
    obtain ⟨cs, s, _⟩ := a1
    obtain ⟨a, b, e, _⟩ := s.form
    exact ⟨a, b, e⟩
  obtain ⟨sA, sc_, rfl⟩ : ∃ a b, sv = .slice a 0 b := by
    obtain ⟨cs, s, _⟩ := a2
    obtain ⟨a, b, e, _⟩ := s.form
    exact ⟨a, b, e⟩
  obtain ⟨oA, oc, rfl⟩ : ∃ a b, ov = .slice a 0 b := by
    obtain ⟨cs, s, _⟩ := a3
    obtain ⟨a, b, e, _⟩ := s.form
    exact ⟨a, b, e⟩
  refine RunO.part 4 (h1 := h2.push ⟨[.slice none 0 0, .slice none 0 0, .slice none 0 0], true⟩) rfl ?_
  refine RunO.store rfl rfl (store_ow (s := 3) (Ow.push h2 [.slice none 0 0, .slice none 0 0, .slice none 0 0]) rfl rfl rfl (Nat.le_refl 3)) (RunO.all rfl ?_)
  have ot : Ow ((h2.push ⟨[.slice none 0 0, .slice none 0 0, .slice none 0 0], true⟩).put h2.next (some ⟨[.slice hA 0 hc, .slice sA 0 sc_, .slice oA 0 oc], true⟩)) h2.next [.slice hA 0 hc, .slice sA 0 sc_, .slice oA 0 oc] := Ow.put _ (Nat.lt_succ_self _)
  have f3 : Fr no h2 ((h2.push ⟨[.slice none 0 0, .slice none 0 0, .slice none 0 0], true⟩).put h2.next (some ⟨[.slice hA 0 hc, .slice sA 0 sc_, .slice oA 0 oc], true⟩)) := (Fr.push _ _ _).trans (Fr.put (m := (· = h2.next)) _ (.inl rfl)) (fun j hj => .inr (by omega))
  show RunC prog _ _ _ ((h2.push ⟨[.slice none 0 0, .slice none 0 0, .slice none 0 0], true⟩).put h2.next (some ⟨[.slice hA 0 hc, .slice sA 0 sc_, .slice oA 0 oc], true⟩)) _ _ _
  generalize (h2.push ⟨[.slice none 0 0, .slice none 0 0, .slice none 0 0], true⟩).put h2.next (some ⟨[.slice hA 0 hc, .slice sA 0 sc_, .slice oA 0 oc], true⟩) = h3 at *
  generalize h2.next = tb at *
  have F3 := f2.same f3
  have te : treeE L 0 = 0 := by unfold treeE; rw [hl]; rfl
  refine RunC.seq (RunC.region (RunO.part 1 rfl ?_))
  refine RunO.callD (viewSectors_ok (root := 0) (size := 2) (sli.fr0 F3) hby (by omega)) rfl rfl rfl ?_
  have hvs : vsE L 0 2 = 0 := by unfold vsE; rw [te]; rfl
  rintro _ h4 ⟨f4, ⟨_, rv, rfl, rr⟩ | ⟨g, _⟩⟩
  case inr => exact absurd hvs g
  have eR : secsL L (treeM L 0) (2 : Int).toNat = [List.replicate 64 0, List.replicate 64 0] := rfl
  rw [eR] at rr
  have rw4 := rr.rws (by show 2 ≤ _; decide)
  have rw40 := rw4
  obtain ⟨cs, s4, k4⟩ := rw4
  have s40 := s4
  obtain ⟨w1, e1, sw1⟩ := k4 1 (List.replicate 64 0) rfl
  obtain ⟨wA, wc, rfl, _, _⟩ := sw1.form
  obtain ⟨rA, rc, rfl, _, _⟩ := s4.form
  have s40 : Sl h4 (.slice rA 2 rc) 1 2 cs := s40
  have ot4 := ot.fr f4 (fun g => g)
  refine RunO.all rfl ?_
  refine RunC.seq (RunC.region (RunO.part 8 rfl ?_))
  refine RunO.loadG (v := .slice hA 0 hc) rfl rfl (ot4.ld rfl) rfl ?_
  refine RunO.part 2 rfl ?_
  refine RunO.loadG (v := .slice sA 0 sc_) rfl rfl (ot4.ld rfl) rfl ?_
  refine RunO.part 3 rfl ?_
  refine RunO.loadG (v := .slice oA 0 oc) rfl rfl (ot4.ld rfl) rfl ?_
  refine RunO.part 14 rfl ?_
  refine RunO.part 1 rfl ?_
  refine RunO.atG (s := 1) (k := 1) rfl (fun _ => rfl) rfl rfl s40 rfl rfl (by decide) (row_part e1) rfl rfl rfl ?_
  refine RunO.part 4 rfl ?_
  refine RunO.loadG (v := .agg ⟨[.slice hA 0 hc, .slice sA 0 sc_, .slice oA 0 oc]⟩) rfl rfl (ot4.ld rfl) rfl ?_
  refine RunO.part 1 rfl ?_
  have F4 := f4
  refine RunO.callDG rfl (viewSame_ok ((a1.fr0 f3).fr0 f4) ((a2.fr0 f3).fr0 f4) ((a3.fr0 f3).fr0 f4) (Rws.nil _) (Sns.nil _) (Sns.nil _) RB.nil SB.nil SB.nil RB.nil SB.nil SB.nil) rfl rfl rfl ?_
  rintro _ h5 ⟨rfl, f5⟩
  refine RunO.part 2 rfl ?_
  have ot5 := ot4.fr f5 (fun g => g)
  refine RunO.loadG (v := .agg ⟨[.slice hA 0 hc, .slice sA 0 sc_, .slice oA 0 oc]⟩) rfl rfl (ot5.ld rfl) rfl ?_
  refine RunO.part 2 rfl ?_
  have hrb : RB [List.replicate 64 0, List.replicate 64 0] := ⟨by decide, fun x hx => by
    have : x = List.replicate 64 0 := by simpa using hx
    rw [this]
    exact ⟨by rw [List.length_replicate]; decide, fun y hy => by rw [List.eq_of_mem_replicate hy]; decide⟩⟩
  have F5 := f4.same f5
  refine RunO.callDG rfl (viewSame_ok ((a1.fr0 f3).fr0 F5) ((a2.fr0 f3).fr0 F5) ((a3.fr0 f3).fr0 F5) (rw40.fr0 f5) (Sns.nil _) (Sns.nil _) RB.nil SB.nil SB.nil hrb SB.nil SB.nil) rfl rfl rfl ?_
  rintro _ h6 ⟨rfl, f6⟩
  exact RunO.all rfl (RunC.ret ⟨_, rfl, rfl, ((f1.same F3).same F5).same f6⟩)
end Go.Proofs.Ytnokcbenpnmnbaa
end
section
set_option linter.unusedVariables false
set_option linter.unusedSectionVars false
set_option maxRecDepth 100000
open Go Go.Am Go.RowKit
namespace Go.Proofs.Ytnokcbenpnmnbaa
open Go.Proofs.Try

def z64 : List Int := List.replicate 64 0
def oneRows (n s : Nat) (b : List Int) : List (List Int) := (List.range n).map fun k => if k = s then b else z64
def oneW (A n : Nat) (b : List Int) (ki fr di : Int) : List IoT := [((1 : Int), (15 : Int), b, ()), ((1 : Int), (17 : Int), r8B ⟨0, 7, 3, ((A + 2 : Nat) : Int), (n : Int), ki, fr, di⟩, ()), ((1 : Int), (0 : Int), superBlock 3 20 ((A + 2 : Nat) : Int) (n : Int) 17, ())]
theorem one_secs {X b : List Int} {n s : Nat} (hn : n ≤ 512) (hs : s < 512) (h15 : blkI X 15 = b) : secsL X ((List.replicate 512 (0 : Int)).set s 15) n = oneRows n s b := by
  unfold secsL oneRows
  refine List.ext_getElem (by rw [List.length_map, List.length_take, List.length_set, List.length_replicate, List.length_map, List.length_range]; omega) (fun k h1 h2 => ?_)
  rw [List.length_map, List.length_range] at h2
  rw [List.getElem_map, List.getElem_map, List.getElem_take, List.getElem_set, List.getElem_range, List.getElem_replicate]
  by_cases e : s = k
  · rw [if_pos e, if_pos e.symm]
    unfold secB
    rw [if_neg (by decide)]
    exact h15
  · rw [if_neg e, if_neg (fun g => e g.symm)]
    unfold secB
    rw [if_pos rfl]; rfl
theorem one_all {A s n : Nat} {b : List Int} {ki fr di : Int} (h2 : 2 ≤ A) (h6 : A ≤ 6) (hs : s < n) (hn : n ≤ 60) (hbl : b.length = 64) (hbb : Byt b) (hk : (ki = 0 ∧ fr = 0 ∧ di = 0) ∨ (ki = 1 ∧ fr = 4 ∧ di = 9)) :
    (applyL (chain 20 A s 15) (oneW A n b ki fr di)).length = 1280 ∧ Byt (applyL (chain 20 A s 15) (oneW A n b ki fr di)) ∧ stepsE 1280 (oneW A n b ki fr di) = 0 ∧ lk (applyL (chain 20 A s 15) (oneW A n b ki fr di)) = (0, 0)
    ∧ vwH (applyL (chain 20 A s 15) (oneW A n b ki fr di)) = oneRows n s b
    ∧ vsE (applyL (chain 20 A s 15) (oneW A n b ki fr di)) ((A + 2 : Nat) : Int) (n : Int) = 0 ∧ secsL (applyL (chain 20 A s 15) (oneW A n b ki fr di)) (treeM (applyL (chain 20 A s 15) (oneW A n b ki fr di)) ((A + 2 : Nat) : Int)) n = oneRows n s b
    ∧ vwS (applyL (chain 20 A s 15) (oneW A n b ki fr di)) (lkF (applyL (chain 20 A s 15) (oneW A n b ki fr di))).1 = (if ki = 1 then [] else [(7, 3, oneRows n s b, fr, di)])
    ∧ vwO (applyL (chain 20 A s 15) (oneW A n b ki fr di)) (lkF (applyL (chain 20 A s 15) (oneW A n b ki fr di))).1 = (if ki = 1 then [(7, 3, oneRows n s b, fr, di)] else [])
    ∧ r8Ok ⟨0, 7, 3, ((A + 2 : Nat) : Int), (n : Int), ki, fr, di⟩ = true ∧ superOk 3 20 ((A + 2 : Nat) : Int) (n : Int) 17 = true := by
  have hr : r8Ok ⟨0, 7, 3, ((A + 2 : Nat) : Int), (n : Int), ki, fr, di⟩ = true := by
    show recOk 0 7 3 ((A + 2 : Nat) : Int) (n : Int) ki fr di = true
    have his : recIs 0 7 3 ((A + 2 : Nat) : Int) (n : Int) = true := by
      unfold recIs
      rw [Bool.and_eq_true, Bool.and_eq_true, Bool.and_eq_true]
      refine ⟨⟨⟨by decide, ?_⟩, by decide⟩, (inB_iff _ _ _).2 (by omega)⟩
      unfold ptrB; simp only [Bool.or_eq_true, beq_iff_eq, Bool.and_eq_true, decide_eq_true_eq]; omega
    unfold recOk
    rcases hk with ⟨rfl, rfl, rfl⟩ | ⟨rfl, rfl, rfl⟩
    · rw [if_pos rfl, his]; rfl
    · rw [if_neg (by decide), if_pos rfl, his]; rfl
  have hsok : superOk 3 20 ((A + 2 : Nat) : Int) (n : Int) 17 = true := (superOk_iff _ _ _ _ _).2 ⟨by omega, by omega, by omega, .inr (by omega), .inr (by omega)⟩
  have hsl := superBlock_len 3 20 ((A + 2 : Nat) : Int) (n : Int) 17
  have hsbt := superBlock_byt 3 20 ((A + 2 : Nat) : Int) (n : Int) 17
  have hrl := r8B_len ⟨0, 7, 3, ((A + 2 : Nat) : Int), (n : Int), ki, fr, di⟩
  have hrb := r8B_byt ⟨0, 7, 3, ((A + 2 : Nat) : Int), (n : Int), ki, fr, di⟩
  have hw : ∀ x ∈ oneW A n b ki fr di, wrG 1280 x := fun x hx => by
    unfold oneW at hx
    rcases List.mem_cons.1 hx with rfl | hx
    · exact wr_one (a := 15) (by decide) hbl hbb
    rcases List.mem_cons.1 hx with rfl | hx
    · exact wr_one (a := 17) (by decide) hrl hrb
    rw [List.mem_singleton] at hx; rw [hx]; exact wr_one (a := 0) (by decide) hsl hsbt
  have hpw : List.Pairwise (fun x y : IoT => x.2.1 ≠ y.2.1) (oneW A n b ki fr di) := by
    unfold oneW
    refine List.pairwise_cons.2 ⟨fun y hy => ?_, List.pairwise_cons.2 ⟨fun y hy => ?_, List.pairwise_singleton _ _⟩⟩
    · rcases List.mem_cons.1 hy with rfl | hy
      · show (15 : Int) ≠ 17; decide
      · rw [List.mem_singleton] at hy; rw [hy]; show (15 : Int) ≠ 0; decide
    · rw [List.mem_singleton] at hy; rw [hy]; show (17 : Int) ≠ 0; decide
  have hnn : ∀ x ∈ oneW A n b ki fr di, x.2.1 < (A : Int) ∨ (A : Int) + 3 ≤ x.2.1 := fun x hx => by
    unfold oneW at hx
    rcases List.mem_cons.1 hx with rfl | hx
    · exact .inr (by show (A : Int) + 3 ≤ 15; omega)
    rcases List.mem_cons.1 hx with rfl | hx
    · exact .inr (by show (A : Int) + 3 ≤ 17; omega)
    rw [List.mem_singleton] at hx; rw [hx]; exact .inl (by show (0 : Int) < A; omega)
  have h1 : ∀ x ∈ oneW A n b ki fr di, x.2.1 ≠ 1 := fun x hx => by
    unfold oneW at hx
    rcases List.mem_cons.1 hx with rfl | hx
    · show (15 : Int) ≠ 1; decide
    rcases List.mem_cons.1 hx with rfl | hx
    · show (17 : Int) ≠ 1; decide
    rw [List.mem_singleton] at hx; rw [hx]; show (0 : Int) ≠ 1; decide
  have hxl := chX_len (s := s) (D := 15) h2 h6 hw hpw hnn
  have hxb := chX_byt (s := s) (D := 15) h2 h6 hw hpw hnn
  have m0 : ((1 : Int), (0 : Int), superBlock 3 20 ((A + 2 : Nat) : Int) (n : Int) 17, ()) ∈ oneW A n b ki fr di := by unfold oneW; exact List.mem_cons_of_mem _ (List.mem_cons_of_mem _ (List.mem_singleton.2 rfl))
  have m15 : ((1 : Int), (15 : Int), b, ()) ∈ oneW A n b ki fr di := by unfold oneW; exact List.mem_cons_self ..
  have m17 : ((1 : Int), (17 : Int), r8B ⟨0, 7, 3, ((A + 2 : Nat) : Int), (n : Int), ki, fr, di⟩, ()) ∈ oneW A n b ki fr di := by unfold oneW; exact List.mem_cons_of_mem _ (List.mem_cons_self ..)
  have hxp := chX_pick (s := s) (D := 15) h2 h6 hw hpw hnn hsok m0 h1
  have b2 := chX_b2 (s := s) (D := 15) h2 h6 hw hpw hnn
  have b1 := chX_b1 (s := s) (D := 15) h2 h6 hw hpw hnn
  have b0 := chX_b0 (s := s) (D := 15) h2 h6 hw hpw hnn
  have b15 := chX_at (s := s) (D := 15) h2 h6 hw hpw hnn m15
  have b17 := chX_at (s := s) (D := 15) h2 h6 hw hpw hnn m17
  have hst := stE_w (n := 1280) (by decide) (Nat.le_of_ble_eq_true rfl) hw
  generalize applyL (chain 20 A s 15) (oneW A n b ki fr di) = X at *
  have b15 : blkI X 15 = b := b15
  have b17 : blkI X 17 = r8B ⟨0, 7, 3, ((A + 2 : Nat) : Int), (n : Int), ki, fr, di⟩ := b17
  obtain ⟨w, hF⟩ := fol_single (a := 17) hxl (by decide) (by decide) b17 hr rfl (by rcases hk with ⟨g, _⟩ | ⟨g, _⟩; exact .inl g; exact .inr g)
  have hD : (15 : Int) < (20 : Nat) ∧ ¬ ((A : Int) ≤ 15 ∧ (15 : Int) < A + 3) := ⟨by decide, by omega⟩
  obtain ⟨gF, gS, _, g4, _⟩ := chG_lk (B := 20) hxl b2 b1 b0 h2 (by omega) (by decide) (by omega) (by decide) (by decide) hxp hF (by omega) (fun r hr => by
    rw [List.mem_singleton] at hr
    rw [hr]
    exact .inr ⟨rfl, by show (s : Int) < (n : Int); omega⟩)
  have hlk := g4 hD (by omega) (fun x hx => by
    rw [List.mem_singleton] at hx
    rw [hx]
    exact ⟨by decide, by omega⟩)
  obtain ⟨o1, o2⟩ := chG_ok (B := 20) hxl b2 b1 b0 h2 (by omega) (by decide) (show s < 512 by omega) (by decide) (by decide)
  rw [decide_eq_true hD] at o1
  obtain ⟨o3, _⟩ := o2 hD
  have hte : treeE X ((A + 2 : Nat) : Int) = 0 := by unfold treeE; rw [hxl, if_pos (by decide), if_pos o1]
  have hsc := one_secs (n := n) (s := s) (by omega) (by omega) b15
  rw [← o3] at hsc
  refine ⟨hxl, hxb, hst, hlk, ?_, ?_, hsc, ?_, ?_, hr, hsok⟩
  · unfold vwH
    rw [gS]
    exact hsc
  · unfold vsE
    rw [if_pos hte, if_neg (by omega)]
  · rw [gF]
    rcases hk with ⟨rfl, rfl, rfl⟩ | ⟨rfl, rfl, rfl⟩
    · rw [if_neg (by decide)]
      show [snP X _] = _
      unfold snP
      show [((7 : Int), (3 : Int), secsL X (treeM X ((A + 2 : Nat) : Int)) n, (0 : Int), (0 : Int))] = _
      rw [hsc]
    · rw [if_pos rfl]; rfl
  · rw [gF]
    rcases hk with ⟨rfl, rfl, rfl⟩ | ⟨rfl, rfl, rfl⟩
    · rw [if_neg (by decide)]; rfl
    · rw [if_pos rfl]
      show [snP X _] = _
      unfold snP
      show [((7 : Int), (3 : Int), secsL X (treeM X ((A + 2 : Nat) : Int)) n, (4 : Int), (9 : Int))] = _
      rw [hsc]
end Go.Proofs.Ytnokcbenpnmnbaa
end
section
set_option linter.unusedVariables false
set_option linter.unusedSectionVars false
set_option maxRecDepth 100000
open Go Go.Am Go.RowKit
namespace Go.Proofs.Ytnokcbenpnmnbaa
open Go.Proofs.Try

theorem pad_ok (d : List Int) (hd : Byt d) : (d.take (min d.length 64) ++ (List.replicate 64 (0 : Int)).drop (min d.length 64)).length = 64 ∧ Byt (d.take (min d.length 64) ++ (List.replicate 64 (0 : Int)).drop (min d.length 64)) := by
  refine ⟨by rw [List.length_append, List.length_take, List.length_drop, List.length_replicate]; omega, fun x hx => ?_⟩
  rcases List.mem_append.1 hx with g | g
  · exact hd x (List.mem_of_mem_take g)
  · rw [List.eq_of_mem_replicate (List.mem_of_mem_drop g)]; decide
theorem ios_three {h : Heap} {q : Nat} {a1 a2 a3 : Int} {d1 d2 d3 : List Int} {v1 v2 v3 : Value} (oq : Ow h q [.int .i64 1, .int .i64 a1, v1, .int .i64 1, .int .i64 a2, v2, .int .i64 1, .int .i64 a3, v3]) (s1 : Sl h v1 1 d1.length (us d1)) (b1 : Byt d1) (s2 : Sl h v2 1 d2.length (us d2)) (b2 : Byt d2) (s3 : Sl h v3 1 d3.length (us d3)) (b3 : Byt d3) :
    Ios h (.slice (some ⟨q, 0, none⟩) 3 (exc 3)) [(1, a1, d1, ()), (1, a2, d2, ()), (1, a3, d3, ())] := by
  refine ⟨_, oq.all.sl (s := 3) rfl (by decide) (Cp.exc (Nat.le_refl _)), fun j x hx => ?_⟩
  match j, hx with
  | 0, hx => cases hx; exact ⟨_, rfl, s1, b1⟩
  | 1, hx => cases hx; exact ⟨_, rfl, s2, b2⟩
  | 2, hx => cases hx; exact ⟨_, rfl, s3, b3⟩
  | j + 3, hx => simp at hx
theorem oneRows_len (n s : Nat) (b : List Int) : (oneRows n s b).length = n := by unfold oneRows; rw [List.length_map, List.length_range]
theorem oneRows_get {n s k : Nat} (b : List Int) (hk : k < n) : (oneRows n s b)[k]? = some (if k = s then b else z64) := by
  unfold oneRows
  rw [List.getElem?_map, List.getElem?_range hk]; rfl
theorem oneRows_RB {n s : Nat} {b : List Int} (hn : n ≤ 60) (hl : b.length = 64) (hb : Byt b) : RB (oneRows n s b) := by
  refine ⟨by rw [oneRows_len]; omega, fun x hx => ?_⟩
  unfold oneRows at hx
  obtain ⟨k, _, rfl⟩ := List.mem_map.1 hx
  show (if k = s then b else z64).length ≤ _ ∧ Byt (if k = s then b else z64)
  split
  · exact ⟨by omega, hb⟩
  · exact ⟨by show (List.replicate 64 (0 : Int)).length ≤ _; rw [List.length_replicate]; decide, fun y hy => by rw [List.eq_of_mem_replicate (n := 64) (a := (0 : Int)) hy]; decide⟩
theorem vw_cells2 {h : Heap} {hv sv ov : Value} {H : List (List Int)} {S O : List Sn} (a1 : Rws h hv H) (a2 : Sns h sv S) (a3 : Sns h ov O) : allCells (cellsOf (.agg ⟨[hv, sv, ov]⟩)) = true := by
  obtain ⟨_, s1, _⟩ := a1
  obtain ⟨_, s2, _⟩ := a2
  obtain ⟨_, s3, _⟩ := a3
  obtain ⟨_, _, rfl, _⟩ := s1.form
  obtain ⟨_, _, rfl, _⟩ := s2.form
  obtain ⟨_, _, rfl, _⟩ := s3.form
  rfl
set_option maxHeartbeats 32000000 in
theorem viewOne_walk {h : Heap} {at_ sector size : Int} {dv : Value} {D : List Int} {whole : Bool} (sd : Sl h dv 1 D.length (us D)) (hDb : Byt D) : RunF prog 10 [.int .i64 at_, .int .i64 sector, .int .i64 size, dv, .bool whole] h fun v _ => v = .bool true := by
  refine RunF.walk func10 rfl rfl ?_
  obtain ⟨ha0, ha1⟩ := modU at_ 5 (by decide)
  obtain ⟨a, ha⟩ := Int.eq_ofNat_of_zero_le ha0
  obtain ⟨hz0, hz1⟩ := modU size 60 (by decide)
  obtain ⟨n, hz⟩ := Int.eq_ofNat_of_zero_le hz0
  refine RunC.seq (RunC.region (RunO.all rfl ?_))
  refine RunC.seq (RunC.region (RunO.part 2 rfl ?_))
  rw [fwu64']
  refine RunO.part 1 rfl ?_
  rw [ha]
  refine RunO.part 1 rfl ?_
  rw [fw64 (x := (a : Int)) (by omega) (by omega)]
  refine RunO.part 1 rfl ?_
  rw [fw64 (x := 2 + (a : Int)) (by omega) (by omega), show 2 + (a : Int) = ((2 + a : Nat) : Int) by omega]
  refine RunO.part 2 rfl ?_
  rw [fwu64']
  refine RunO.part 1 rfl ?_
  rw [hz]
  refine RunO.part 1 rfl ?_
  rw [fw64 (x := (n : Int)) (by omega) (by omega)]
  refine RunO.part 1 rfl ?_
  rw [fw64 (x := 1 + (n : Int)) (by omega) (by omega), show 1 + (n : Int) = ((1 + n : Nat) : Int) by omega]
  refine RunO.all rfl ?_
  have hA2 : 2 ≤ 2 + a := by omega
  have hA6 : 2 + a ≤ 6 := by omega
  have hn1 : 1 ≤ 1 + n := by omega
  have hn60 : 1 + n ≤ 60 := by omega
  generalize 2 + a = A at *
  generalize 1 + n = n at *
  obtain ⟨hs0, hs1⟩ := modU sector (n : Int) (by omega)
  obtain ⟨s, hs⟩ := Int.eq_ofNat_of_zero_le hs0
  rw [hs] at hs1
  have hsn : s < n := by omega
  refine RunC.seq (RunC.region (RunO.part 2 rfl ?_))
  rw [fwu64']
  refine RunO.part 2 rfl ?_
  rw [fwu64 (x := (n : Int)) (by omega) (by omega)]
  refine RunO.one (v := .int .u64 ((sector % 18446744073709551616).tmod (n : Int))) (E1 := upd _ 42 _) (h1 := h) rfl ?_ rfl ?_
  · show pureR h (cond (decide ((n : Int) = 0)) none (some (Value.int .u64 ((sector % 18446744073709551616).tmod (n : Int))))) = _
    rw [decide_eq_false (show ¬ ((n : Int) = 0) by omega)]; rfl
  rw [hs]
  refine RunO.part 1 rfl ?_
  rw [fw64 (x := (s : Int)) (by omega) (by omega)]
  refine RunO.all rfl ?_
  clear ha0 ha1 hz0 hz1 ha hz hs0 hs1 hs
  -- the image
  refine RunC.seq (RunC.region (RunO.part 2 rfl ?_))
  refine RunO.callD (chain_ok (B := 20) (at_ := A) (sec := s) (data := 15) (by omega) (by omega) (by decide) (by decide) (by omega) (by omega) (by omega)) rfl rfl rfl ?_
  rintro _ h1 ⟨f1, ib, ic, hib, rfl, hic, oi⟩
  have hl := chain_len (B := 20) (at_ := A) (sec := s) (data := 15) (by omega)
  have hby := chain_byt 20 A s 15
  have sd1 := sd.fr0 f1
  refine RunO.all rfl ?_
  refine RunC.seq (RunC.region ?_)
  refine RunO.make (m := 64) rfl rfl rfl rfl rfl rfl (Nat.le_of_ble_eq_true rfl) (by decide) rfl ?_
  rw [reps_us]
  have ob := Ow.push h1 (us (List.replicate 64 0))
  have f2 : Fr no h1 (h1.push ⟨us (List.replicate 64 0), true⟩) := Fr.push _ _ _
  have hib1 := oi.1
  replace oi := oi.fr f2 (fun g => g)
  replace sd1 := sd1.fr0 f2
  generalize h1.push ⟨us (List.replicate 64 0), true⟩ = h2 at *
  obtain ⟨bb, hbb⟩ : ∃ q, q = h1.next := ⟨_, rfl⟩
  rw [← hbb] at ob ⊢
  refine RunO.all rfl ?_
  refine RunC.seq (RunC.region (RunO.part 2 rfl ?_))
  refine RunO.copy (k := min D.length 64) rfl rfl rfl rfl ob sd1 (allCells_map (f := Value.int .u8) (fun _ => rfl) _) rfl (by rw [us_len, List.length_replicate]; omega) rfl ?_
  intro h3 ob f3 _
  refine RunO.nil ?_
  have eb : (us D).take (min D.length 64) ++ (us (List.replicate 64 0)).drop (min D.length 64) = us (D.take (min D.length 64) ++ (List.replicate 64 0).drop (min D.length 64)) := by unfold us; rw [List.map_append, List.map_take, List.map_drop]
  rw [eb] at ob
  obtain ⟨hbl, hbby⟩ := pad_ok D hDb
  generalize D.take (min D.length 64) ++ (List.replicate 64 0).drop (min D.length 64) = b at *
  replace oi := oi.fr f3 (fun e => by have e : ib = bb := e; omega)
  -- the record
  refine RunC.seq (RunC.region (RunO.part 4 (h1 := h3.push ⟨rc8 ⟨0, 0, 0, 0, 0, 0, 0, 0⟩, true⟩) rfl ?_))
  refine RunO.store rfl rfl (store_ow (s := 8) (Ow.push h3 (rc8 ⟨0, 0, 0, 0, 0, 0, 0, 0⟩)) rfl rfl rfl (Nat.le_refl 8)) (RunO.nil ?_)
  have op : Ow ((h3.push ⟨rc8 ⟨0, 0, 0, 0, 0, 0, 0, 0⟩, true⟩).put h3.next (some ⟨rc8 ⟨0, 7, 3, ((A + 2 : Nat) : Int), (n : Int), 0, 0, 0⟩, true⟩)) h3.next (rc8 ⟨0, 7, 3, ((A + 2 : Nat) : Int), (n : Int), 0, 0, 0⟩) := Ow.put _ (Nat.lt_succ_self _)
  have f4 : Fr no h3 ((h3.push ⟨rc8 ⟨0, 0, 0, 0, 0, 0, 0, 0⟩, true⟩).put h3.next (some ⟨rc8 ⟨0, 7, 3, ((A + 2 : Nat) : Int), (n : Int), 0, 0, 0⟩, true⟩)) := (Fr.push _ _ _).trans (Fr.put (m := (· = h3.next)) _ (.inl rfl)) (fun j hj => .inr (by omega))
  have hib3 := oi.1
  have hbb3 := ob.1
  replace oi := oi.fr f4 (fun g => g)
  replace ob := ob.fr f4 (fun g => g)
  show RunC prog _ _ _ ((h3.push ⟨rc8 ⟨0, 0, 0, 0, 0, 0, 0, 0⟩, true⟩).put h3.next (some ⟨rc8 ⟨0, 7, 3, ((A + 2 : Nat) : Int), (n : Int), 0, 0, 0⟩, true⟩)) _ _ _
  generalize (h3.push ⟨rc8 ⟨0, 0, 0, 0, 0, 0, 0, 0⟩, true⟩).put h3.next (some ⟨rc8 ⟨0, 7, 3, ((A + 2 : Nat) : Int), (n : Int), 0, 0, 0⟩, true⟩) = h4 at *
  obtain ⟨pb, hpb⟩ : ∃ q, q = h3.next := ⟨_, rfl⟩
  rw [← hpb] at op ⊢
  refine RunC.seqc (fun E' h' => ∃ ki fr di, ((whole = true ∧ ki = 0 ∧ fr = 0 ∧ di = 0) ∨ (whole = false ∧ ki = 1 ∧ fr = 4 ∧ di = 9)) ∧ Ow h' pb (rc8 ⟨0, 7, 3, ((A + 2 : Nat) : Int), (n : Int), ki, fr, di⟩) ∧ Fr (· = pb) h4 h' ∧ Le ((upd (upd (upd (upd (upd (upd (upd E0 1 (.int .i64 (s : Int))) 2 (.int .i64 (n : Int))) 4 (.bool whole)) 11 (.slice (some ⟨ib, 0, none⟩) 1280 ic)) 12 (.int .i64 ((A + 2 : Nat) : Int))) 13 (.slice (some ⟨bb, 0, none⟩) 64 (exc 64))) 14 (.pointer (some ⟨pb, 0, none⟩)))) E') ?kd ?by_
  case kd =>
    refine RunC.seq (RunC.region (RunO.all rfl ?_))
    cases whole with
    | true =>
      refine RunC.cond rfl (fun g => by cases g) (fun _ => RunC.skip ?_)
      exact ⟨0, 0, 0, .inl ⟨rfl, rfl, rfl, rfl⟩, op, Fr.refl _ _, Le.cons rfl (Le.cons rfl (Le.cons rfl (Le.cons rfl (Le.cons rfl (Le.cons rfl (Le.cons rfl (Le.nil _)))))))⟩
    | false =>
      refine RunC.cond rfl (fun _ => ?_) (fun g => by cases g)
      refine RunC.region (RunO.part 1 rfl ?_)
      refine RunO.store rfl rfl (store1_ow op rfl rfl rfl (Nat.le_of_ble_eq_true rfl)) ?_
      have o1 := Ow.put (cs := (rc8 ⟨0, 7, 3, ((A + 2 : Nat) : Int), (n : Int), 0, 0, 0⟩).set 5 (.int .i64 1)) op.1
      have e1 : Fr (· = pb) h4 (h4.put pb (some ⟨(rc8 ⟨0, 7, 3, ((A + 2 : Nat) : Int), (n : Int), 0, 0, 0⟩).set 5 (.int .i64 1), true⟩)) := Fr.put _ (.inl rfl)
      refine RunO.part 1 rfl ?_
      refine RunO.store rfl rfl (store1_ow o1 rfl rfl rfl (Nat.le_of_ble_eq_true rfl)) ?_
      have o2 := Ow.put (cs := ((rc8 ⟨0, 7, 3, ((A + 2 : Nat) : Int), (n : Int), 0, 0, 0⟩).set 5 (.int .i64 1)).set 6 (.int .i64 4)) o1.1
      have e2 : Fr (· = pb) _ ((h4.put pb (some ⟨(rc8 ⟨0, 7, 3, ((A + 2 : Nat) : Int), (n : Int), 0, 0, 0⟩).set 5 (.int .i64 1), true⟩)).put pb (some ⟨((rc8 ⟨0, 7, 3, ((A + 2 : Nat) : Int), (n : Int), 0, 0, 0⟩).set 5 (.int .i64 1)).set 6 (.int .i64 4), true⟩)) := Fr.put _ (.inl rfl)
      refine RunO.part 1 rfl ?_
      refine RunO.store rfl rfl (store1_ow o2 rfl rfl rfl (Nat.le_of_ble_eq_true rfl)) (RunO.nil ?_)
      exact ⟨1, 4, 9, .inr ⟨rfl, rfl, rfl, rfl⟩, Ow.put _ o2.1, (e1.same e2).same (Fr.put _ (.inl rfl)), Le.cons rfl (Le.cons rfl (Le.cons rfl (Le.cons rfl (Le.cons rfl (Le.cons rfl (Le.cons rfl (Le.nil _)))))))⟩
  rintro E' h5 ⟨ki, fr, di, hk, op, f5, hE⟩
  refine RunC.le hE ?_
  clear hE
  have hk2 : (ki = 0 ∧ fr = 0 ∧ di = 0) ∨ (ki = 1 ∧ fr = 4 ∧ di = 9) := hk.imp (fun g => g.2) (fun g => g.2)
  obtain ⟨hxl, hxb, hst, hlk, eH, eV, eR, eS, eO, hrok, hsok⟩ := one_all (b := b) hA2 hA6 hsn hn60 hbl hbby hk2
  replace oi := oi.fr f5 (fun e => by have e : ib = pb := e; omega)
  replace ob := ob.fr f5 (fun e => by have e : bb = pb := e; omega)
  have hrl := r8B_len ⟨0, 7, 3, ((A + 2 : Nat) : Int), (n : Int), ki, fr, di⟩
  have hrb := r8B_byt ⟨0, 7, 3, ((A + 2 : Nat) : Int), (n : Int), ki, fr, di⟩
  have hsl := superBlock_len 3 20 ((A + 2 : Nat) : Int) (n : Int) 17
  have hsbt := superBlock_byt 3 20 ((A + 2 : Nat) : Int) (n : Int) 17
  have eW : oneW A n b ki fr di = [((1 : Int), (15 : Int), b, ()), ((1 : Int), (17 : Int), r8B ⟨0, 7, 3, ((A + 2 : Nat) : Int), (n : Int), ki, fr, di⟩, ()), ((1 : Int), (0 : Int), superBlock 3 20 ((A + 2 : Nat) : Int) (n : Int) 17, ())] := rfl
  obtain ⟨X, hX⟩ : ∃ X, X = applyL (chain 20 A s 15) (oneW A n b ki fr di) := ⟨_, rfl⟩
  rw [← hX] at hxl hxb hlk eH eV eR eS eO
  rw [eW] at hX hst
  refine RunC.seq (RunC.region ?_)
  refine RunO.load (v := .agg ⟨rc8 ⟨0, 7, 3, ((A + 2 : Nat) : Int), (n : Int), ki, fr, di⟩⟩) rfl (op.ld rfl) rfl ?_
  refine RunO.callD (recBytes_ok (n := 0) (id := 7) (pa := 3) (ro := ((A + 2 : Nat) : Int)) (sz := (n : Int)) (ki := ki) (fr := fr) (di := di)) rfl rfl rfl ?_
  rintro _ h6 ⟨f6, ⟨_, rb, hrb_, rfl, or_⟩ | ⟨g, _⟩⟩
  case inr =>
    have g : r8Ok ⟨0, 7, 3, ((A + 2 : Nat) : Int), (n : Int), ki, fr, di⟩ = false := g
    rw [hrok] at g; cases g
  have or_ : Ow h6 rb (us (r8B ⟨0, 7, 3, ((A + 2 : Nat) : Int), (n : Int), ki, fr, di⟩)) := or_
  replace oi := oi.fr f6 (fun g => g)
  replace ob := ob.fr f6 (fun g => g)
  refine RunO.all rfl ?_
  refine RunC.seq (RunC.region (RunO.part 3 rfl ?_))
  refine RunO.callD (superBytes_ok (g := 3) (bl := 20) (rt := ((A + 2 : Nat) : Int)) (sz := (n : Int)) (fi := 17)) rfl rfl rfl ?_
  rintro _ h7 ⟨f7, ⟨_, sb, hsb, rfl, os⟩ | ⟨g, _⟩⟩
  case inr => rw [hsok] at g; cases g
  replace oi := oi.fr f7 (fun g => g)
  replace ob := ob.fr f7 (fun g => g)
  replace or_ := or_.fr f7 (fun g => g)
  generalize r8B ⟨0, 7, 3, ((A + 2 : Nat) : Int), (n : Int), ki, fr, di⟩ = RBk at *
  generalize superBlock 3 20 ((A + 2 : Nat) : Int) (n : Int) 17 = SBk at *
  generalize chain 20 A s 15 = L at *
  refine RunO.all rfl ?_
  refine RunC.seq (RunC.region (RunO.part 8 (h1 := h7.push ⟨[.int .i64 1, .int .i64 15, .slice (some ⟨bb, 0, none⟩) 64 (exc 64), .int .i64 1, .int .i64 17, .slice (some ⟨rb, 0, none⟩) 64 (exc 64), .int .i64 1, .int .i64 0, .slice (some ⟨sb, 0, none⟩) 64 (exc 64)], true⟩) rfl ?_))
  have ol := Ow.push h7 [.int .i64 1, .int .i64 15, .slice (some ⟨bb, 0, none⟩) 64 (exc 64), .int .i64 1, .int .i64 17, .slice (some ⟨rb, 0, none⟩) 64 (exc 64), .int .i64 1, .int .i64 0, .slice (some ⟨sb, 0, none⟩) 64 (exc 64)]
  have f8 : Fr no h7 (h7.push ⟨[.int .i64 1, .int .i64 15, .slice (some ⟨bb, 0, none⟩) 64 (exc 64), .int .i64 1, .int .i64 17, .slice (some ⟨rb, 0, none⟩) 64 (exc 64), .int .i64 1, .int .i64 0, .slice (some ⟨sb, 0, none⟩) 64 (exc 64)], true⟩) := Fr.push _ _ _
  replace oi := oi.fr f8 (fun g => g)
  replace ob := ob.fr f8 (fun g => g)
  replace or_ := or_.fr f8 (fun g => g)
  replace os := os.fr f8 (fun g => g)
  generalize h7.push ⟨[.int .i64 1, .int .i64 15, .slice (some ⟨bb, 0, none⟩) 64 (exc 64), .int .i64 1, .int .i64 17, .slice (some ⟨rb, 0, none⟩) 64 (exc 64), .int .i64 1, .int .i64 0, .slice (some ⟨sb, 0, none⟩) 64 (exc 64)], true⟩ = h8 at *
  generalize h7.next = lb at *
  have sl64 : ∀ (q : Nat) (l : List Int), l.length = 64 → Ow h8 q (us l) → Sl h8 (.slice (some ⟨q, 0, none⟩) 64 (exc 64)) 1 l.length (us l) := fun q l hl ow => by rw [hl]; exact ow.all.sl (by rw [us_len, hl]) (by decide) (Cp.exc (Nat.le_refl _))
  have si := sl_own oi hl hic (by decide)
  refine RunO.callD (devApply_ok si (by omega) (ios_three ol (sl64 _ _ hbl ob) hbby (sl64 _ _ hrl or_) hrb (sl64 _ _ hsl os) hsbt) (Nat.le_of_ble_eq_true rfl)) rfl rfl rfl ?_
  rw [hl, show (20 * 64 : Nat) = 1280 from rfl, hst]
  rintro _ h9 ⟨f9, ⟨_, xq, xc, hxq, rfl, hxc, ox⟩ | ⟨hno, _⟩⟩
  case inr => exact absurd rfl hno
  rw [← hX] at ox
  replace ob := ob.fr f9 (fun g => g)
  refine RunO.all rfl ?_
  have slx := sl_own ox hxl hxc (by decide)
  have hk0 : (lk X).2 = 0 := by rw [hlk]
  refine RunC.seq (RunC.region (RunO.part 1 rfl ?_))
  refine RunO.callD (viewOf_ok slx hxb (by omega)) rfl rfl rfl ?_
  rintro _ g1 ⟨e1, ⟨_, hv, sv, ov, rfl, a1, a2, a3⟩ | ⟨g, _⟩⟩
  case inr => exact absurd hk0 g
  rw [eH] at a1
  rw [eS] at a2
  rw [eO] at a3
  refine RunO.part 4 (h1 := g1.push ⟨[.slice none 0 0, .slice none 0 0, .slice none 0 0], true⟩) rfl ?_
  refine RunO.store rfl rfl (store_ow (s := 3) (Ow.push g1 [.slice none 0 0, .slice none 0 0, .slice none 0 0]) rfl rfl (vw_cells2 a1 a2 a3) (Nat.le_refl 3)) (RunO.all rfl ?_)
  have ov_ : Ow ((g1.push ⟨[.slice none 0 0, .slice none 0 0, .slice none 0 0], true⟩).put g1.next (some ⟨[hv, sv, ov], true⟩)) g1.next [hv, sv, ov] := Ow.put _ (Nat.lt_succ_self _)
  have e2 : Fr no g1 ((g1.push ⟨[.slice none 0 0, .slice none 0 0, .slice none 0 0], true⟩).put g1.next (some ⟨[hv, sv, ov], true⟩)) := (Fr.push _ _ _).trans (Fr.put (m := (· = g1.next)) _ (.inl rfl)) (fun j hj => .inr (by omega))
  show RunC prog _ _ _ ((g1.push ⟨[.slice none 0 0, .slice none 0 0, .slice none 0 0], true⟩).put g1.next (some ⟨[hv, sv, ov], true⟩)) _ _ _
  generalize (g1.push ⟨[.slice none 0 0, .slice none 0 0, .slice none 0 0], true⟩).put g1.next (some ⟨[hv, sv, ov], true⟩) = g2 at *
  generalize g1.next = vb at *
  have E2 := e1.same e2
  refine RunC.seq (RunC.region (RunO.part 3 rfl ?_))
  refine RunO.callD (viewSectors_ok (root := ((A + 2 : Nat) : Int)) (size := (n : Int)) (slx.fr0 E2) hxb (by omega)) rfl rfl rfl ?_
  rw [Int.toNat_natCast, eR]
  rintro _ g3 ⟨e3, ⟨_, lv, rfl, rr⟩ | ⟨g, _⟩⟩
  case inr => exact absurd eV g
  have hRB := oneRows_RB (s := s) hn60 hbl hbby
  have hRl := oneRows_len n s b
  have rl := rr.rws (by omega)
  replace a1 := (a1.fr0 e2).fr0 e3
  replace a2 := (a2.fr0 e2).fr0 e3
  replace a3 := (a3.fr0 e2).fr0 e3
  replace ov_ := ov_.fr e3 (fun g => g)
  replace ob := (ob.fr E2 (fun g => g)).fr e3 (fun g => g)
  have a10 := a1
  obtain ⟨hcs, sh, kh⟩ := a1
  have sh0 := sh
  obtain ⟨hA_, hc_, rfl, _, _⟩ := sh.form
  rw [hRl] at sh0 a10 ov_ ⊢
  obtain ⟨lvA, lvc, hlv⟩ : ∃ a b, lv = .slice a n b := by
    obtain ⟨cs, s_, _⟩ := rl
    obtain ⟨a, b, e, _⟩ := s_.form
    rw [hRl] at e
    exact ⟨a, b, e⟩
  refine RunO.all rfl ?_
  refine RunC.seq (RunC.seq (RunC.region (RunO.part 20 rfl ?_)))
  refine RunO.loadG (v := .slice hA_ n hc_) rfl rfl (ov_.ld rfl) rfl ?_
  refine RunO.part 3 rfl ?_
  rw [show ((n : Int) != (n : Int)) = false from bne_self_eq_false _]
  refine RunO.part 3 rfl ?_
  refine RunO.loadG (v := .slice hA_ n hc_) rfl rfl (ov_.ld rfl) rfl ?_
  refine RunO.part 1 rfl ?_
  refine RunO.callDG rfl (keepRows_ok a10 rl hRB.1 (fun x hx => (hRB.2 x hx).1)) rfl rfl rfl ?_
  rintro _ _ ⟨rfl, rfl⟩
  rw [beq_self_eq_true (oneRows n s b)]
  refine RunO.all rfl (RunC.cond rfl (fun g => by cases g) (fun _ => RunC.skip ?_))
  refine RunC.seq (RunC.seq (RunC.region (RunO.all rfl ?_)))
  refine RunC.block ?_
  refine RunC.loop (fun d E h' => ∃ k : Nat, k + d = n ∧ Fr no g3 h' ∧ Le ((upd (upd (upd (upd (upd (upd (upd E0 1 (.int .i64 (s : Int))) 2 (.int .i64 (n : Int))) 4 (.bool whole)) 13 (.slice (some ⟨bb, 0, none⟩) 64 (exc 64))) 21 (.pointer (some ⟨vb, 0, none⟩))) 23 (lv)) 25 (.int .i64 (k : Int)))) E) ?st (k := n) ?ini
  case ini => exact ⟨0, by omega, Fr.refl _ _, Le.cons rfl (Le.cons rfl (Le.cons rfl (Le.cons rfl (Le.cons rfl (Le.cons rfl (Le.cons rfl (Le.nil _)))))))⟩
  rintro d E g4 ⟨k, hkd, fg, hE⟩
  refine RunC.le hE ?_
  clear hE
  refine RunC.seq (RunC.seq (RunC.region (RunO.all rfl ?_)))
  refine RunC.cond rfl (fun hlt => RunC.skip ?go) (fun hge => RunC.exit ?ex)
  case go =>
    have hlt := of_decide_eq_true hlt
    have hkn : k < n := by omega
    obtain ⟨w, ew, sw⟩ := kh k _ (oneRows_get b hkn)
    refine RunC.seq (RunC.block ?_)
    refine RunC.seq (RunC.region ?_)
    refine RunO.make (m := 64) rfl rfl rfl rfl rfl rfl (Nat.le_of_ble_eq_true rfl) (by decide) rfl ?_
    rw [reps_us]
    have oz := Ow.push g4 (us (List.replicate 64 0))
    have e4 : Fr no g4 (g4.push ⟨us (List.replicate 64 0), true⟩) := Fr.push _ _ _
    generalize g4.push ⟨us (List.replicate 64 0), true⟩ = g5 at *
    generalize g4.next = zb at *
    have F5 := fg.same e4
    refine RunO.all rfl ?_
    refine (RunC.seqc (fun E' h' => g5 = h' ∧ ∃ u, Sl h' u 1 (if k = s then b else z64).length (us (if k = s then b else z64)) ∧ Le ((upd (upd (upd (upd (upd (upd (upd (upd E0 1 (.int .i64 (s : Int))) 2 (.int .i64 (n : Int))) 4 (.bool whole)) 13 (.slice (some ⟨bb, 0, none⟩) 64 (exc 64))) 21 (.pointer (some ⟨vb, 0, none⟩))) 23 (lv)) 25 (.int .i64 (k : Int))) 26 (u))) E') ?ch ?cmp)
    case ch =>
      refine RunC.seq (RunC.region (RunO.part 2 rfl ?_))
      refine RunO.part 1 rfl ?_
      by_cases hks : k = s
      · rw [show ((k : Int) == (s : Int)) = true from beq_iff_eq.2 (by omega)]
        refine RunO.all rfl (RunC.cond rfl (fun _ => ?_) (fun g => by cases g))
        refine RunC.region (RunO.all rfl ?_)
        refine ⟨rfl, .slice (some ⟨bb, 0, none⟩) 64 (exc 64), ?_, Le.cons rfl (Le.cons rfl (Le.cons rfl (Le.cons rfl (Le.cons rfl (Le.cons rfl (Le.cons rfl (Le.cons rfl (Le.nil _))))))))⟩
        rw [if_pos hks, hbl]
        exact (ob.fr F5 (fun g => g)).all.sl (by rw [us_len, hbl]) (by decide) (Cp.exc (Nat.le_refl _))
      · rw [show ((k : Int) == (s : Int)) = false from beq_eq_false_iff_ne.2 (by omega)]
        refine RunO.all rfl (RunC.cond rfl (fun g => by cases g) (fun _ => RunC.skip ?_))
        refine ⟨rfl, .slice (some ⟨zb, 0, none⟩) 64 (exc 64), ?_, Le.cons rfl (Le.cons rfl (Le.cons rfl (Le.cons rfl (Le.cons rfl (Le.cons rfl (Le.cons rfl (Le.cons rfl (Le.nil _))))))))⟩
        rw [if_neg hks]
        exact oz.all.sl (by rw [us_len]; rfl) (by decide) (Cp.exc (Nat.le_refl _))
    rintro E' _ ⟨rfl, u, su, hE⟩
    refine RunC.le hE ?_
    clear hE
    refine RunC.seq (RunC.region (RunO.part 1 rfl ?_))
    refine RunO.load (v := .slice hA_ n hc_) rfl ((ov_.fr F5 (fun g => g)).ld rfl) rfl ?_
    refine RunO.part 1 rfl ?_
    refine RunO.at (s := 1) (k := k) rfl rfl (sh0.fr0 F5) rfl rfl hkn (row_part ew) rfl rfl rfl ?_
    refine RunO.part 1 rfl ?_
    have hlen : (if k = s then b else z64).length ≤ 4611686018427387904 := by
      split
      · omega
      · show (List.replicate 64 (0 : Int)).length ≤ _; rw [List.length_replicate]; decide
    refine RunO.callD (keepBytesS_ok (sw.fr0 F5) su hlen) rfl rfl rfl ?_
    rintro _ _ ⟨rfl, rfl⟩
    rw [beq_self_eq_true (if k = s then b else z64)]
    refine RunO.all rfl (RunC.cond rfl (fun g => by cases g) (fun _ => RunC.skip ?_))
    refine RunC.region (RunO.all rfl ?_)
    exact ⟨d - 1, by omega, k + 1, by omega, F5, Le.cons (inc64 (by omega)) (Le.cons rfl (Le.cons rfl (Le.cons rfl (Le.cons rfl (Le.cons rfl (Le.cons rfl (Le.nil _)))))))⟩
  -- the snapshot
  replace a2 := a2.fr0 fg
  replace a3 := a3.fr0 fg
  replace rl := rl.fr0 fg
  replace ov_ := ov_.fr fg (fun g => g)
  subst hlv
  clear sd sd1 hst hlk eH eV eR eS eO hxl hxb hX slx
  refine RunC.seq (RunC.region (RunO.part 2 rfl ?_))
  obtain ⟨lv, hlv⟩ : ∃ q, q = Value.slice lvA n lvc := ⟨_, rfl⟩
  rw [← hlv] at rl ⊢
  have hlc : isCell lv = true := by rw [hlv]; rfl
  refine RunO.part 1 (h1 := g4.push ⟨[.int .i64 0, .int .i64 0, .slice none 0 0, .int .i64 0, .int .i64 0], true⟩) rfl ?_
  refine RunO.store rfl rfl (store_ow (s := 5) (Ow.push g4 [.int .i64 0, .int .i64 0, .slice none 0 0, .int .i64 0, .int .i64 0]) rfl rfl (by show cond (isCell lv) true false = true; rw [hlc]; rfl) (Nat.le_refl 5)) (RunO.nil ?_)
  have on_ : Ow ((g4.push ⟨[.int .i64 0, .int .i64 0, .slice none 0 0, .int .i64 0, .int .i64 0], true⟩).put g4.next (some ⟨[.int .i64 7, .int .i64 3, lv, .int .i64 0, .int .i64 0], true⟩)) g4.next [.int .i64 7, .int .i64 3, lv, .int .i64 0, .int .i64 0] := Ow.put _ (Nat.lt_succ_self _)
  have f6 : Fr no g4 ((g4.push ⟨[.int .i64 0, .int .i64 0, .slice none 0 0, .int .i64 0, .int .i64 0], true⟩).put g4.next (some ⟨[.int .i64 7, .int .i64 3, lv, .int .i64 0, .int .i64 0], true⟩)) := (Fr.push _ _ _).trans (Fr.put (m := (· = g4.next)) _ (.inl rfl)) (fun j hj => .inr (by omega))
  have hovn := ov_.1
  have a20 := a2
  have a30 := a3
  have rl0 := rl
  have ov0 := ov_
  replace a2 := a2.fr0 f6
  replace a3 := a3.fr0 f6
  replace rl := rl.fr0 f6
  replace ov_ := ov_.fr f6 (fun g => g)
  show RunC prog _ _ _ ((g4.push ⟨[.int .i64 0, .int .i64 0, .slice none 0 0, .int .i64 0, .int .i64 0], true⟩).put g4.next (some ⟨[.int .i64 7, .int .i64 3, lv, .int .i64 0, .int .i64 0], true⟩)) _ _ _
  generalize (g4.push ⟨[.int .i64 0, .int .i64 0, .slice none 0 0, .int .i64 0, .int .i64 0], true⟩).put g4.next (some ⟨[.int .i64 7, .int .i64 3, lv, .int .i64 0, .int .i64 0], true⟩) = g6 at *
  obtain ⟨nb, hnb⟩ : ∃ q, q = g4.next := ⟨_, rfl⟩
  rw [← hnb] at on_ ⊢
  rcases hk with ⟨rfl, rfl, rfl, rfl⟩ | ⟨rfl, rfl, rfl, rfl⟩
  · rw [if_neg (by decide)] at a2 a3
    refine RunC.seq (RunC.seq (RunC.region (RunO.all rfl (RunC.cond rfl (fun _ => ?_) (fun g => by cases g)))))
    refine RunC.seq (RunC.region (RunO.part 1 rfl ?_))
    refine RunO.load (v := ov) rfl (ov_.ld rfl) rfl ?_
    obtain ⟨zA, zc, hz⟩ : ∃ a b, ov = .slice a 0 b := by
      obtain ⟨cs, s_, _⟩ := a3
      obtain ⟨a, b, e, _⟩ := s_.form
      exact ⟨a, b, e⟩
    rw [hz]
    refine RunO.part 4 rfl ?_
    refine RunO.loadG (v := sv) rfl rfl (ov_.ld rfl) rfl ?_
    refine RunO.loadG (v := .agg ⟨snC (7, 3, oneRows n s b, 0, 0) lv⟩) rfl rfl (on_.ld rfl) rfl ?_
    refine RunO.part 1 (h1 := g6.push ⟨snC (7, 3, oneRows n s b, 0, 0) lv, true⟩) rfl ?_
    have oz := Ow.push g6 (snC (7, 3, oneRows n s b, 0, 0) lv)
    have f9 : Fr no g6 (g6.push ⟨snC (7, 3, oneRows n s b, 0, 0) lv, true⟩) := Fr.push _ _ _
    replace a2 := a2.fr0 f9
    replace rl := rl.fr0 f9
    generalize g6.push ⟨snC (7, 3, oneRows n s b, 0, 0) lv, true⟩ = g8 at *
    generalize g6.next = zb at *
    have hsn : Sns g8 (.slice (some ⟨zb, 0, none⟩) 1 (exc 1)) [(7, 3, oneRows n s b, 0, 0)] := ⟨_, oz.all.sl (s := 5) rfl (by decide) (Cp.exc (Nat.le_refl _)), fun j y hy => by
      match j, hy with
      | 0, hy => cases hy; exact ⟨_, rfl, rl⟩
      | j + 1, hy => simp at hy⟩
    have hsb : SB [(7, 3, oneRows n s b, 0, 0)] := ⟨by show 1 ≤ _; decide, fun y hy => by rw [List.mem_singleton] at hy; rw [hy]; exact hRB⟩
    refine RunO.callDG rfl (keepSnaps_ok a2 hsn hsb hsb) rfl rfl rfl ?_
    rintro _ g9 ⟨rfl, f10⟩
    rw [beq_self_eq_true [(((7, 3, oneRows n s b, 0, 0) : Sn))]]
    refine RunO.part 2 rfl ?_
    refine RunO.callDG rfl wakes17_ok rfl rfl rfl ?_
    rintro _ h9 ⟨rfl, f9⟩
    exact RunO.all rfl (RunC.ret ⟨_, rfl, rfl⟩)
  · refine RunC.seq (RunC.seq (RunC.region (RunO.all rfl (RunC.cond rfl (fun g => by cases g) (fun _ => RunC.skip ?_)))))
    refine RunC.seq (RunC.region (RunO.part 1 rfl ?_))
    refine RunO.store rfl rfl (store1_ow on_ rfl rfl rfl (Nat.le_of_ble_eq_true rfl)) ?_
    have o1 := Ow.put (cs := [.int .i64 7, .int .i64 3, lv, .int .i64 4, .int .i64 0]) on_.1
    have e1 : Fr (· = nb) g6 (g6.put nb (some ⟨[.int .i64 7, .int .i64 3, lv, .int .i64 4, .int .i64 0], true⟩)) := Fr.put _ (.inl rfl)
    refine RunO.part 1 rfl ?_
    refine RunO.store rfl rfl (store1_ow o1 rfl rfl rfl (Nat.le_of_ble_eq_true rfl)) (RunO.nil ?_)
    have o2 := Ow.put (cs := [.int .i64 7, .int .i64 3, lv, .int .i64 4, .int .i64 9]) o1.1
    have e2 : Fr (· = nb) _ ((g6.put nb (some ⟨[.int .i64 7, .int .i64 3, lv, .int .i64 4, .int .i64 0], true⟩)).put nb (some ⟨[.int .i64 7, .int .i64 3, lv, .int .i64 4, .int .i64 9], true⟩)) := Fr.put _ (.inl rfl)
    have E6 : Fr no g4 ((g6.put nb (some ⟨[.int .i64 7, .int .i64 3, lv, .int .i64 4, .int .i64 0], true⟩)).put nb (some ⟨[.int .i64 7, .int .i64 3, lv, .int .i64 4, .int .i64 9], true⟩)) := f6.trans (e1.same e2) (fun q e => .inr (by have e : q = nb := e; omega))
    have on_ : Ow ((g6.put nb (some ⟨[.int .i64 7, .int .i64 3, lv, .int .i64 4, .int .i64 0], true⟩)).put nb (some ⟨[.int .i64 7, .int .i64 3, lv, .int .i64 4, .int .i64 9], true⟩)) nb [.int .i64 7, .int .i64 3, lv, .int .i64 4, .int .i64 9] := o2
    replace a2 := a20.fr0 E6
    replace a3 := a30.fr0 E6
    replace rl := rl0.fr0 E6
    replace ov_ := ov0.fr E6 (fun g => g)
    rw [if_pos rfl] at a2 a3
    show RunC prog _ _ _ ((g6.put nb (some ⟨[.int .i64 7, .int .i64 3, lv, .int .i64 4, .int .i64 0], true⟩)).put nb (some ⟨[.int .i64 7, .int .i64 3, lv, .int .i64 4, .int .i64 9], true⟩)) _ _ _
    generalize (g6.put nb (some ⟨[.int .i64 7, .int .i64 3, lv, .int .i64 4, .int .i64 0], true⟩)).put nb (some ⟨[.int .i64 7, .int .i64 3, lv, .int .i64 4, .int .i64 9], true⟩) = g7 at *
    refine RunC.seq (RunC.region (RunO.part 1 rfl ?_))
    refine RunO.load (v := sv) rfl (ov_.ld rfl) rfl ?_
    obtain ⟨zA, zc, hz⟩ : ∃ a b, sv = .slice a 0 b := by
      obtain ⟨cs, s_, _⟩ := a2
      obtain ⟨a, b, e, _⟩ := s_.form
      exact ⟨a, b, e⟩
    rw [hz]
    refine RunO.part 4 rfl ?_
    refine RunO.loadG (v := ov) rfl rfl (ov_.ld rfl) rfl ?_
    refine RunO.loadG (v := .agg ⟨snC (7, 3, oneRows n s b, 4, 9) lv⟩) rfl rfl (on_.ld rfl) rfl ?_
    refine RunO.part 1 (h1 := g7.push ⟨snC (7, 3, oneRows n s b, 4, 9) lv, true⟩) rfl ?_
    have oz := Ow.push g7 (snC (7, 3, oneRows n s b, 4, 9) lv)
    have f9 : Fr no g7 (g7.push ⟨snC (7, 3, oneRows n s b, 4, 9) lv, true⟩) := Fr.push _ _ _
    replace a3 := a3.fr0 f9
    replace rl := rl.fr0 f9
    generalize g7.push ⟨snC (7, 3, oneRows n s b, 4, 9) lv, true⟩ = g8 at *
    generalize g7.next = zb at *
    have hsn : Sns g8 (.slice (some ⟨zb, 0, none⟩) 1 (exc 1)) [(7, 3, oneRows n s b, 4, 9)] := ⟨_, oz.all.sl (s := 5) rfl (by decide) (Cp.exc (Nat.le_refl _)), fun j y hy => by
      match j, hy with
      | 0, hy => cases hy; exact ⟨_, rfl, rl⟩
      | j + 1, hy => simp at hy⟩
    have hsb : SB [(7, 3, oneRows n s b, 4, 9)] := ⟨by show 1 ≤ _; decide, fun y hy => by rw [List.mem_singleton] at hy; rw [hy]; exact hRB⟩
    refine RunO.callDG rfl (keepSnaps_ok a3 hsn hsb hsb) rfl rfl rfl ?_
    rintro _ g9 ⟨rfl, f10⟩
    rw [beq_self_eq_true [(((7, 3, oneRows n s b, 4, 9) : Sn))]]
    refine RunO.part 2 rfl ?_
    refine RunO.callDG rfl wakes17_ok rfl rfl rfl ?_
    rintro _ h9 ⟨rfl, f9⟩
    exact RunO.all rfl (RunC.ret ⟨_, rfl, rfl⟩)
theorem viewOne_true : ∀ h xs avs, ArgsK [.int .i64, .int .i64, .int .i64, .slice (.int .u8), .bool] h xs avs → RunF prog 10 avs h fun v _ => v = .bool true := by
  intro h xs avs ha
  obtain ⟨a, _, _, rfl, _, ha⟩ := argInt ha
  obtain ⟨b, _, _, rfl, _, ha⟩ := argInt ha
  obtain ⟨c, _, _, rfl, _, ha⟩ := argInt ha
  obtain ⟨L, _, iv, _, rfl, sl, hwf, ha⟩ := argInts ha
  obtain ⟨w, _, _, rfl, ha2⟩ := argBool ha
  obtain rfl := argNil ha2
  exact viewOne_walk sl (fun x hx => wf_u8 (hwf x hx))
end Go.Proofs.Ytnokcbenpnmnbaa
end
