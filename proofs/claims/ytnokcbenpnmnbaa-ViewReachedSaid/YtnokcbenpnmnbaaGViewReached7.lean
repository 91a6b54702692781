/- ViewReached: a calculus over an abstract machine that stands beside the model, and contracts of functions by it (part 7).
Conditions: what each theorem says of its arguments. -/
import Derived.Test.YtnokcbenpnmnbaaGViewReached6
section
set_option linter.unusedVariables false
set_option linter.unusedSectionVars false
set_option maxRecDepth 100000
open Go Go.Am Go.RowKit
namespace Go.Proofs.Ytnokcbenpnmnbaa
open Go.Proofs.Try

/- Rows of bytes whose blocks all are such. -/
def RwN (N : Nat → Prop) (h : Heap) (v : Value) (rows : List (List Int)) : Prop :=
  ∃ cs, Sl h v 1 rows.length cs ∧ (∀ b o c, v = .slice (some ⟨b, o, none⟩) rows.length c → N b) ∧ ∀ (j : Nat) (x : List Int), rows[j]? = some x → ∃ w, cs[j]? = some w ∧ Sl h w 1 x.length (us x) ∧ ∀ b o c, w = .slice (some ⟨b, o, none⟩) x.length c → N b
theorem RwN.frm {N M : Nat → Prop} {h h' : Heap} {v : Value} {rows : List (List Int)} (r : RwN N h v rows) (f : Fr M h h') (hn : ∀ b, N b → ¬ M b) : RwN N h' v rows := by
  obtain ⟨cs, h1, h2, h3⟩ := r
  refine ⟨cs, h1.frm (fun b o c e => hn b (h2 b o c e)) f, h2, fun j x hx => ?_⟩
  obtain ⟨w, e, sw, hw⟩ := h3 j x hx
  exact ⟨w, e, sw.frm (fun b o c e => hn b (hw b o c e)) f, hw⟩
theorem RwN.fr0 {N : Nat → Prop} {h h' : Heap} {v : Value} {rows : List (List Int)} (r : RwN N h v rows) (f : Fr no h h') : RwN N h' v rows := r.frm f (fun _ _ g => g)
theorem RwN.weak {N M : Nat → Prop} {h : Heap} {v : Value} {rows : List (List Int)} (r : RwN N h v rows) (hn : ∀ b, b < h.next → N b → M b) : RwN M h v rows := by
  obtain ⟨cs, h1, h2, h3⟩ := r
  refine ⟨cs, h1, fun b o c e => hn b (h1.lt b o c e) (h2 b o c e), fun j x hx => ?_⟩
  obtain ⟨w, e, sw, hw⟩ := h3 j x hx
  exact ⟨w, e, sw, fun b o c e => hn b (sw.lt b o c e) (hw b o c e)⟩
theorem RwN.rws {N : Nat → Prop} {h : Heap} {v : Value} {rows : List (List Int)} (r : RwN N h v rows) : Rws h v rows := by
  obtain ⟨cs, h1, _, h3⟩ := r
  refine ⟨cs, h1, fun j x hx => ?_⟩
  obtain ⟨w, e, sw, hw⟩ := h3 j x hx
  exact ⟨w, e, sw⟩
theorem RwG.rwN {lo : Nat} {h : Heap} {v : Value} {rows : List (List Int)} (r : RwG lo h v rows) (hm : rows.length ≤ 9223372036854775807) : RwN (fun b => lo ≤ b) h v rows := by
  obtain ⟨cs, h1, h2⟩ := r
  refine ⟨cs, h1.sl hm, fun b o c e => ?_, fun j x hx => ?_⟩
  · rcases h1.2 with ⟨e', _⟩ | ⟨b', g1, e', _⟩
    · rw [e'] at e; injection e with e1; cases e1
    · rw [e'] at e; injection e with e1; injection e1 with e1; injection e1 with e1; omega
  · obtain ⟨w, e, sw, hw⟩ := h2 j x hx
    exact ⟨w, e, sw, fun b o c e => (hw b o c e).1⟩
/- Snapshots in memory. -/
abbrev Sn := Int × Int × List (List Int) × Int × Int
def snC (x : Sn) (w : Value) : List Value := [.int .i64 x.1, .int .i64 x.2.1, w, .int .i64 x.2.2.2.1, .int .i64 x.2.2.2.2]
def Sns (h : Heap) (v : Value) (l : List Sn) : Prop :=
  ∃ cs, Sl h v 5 l.length cs ∧ ∀ (j : Nat) (x : Sn), l[j]? = some x → ∃ w, (cs.drop (j * 5)).take 5 = snC x w ∧ Rws h w x.2.2.1
theorem Sns.fr0 {h h' : Heap} {v : Value} {l : List Sn} (r : Sns h v l) (f : Fr no h h') : Sns h' v l := by
  obtain ⟨cs, h1, h2⟩ := r
  refine ⟨cs, h1.fr0 f, fun j x hx => ?_⟩
  obtain ⟨w, e, sw⟩ := h2 j x hx
  exact ⟨w, e, sw.fr0 f⟩
def LS (N : Nat → Prop) (lo : Nat) (h : Heap) (v : Value) (l : List Sn) : Prop :=
  ∃ cs, Row lo h v 5 l.length cs ∧ ∀ (j : Nat) (x : Sn), l[j]? = some x → ∃ w, (cs.drop (j * 5)).take 5 = snC x w ∧ RwN N h w x.2.2.1
theorem LS.nil (N : Nat → Prop) (lo : Nat) (h : Heap) : LS N lo h (.slice none 0 0) [] := ⟨[], Row.nil lo h 5, fun j x hx => by cases hx⟩
theorem LS.at {N : Nat → Prop} {lo : Nat} {h : Heap} {v : Value} {l : List Sn} (r : LS N lo h v l) {b : Nat} (g : At v b) : lo ≤ b ∧ b < h.next := by
  obtain ⟨cs, h1, _⟩ := r
  exact h1.at g
theorem LS.frm {N M : Nat → Prop} {lo : Nat} {h h' : Heap} {v : Value} {l : List Sn} (r : LS N lo h v l) (f : Fr M h h') (hn : ∀ b, N b → ¬ M b) (hv : ∀ b, At v b → ¬ M b) : LS N lo h' v l := by
  obtain ⟨cs, h1, h2⟩ := r
  refine ⟨cs, h1.frm f hv, fun j x hx => ?_⟩
  obtain ⟨w, e, sw⟩ := h2 j x hx
  exact ⟨w, e, sw.frm f hn⟩
theorem LS.fr0 {N : Nat → Prop} {lo : Nat} {h h' : Heap} {v : Value} {l : List Sn} (r : LS N lo h v l) (f : Fr no h h') : LS N lo h' v l := r.frm f (fun _ _ g => g) (fun _ _ g => g)
theorem LS.weak {N M : Nat → Prop} {lo : Nat} {h : Heap} {v : Value} {l : List Sn} (r : LS N lo h v l) (hn : ∀ b, b < h.next → N b → M b) : LS M lo h v l := by
  obtain ⟨cs, h1, h2⟩ := r
  refine ⟨cs, h1, fun j x hx => ?_⟩
  obtain ⟨w, e, sw⟩ := h2 j x hx
  exact ⟨w, e, sw.weak hn⟩
theorem LS.sns {N : Nat → Prop} {lo : Nat} {h : Heap} {v : Value} {l : List Sn} (r : LS N lo h v l) (hm : l.length ≤ 9223372036854775807) : Sns h v l := by
  obtain ⟨cs, h1, h2⟩ := r
  refine ⟨cs, h1.sl hm, fun j x hx => ?_⟩
  obtain ⟨w, e, sw⟩ := h2 j x hx
  exact ⟨w, e, sw.rws⟩
theorem LS.snoc {N : Nat → Prop} {lo : Nat} {h h' : Heap} {v v' w : Value} {l : List Sn} {x : Sn} {cs : List Value} (row : Row lo h v 5 l.length cs)
    (k : ∀ (j : Nat) (x : Sn), l[j]? = some x → ∃ w, (cs.drop (j * 5)).take 5 = snC x w ∧ RwN N h w x.2.2.1) (sw : RwN N h w x.2.2.1)
    (row' : Row h.next h' v' 5 (l.length + 1) (cs ++ snC x w)) (f : Fr (At v) h h') (hn : ∀ b, N b → ¬ At v b) (hlo : lo ≤ h.next) : LS N lo h' v' (l ++ [x]) := by
  have hl : cs.length = l.length * 5 := row.1
  refine ⟨_, by rw [List.length_append]; exact Row.lo row' hlo, fun j y hy => ?_⟩
  by_cases hj : j < l.length
  · rw [List.getElem?_append_left hj] at hy
    obtain ⟨u, e, su⟩ := k j y hy
    refine ⟨u, ?_, su.frm f hn⟩
    rw [List.drop_append_of_le_length (by omega), List.take_append_of_le_length (by rw [List.length_drop]; omega)]
    exact e
  · have hj2 : j = l.length := by
      have := (List.getElem?_eq_some_iff.1 hy).1
      rw [List.length_append, List.length_singleton] at this
      omega
    subst hj2
    rw [List.getElem?_append_right (Nat.le_refl _), Nat.sub_self] at hy
    have hy : some x = some y := hy
    cases hy
    refine ⟨w, ?_, sw.frm f hn⟩
    rw [← hl, List.drop_append_of_le_length (Nat.le_refl _), List.drop_length, List.nil_append]; rfl
/-- What an image holds. -/
def snP (L : List Int) (r : R8) : Sn := (r.id, r.pa, secsL L (treeM L r.ro) r.sz.toNat, r.fr, r.di)
def vwH (L : List Int) : List (List Int) := secsL L (treeM L (lkS L).2.2.1) (lkS L).2.2.2.1.toNat
def vwS (L : List Int) (rs : List R8) : List Sn := (rs.filter fun r => !(r.ki == 1)).map (snP L)
def vwO (L : List Int) (rs : List R8) : List Sn := (rs.filter fun r => r.ki == 1).map (snP L)
theorem pick_ok2 {L : List Int} (h : (pickS L).2.2 = true) : superOk (pickS L).1.1 (pickS L).1.2.1 (pickS L).1.2.2.1 (pickS L).1.2.2.2.1 (pickS L).1.2.2.2.2 = true := by
  obtain ⟨i, _, e, _, hc, _⟩ := pick_is h
  rw [e]
  unfold sVal
  rw [if_pos hc]
  unfold sCode at hc
  split at hc
  · split at hc
    · assumption
    · cases hc
  · rename_i g; exact absurd hc g
theorem lk_trees2 {L : List Int} (h : (lk L).2 = 0) : devOk L.length = true ∧ (pickS L).2.2 = true := by
  unfold lk at h
  split at h
  · rename_i h1
    split at h
    · rename_i h2; exact ⟨h1, h2⟩
    · cases h
  · cases h
set_option maxHeartbeats 32000000 in
theorem viewOf_ok {h : Heap} {iv : Value} {L : List Int} (sl : Sl h iv 1 L.length (us L)) (hb : Byt L) (hm : L.length ≤ 4611686018427387904) :
    RunF prog 26 [iv] h fun v h' => Fr no h h' ∧ (((lk L).2 = 0 ∧ ∃ hv sv ov, v = .tuple #[.agg ⟨[hv, sv, ov]⟩, .int .i64 0] ∧ Rws h' hv (vwH L) ∧ Sns h' sv (vwS L (lkF L).1) ∧ Sns h' ov (vwO L (lkF L).1)) ∨ ((lk L).2 ≠ 0 ∧ v = .tuple #[.agg ⟨[.slice none 0 0, .slice none 0 0, .slice none 0 0]⟩, .int .i64 (lk L).2])) := by
  refine RunF.walk func26 rfl rfl ?_
  have sl0 := sl
  obtain ⟨A, c, rfl, _, _⟩ := sl.form
  refine RunC.seq (RunC.region (RunO.all (h1 := h.push ⟨[.slice none 0 0, .slice none 0 0, .slice none 0 0], true⟩) rfl ?_))
  have oq := Ow.push h [.slice none 0 0, .slice none 0 0, .slice none 0 0]
  have f1 : Fr no h (h.push ⟨[.slice none 0 0, .slice none 0 0, .slice none 0 0], true⟩) := Fr.push _ _ _
  generalize h.push ⟨[.slice none 0 0, .slice none 0 0, .slice none 0 0], true⟩ = h1 at *
  obtain ⟨qb, hqb⟩ : ∃ q, q = h.next := ⟨_, rfl⟩
  rw [← hqb] at oq ⊢
  have hnx := oq.1
  refine RunC.seq (RunC.region (RunO.part 1 rfl ?_))
  refine RunO.callD (openLook_ok (sl0.fr0 f1) hb hm) rfl rfl rfl ?_
  rintro _ h2 ⟨f2, ⟨h0, xb, rfl, rv, bv, tv, TL, hxb, ox, rl, rb, stv, hTL, htr⟩ | ⟨h0, rfl⟩⟩
  case inr =>
    replace oq := oq.fr f2 (fun g => g)
    refine RunO.all rfl ?_
    refine RunC.seq (RunC.seq (RunC.region (RunO.all rfl ?_)))
    rw [show ((lk L).2 != 0) = true from bne_iff_ne.2 h0]
    refine RunC.cond rfl (fun _ => ?_) (fun g => by cases g)
    refine RunC.seq (RunC.region (RunO.part 2 rfl ?_))
    refine RunO.store rfl rfl (store_ow (s := 3) oq rfl rfl rfl (Nat.le_of_ble_eq_true rfl)) ?_
    have oq2 : Ow (h2.put qb (some ⟨[.slice none 0 0, .slice none 0 0, .slice none 0 0], true⟩)) qb [.slice none 0 0, .slice none 0 0, .slice none 0 0] := Ow.put _ oq.1
    have f3 : Fr (· = qb) h2 (h2.put qb (some ⟨[.slice none 0 0, .slice none 0 0, .slice none 0 0], true⟩)) := Fr.put _ (.inl rfl)
    show RunO prog _ _ _ _ (h2.put qb (some ⟨[.slice none 0 0, .slice none 0 0, .slice none 0 0], true⟩)) _
    generalize h2.put qb (some ⟨[.slice none 0 0, .slice none 0 0, .slice none 0 0], true⟩) = h3 at *
    exact RunO.all rfl (RunC.ret ⟨_, eresults_cell2 rfl (oq2.ld rfl) rfl, (f1.same f2).trans f3 (fun b e => .inr (by have e : b = qb := e; omega)), .inr ⟨h0, rfl⟩⟩)
  obtain ⟨hdv, hpk⟩ := lk_trees2 h0
  have hdl : L.length % 64 = 0 ∧ 4 ≤ L.length / 64 ∧ L.length / 64 ≤ 4096 := by
    unfold devOk at hdv
    simpa using hdv
  obtain ⟨hrok, _, hrl, hrb⟩ := fol_ok (L := L) (B := L.length / 64) (L.length / 64) (lkS L).2.2.2.2 [] [] 0 (fun r h => absurd h List.not_mem_nil) (fun x h => absurd h List.not_mem_nil) rfl
  have hrok : ∀ r ∈ (lkF L).1, r8Ok r = true := hrok
  have hrsl : (lkF L).1.length ≤ 4096 := by
    have e : (lkF L).1.length = (lkF L).2.1.length := hrl
    have e2 : (lkF L).2.1.length ≤ ([] : List Int).length + L.length / 64 := hrb
    rw [List.length_nil] at e2
    omega
  have hsz := ((superOk_iff _ _ _ _ _).1 (pick_ok2 hpk)).2.2.1
  have hsz : 0 ≤ (lkS L).2.2.2.1 ∧ (lkS L).2.2.2.1 ≤ 512 := hsz
  have hT : ∀ i (hi : i < TL.length), TL[i].2 = ((treeM L ((lkR L).getD i (0, 0)).1), treeN L ((lkR L).getD i (0, 0)).1) := fun i hi => by
    have e1 : (TL.map (·.2))[i]? = some TL[i].2 := by rw [List.getElem?_map, List.getElem?_eq_getElem hi]; rfl
    rw [hTL] at e1
    unfold lkT at e1
    rw [List.getElem?_map] at e1
    cases e2 : (lkR L)[i]? with
    | none => rw [e2] at e1; cases e1
    | some p =>
      rw [e2] at e1
      rw [List.getD_eq_getElem?_getD, e2]
      have e1 : some (treeM L p.1, treeN L p.1) = some TL[i].2 := e1
      injection e1 with e1
      exact e1.symm
  have hTl : TL.length = (lkF L).1.length + 1 := by
    have := congrArg List.length hTL
    rw [List.length_map] at this
    rw [this]
    unfold lkT lkR
    rw [List.length_map, List.length_cons, List.length_map]
  have hrng : ∀ t ∈ TL, ∀ x ∈ t.2.1, x = 0 ∨ (0 ≤ x ∧ (x.toNat + 1) * 64 ≤ L.length) := fun t ht x hx => by
    obtain ⟨_, _, _, _, _, _, _, _, hr, _⟩ := htr t ht
    have := hr x hx
    exact .inr ⟨this.1, by omega⟩
  generalize hrsE : (lkF L).1 = rs at *
  have slr := rl.sl (by omega)
  have slr0 := slr
  obtain ⟨rA, rc, rfl, _, _⟩ := slr.form
  have oq := oq.fr f2 (fun g => g)
  have hxn := ox.1
  have hn1 := f1.next
  have hn2 := f2.next
  have slI := (sl0.fr0 f1).fr0 f2
  refine RunO.all rfl ?_
  refine RunC.seq (RunC.seq (RunC.region (RunO.all rfl (RunC.cond rfl (fun g => by cases g) (fun _ => RunC.skip ?_)))))
  -- the head
  refine RunC.seq (RunC.draw0 rfl (RunO.part 4 rfl ?_))
  refine RunO.load (v := tv) rfl (ox.ld rfl) rfl ?_
  refine RunO.at (s := 1) (k := 0) rfl rfl stv rfl rfl (show 0 < TL.length by omega) (tps_part (by omega)) rfl rfl rfl ?_
  have ht0 := htr TL[0] (List.getElem_mem (by omega))
  have hr0 := hrng TL[0] (List.getElem_mem (by omega))
  have he0 := hT 0 (by omega)
  have he0 : TL[0].2.1 = treeM L (lkS L).2.2.1 := by rw [he0]; rfl
  obtain ⟨iv0, mv0, nv0, ow0, sm0, _, hl0, _⟩ := ht0
  rw [he0] at sm0 hl0 hr0
  generalize TL[0].1 = w0 at *
  refine RunO.part 2 rfl ?_
  refine RunO.load (v := mv0) rfl (ow0.ld rfl) rfl ?_
  refine RunO.part 5 rfl ?_
  refine RunO.load (v := .int .i64 (lkS L).2.2.2.1) rfl (ox.ld rfl) rfl ?_
  have eH : vwH L = secsL L (treeM L (lkS L).2.2.1) (lkS L).2.2.2.1.toNat := rfl
  have hsn : (((lkS L).2.2.2.1.toNat : Nat) : Int) = (lkS L).2.2.2.1 := by omega
  have hsec := sectors_ok (n := (lkS L).2.2.2.1.toNat) slI sm0 hr0 (by omega) (by omega) hm
  rw [hsn, ← eH] at hsec
  refine RunO.callD hsec rfl rfl rfl ?_
  rintro hv h3 ⟨f3, rh⟩
  have hvl : (vwH L).length ≤ 512 := by rw [eH, secsL_len _ _ (by omega)]; omega
  have hN0 := rh.rwN (by omega)
  generalize vwH L = HR at *
  obtain ⟨hA_, hc_, rfl⟩ : ∃ a b, hv = .slice a HR.length b := by
    obtain ⟨cs, row, _⟩ := rh
    obtain ⟨a, b, e, _⟩ := (row.sl (by omega)).form
    exact ⟨a, b, e⟩
  obtain ⟨hv, hhv⟩ : ∃ q, q = Value.slice hA_ HR.length hc_ := ⟨_, rfl⟩
  have hvc : isCell hv = true := by rw [hhv]; rfl
  refine RunO.part 2 (h1 := h3.push ⟨[.slice none 0 0, .slice none 0 0, .slice none 0 0], true⟩) rfl ?_
  rw [← hhv] at hN0 ⊢
  refine RunO.store rfl rfl (store_ow (s := 3) (Ow.push h3 [.slice none 0 0, .slice none 0 0, .slice none 0 0]) rfl rfl (by show cond (isCell hv) true false = true; rw [hvc]; rfl) (Nat.le_refl 3)) (RunO.nil ?_)
  have e3 : ([.slice none 0 0, .slice none 0 0, .slice none 0 0] : List Value).take 0 ++ cellsOf (.agg ⟨[hv, .slice none 0 0, .slice none 0 0]⟩) ++ ([.slice none 0 0, .slice none 0 0, .slice none 0 0] : List Value).drop (0 + 3) = [hv, .slice none 0 0, .slice none 0 0] := rfl
  rw [e3]
  have ot : Ow ((h3.push ⟨[.slice none 0 0, .slice none 0 0, .slice none 0 0], true⟩).put h3.next (some ⟨[hv, .slice none 0 0, .slice none 0 0], true⟩)) h3.next [hv, .slice none 0 0, .slice none 0 0] := Ow.put _ (Nat.lt_succ_self _)
  have f4 : Fr no h3 ((h3.push ⟨[.slice none 0 0, .slice none 0 0, .slice none 0 0], true⟩).put h3.next (some ⟨[hv, .slice none 0 0, .slice none 0 0], true⟩)) := (Fr.push _ _ _).trans (Fr.put (m := (· = h3.next)) _ (.inl rfl)) (fun j hj => .inr (by omega))
  obtain ⟨tb, htb⟩ : ∃ q, q = h3.next := ⟨_, rfl⟩
  rw [← htb] at ot f4 ⊢
  have hN0 := (hN0.weak (M := fun b => qb < b ∧ b < tb) (fun b g g2 => by have g2 : h2.next ≤ b := g2; exact ⟨by omega, by omega⟩)).fr0 f4
  have hh4 : ((h3.push ⟨[.slice none 0 0, .slice none 0 0, .slice none 0 0], true⟩).put tb (some ⟨[hv, .slice none 0 0, .slice none 0 0], true⟩)).next = tb + 1 := by rw [htb]; rfl
  generalize (h3.push ⟨[.slice none 0 0, .slice none 0 0, .slice none 0 0], true⟩).put tb (some ⟨[hv, .slice none 0 0, .slice none 0 0], true⟩) = h4 at *
  have ftb := f3.next
  have hbt := ot.1
  replace ox := ox.fr f3 (fun g => g)
  replace oq := oq.fr f3 (fun g => g)
  replace slr0 := slr0.fr0 f3
  replace slI := slI.fr0 f3
  replace stv := stv.fr0 f3
  replace htr : ∀ t ∈ TL, TrOk (L.length / 64) h3 t := fun t ht => (htr t ht).fr0 f3
  have F3 := (f1.same f2).same f3
  have hqb3 := oq.1
  refine RunC.seq (RunC.seq (RunC.region (RunO.part 4 rfl ?_)))
  refine RunO.load (v := .slice rA rs.length rc) rfl ((ox.fr f4 (fun g => g)).ld rfl) rfl (RunO.all rfl ?_)
  refine RunC.block ?_
  refine RunC.loop (fun d E h' => ∃ (i : Nat) (sv ov : Value), i + d = rs.length ∧ Fr (· = tb) h4 h' ∧ Ow h' tb [hv, sv, ov] ∧ RwN (fun b => qb < b ∧ b < tb) h' hv HR
    ∧ LS (fun b => (qb < b ∧ b ≠ tb) ∧ ¬ At sv b ∧ ¬ At ov b) (tb + 1) h' sv (vwS L (rs.take i)) ∧ LS (fun b => (qb < b ∧ b ≠ tb) ∧ ¬ At sv b ∧ ¬ At ov b) (tb + 1) h' ov (vwO L (rs.take i)) ∧ (∀ b, At sv b → ¬ At ov b) ∧ Le ((upd (upd (upd (upd (upd (upd (upd E0 0 (.slice A L.length c)) 2 (.pointer (some ⟨qb, 0, none⟩))) 4 (.pointer (some ⟨xb, 0, none⟩))) 7 (.pointer (some ⟨tb, 0, none⟩))) 43 (.slice rA rs.length rc)) 44 (.int .i64 (rs.length : Int))) 45 (.int .i64 (i : Int)))) E) ?st (k := rs.length) ?ini
  case ini => exact ⟨0, .slice none 0 0, .slice none 0 0, by omega, Fr.refl _ _, ot, hN0, LS.nil _ _ _, LS.nil _ _ _, (fun b ⟨_, _, e⟩ => by cases e), Le.cons rfl (Le.cons rfl (Le.cons rfl (Le.cons rfl (Le.cons rfl (Le.cons rfl (Le.cons rfl (Le.nil _)))))))⟩
  clear ot
  rintro d E g1 ⟨i, sv, ov, hi, fg, ot, hN, ls, lo, hso, hE⟩
  refine RunC.le hE ?_
  clear hE
  have hg1n := fg.next
  have F3g : Fr no h3 g1 := f4.trans fg (fun b e => .inr (by have e : b = tb := e; omega))
  refine RunC.seq (RunC.region (RunO.all rfl ?_))
  refine RunC.seq (RunC.cond rfl (fun hlt => RunC.skip ?go) (fun hge => RunC.exit ?ex))
  case ex =>
    have hge := of_decide_eq_false hge
    obtain rfl : i = rs.length := by omega
    rw [List.take_length] at ls lo
    have hls : (vwS L rs).length ≤ 4096 := by unfold vwS; rw [List.length_map]; exact Nat.le_trans (List.length_filter_le _ _) hrsl
    have hlo : (vwO L rs).length ≤ 4096 := by unfold vwO; rw [List.length_map]; exact Nat.le_trans (List.length_filter_le _ _) hrsl
    have hcc : ∀ (v : Value) (l : List Sn), LS (fun b => (qb < b ∧ b ≠ tb) ∧ ¬ At sv b ∧ ¬ At ov b) (tb + 1) g1 v l → isCell v = true := fun v l r => by
      obtain ⟨cs, row, _⟩ := r
      rcases row.2 with ⟨e, _⟩ | ⟨b, _, e, _⟩ <;> (rw [e]; rfl)
    have hc1 := hcc _ _ ls
    have hc2 := hcc _ _ lo
    replace oq := oq.fr F3g (fun g => g)
    refine RunC.seq (RunC.region ?_)
    refine RunO.load (v := .agg ⟨[hv, sv, ov]⟩) rfl (ot.ld rfl) rfl ?_
    refine RunO.store rfl rfl (store_ow (s := 3) oq rfl rfl (by show cond (isCell hv) (cond (isCell sv) (cond (isCell ov) true false) false) false = true; rw [hvc, hc1, hc2]; rfl) (Nat.le_refl 3)) ?_
    have e3 : ([.slice none 0 0, .slice none 0 0, .slice none 0 0] : List Value).take 0 ++ cellsOf (.agg ⟨[hv, sv, ov]⟩) ++ ([.slice none 0 0, .slice none 0 0, .slice none 0 0] : List Value).drop (0 + 3) = [hv, sv, ov] := rfl
    rw [e3]
    have oq2 : Ow (g1.put qb (some ⟨[hv, sv, ov], true⟩)) qb [hv, sv, ov] := Ow.put _ oq.1
    have f5 : Fr (· = qb) g1 (g1.put qb (some ⟨[hv, sv, ov], true⟩)) := Fr.put _ (.inl rfl)
    have hN2 := (hN.frm f5 (fun b g e => by have e : b = qb := e; omega)).rws
    have hS2 := (ls.frm f5 (fun b g e => by have e : b = qb := e; omega) (fun b g e => by have e : b = qb := e; have := (ls.at g).1; omega)).sns (by omega)
    have hO2 := (lo.frm f5 (fun b g e => by have e : b = qb := e; omega) (fun b g e => by have e : b = qb := e; have := (lo.at g).1; omega)).sns (by omega)
    generalize g1.put qb (some ⟨[hv, sv, ov], true⟩) = g2 at *
    exact RunO.all rfl (RunC.ret ⟨_, eresults_cell2 rfl (oq2.ld rfl) rfl, (F3.same F3g).trans f5 (fun b e => .inr (by have e : b = qb := e; omega)), .inl ⟨h0, hv, sv, ov, rfl, hN2, hS2, hO2⟩⟩)
  have hlt := of_decide_eq_true hlt
  have hlt : i < rs.length := by omega
  have hri := hrok rs[i] (List.getElem_mem hlt)
  have hsz2 := r8_sz hri
  have htk : rs.take (i + 1) = rs.take i ++ [rs[i]] := List.take_succ_eq_append_getElem hlt
  have hS1 : vwS L (rs.take (i + 1)) = if (rs[i].ki == 1) = true then vwS L (rs.take i) else vwS L (rs.take i) ++ [snP L rs[i]] := by
    rw [htk]
    unfold vwS
    rw [List.filter_append, List.map_append]
    cases e : (rs[i].ki == 1) with
    | true => rw [if_pos rfl, show [rs[i]].filter (fun r => !(r.ki == 1)) = [] by rw [List.filter_cons, e]; rfl]; exact List.append_nil _
    | false => rw [if_neg (by decide), show [rs[i]].filter (fun r => !(r.ki == 1)) = [rs[i]] by rw [List.filter_cons, e]; rfl]; rfl
  have hO1 : vwO L (rs.take (i + 1)) = if (rs[i].ki == 1) = true then vwO L (rs.take i) ++ [snP L rs[i]] else vwO L (rs.take i) := by
    rw [htk]
    unfold vwO
    rw [List.filter_append, List.map_append]
    cases e : (rs[i].ki == 1) with
    | true => rw [if_pos rfl, show [rs[i]].filter (fun r => r.ki == 1) = [rs[i]] by rw [List.filter_cons, e]; rfl]; rfl
    | false => rw [if_neg (by decide), show [rs[i]].filter (fun r => r.ki == 1) = [] by rw [List.filter_cons, e]; rfl]; exact List.append_nil _
  have hlS : (vwS L (rs.take i)).length ≤ 4096 := by unfold vwS; rw [List.length_map]; exact Nat.le_trans (List.length_filter_le _ _) (by rw [List.length_take]; omega)
  have hlO : (vwO L (rs.take i)).length ≤ 4096 := by unfold vwO; rw [List.length_map]; exact Nat.le_trans (List.length_filter_le _ _) (by rw [List.length_take]; omega)
  generalize vwS L (rs.take i) = S at *
  generalize vwO L (rs.take i) = O at *
  have hi1 : i + 1 < TL.length := by omega
  have htq := htr TL[i + 1] (List.getElem_mem hi1)
  have hrq := hrng TL[i + 1] (List.getElem_mem hi1)
  have heq := hT (i + 1) hi1
  have hro : ((lkR L).getD (i + 1) (0, 0)).1 = rs[i].ro := by
    have : (lkR L).getD (i + 1) (0, 0) = ((lkF L).1.map fun r => (r.ro, r.sz)).getD i (0, 0) := rfl
    rw [this, hrsE, List.getD_eq_getElem?_getD, List.getElem?_map, List.getElem?_eq_getElem hlt]; rfl
  have heq : TL[i + 1].2.1 = treeM L rs[i].ro := by rw [heq, hro]
  have hpt := recCs_part hlt
  have htp := tps_part hi1
  obtain ⟨ivq, mvq, nvq, owq, smq, _, hlq, _⟩ := htq
  rw [heq] at smq hlq hrq
  have hsnP : snP L rs[i] = (rs[i].id, rs[i].pa, secsL L (treeM L rs[i].ro) rs[i].sz.toNat, rs[i].fr, rs[i].di) := rfl
  rw [hsnP] at hS1 hO1
  generalize rs[i] = r at *
  generalize TL[i + 1].1 = wq at *
  refine RunC.seq (RunC.block ?_)
  refine RunC.seq (RunC.region (RunO.part 1 rfl ?_))
  refine RunO.at (s := 8) (k := i) rfl rfl (slr0.fr0 F3g) rfl rfl hlt hpt rfl rfl rfl ?_
  refine RunO.part 2 (h1 := g1.push ⟨rc8 ⟨0, 0, 0, 0, 0, 0, 0, 0⟩, true⟩) rfl ?_
  refine RunO.store rfl rfl (store_ow (s := 8) (Ow.push g1 (rc8 ⟨0, 0, 0, 0, 0, 0, 0, 0⟩)) rfl rfl rfl (Nat.le_refl 8)) (RunO.nil ?_)
  have e8 : (rc8 ⟨0, 0, 0, 0, 0, 0, 0, 0⟩).take 0 ++ cellsOf (.agg ⟨rc8 r⟩) ++ (rc8 ⟨0, 0, 0, 0, 0, 0, 0, 0⟩).drop (0 + 8) = rc8 r := rfl
  rw [e8]
  have on : Ow ((g1.push ⟨rc8 ⟨0, 0, 0, 0, 0, 0, 0, 0⟩, true⟩).put g1.next (some ⟨rc8 r, true⟩)) g1.next (rc8 r) := Ow.put _ (Nat.lt_succ_self _)
  have f6 : Fr no g1 ((g1.push ⟨rc8 ⟨0, 0, 0, 0, 0, 0, 0, 0⟩, true⟩).put g1.next (some ⟨rc8 r, true⟩)) := (Fr.push _ _ _).trans (Fr.put (m := (· = g1.next)) _ (.inl rfl)) (fun j hj => .inr (by omega))
  have hotn := ot.1
  generalize (g1.push ⟨rc8 ⟨0, 0, 0, 0, 0, 0, 0, 0⟩, true⟩).put g1.next (some ⟨rc8 r, true⟩) = g2 at *
  obtain ⟨pb, hpb⟩ : ∃ q, q = g1.next := ⟨_, rfl⟩
  rw [← hpb] at on ⊢
  have hg2n := f6.next
  have F2g := F3g.same f6
  refine RunC.seq (RunC.drawT 24 (fun b => g2.next ≤ b) rfl ?_)
  refine RunQ.part 1 rfl ?_
  refine RunQ.load (v := .int .i64 r.id) rfl rfl (on.ld rfl) rfl ?_
  refine RunQ.part 1 rfl ?_
  refine RunQ.load (v := .int .i64 r.pa) rfl rfl (on.ld rfl) rfl ?_
  refine RunQ.part 4 rfl ?_
  refine RunQ.load (v := tv) rfl rfl ((ox.fr F2g (fun g => g)).ld rfl) rfl ?_
  refine RunQ.part 2 rfl ?_
  rw [fw64 (x := (i : Int) + 1) (by omega) (by omega), show (i : Int) + 1 = ((i + 1 : Nat) : Int) by omega]
  refine RunQ.at (s := 1) (k := i + 1) rfl (fun _ => rfl) rfl rfl (stv.fr0 F2g) rfl rfl hi1 htp rfl rfl rfl ?_
  refine RunQ.part 2 rfl ?_
  refine RunQ.load (v := mvq) rfl rfl ((owq.fr F2g (fun g => g)).ld rfl) rfl ?_
  refine RunQ.part 1 rfl ?_
  refine RunQ.load (v := .int .i64 r.sz) rfl rfl (on.ld rfl) rfl ?_
  have hszn : ((r.sz.toNat : Nat) : Int) = r.sz := by omega
  have slI2_ := slI.fr0 F2g
  have slI2 : Sl (g2.lo g2.next) (.slice A L.length c) 1 L.length (us L) := slI2_
  have smq2_ := smq.fr0 F2g
  have smq2 : Sl (g2.lo g2.next) mvq 1 (treeM L r.ro).length (is (treeM L r.ro)) := smq2_
  have hsec := sectors_ok (n := r.sz.toNat) slI2 smq2 hrq (by omega) (by omega) hm
  rw [hszn] at hsec
  refine RunQ.call rfl hsec (fun v h1 q => q.1) rfl rfl rfl ?_
  have hsl_ : (secsL L (treeM L r.ro) r.sz.toNat).length ≤ 512 := by rw [secsL_len _ _ (by omega)]; omega
  generalize secsL L (treeM L r.ro) r.sz.toNat = SR at *
  rintro wv g3 ⟨f7, rwv⟩
  have f7 : Fr no g2 g3 := f7.trans (Fr.refl no _) (fun _ g => g.elim) |> fun f => ⟨f.next, f.get, fun l a b c => f.low l b b c⟩
  have rwv : RwG g2.next g3 wv SR := rwv
  have hwN := rwv.rwN (by omega)
  obtain ⟨wA, wc_, rfl⟩ : ∃ a b, wv = .slice a SR.length b := by
    obtain ⟨cs, row, _⟩ := rwv
    obtain ⟨a, b, e, _⟩ := (row.sl (by omega)).form
    exact ⟨a, b, e⟩
  have on3 := on.fr f7 (fun g => g)
  refine RunQ.part 1 rfl ?_
  refine RunQ.load (v := .int .i64 r.fr) rfl rfl (on3.ld rfl) rfl ?_
  refine RunQ.part 1 rfl ?_
  refine RunQ.load (v := .int .i64 r.di) rfl rfl (on3.ld rfl) rfl ?_
  refine RunQ.all rfl ?_
  have hg3n := f7.next
  refine RunT.new (ob := ⟨[.int .i64 0, .int .i64 0, .slice none 0 0, .int .i64 0, .int .i64 0], true⟩) rfl rfl (fun _ => rfl) rfl ?_
  obtain ⟨wv, hwv⟩ : ∃ q, q = Value.slice wA SR.length wc_ := ⟨_, rfl⟩
  have hwc : isCell wv = true := by rw [hwv]; rfl
  rw [← hwv] at hwN ⊢
  have hst : astore prog ((g3.push ⟨[.int .i64 0, .int .i64 0, .slice none 0 0, .int .i64 0, .int .i64 0], true⟩).lo (g3.push ⟨[.int .i64 0, .int .i64 0, .slice none 0 0, .int .i64 0, .int .i64 0], true⟩).next) 93 ⟨g3.next, 0, none⟩ (.agg ⟨[.int .i64 r.id, .int .i64 r.pa, wv, .int .i64 r.fr, .int .i64 r.di]⟩) = _ := store_ow (s := 5) (h := (g3.push ⟨[.int .i64 0, .int .i64 0, .slice none 0 0, .int .i64 0, .int .i64 0], true⟩).lo (g3.push ⟨[.int .i64 0, .int .i64 0, .slice none 0 0, .int .i64 0, .int .i64 0], true⟩).next) (Ow.push g3 [.int .i64 0, .int .i64 0, .slice none 0 0, .int .i64 0, .int .i64 0]) rfl rfl (by show cond (isCell wv) true false = true; rw [hwc]; rfl) (Nat.le_refl 5)
  refine RunT.store rfl rfl rfl hst (Fr.put (m := fun b => g2.next ≤ b) _ (.inl hg3n)) (RunT.nil ?_)
  intro lw F8a
  have F8b := F8a.weak (m1 := no) (fun b g => .inr g)
  clear F8a
  have fY : Fr no g3 ((g3.push ⟨[.int .i64 0, .int .i64 0, .slice none 0 0, .int .i64 0, .int .i64 0], true⟩).put g3.next (some ⟨snC (r.id, r.pa, SR, r.fr, r.di) wv, true⟩)) := (Fr.push _ _ _).trans (Fr.put (m := (· = g3.next)) _ (.inl rfl)) (fun j hj => .inr (by omega))
  have oY : Ow ((g3.push ⟨[.int .i64 0, .int .i64 0, .slice none 0 0, .int .i64 0, .int .i64 0], true⟩).put g3.next (some ⟨snC (r.id, r.pa, SR, r.fr, r.di) wv, true⟩)) g3.next (snC (r.id, r.pa, SR, r.fr, r.di) wv) := Ow.put _ (Nat.lt_succ_self _)
  have hwNY := hwN.fr0 fY
  have onb : Ow ((((g3.push ⟨[.int .i64 0, .int .i64 0, .slice none 0 0, .int .i64 0, .int .i64 0], true⟩).lo (g3.push ⟨[.int .i64 0, .int .i64 0, .slice none 0 0, .int .i64 0, .int .i64 0], true⟩).next).put g3.next (some ⟨snC (r.id, r.pa, SR, r.fr, r.di) wv, true⟩)).lo lw) g3.next (snC (r.id, r.pa, SR, r.fr, r.di) wv) := oY
  have hwN4 : RwN (fun b => g2.next ≤ b) ((((g3.push ⟨[.int .i64 0, .int .i64 0, .slice none 0 0, .int .i64 0, .int .i64 0], true⟩).lo (g3.push ⟨[.int .i64 0, .int .i64 0, .slice none 0 0, .int .i64 0, .int .i64 0], true⟩).next).put g3.next (some ⟨snC (r.id, r.pa, SR, r.fr, r.di) wv, true⟩)).lo lw) wv SR := hwNY
  clear hst oY hwNY fY
  show RunC prog _ _ _ ((((g3.push ⟨[.int .i64 0, .int .i64 0, .slice none 0 0, .int .i64 0, .int .i64 0], true⟩).lo (g3.push ⟨[.int .i64 0, .int .i64 0, .slice none 0 0, .int .i64 0, .int .i64 0], true⟩).next).put g3.next (some ⟨snC (r.id, r.pa, SR, r.fr, r.di) wv, true⟩)).lo lw) _ _ _
  have F8 : Fr no g2 ((((g3.push ⟨[.int .i64 0, .int .i64 0, .slice none 0 0, .int .i64 0, .int .i64 0], true⟩).lo (g3.push ⟨[.int .i64 0, .int .i64 0, .slice none 0 0, .int .i64 0, .int .i64 0], true⟩).next).put g3.next (some ⟨snC (r.id, r.pa, SR, r.fr, r.di) wv, true⟩)).lo lw) := F8b
  clear F8b
  generalize (((g3.push ⟨[.int .i64 0, .int .i64 0, .slice none 0 0, .int .i64 0, .int .i64 0], true⟩).lo (g3.push ⟨[.int .i64 0, .int .i64 0, .slice none 0 0, .int .i64 0, .int .i64 0], true⟩).next).put g3.next (some ⟨snC (r.id, r.pa, SR, r.fr, r.di) wv, true⟩)).lo lw = g4 at *
  have on4 := on.fr F8 (fun g => g)
  have F14 := f6.same F8
  have ot4 := ot.fr F14 (fun g => g)
  have hN4 := hN.fr0 F14
  have ls4 := ls.fr0 F14
  have lo4 := lo.fr0 F14
  have hg4n := F14.next
  refine RunC.seq (RunC.region (RunO.part 1 rfl ?_))
  refine RunO.load (v := .int .i64 r.ki) rfl (on4.ld rfl) rfl ?_
  refine RunO.all rfl ?_
  cases hki : (r.ki == 1) with
  | true =>
    rw [hki] at hS1 hO1
    refine RunC.cond rfl (fun _ => ?_) (fun g => by cases g)
    refine RunC.region (RunO.part 1 rfl ?_)
    refine RunO.load (v := ov) rfl (ot4.ld rfl) rfl ?_
    refine RunO.load (v := .agg ⟨snC (r.id, r.pa, SR, r.fr, r.di) wv⟩) rfl (onb.ld rfl) rfl ?_
    refine RunO.part 1 (h1 := g4.push ⟨snC (r.id, r.pa, SR, r.fr, r.di) wv, true⟩) rfl ?_
    have ol := Ow.push g4 (snC (r.id, r.pa, SR, r.fr, r.di) wv)
    have f9 : Fr no g4 (g4.push ⟨snC (r.id, r.pa, SR, r.fr, r.di) wv, true⟩) := Fr.push _ _ _
    replace ot4 := ot4.fr f9 (fun g => g)
    replace hN4 := hN4.fr0 f9
    replace hwN4 := hwN4.fr0 f9
    replace ls4 := ls4.fr0 f9
    replace lo4 := lo4.fr0 f9
    have F9 := F14.same f9
    have hg5n := f9.next
    generalize g4.push ⟨snC (r.id, r.pa, SR, r.fr, r.di) wv, true⟩ = g5 at *
    generalize g4.next = lb at *
    have hgg := F9.next
    have l4 := lo4.weak (M := fun b => ((qb < b ∧ b ≠ tb) ∧ ¬ At sv b ∧ ¬ At ov b) ∧ b < g5.next) (fun b g1 g2 => ⟨g2, g1⟩)
    have k4 := ls4.weak (M := fun b => ((qb < b ∧ b ≠ tb) ∧ ¬ At sv b ∧ ¬ At ov b) ∧ b < g5.next) (fun b g1 g2 => ⟨g2, g1⟩)
    have hwN5 := hwN4.weak (M := fun b => ((qb < b ∧ b ≠ tb) ∧ ¬ At sv b ∧ ¬ At ov b) ∧ b < g5.next) (fun b g1 g2 => ⟨⟨⟨by omega, by omega⟩, fun a => by have := (ls.at a).2; omega, fun a => by have := (lo.at a).2; omega⟩, g1⟩)
    obtain ⟨cs, row, kk⟩ := l4
    refine RunO.appendG (s := 5) (j := 1) rfl rfl rfl rfl rfl rfl rfl rfl (by decide) row.gr ol.all rfl (Nat.le_refl 1) (by show cond (isCell wv) true false = true; rw [hwc]; rfl) (by show 2 * (_ + 1) * 56 ≤ _; omega) (by omega) ?_
    intro ov2 g6 row2 f10
    have l6 := LS.snoc (x := (r.id, r.pa, SR, r.fr, r.di)) row kk hwN5 row2 f10 (fun b g a => (fun b g a => g.2.2 a) b g.1 a) (show tb + 1 ≤ g5.next by omega)
    have k6 := k4.frm f10 (fun b g a => (fun b g a => g.2.2 a) b g.1 a) (fun b g e => hso b g e)
    have hN6 := hN4.frm f10 (fun b g a => by have := (lo.at a).1; omega)
    have ot6 := ot4.fr f10 (fun a => by have := (lo.at a).1; omega)
    have l6 := l6.weak (M := fun b => (qb < b ∧ b ≠ tb) ∧ ¬ At sv b ∧ ¬ At ov2 b) (fun b _ g => ⟨g.1.1, g.1.2.1, fun a => by have := (row2.at a).1; have := g.2; omega⟩)
    have k6 := k6.weak (M := fun b => (qb < b ∧ b ≠ tb) ∧ ¬ At sv b ∧ ¬ At ov2 b) (fun b _ g => ⟨g.1.1, g.1.2.1, fun a => by have := (row2.at a).1; have := g.2; omega⟩)
    have hcv : isCell ov2 = true := by rcases row2.2 with ⟨e, _⟩ | ⟨b, _, e, _⟩ <;> (rw [e]; rfl)
    have hcc : cellsOf ov2 = [ov2] := by rcases row2.2 with ⟨e, _⟩ | ⟨b, _, e, _⟩ <;> (rw [e]; rfl)
    refine RunO.part 1 rfl ?_
    refine RunO.store rfl rfl (store1_ow ot6 rfl hcc hcv (Nat.le_of_ble_eq_true rfl)) (RunO.nil ?_)
    have f11 : Fr (· = tb) g6 (g6.put tb (some ⟨[hv, sv, ov2], true⟩)) := Fr.put _ (.inl rfl)
    have ot7 : Ow (g6.put tb (some ⟨[hv, sv, ov2], true⟩)) tb [hv, sv, ov2] := Ow.put _ ot6.1
    have hN7 := hN6.frm f11 (fun b g e => by have e : b = tb := e; omega)
    have loz := l6.frm f11 (fun b g e => g.1.2 e) (fun b g e => by have e : b = tb := e; have := (row2.at g).1; omega)
    have lsz := k6.frm f11 (fun b g e => g.1.2 e) (fun b g e => by have e : b = tb := e; have := (ls.at g).1; omega)
    show RunC prog _ _ _ (g6.put tb (some ⟨[hv, sv, ov2], true⟩)) _ _ _
    have F11 : Fr (· = tb) h4 (g6.put tb (some ⟨[hv, sv, ov2], true⟩)) := ((fg.quiet F9).trans f10 (fun b a => .inr (by have := (lo.at a).1; omega))).same f11
    generalize g6.put tb (some ⟨[hv, sv, ov2], true⟩) = g7 at *
    refine RunC.region (RunO.all rfl ?_)
    exact ⟨d - 1, by omega, i + 1, sv, ov2, by omega, F11, ot7, hN7, by rw [hS1, if_pos rfl]; exact lsz, by rw [hO1, if_pos rfl]; exact loz, fun b g a => by have := (row2.at a).1; have := (ls.at g).2; omega, Le.cons (inc64 (by omega)) (Le.cons rfl (Le.cons rfl (Le.cons rfl (Le.cons rfl (Le.cons rfl (Le.cons rfl (Le.nil _)))))))⟩
  | false =>
    rw [hki] at hS1 hO1
    refine RunC.cond rfl (fun g => by cases g) (fun _ => ?_)
    refine RunC.region (RunO.part 1 rfl ?_)
    refine RunO.load (v := sv) rfl (ot4.ld rfl) rfl ?_
    refine RunO.load (v := .agg ⟨snC (r.id, r.pa, SR, r.fr, r.di) wv⟩) rfl (onb.ld rfl) rfl ?_
    refine RunO.part 1 (h1 := g4.push ⟨snC (r.id, r.pa, SR, r.fr, r.di) wv, true⟩) rfl ?_
    have ol := Ow.push g4 (snC (r.id, r.pa, SR, r.fr, r.di) wv)
    have f9 : Fr no g4 (g4.push ⟨snC (r.id, r.pa, SR, r.fr, r.di) wv, true⟩) := Fr.push _ _ _
    replace ot4 := ot4.fr f9 (fun g => g)
    replace hN4 := hN4.fr0 f9
    replace hwN4 := hwN4.fr0 f9
    replace ls4 := ls4.fr0 f9
    replace lo4 := lo4.fr0 f9
    have F9 := F14.same f9
    have hg5n := f9.next
    generalize g4.push ⟨snC (r.id, r.pa, SR, r.fr, r.di) wv, true⟩ = g5 at *
    generalize g4.next = lb at *
    have hgg := F9.next
    have l4 := ls4.weak (M := fun b => ((qb < b ∧ b ≠ tb) ∧ ¬ At sv b ∧ ¬ At ov b) ∧ b < g5.next) (fun b g1 g2 => ⟨g2, g1⟩)
    have k4 := lo4.weak (M := fun b => ((qb < b ∧ b ≠ tb) ∧ ¬ At sv b ∧ ¬ At ov b) ∧ b < g5.next) (fun b g1 g2 => ⟨g2, g1⟩)
    have hwN5 := hwN4.weak (M := fun b => ((qb < b ∧ b ≠ tb) ∧ ¬ At sv b ∧ ¬ At ov b) ∧ b < g5.next) (fun b g1 g2 => ⟨⟨⟨by omega, by omega⟩, fun a => by have := (ls.at a).2; omega, fun a => by have := (lo.at a).2; omega⟩, g1⟩)
    obtain ⟨cs, row, kk⟩ := l4
    refine RunO.appendG (s := 5) (j := 1) rfl rfl rfl rfl rfl rfl rfl rfl (by decide) row.gr ol.all rfl (Nat.le_refl 1) (by show cond (isCell wv) true false = true; rw [hwc]; rfl) (by show 2 * (_ + 1) * 56 ≤ _; omega) (by omega) ?_
    intro sv2 g6 row2 f10
    have l6 := LS.snoc (x := (r.id, r.pa, SR, r.fr, r.di)) row kk hwN5 row2 f10 (fun b g a => (fun b g a => g.2.1 a) b g.1 a) (show tb + 1 ≤ g5.next by omega)
    have k6 := k4.frm f10 (fun b g a => (fun b g a => g.2.1 a) b g.1 a) (fun b g e => hso b e g)
    have hN6 := hN4.frm f10 (fun b g a => by have := (ls.at a).1; omega)
    have ot6 := ot4.fr f10 (fun a => by have := (ls.at a).1; omega)
    have l6 := l6.weak (M := fun b => (qb < b ∧ b ≠ tb) ∧ ¬ At sv2 b ∧ ¬ At ov b) (fun b _ g => ⟨g.1.1, fun a => by have := (row2.at a).1; have := g.2; omega, g.1.2.2⟩)
    have k6 := k6.weak (M := fun b => (qb < b ∧ b ≠ tb) ∧ ¬ At sv2 b ∧ ¬ At ov b) (fun b _ g => ⟨g.1.1, fun a => by have := (row2.at a).1; have := g.2; omega, g.1.2.2⟩)
    have hcv : isCell sv2 = true := by rcases row2.2 with ⟨e, _⟩ | ⟨b, _, e, _⟩ <;> (rw [e]; rfl)
    have hcc : cellsOf sv2 = [sv2] := by rcases row2.2 with ⟨e, _⟩ | ⟨b, _, e, _⟩ <;> (rw [e]; rfl)
    refine RunO.part 1 rfl ?_
    refine RunO.store rfl rfl (store1_ow ot6 rfl hcc hcv (Nat.le_of_ble_eq_true rfl)) (RunO.nil ?_)
    have f11 : Fr (· = tb) g6 (g6.put tb (some ⟨[hv, sv2, ov], true⟩)) := Fr.put _ (.inl rfl)
    have ot7 : Ow (g6.put tb (some ⟨[hv, sv2, ov], true⟩)) tb [hv, sv2, ov] := Ow.put _ ot6.1
    have hN7 := hN6.frm f11 (fun b g e => by have e : b = tb := e; omega)
    have lsz := l6.frm f11 (fun b g e => g.1.2 e) (fun b g e => by have e : b = tb := e; have := (row2.at g).1; omega)
    have loz := k6.frm f11 (fun b g e => g.1.2 e) (fun b g e => by have e : b = tb := e; have := (lo.at g).1; omega)
    show RunC prog _ _ _ (g6.put tb (some ⟨[hv, sv2, ov], true⟩)) _ _ _
    have F11 : Fr (· = tb) h4 (g6.put tb (some ⟨[hv, sv2, ov], true⟩)) := ((fg.quiet F9).trans f10 (fun b a => .inr (by have := (ls.at a).1; omega))).same f11
    generalize g6.put tb (some ⟨[hv, sv2, ov], true⟩) = g7 at *
    refine RunC.region (RunO.all rfl ?_)
    exact ⟨d - 1, by omega, i + 1, sv2, ov, by omega, F11, ot7, hN7, by rw [hS1, if_neg (by decide)]; exact lsz, by rw [hO1, if_neg (by decide)]; exact loz, fun b a g => by have := (row2.at a).1; have := (lo.at g).2; omega, Le.cons (inc64 (by omega)) (Le.cons rfl (Le.cons rfl (Le.cons rfl (Le.cons rfl (Le.cons rfl (Le.cons rfl (Le.nil _)))))))⟩
end Go.Proofs.Ytnokcbenpnmnbaa
end
section
set_option linter.unusedVariables false
set_option linter.unusedSectionVars false
set_option maxRecDepth 100000
open Go Go.Am Go.RowKit
namespace Go.Proofs.Ytnokcbenpnmnbaa
open Go.Proofs.Try

theorem mk_eq {l m : List Int} (hl : Byt l) (hm : Byt m) : ((mkStr l).data.toList == (mkStr m).data.toList) = (l == m) := by
  rw [mkStr_data, mkStr_data, Bool.eq_iff_iff, beq_iff_eq, beq_iff_eq]
  have key : ∀ a : List Int, Byt a → (a.map (fun n => UInt8.ofNat n.toNat)).map (fun u : UInt8 => (u.toNat : Int)) = a := by
    intro a ha
    rw [List.map_map]
    conv => rhs; rw [← List.map_id a]
    refine List.map_congr_left (fun x hx => ?_)
    have h1 := ha x hx
    show (((UInt8.ofNat x.toNat).toNat : Nat) : Int) = x
    rw [UInt8.toNat_ofNat', Nat.mod_eq_of_lt (by omega)]
    omega
  constructor
  · intro e
    have := congrArg (List.map (fun u : UInt8 => (u.toNat : Int))) e
    rwa [key l hl, key m hm] at this
  · rintro rfl; rfl
theorem bytesEqual_ok {h : Heap} {v w : Value} {l m : List Int} (sl : Sl h v 1 l.length (us l)) (sm : Sl h w 1 m.length (us m)) (hl : Byt l) (hm : Byt m) :
    RunF prog 85 [v, w] h fun r h' => r = .bool (l == m) ∧ h = h' := by
  refine RunF.walk func85 rfl rfl ?_
  have s1 := strOf_ok sl
  have s2 := strOf_ok sm
  obtain ⟨A, c, rfl, _, _⟩ := sl.form
  obtain ⟨B, d, rfl, _, _⟩ := sm.form
  refine RunC.seq (RunC.region (RunO.all rfl ?_))
  refine RunC.seq (RunC.region (RunO.part 1 rfl ?_))
  refine RunO.one rfl (v := .string (mkStr l)) (E1 := upd _ 6 (.string (mkStr l))) (h1 := h) ?_ rfl ?_
  · show pureR h (abytes prog h 22 9 _) = _
    rw [s1]; rfl
  refine RunO.part 1 rfl ?_
  refine RunO.one rfl (v := .string (mkStr m)) (E1 := upd _ 8 (.string (mkStr m))) (h1 := h) ?_ rfl ?_
  · show pureR h (abytes prog h 22 9 _) = _
    rw [s2]; rfl
  refine RunO.bin (v := .bool (l == m)) rfl rfl ?_ rfl ?_
  · show some (Value.bool ((mkStr l).data.toList == (mkStr m).data.toList)) = _
    rw [mk_eq hl hm]
  exact RunO.all rfl (RunC.ret ⟨_, rfl, rfl, rfl⟩)
/-- Rows, snapshots of bytes. -/
def RB (l : List (List Int)) : Prop := l.length ≤ 4611686018427387904 ∧ ∀ x ∈ l, x.length ≤ 4611686018427387904 ∧ Byt x
def SB (l : List Sn) : Prop := l.length ≤ 4611686018427387904 ∧ ∀ x ∈ l, RB x.2.2.1
set_option maxHeartbeats 1600000 in
theorem eqRows_ok {h : Heap} {v w : Value} {l m : List (List Int)} (sl : Rws h v l) (sm : Rws h w m) (hl : RB l) (hm : RB m) :
    RunF prog 84 [v, w, .func (.func 85) #[] #[]] h fun v h' => v = .bool (l == m) ∧ Fr no h h' := by
  refine RunF.walk func84 rfl rfl ?_
  have hlen := hl.1
  obtain ⟨cs, s1, k1⟩ := sl
  obtain ⟨ds, s2, k2⟩ := sm
  have s10 := s1
  have s20 := s2
  obtain ⟨A, c, rfl, hc, _⟩ := s1.form
  obtain ⟨B, d, rfl, hd, _⟩ := s2.form
  refine RunC.seq (RunC.region (RunO.all rfl ?_))
  refine RunC.seq (RunC.seq (RunC.region (RunO.all rfl ?_)))
  by_cases hn : l.length = m.length
  case neg =>
    rw [show ((l.length : Int) != (m.length : Int)) = true from bne_iff_ne.2 (by omega)]
    refine RunC.cond rfl (fun _ => ?_) (fun g => by cases g)
    rw [show (l == m) = false from beq_eq_false_iff_ne.2 (fun e => hn (by rw [e]))]
    exact RunC.seq (RunC.region (RunO.all rfl (RunC.ret ⟨_, rfl, rfl, Fr.refl _ _⟩)))
  rw [show ((l.length : Int) != (m.length : Int)) = false from by rw [hn]; exact bne_self_eq_false _]
  refine RunC.cond rfl (fun g => by cases g) (fun _ => RunC.skip ?_)
  refine RunC.seq (RunC.seq (RunC.region (RunO.all rfl ?_)))
  refine RunC.block ?_

  refine RunC.loop (fun k E h' => ∃ i : Nat, i + k = l.length ∧ l.take i = m.take i ∧ Fr no h h' ∧ Le ((upd (upd (upd (upd (upd E0 1 (.slice B m.length d)) 2 (.func (.func 85) #[] #[])) 15 (.slice A l.length c)) 16 (.int .i64 (l.length : Int))) 17 (.int .i64 (i : Int)))) E) ?st (k := l.length) ?ini
  case ini => exact ⟨0, by omega, rfl, Fr.refl _ _, Le.cons rfl (Le.cons rfl (Le.cons rfl (Le.cons rfl (Le.cons rfl (Le.nil _)))))⟩
  rintro k E g ⟨i, hi, ht, fg, hE⟩
  refine RunC.le hE ?_
  clear hE
  refine RunC.seq (RunC.region (RunO.all rfl ?_))
  refine RunC.seq (RunC.cond rfl (fun hlt => RunC.skip ?go) (fun hge => RunC.exit ?ex))
  case go =>
    have hlt := of_decide_eq_true hlt
    have h1 : i < l.length := by omega
    have h2 : i < m.length := by omega
    obtain ⟨w1, e1, sw1⟩ := k1 i l[i] (List.getElem?_eq_getElem h1)
    obtain ⟨w2, e2, sw2⟩ := k2 i m[i] (List.getElem?_eq_getElem h2)
    refine RunC.seq (RunC.block ?_)
    refine RunC.seq (RunC.region (RunO.part 1 rfl ?_))
    refine RunO.at (s := 1) (k := i) rfl rfl (s10.fr0 fg) rfl rfl h1 (row_part e1) rfl rfl rfl (RunO.all rfl ?_)
    refine RunC.seq (RunC.region (RunO.part 2 rfl ?_))
    refine RunO.at (s := 1) (k := i) rfl rfl (s20.fr0 fg) rfl rfl h2 (row_part e2) rfl rfl rfl (RunO.all rfl ?_)
    refine RunC.seq (RunC.region (RunO.part 3 rfl ?_))
    refine RunO.callD (bytesEqual_ok (sw1.fr0 fg) (sw2.fr0 fg) (hl.2 _ (List.getElem_mem h1)).2 (hm.2 _ (List.getElem_mem h2)).2) rfl rfl rfl ?_
    rintro _ _ ⟨rfl, rfl⟩

    by_cases he : l[i] = m[i]
    · rw [show (l[i] == m[i]) = true from beq_iff_eq.2 he]
      refine RunO.all rfl (RunC.cond rfl (fun g => by cases g) (fun _ => RunC.skip ?_))
      refine RunC.region (RunO.all rfl ?_)
      refine ⟨k - 1, by omega, i + 1, by omega, ?_, fg, Le.cons (inc64 (by omega)) (Le.cons rfl (Le.cons rfl (Le.cons rfl (Le.cons rfl (Le.nil _)))))⟩
      rw [List.take_succ_eq_append_getElem h1, List.take_succ_eq_append_getElem h2, ht, he]
    · rw [show (l[i] == m[i]) = false from beq_eq_false_iff_ne.2 he]
      refine RunO.all rfl (RunC.cond rfl (fun _ => ?_) (fun g => by cases g))
      have hlm : (l == m) = false := beq_eq_false_iff_ne.2 (fun e => he (by simp [e]))
      rw [hlm]
      exact RunC.seq (RunC.region (RunO.all rfl (RunC.ret ⟨_, rfl, rfl, fg⟩)))
  have hge := of_decide_eq_false hge
  have hi2 : i = l.length := by omega
  rw [hi2, List.take_length, hn, List.take_length] at ht
  have hlm : (l == m) = true := beq_iff_eq.2 ht
  rw [hlm]
  exact RunC.seq (RunC.region (RunO.all rfl (RunC.ret ⟨_, rfl, rfl, fg⟩)))

theorem alike_ok {h : Heap} {v w : Value} {l m : List (List Int)} (sl : Rws h v l) (sm : Rws h w m) (hl : RB l) (hm : RB m) :
    RunF prog 55 [v, w] h fun v h' => v = .bool (l == m) ∧ Fr no h h' := by
  refine RunF.walk func55 rfl rfl ?_
  refine RunC.seq (RunC.region (RunO.all rfl ?_))
  refine RunC.seq (RunC.region (RunO.part 2 rfl ?_))
  refine RunO.callD (eqRows_ok sl sm hl hm) rfl rfl rfl ?_
  rintro _ h1 ⟨rfl, f1⟩
  exact RunO.all rfl (RunC.ret ⟨_, rfl, rfl, f1⟩)
theorem snE_eq (x y : Sn) : (x == y) = (((((x.1 == y.1) && (x.2.1 == y.2.1)) && (x.2.2.2.1 == y.2.2.2.1)) && (x.2.2.2.2 == y.2.2.2.2)) && (x.2.2.1 == y.2.2.1)) := by
  obtain ⟨x1, x2, x3, x4, x5⟩ := x
  obtain ⟨y1, y2, y3, y4, y5⟩ := y
  rw [Bool.eq_iff_iff, Bool.and_eq_true, Bool.and_eq_true, Bool.and_eq_true, Bool.and_eq_true, beq_iff_eq, beq_iff_eq, beq_iff_eq, beq_iff_eq, beq_iff_eq, beq_iff_eq]
  constructor
  · intro e
    cases e
    exact ⟨⟨⟨⟨rfl, rfl⟩, rfl⟩, rfl⟩, rfl⟩
  · rintro ⟨⟨⟨⟨e1, e2⟩, e3⟩, e4⟩, e5⟩
    have e1 : x1 = y1 := e1
    have e2 : x2 = y2 := e2
    have e3 : x4 = y4 := e3
    have e4 : x5 = y5 := e4
    have e5 : x3 = y3 := e5
    rw [e1, e2, e3, e4, e5]
theorem sn_part {cs : List Value} {j : Nat} {l : List Value} (h : (cs.drop (j * 5)).take 5 = l) (hl : l.length = 5) : apart prog 93 cs (j * 5) = some (.agg ⟨l⟩) := by
  show (match takeN 5 (dropN (j * 5) cs) with | some l => some (Value.agg ⟨l⟩) | none => none) = _
  have hk : 5 ≤ (cs.drop (j * 5)).length := by
    have := congrArg List.length h
    rw [List.length_take] at this
    omega
  rw [takeN_eq, dropN_eq, h, if_pos hk]
set_option maxHeartbeats 1600000 in
theorem vwSnap_ok {h : Heap} {w w' : Value} {x y : Sn} (sl : Rws h w x.2.2.1) (sm : Rws h w' y.2.2.1) (b1 : RB x.2.2.1) (b2 : RB y.2.2.1) :
    RunF prog 57 [.agg ⟨snC x w⟩, .agg ⟨snC y w'⟩] h fun v h' => v = .bool (x == y) ∧ Fr no h h' := by
  rw [snE_eq]
  obtain ⟨x1, x2, x3, x4, x5⟩ := x
  obtain ⟨y1, y2, y3, y4, y5⟩ := y
  have sl : Rws h w x3 := sl
  have sm : Rws h w' y3 := sm
  have b1 : RB x3 := b1
  have b2 : RB y3 := b2
  show RunF prog _ [.agg ⟨[.int .i64 x1, .int .i64 x2, w, .int .i64 x4, .int .i64 x5]⟩, .agg ⟨[.int .i64 y1, .int .i64 y2, w', .int .i64 y4, .int .i64 y5]⟩] h fun v h' => v = .bool (((((x1 == y1) && (x2 == y2)) && (x4 == y4)) && (x5 == y5)) && (x3 == y3)) ∧ Fr no h h'
  refine RunF.walk func57 rfl rfl ?_
  refine RunC.seq (RunC.region (RunO.part 1 (h1 := h.push ⟨[.int .i64 x1, .int .i64 x2, w, .int .i64 x4, .int .i64 x5], true⟩) rfl ?_))
  have o1 := Ow.push h [.int .i64 x1, .int .i64 x2, w, .int .i64 x4, .int .i64 x5]
  have f1 : Fr no h (h.push ⟨[.int .i64 x1, .int .i64 x2, w, .int .i64 x4, .int .i64 x5], true⟩) := Fr.push _ _ _
  generalize h.push ⟨[.int .i64 x1, .int .i64 x2, w, .int .i64 x4, .int .i64 x5], true⟩ = h1 at *
  generalize h.next = p1 at *
  refine RunO.part 1 (h1 := h1.push ⟨[.int .i64 y1, .int .i64 y2, w', .int .i64 y4, .int .i64 y5], true⟩) rfl ?_
  have o2 := Ow.push h1 [.int .i64 y1, .int .i64 y2, w', .int .i64 y4, .int .i64 y5]
  have f2 : Fr no h1 (h1.push ⟨[.int .i64 y1, .int .i64 y2, w', .int .i64 y4, .int .i64 y5], true⟩) := Fr.push _ _ _
  replace o1 := o1.fr f2 (fun g => g)
  have F2 := f1.same f2
  replace sl := sl.fr0 F2
  replace sm := sm.fr0 F2
  generalize h1.push ⟨[.int .i64 y1, .int .i64 y2, w', .int .i64 y4, .int .i64 y5], true⟩ = h2 at *
  generalize h1.next = p2 at *
  refine RunO.all rfl ?_
  refine RunC.seq (RunC.region (RunO.part 1 rfl ?_))
  refine RunO.load (v := .int .i64 x1) rfl (o1.ld rfl) rfl ?_
  refine RunO.part 1 rfl ?_
  refine RunO.load (v := .int .i64 y1) rfl (o2.ld rfl) rfl ?_
  refine RunO.part 2 rfl ?_
  cases (x1 == y1) with
  | false => exact RunO.all rfl (RunC.ret ⟨_, rfl, rfl, F2⟩)
  | true =>
  refine RunO.part 1 rfl ?_
  refine RunO.loadG (v := .int .i64 x2) rfl rfl (o1.ld rfl) rfl ?_
  refine RunO.part 1 rfl ?_
  refine RunO.loadG (v := .int .i64 y2) rfl rfl (o2.ld rfl) rfl ?_
  refine RunO.part 3 rfl ?_
  cases (x2 == y2) with
  | false => exact RunO.all rfl (RunC.ret ⟨_, rfl, rfl, F2⟩)
  | true =>
  refine RunO.part 1 rfl ?_
  refine RunO.loadG (v := .int .i64 x4) rfl rfl (o1.ld rfl) rfl ?_
  refine RunO.part 1 rfl ?_
  refine RunO.loadG (v := .int .i64 y4) rfl rfl (o2.ld rfl) rfl ?_
  refine RunO.part 3 rfl ?_
  cases (x4 == y4) with
  | false => exact RunO.all rfl (RunC.ret ⟨_, rfl, rfl, F2⟩)
  | true =>
  refine RunO.part 1 rfl ?_
  refine RunO.loadG (v := .int .i64 x5) rfl rfl (o1.ld rfl) rfl ?_
  refine RunO.part 1 rfl ?_
  refine RunO.loadG (v := .int .i64 y5) rfl rfl (o2.ld rfl) rfl ?_
  refine RunO.part 3 rfl ?_
  cases (x5 == y5) with
  | false => exact RunO.all rfl (RunC.ret ⟨_, rfl, rfl, F2⟩)
  | true =>
  refine RunO.part 1 rfl ?_
  refine RunO.loadG (v := w) rfl rfl (o1.ld rfl) rfl ?_
  refine RunO.part 1 rfl ?_
  refine RunO.loadG (v := w') rfl rfl (o2.ld rfl) rfl ?_
  refine RunO.callDG rfl (alike_ok sl sm b1 b2) rfl rfl rfl ?_
  rintro _ h3 ⟨rfl, f3⟩
  exact RunO.all rfl (RunC.ret ⟨_, rfl, rfl, F2.same f3⟩)
set_option maxHeartbeats 1600000 in
theorem kpSnap_ok {h : Heap} {w w' : Value} {x y : Sn} (sl : Rws h w x.2.2.1) (sm : Rws h w' y.2.2.1) (b1 : RB x.2.2.1) (b2 : RB y.2.2.1) :
    RunF prog 68 [.agg ⟨snC x w⟩, .agg ⟨snC y w'⟩] h fun v h' => v = .bool (x == y) ∧ Fr no h h' := by
  rw [snE_eq]
  obtain ⟨x1, x2, x3, x4, x5⟩ := x
  obtain ⟨y1, y2, y3, y4, y5⟩ := y
  have sl : Rws h w x3 := sl
  have sm : Rws h w' y3 := sm
  have b1 : RB x3 := b1
  have b2 : RB y3 := b2
  show RunF prog _ [.agg ⟨[.int .i64 x1, .int .i64 x2, w, .int .i64 x4, .int .i64 x5]⟩, .agg ⟨[.int .i64 y1, .int .i64 y2, w', .int .i64 y4, .int .i64 y5]⟩] h fun v h' => v = .bool (((((x1 == y1) && (x2 == y2)) && (x4 == y4)) && (x5 == y5)) && (x3 == y3)) ∧ Fr no h h'
  refine RunF.walk func68 rfl rfl ?_
  refine RunC.seq (RunC.region (RunO.part 1 (h1 := h.push ⟨[.int .i64 x1, .int .i64 x2, w, .int .i64 x4, .int .i64 x5], true⟩) rfl ?_))
  have o1 := Ow.push h [.int .i64 x1, .int .i64 x2, w, .int .i64 x4, .int .i64 x5]
  have f1 : Fr no h (h.push ⟨[.int .i64 x1, .int .i64 x2, w, .int .i64 x4, .int .i64 x5], true⟩) := Fr.push _ _ _
  generalize h.push ⟨[.int .i64 x1, .int .i64 x2, w, .int .i64 x4, .int .i64 x5], true⟩ = h1 at *
  generalize h.next = p1 at *
  refine RunO.part 1 (h1 := h1.push ⟨[.int .i64 y1, .int .i64 y2, w', .int .i64 y4, .int .i64 y5], true⟩) rfl ?_
  have o2 := Ow.push h1 [.int .i64 y1, .int .i64 y2, w', .int .i64 y4, .int .i64 y5]
  have f2 : Fr no h1 (h1.push ⟨[.int .i64 y1, .int .i64 y2, w', .int .i64 y4, .int .i64 y5], true⟩) := Fr.push _ _ _
  replace o1 := o1.fr f2 (fun g => g)
  have F2 := f1.same f2
  replace sl := sl.fr0 F2
  replace sm := sm.fr0 F2
  generalize h1.push ⟨[.int .i64 y1, .int .i64 y2, w', .int .i64 y4, .int .i64 y5], true⟩ = h2 at *
  generalize h1.next = p2 at *
  refine RunO.all rfl ?_
  refine RunC.seq (RunC.region (RunO.part 1 rfl ?_))
  refine RunO.load (v := .int .i64 x1) rfl (o1.ld rfl) rfl ?_
  refine RunO.part 1 rfl ?_
  refine RunO.load (v := .int .i64 y1) rfl (o2.ld rfl) rfl ?_
  refine RunO.part 2 rfl ?_
  cases (x1 == y1) with
  | false => exact RunO.all rfl (RunC.ret ⟨_, rfl, rfl, F2⟩)
  | true =>
  refine RunO.part 1 rfl ?_
  refine RunO.loadG (v := .int .i64 x2) rfl rfl (o1.ld rfl) rfl ?_
  refine RunO.part 1 rfl ?_
  refine RunO.loadG (v := .int .i64 y2) rfl rfl (o2.ld rfl) rfl ?_
  refine RunO.part 3 rfl ?_
  cases (x2 == y2) with
  | false => exact RunO.all rfl (RunC.ret ⟨_, rfl, rfl, F2⟩)
  | true =>
  refine RunO.part 1 rfl ?_
  refine RunO.loadG (v := .int .i64 x4) rfl rfl (o1.ld rfl) rfl ?_
  refine RunO.part 1 rfl ?_
  refine RunO.loadG (v := .int .i64 y4) rfl rfl (o2.ld rfl) rfl ?_
  refine RunO.part 3 rfl ?_
  cases (x4 == y4) with
  | false => exact RunO.all rfl (RunC.ret ⟨_, rfl, rfl, F2⟩)
  | true =>
  refine RunO.part 1 rfl ?_
  refine RunO.loadG (v := .int .i64 x5) rfl rfl (o1.ld rfl) rfl ?_
  refine RunO.part 1 rfl ?_
  refine RunO.loadG (v := .int .i64 y5) rfl rfl (o2.ld rfl) rfl ?_
  refine RunO.part 3 rfl ?_
  cases (x5 == y5) with
  | false => exact RunO.all rfl (RunC.ret ⟨_, rfl, rfl, F2⟩)
  | true =>
  refine RunO.part 1 rfl ?_
  refine RunO.loadG (v := w) rfl rfl (o1.ld rfl) rfl ?_
  refine RunO.part 1 rfl ?_
  refine RunO.loadG (v := w') rfl rfl (o2.ld rfl) rfl ?_
  refine RunO.callDG rfl (keepRows_ok sl sm b1.1 (fun x hx => (b1.2 x hx).1)) rfl rfl rfl ?_
  rintro _ _ ⟨rfl, rfl⟩
  exact RunO.all rfl (RunC.ret ⟨_, rfl, rfl, F2⟩)

set_option maxHeartbeats 1600000 in
theorem keepSnaps_ok {h : Heap} {v w : Value} {l m : List Sn} (sl : Sns h v l) (sm : Sns h w m) (hl : SB l) (hm : SB m) :
    RunF prog 45 [v, w] h fun v h' => v = .bool (l == m) ∧ Fr no h h' := by
  refine RunF.walk func45 rfl rfl ?_
  have hlen := hl.1
  obtain ⟨cs, s1, k1⟩ := sl
  obtain ⟨ds, s2, k2⟩ := sm
  have s10 := s1
  have s20 := s2
  obtain ⟨A, c, rfl, hc, _⟩ := s1.form
  obtain ⟨B, d, rfl, hd, _⟩ := s2.form
  refine RunC.seq (RunC.region (RunO.all rfl ?_))
  refine RunC.seq (RunC.seq (RunC.region (RunO.all rfl ?_)))
  by_cases hn : l.length = m.length
  case neg =>
    rw [show ((l.length : Int) != (m.length : Int)) = true from bne_iff_ne.2 (by omega)]
    refine RunC.cond rfl (fun _ => ?_) (fun g => by cases g)
    rw [show (l == m) = false from beq_eq_false_iff_ne.2 (fun e => hn (by rw [e]))]
    exact RunC.seq (RunC.region (RunO.all rfl (RunC.ret ⟨_, rfl, rfl, Fr.refl _ _⟩)))
  rw [show ((l.length : Int) != (m.length : Int)) = false from by rw [hn]; exact bne_self_eq_false _]
  refine RunC.cond rfl (fun g => by cases g) (fun _ => RunC.skip ?_)
  refine RunC.seq (RunC.seq (RunC.region (RunO.all rfl ?_)))
  refine RunC.block ?_

  refine RunC.loop (fun k E h' => ∃ i : Nat, i + k = l.length ∧ l.take i = m.take i ∧ Fr no h h' ∧ Le ((upd (upd (upd E0 0 (.slice A l.length c)) 1 (.slice B m.length d)) 5 (.int .i64 (i : Int)))) E) ?st (k := l.length) ?ini
  case ini => exact ⟨0, by omega, rfl, Fr.refl _ _, Le.cons rfl (Le.cons rfl (Le.cons rfl (Le.nil _)))⟩
  rintro k E g ⟨i, hi, ht, fg, hE⟩
  refine RunC.le hE ?_
  clear hE
  refine RunC.seq (RunC.seq (RunC.region (RunO.all rfl ?_)))
  refine RunC.cond rfl (fun hlt => RunC.skip ?go) (fun hge => RunC.exit ?ex)
  case go =>
    have hlt := of_decide_eq_true hlt
    have h1 : i < l.length := by omega
    have h2 : i < m.length := by omega
    obtain ⟨w1, e1, sw1⟩ := k1 i l[i] (List.getElem?_eq_getElem h1)
    obtain ⟨w2, e2, sw2⟩ := k2 i m[i] (List.getElem?_eq_getElem h2)
    refine RunC.seq (RunC.block ?_)
    refine RunC.seq (RunC.draw0 rfl (RunO.part 2 rfl ?_))
    refine RunO.at (s := 5) (k := i) rfl rfl (s10.fr0 fg) rfl rfl h1 (sn_part e1 rfl) rfl rfl rfl ?_
    refine RunO.part 2 rfl ?_
    refine RunO.at (s := 5) (k := i) rfl rfl (s20.fr0 fg) rfl rfl h2 (sn_part e2 rfl) rfl rfl rfl ?_
    refine RunO.callD (kpSnap_ok (sw1.fr0 fg) (sw2.fr0 fg) (hl.2 _ (List.getElem_mem h1)) (hm.2 _ (List.getElem_mem h2))) rfl rfl rfl ?_
    rintro _ g2 ⟨rfl, f2⟩

    by_cases he : l[i] = m[i]
    · rw [show (l[i] == m[i]) = true from beq_iff_eq.2 he]
      refine RunO.all rfl (RunC.cond rfl (fun g => by cases g) (fun _ => RunC.skip ?_))
      refine RunC.region (RunO.all rfl ?_)
      refine ⟨k - 1, by omega, i + 1, by omega, ?_, fg.same f2, Le.cons (inc64 (by omega)) (Le.cons rfl (Le.cons rfl (Le.nil _)))⟩
      rw [List.take_succ_eq_append_getElem h1, List.take_succ_eq_append_getElem h2, ht, he]
    · rw [show (l[i] == m[i]) = false from beq_eq_false_iff_ne.2 he]
      refine RunO.all rfl (RunC.cond rfl (fun _ => ?_) (fun g => by cases g))
      have hlm : (l == m) = false := beq_eq_false_iff_ne.2 (fun e => he (by simp [e]))
      rw [hlm]
      exact RunC.seq (RunC.region (RunO.all rfl (RunC.ret ⟨_, rfl, rfl, fg.same f2⟩)))
  have hge := of_decide_eq_false hge
  have hi2 : i = l.length := by omega
  rw [hi2, List.take_length, hn, List.take_length] at ht
  have hlm : (l == m) = true := beq_iff_eq.2 ht
  rw [hlm]
  exact RunC.seq (RunC.region (RunO.all rfl (RunC.ret ⟨_, rfl, rfl, fg⟩)))

set_option maxHeartbeats 1600000 in
theorem eqSnaps_ok {h : Heap} {v w : Value} {l m : List Sn} (sl : Sns h v l) (sm : Sns h w m) (hl : SB l) (hm : SB m) :
    RunF prog 56 [v, w, .func (.func 57) #[] #[]] h fun v h' => v = .bool (l == m) ∧ Fr no h h' := by
  refine RunF.walk func56 rfl rfl ?_
  have hlen := hl.1
  obtain ⟨cs, s1, k1⟩ := sl
  obtain ⟨ds, s2, k2⟩ := sm
  have s10 := s1
  have s20 := s2
  obtain ⟨A, c, rfl, hc, _⟩ := s1.form
  obtain ⟨B, d, rfl, hd, _⟩ := s2.form
  refine RunC.seq (RunC.region (RunO.all rfl ?_))
  refine RunC.seq (RunC.seq (RunC.region (RunO.all rfl ?_)))
  by_cases hn : l.length = m.length
  case neg =>
    rw [show ((l.length : Int) != (m.length : Int)) = true from bne_iff_ne.2 (by omega)]
    refine RunC.cond rfl (fun _ => ?_) (fun g => by cases g)
    rw [show (l == m) = false from beq_eq_false_iff_ne.2 (fun e => hn (by rw [e]))]
    exact RunC.seq (RunC.region (RunO.all rfl (RunC.ret ⟨_, rfl, rfl, Fr.refl _ _⟩)))
  rw [show ((l.length : Int) != (m.length : Int)) = false from by rw [hn]; exact bne_self_eq_false _]
  refine RunC.cond rfl (fun g => by cases g) (fun _ => RunC.skip ?_)
  refine RunC.seq (RunC.seq (RunC.region (RunO.all rfl ?_)))
  refine RunC.block ?_

  refine RunC.loop (fun k E h' => ∃ i : Nat, i + k = l.length ∧ l.take i = m.take i ∧ Fr no h h' ∧ Le ((upd (upd (upd (upd (upd E0 1 (.slice B m.length d)) 2 (.func (.func 57) #[] #[])) 15 (.slice A l.length c)) 16 (.int .i64 (l.length : Int))) 17 (.int .i64 (i : Int)))) E) ?st (k := l.length) ?ini
  case ini => exact ⟨0, by omega, rfl, Fr.refl _ _, Le.cons rfl (Le.cons rfl (Le.cons rfl (Le.cons rfl (Le.cons rfl (Le.nil _)))))⟩
  rintro k E g ⟨i, hi, ht, fg, hE⟩
  refine RunC.le hE ?_
  clear hE
  refine RunC.seq (RunC.region (RunO.all rfl ?_))
  refine RunC.seq (RunC.cond rfl (fun hlt => RunC.skip ?go) (fun hge => RunC.exit ?ex))
  case go =>
    have hlt := of_decide_eq_true hlt
    have h1 : i < l.length := by omega
    have h2 : i < m.length := by omega
    obtain ⟨w1, e1, sw1⟩ := k1 i l[i] (List.getElem?_eq_getElem h1)
    obtain ⟨w2, e2, sw2⟩ := k2 i m[i] (List.getElem?_eq_getElem h2)
    obtain ⟨wA, wc, hw1⟩ : ∃ a b, w1 = .slice a l[i].2.2.1.length b := by
      obtain ⟨cs, s, _⟩ := sw1
      obtain ⟨a, b, e, _⟩ := s.form
      exact ⟨a, b, e⟩
    obtain ⟨uA, uc, hw2⟩ : ∃ a b, w2 = .slice a m[i].2.2.1.length b := by
      obtain ⟨cs, s, _⟩ := sw2
      obtain ⟨a, b, e, _⟩ := s.form
      exact ⟨a, b, e⟩
    have c1 : isCell w1 = true := by rw [hw1]; rfl
    have c2 : isCell w2 = true := by rw [hw2]; rfl
    refine RunC.seq (RunC.block ?_)
    refine RunC.seq (RunC.region (RunO.part 1 rfl ?_))
    refine RunO.at (s := 5) (k := i) rfl rfl (s10.fr0 fg) rfl rfl h1 (sn_part e1 rfl) rfl rfl rfl ?_
    refine RunO.part 2 (h1 := g.push ⟨[.int .i64 0, .int .i64 0, .slice none 0 0, .int .i64 0, .int .i64 0], true⟩) rfl ?_
    refine RunO.store rfl rfl (store_ow (s := 5) (Ow.push g [.int .i64 0, .int .i64 0, .slice none 0 0, .int .i64 0, .int .i64 0]) rfl rfl (by show cond (isCell w1) true false = true; rw [c1]; rfl) (Nat.le_refl 5)) (RunO.nil ?_)
    have o1 : Ow ((g.push ⟨[.int .i64 0, .int .i64 0, .slice none 0 0, .int .i64 0, .int .i64 0], true⟩).put g.next (some ⟨snC l[i] w1, true⟩)) g.next (snC l[i] w1) := Ow.put _ (Nat.lt_succ_self _)
    have f1 : Fr no g ((g.push ⟨[.int .i64 0, .int .i64 0, .slice none 0 0, .int .i64 0, .int .i64 0], true⟩).put g.next (some ⟨snC l[i] w1, true⟩)) := (Fr.push _ _ _).trans (Fr.put (m := (· = g.next)) _ (.inl rfl)) (fun j hj => .inr (by omega))
    show RunC prog _ _ _ ((g.push ⟨[.int .i64 0, .int .i64 0, .slice none 0 0, .int .i64 0, .int .i64 0], true⟩).put g.next (some ⟨snC l[i] w1, true⟩)) _ _ _
    generalize (g.push ⟨[.int .i64 0, .int .i64 0, .slice none 0 0, .int .i64 0, .int .i64 0], true⟩).put g.next (some ⟨snC l[i] w1, true⟩) = g1 at *
    generalize g.next = p1 at *
    replace fg := fg.same f1
    refine RunC.seq (RunC.region (RunO.part 2 rfl ?_))
    refine RunO.at (s := 5) (k := i) rfl rfl (s20.fr0 fg) rfl rfl h2 (sn_part e2 rfl) rfl rfl rfl ?_
    refine RunO.part 1 (h1 := g1.push ⟨[.int .i64 0, .int .i64 0, .slice none 0 0, .int .i64 0, .int .i64 0], true⟩) rfl ?_
    refine RunO.store rfl rfl (store_ow (s := 5) (Ow.push g1 [.int .i64 0, .int .i64 0, .slice none 0 0, .int .i64 0, .int .i64 0]) rfl rfl (by show cond (isCell w2) true false = true; rw [c2]; rfl) (Nat.le_refl 5)) (RunO.nil ?_)
    have o2 : Ow ((g1.push ⟨[.int .i64 0, .int .i64 0, .slice none 0 0, .int .i64 0, .int .i64 0], true⟩).put g1.next (some ⟨snC m[i] w2, true⟩)) g1.next (snC m[i] w2) := Ow.put _ (Nat.lt_succ_self _)
    have f2 : Fr no g1 ((g1.push ⟨[.int .i64 0, .int .i64 0, .slice none 0 0, .int .i64 0, .int .i64 0], true⟩).put g1.next (some ⟨snC m[i] w2, true⟩)) := (Fr.push _ _ _).trans (Fr.put (m := (· = g1.next)) _ (.inl rfl)) (fun j hj => .inr (by omega))
    show RunC prog _ _ _ ((g1.push ⟨[.int .i64 0, .int .i64 0, .slice none 0 0, .int .i64 0, .int .i64 0], true⟩).put g1.next (some ⟨snC m[i] w2, true⟩)) _ _ _
    generalize (g1.push ⟨[.int .i64 0, .int .i64 0, .slice none 0 0, .int .i64 0, .int .i64 0], true⟩).put g1.next (some ⟨snC m[i] w2, true⟩) = g2 at *
    generalize g1.next = p2 at *
    replace fg := fg.same f2
    replace o1 := o1.fr f2 (fun g => g)
    refine RunC.seq (RunC.region (RunO.part 1 rfl ?_))
    refine RunO.load (v := .agg ⟨snC l[i] w1⟩) rfl (o1.ld rfl) rfl ?_
    refine RunO.load (v := .agg ⟨snC m[i] w2⟩) rfl (o2.ld rfl) rfl ?_
    refine RunO.callD (vwSnap_ok (sw1.fr0 fg) (sw2.fr0 fg) (hl.2 _ (List.getElem_mem h1)) (hm.2 _ (List.getElem_mem h2))) rfl rfl rfl ?_
    rintro _ g3 ⟨rfl, f3⟩

    by_cases he : l[i] = m[i]
    · rw [show (l[i] == m[i]) = true from beq_iff_eq.2 he]
      refine RunO.all rfl (RunC.cond rfl (fun g => by cases g) (fun _ => RunC.skip ?_))
      refine RunC.region (RunO.all rfl ?_)
      refine ⟨k - 1, by omega, i + 1, by omega, ?_, fg.same f3, Le.cons (inc64 (by omega)) (Le.cons rfl (Le.cons rfl (Le.cons rfl (Le.cons rfl (Le.nil _)))))⟩
      rw [List.take_succ_eq_append_getElem h1, List.take_succ_eq_append_getElem h2, ht, he]
    · rw [show (l[i] == m[i]) = false from beq_eq_false_iff_ne.2 he]
      refine RunO.all rfl (RunC.cond rfl (fun _ => ?_) (fun g => by cases g))
      have hlm : (l == m) = false := beq_eq_false_iff_ne.2 (fun e => he (by simp [e]))
      rw [hlm]
      exact RunC.seq (RunC.region (RunO.all rfl (RunC.ret ⟨_, rfl, rfl, fg.same f3⟩)))
  have hge := of_decide_eq_false hge
  have hi2 : i = l.length := by omega
  rw [hi2, List.take_length, hn, List.take_length] at ht
  have hlm : (l == m) = true := beq_iff_eq.2 ht
  rw [hlm]
  exact RunC.seq (RunC.region (RunO.all rfl (RunC.ret ⟨_, rfl, rfl, fg⟩)))
set_option maxHeartbeats 1600000 in
theorem viewSame_ok {h : Heap} {hv sv ov hv' sv' ov' : Value} {H H' : List (List Int)} {S S' O O' : List Sn} (a1 : Rws h hv H) (a2 : Sns h sv S) (a3 : Sns h ov O) (b1 : Rws h hv' H') (b2 : Sns h sv' S') (b3 : Sns h ov' O')
    (c1 : RB H) (c2 : SB S) (c3 : SB O) (d1 : RB H') (d2 : SB S') (d3 : SB O') :
    RunF prog 28 [.agg ⟨[hv, sv, ov]⟩, .agg ⟨[hv', sv', ov']⟩] h fun v h' => v = .bool (((H == H') && (S == S')) && (O == O')) ∧ Fr no h h' := by
  refine RunF.walk func28 rfl rfl ?_
  refine RunC.seq (RunC.region (RunO.part 1 (h1 := h.push ⟨[hv, sv, ov], true⟩) rfl ?_))
  have o1 := Ow.push h [hv, sv, ov]
  have f1 : Fr no h (h.push ⟨[hv, sv, ov], true⟩) := Fr.push _ _ _
  generalize h.push ⟨[hv, sv, ov], true⟩ = h1 at *
  generalize h.next = p1 at *
  refine RunO.part 1 (h1 := h1.push ⟨[hv', sv', ov'], true⟩) rfl ?_
  have o2 := Ow.push h1 [hv', sv', ov']
  have f2 : Fr no h1 (h1.push ⟨[hv', sv', ov'], true⟩) := Fr.push _ _ _
  replace o1 := o1.fr f2 (fun g => g)
  have F2 := f1.same f2
  generalize h1.push ⟨[hv', sv', ov'], true⟩ = h2 at *
  generalize h1.next = p2 at *
  refine RunO.all rfl ?_
  refine RunC.seq (RunC.region (RunO.part 1 rfl ?_))
  refine RunO.load (v := hv) rfl (o1.ld rfl) rfl ?_
  refine RunO.part 1 rfl ?_
  refine RunO.load (v := hv') rfl (o2.ld rfl) rfl ?_
  refine RunO.callD (alike_ok (a1.fr0 F2) (b1.fr0 F2) c1 d1) rfl rfl rfl ?_
  rintro _ h2_ ⟨rfl, f2_⟩
  replace F2 := F2.same f2_
  replace o1 := o1.fr f2_ (fun g => g)
  replace o2 := o2.fr f2_ (fun g => g)
  refine RunO.part 1 rfl ?_
  cases (H == H') with
  | false => exact RunO.all rfl (RunC.ret ⟨_, rfl, rfl, F2⟩)
  | true =>
  refine RunO.part 1 rfl ?_
  refine RunO.loadG (v := sv) rfl rfl (o1.ld rfl) rfl ?_
  refine RunO.part 1 rfl ?_
  refine RunO.loadG (v := sv') rfl rfl (o2.ld rfl) rfl ?_
  refine RunO.callDG rfl (eqSnaps_ok (a2.fr0 F2) (b2.fr0 F2) c2 d2) rfl rfl rfl ?_
  rintro _ h3 ⟨rfl, f3⟩
  have F3 := F2.same f3
  refine RunO.part 2 rfl ?_
  cases (S == S') with
  | false => exact RunO.all rfl (RunC.ret ⟨_, rfl, rfl, F3⟩)
  | true =>
  replace o1 := o1.fr f3 (fun g => g)
  replace o2 := o2.fr f3 (fun g => g)
  refine RunO.part 1 rfl ?_
  refine RunO.loadG (v := ov) rfl rfl (o1.ld rfl) rfl ?_
  refine RunO.part 1 rfl ?_
  refine RunO.loadG (v := ov') rfl rfl (o2.ld rfl) rfl ?_
  refine RunO.callDG rfl (eqSnaps_ok (a3.fr0 F3) (b3.fr0 F3) c3 d3) rfl rfl rfl ?_
  rintro _ h4 ⟨rfl, f4⟩
  exact RunO.all rfl (RunC.ret ⟨_, rfl, rfl, F3.same f4⟩)
set_option maxHeartbeats 1600000 in
theorem keepView_ok {h : Heap} {hv sv ov hv' sv' ov' : Value} {H H' : List (List Int)} {S S' O O' : List Sn} (a1 : Rws h hv H) (a2 : Sns h sv S) (a3 : Sns h ov O) (b1 : Rws h hv' H') (b2 : Sns h sv' S') (b3 : Sns h ov' O')
    (c1 : RB H) (c2 : SB S) (c3 : SB O) (d1 : RB H') (d2 : SB S') (d3 : SB O') :
    RunF prog 29 [.agg ⟨[hv, sv, ov]⟩, .agg ⟨[hv', sv', ov']⟩] h fun v h' => v = .bool (((H == H') && (S == S')) && (O == O')) ∧ Fr no h h' := by
  refine RunF.walk func29 rfl rfl ?_
  refine RunC.seq (RunC.region (RunO.part 1 (h1 := h.push ⟨[hv, sv, ov], true⟩) rfl ?_))
  have o1 := Ow.push h [hv, sv, ov]
  have f1 : Fr no h (h.push ⟨[hv, sv, ov], true⟩) := Fr.push _ _ _
  generalize h.push ⟨[hv, sv, ov], true⟩ = h1 at *
  generalize h.next = p1 at *
  refine RunO.part 1 (h1 := h1.push ⟨[hv', sv', ov'], true⟩) rfl ?_
  have o2 := Ow.push h1 [hv', sv', ov']
  have f2 : Fr no h1 (h1.push ⟨[hv', sv', ov'], true⟩) := Fr.push _ _ _
  replace o1 := o1.fr f2 (fun g => g)
  have F2 := f1.same f2
  generalize h1.push ⟨[hv', sv', ov'], true⟩ = h2 at *
  generalize h1.next = p2 at *
  refine RunO.all rfl ?_
  refine RunC.seq (RunC.region (RunO.part 1 rfl ?_))
  refine RunO.load (v := hv) rfl (o1.ld rfl) rfl ?_
  refine RunO.part 1 rfl ?_
  refine RunO.load (v := hv') rfl (o2.ld rfl) rfl ?_
  refine RunO.callD (keepRows_ok (a1.fr0 F2) (b1.fr0 F2) c1.1 (fun x hx => (c1.2 x hx).1)) rfl rfl rfl ?_
  rintro _ _ ⟨rfl, rfl⟩
  refine RunO.part 1 rfl ?_
  cases (H == H') with
  | false => exact RunO.all rfl (RunC.ret ⟨_, rfl, rfl, F2⟩)
  | true =>
  refine RunO.part 1 rfl ?_
  refine RunO.loadG (v := sv) rfl rfl (o1.ld rfl) rfl ?_
  refine RunO.part 1 rfl ?_
  refine RunO.loadG (v := sv') rfl rfl (o2.ld rfl) rfl ?_
  refine RunO.callDG rfl (keepSnaps_ok (a2.fr0 F2) (b2.fr0 F2) c2 d2) rfl rfl rfl ?_
  rintro _ h3 ⟨rfl, f3⟩
  have F3 := F2.same f3
  refine RunO.part 2 rfl ?_
  cases (S == S') with
  | false => exact RunO.all rfl (RunC.ret ⟨_, rfl, rfl, F3⟩)
  | true =>
  replace o1 := o1.fr f3 (fun g => g)
  replace o2 := o2.fr f3 (fun g => g)
  refine RunO.part 1 rfl ?_
  refine RunO.loadG (v := ov) rfl rfl (o1.ld rfl) rfl ?_
  refine RunO.part 1 rfl ?_
  refine RunO.loadG (v := ov') rfl rfl (o2.ld rfl) rfl ?_
  refine RunO.callDG rfl (keepSnaps_ok (a3.fr0 F3) (b3.fr0 F3) c3 d3) rfl rfl rfl ?_
  rintro _ h4 ⟨rfl, f4⟩
  exact RunO.all rfl (RunC.ret ⟨_, rfl, rfl, F3.same f4⟩)

end Go.Proofs.Ytnokcbenpnmnbaa
end
section
set_option linter.unusedVariables false
set_option linter.unusedSectionVars false
set_option maxRecDepth 100000
open Go Go.Am Go.RowKit
namespace Go.Proofs.Ytnokcbenpnmnbaa
open Go.Proofs.Try

def vsE (L : List Int) (root size : Int) : Int := if treeE L root = 0 then (if size < 0 ∨ size > 512 then 1 else 0) else treeE L root
theorem treeM_rng {L : List Int} {root : Int} (h : treeE L root = 0) : ∀ x ∈ treeM L root, x = 0 ∨ (0 ≤ x ∧ (x.toNat + 1) * 64 ≤ L.length) := by
  obtain ⟨h1, h2⟩ := treeE_ok h
  have hdl : L.length % 64 = 0 ∧ 4 ≤ L.length / 64 ∧ L.length / 64 ≤ 4096 := by
    unfold devOk at h2
    simpa using h2
  intro x hx
  have := (tree_rng h2 h1).1 x hx
  exact .inr ⟨this.1, by omega⟩
set_option maxHeartbeats 4000000 in
theorem viewSectors_ok {h : Heap} {iv : Value} {L : List Int} {root size : Int} (sl : Sl h iv 1 L.length (us L)) (hb : Byt L) (hm : L.length ≤ 4611686018427387904) :
    RunF prog 27 [iv, .int .i64 root, .int .i64 size] h fun v h' => Fr no h h' ∧ ((vsE L root size = 0 ∧ ∃ rv, v = .tuple #[rv, .int .i64 0] ∧ RwG h.next h' rv (secsL L (treeM L root) size.toNat)) ∨ (vsE L root size ≠ 0 ∧ v = .tuple #[.slice none 0 0, .int .i64 (vsE L root size)])) := by
  refine RunF.walk func27 rfl rfl ?_
  have sl0 := sl
  obtain ⟨A, c, rfl, _, _⟩ := sl.form
  refine RunC.seq (RunC.region (RunO.all rfl ?_))
  refine RunC.seq (RunC.region (RunO.part 2 rfl ?_))
  refine RunO.callD (treeMap_ok sl0 hb hm) rfl rfl rfl ?_
  rintro _ h1 ⟨f1, ⟨e0, mb, hmb, rfl, om⟩ | ⟨e0, rfl⟩⟩
  case inr =>
    have hv : vsE L root size = treeE L root := by unfold vsE; rw [if_neg e0]
    rw [hv]
    generalize treeE L root = e at *
    refine RunO.all rfl ?_
    refine RunC.seq (RunC.block ?_)
    refine RunC.seq (RunC.region (RunO.part 1 rfl ?_))
    refine RunO.part 1 rfl ?_
    rw [show (e != 0) = true from bne_iff_ne.2 e0]
    refine RunO.all rfl (RunC.cond rfl (fun _ => ?_) (fun g => by cases g))
    exact RunC.seq (RunC.region (RunO.all rfl (RunC.ret ⟨_, rfl, f1, .inr ⟨e0, rfl⟩⟩)))
  have hv : vsE L root size = if size < 0 ∨ size > 512 then 1 else 0 := by unfold vsE; rw [if_pos e0]
  rw [hv]
  refine RunO.all rfl ?_
  have hrng := treeM_rng e0
  have hml := treeM_len L root
  have slm : Sl h1 (.slice (some ⟨mb, 0, none⟩) 512 (exc 512)) 1 (treeM L root).length (is (treeM L root)) := sl_owI om hml (Cp.exc (Nat.le_refl _)) (by omega)
  by_cases h0 : size < 0
  · refine RunC.seq (RunC.block ?_)
    refine RunC.seq (RunC.region (RunO.all rfl (RunC.cond rfl (fun g => by cases g) (fun _ => ?_))))
    refine RunC.seq (RunC.region (RunO.part 2 rfl ?_))
    rw [decide_eq_true h0]
    refine RunO.all rfl (RunC.cond rfl (fun _ => ?_) (fun g => by cases g))
    rw [if_pos (.inl h0)]
    exact RunC.seq (RunC.region (RunO.all rfl (RunC.ret ⟨_, rfl, f1, .inr ⟨by decide, rfl⟩⟩)))
  by_cases h5 : size > 512
  · refine RunC.seq (RunC.block ?_)
    refine RunC.seq (RunC.region (RunO.all rfl (RunC.cond rfl (fun g => by cases g) (fun _ => ?_))))
    refine RunC.seq (RunC.region (RunO.part 2 rfl ?_))
    rw [decide_eq_false h0]
    refine RunO.part 3 rfl ?_
    rw [decide_eq_true h5]
    refine RunO.all rfl (RunC.cond rfl (fun _ => ?_) (fun g => by cases g))
    rw [if_pos (.inr h5)]
    exact RunC.seq (RunC.region (RunO.all rfl (RunC.ret ⟨_, rfl, f1, .inr ⟨by decide, rfl⟩⟩)))
  rw [if_neg (fun g => g.elim h0 h5)]
  obtain ⟨n, rfl⟩ := Int.eq_ofNat_of_zero_le (show 0 ≤ size by omega)
  rw [Int.toNat_natCast]
  have hsec := sectors_ok (n := n) (sl0.fr0 f1) slm hrng (by omega) (by omega) hm
  refine RunC.seq (RunC.block ?_)
  refine RunC.seq (RunC.region (RunO.all rfl (RunC.cond rfl (fun g => by cases g) (fun _ => ?_))))
  refine RunC.seq (RunC.region (RunO.part 2 rfl ?_))
  rw [decide_eq_false h0]
  refine RunO.part 3 rfl ?_
  rw [decide_eq_false h5]
  refine RunO.all rfl (RunC.cond rfl (fun g => by cases g) (fun _ => RunC.skip ?_))
  refine RunC.seq (RunC.region (RunO.part 3 rfl ?_))
  refine RunO.callD hsec rfl rfl rfl ?_
  rintro rv h2 ⟨f2, rr⟩
  exact RunO.all rfl (RunC.ret ⟨_, rfl, f1.same f2, .inl ⟨rfl, rv, rfl, by
    obtain ⟨cs, row, k⟩ := rr
    refine ⟨cs, Row.lo row f1.next, fun j x hx => ?_⟩
    obtain ⟨w, e, sw, hw⟩ := k j x hx
    exact ⟨w, e, sw, fun b o c e => ⟨by have := (hw b o c e).1; have := f1.next; omega, (hw b o c e).2⟩⟩⟩⟩)
theorem secsL_RB {L m : List Int} {n : Nat} (hb : Byt L) (hr : ∀ x ∈ m, x = 0 ∨ (0 ≤ x ∧ (x.toNat + 1) * 64 ≤ L.length)) (hm : m.length ≤ 100000) : RB (secsL L m n) := by
  refine ⟨?_, fun r hr2 => ?_⟩
  · unfold secsL; rw [List.length_map, List.length_take]; omega
  · unfold secsL at hr2
    obtain ⟨x, hx, rfl⟩ := List.mem_map.1 hr2
    have := hr x (List.mem_of_mem_take hx)
    unfold secB
    split
    · refine ⟨by rw [List.length_replicate]; decide, fun y hy => ?_⟩
      rw [List.eq_of_mem_replicate hy]; decide
    · rename_i h0
      exact ⟨by rw [blkI_len (this.resolve_left h0).2]; decide, byt_blk hb _⟩
theorem Sns.nil (h : Heap) : Sns h (.slice none 0 0) [] := ⟨[], Sl.nil h 5, fun j x hx => by cases hx⟩
theorem RB.nil : RB [] := ⟨by decide, fun x hx => by cases hx⟩
theorem SB.nil : SB [] := ⟨by decide, fun x hx => by cases hx⟩
set_option maxHeartbeats 16000000 in
theorem wakes17_ok {h : Heap} : RunF prog 32 [] h fun v h' => v = .bool true ∧ Fr no h h' := by
  refine RunF.walk func32 rfl rfl ?_
  have h4 : 4 ≤ 8 := by decide
  have hB : 8 ≤ 4096 := by decide
  refine RunC.seq (RunC.region (RunO.all rfl ?_))
  refine RunC.seq (RunC.region ?_)
  refine RunO.callD (openNew_ok (B := 8) h4 hB) rfl rfl rfl ?_
  rintro _ h1 ⟨f1, ib, hib, rfl, oi⟩
  obtain ⟨k1, k2, k3⟩ := lk_new h4 hB
  have hl := newI_len (B := 8) (by decide)
  have hby := newI_byt 8
  generalize newI 8 = L at *
  have k0 : (lk L).2 = 0 := by rw [k1]
  have eH : vwH L = [] := by unfold vwH; rw [k3]; rfl
  have eS : vwS L (lkF L).1 = [] := by rw [k2]; rfl
  have eO : vwO L (lkF L).1 = [] := by rw [k2]; rfl
  have sli := sl_own oi hl (Cp.exc (Nat.le_refl _)) (by decide)
  refine RunO.all rfl ?_
  refine RunC.seq (RunC.region (RunO.part 1 rfl ?_))
  refine RunO.callD (viewOf_ok sli hby (by omega)) rfl rfl rfl ?_
  rintro _ h2 ⟨f2, ⟨_, hv, sv, ov, rfl, a1, a2, a3⟩ | ⟨g, _⟩⟩
  case inr => exact absurd k0 g
  rw [eH] at a1
  rw [eS] at a2
  rw [eO] at a3
  obtain ⟨hA, hc, rfl⟩ : ∃ a b, hv = .slice a 0 b := by
    obtain ⟨cs, s, _⟩ := a1
    obtain ⟨a, b, e, _⟩ := s.form
    exact ⟨a, b, e⟩
  obtain ⟨sA, sc_, rfl⟩ : ∃ a b, sv = .slice a 0 b := by
    obtain ⟨cs, s, _⟩ := a2
    obtain ⟨a, b, e, _⟩ := s.form
    exact ⟨a, b, e⟩
  obtain ⟨oA, oc, rfl⟩ : ∃ a b, ov = .slice a 0 b := by
    obtain ⟨cs, s, _⟩ := a3
    obtain ⟨a, b, e, _⟩ := s.form
    exact ⟨a, b, e⟩
  refine RunO.part 4 (h1 := h2.push ⟨[.slice none 0 0, .slice none 0 0, .slice none 0 0], true⟩) rfl ?_
  refine RunO.store rfl rfl (store_ow (s := 3) (Ow.push h2 [.slice none 0 0, .slice none 0 0, .slice none 0 0]) rfl rfl rfl (Nat.le_refl 3)) (RunO.all rfl ?_)
  have ot : Ow ((h2.push ⟨[.slice none 0 0, .slice none 0 0, .slice none 0 0], true⟩).put h2.next (some ⟨[.slice hA 0 hc, .slice sA 0 sc_, .slice oA 0 oc], true⟩)) h2.next [.slice hA 0 hc, .slice sA 0 sc_, .slice oA 0 oc] := Ow.put _ (Nat.lt_succ_self _)
  have f3 : Fr no h2 ((h2.push ⟨[.slice none 0 0, .slice none 0 0, .slice none 0 0], true⟩).put h2.next (some ⟨[.slice hA 0 hc, .slice sA 0 sc_, .slice oA 0 oc], true⟩)) := (Fr.push _ _ _).trans (Fr.put (m := (· = h2.next)) _ (.inl rfl)) (fun j hj => .inr (by omega))
  show RunC prog _ _ _ ((h2.push ⟨[.slice none 0 0, .slice none 0 0, .slice none 0 0], true⟩).put h2.next (some ⟨[.slice hA 0 hc, .slice sA 0 sc_, .slice oA 0 oc], true⟩)) _ _ _
  generalize (h2.push ⟨[.slice none 0 0, .slice none 0 0, .slice none 0 0], true⟩).put h2.next (some ⟨[.slice hA 0 hc, .slice sA 0 sc_, .slice oA 0 oc], true⟩) = h3 at *
  generalize h2.next = tb at *
  have F3 := f2.same f3
  have te : treeE L 0 = 0 := by unfold treeE; rw [hl]; rfl
  refine RunC.seq (RunC.region (RunO.part 1 rfl ?_))
  refine RunO.callD (viewSectors_ok (root := 0) (size := 2) (sli.fr0 F3) hby (by omega)) rfl rfl rfl ?_
  have hvs : vsE L 0 2 = 0 := by unfold vsE; rw [te]; rfl
  rintro _ h4 ⟨f4, ⟨_, rv, rfl, rr⟩ | ⟨g, _⟩⟩
  case inr => exact absurd hvs g
  have eR : secsL L (treeM L 0) (2 : Int).toNat = [List.replicate 64 0, List.replicate 64 0] := rfl
  rw [eR] at rr
  have rw4 := rr.rws (by show 2 ≤ _; decide)
  have rw40 := rw4
  obtain ⟨cs, s4, k4⟩ := rw4
  have s40 := s4
  obtain ⟨w1, e1, sw1⟩ := k4 1 (List.replicate 64 0) rfl
  obtain ⟨wA, wc, rfl, _, _⟩ := sw1.form
  obtain ⟨rA, rc, rfl, _, _⟩ := s4.form
  have s40 : Sl h4 (.slice rA 2 rc) 1 2 cs := s40
  have ot4 := ot.fr f4 (fun g => g)
  refine RunO.all rfl ?_
  refine RunC.seq (RunC.region (RunO.part 8 rfl ?_))
  refine RunO.loadG (v := .slice hA 0 hc) rfl rfl (ot4.ld rfl) rfl ?_
  refine RunO.part 2 rfl ?_
  refine RunO.loadG (v := .slice sA 0 sc_) rfl rfl (ot4.ld rfl) rfl ?_
  refine RunO.part 3 rfl ?_
  refine RunO.loadG (v := .slice oA 0 oc) rfl rfl (ot4.ld rfl) rfl ?_
  refine RunO.part 14 rfl ?_
  refine RunO.part 1 rfl ?_
  refine RunO.atG (s := 1) (k := 1) rfl (fun _ => rfl) rfl rfl s40 rfl rfl (by decide) (row_part e1) rfl rfl rfl ?_
  refine RunO.part 4 rfl ?_
  refine RunO.loadG (v := .agg ⟨[.slice hA 0 hc, .slice sA 0 sc_, .slice oA 0 oc]⟩) rfl rfl (ot4.ld rfl) rfl ?_
  refine RunO.part 1 rfl ?_
  have F4 := f4
  refine RunO.callDG rfl (viewSame_ok ((a1.fr0 f3).fr0 f4) ((a2.fr0 f3).fr0 f4) ((a3.fr0 f3).fr0 f4) (Rws.nil _) (Sns.nil _) (Sns.nil _) RB.nil SB.nil SB.nil RB.nil SB.nil SB.nil) rfl rfl rfl ?_
  rintro _ h5 ⟨rfl, f5⟩
  refine RunO.part 2 rfl ?_
  have ot5 := ot4.fr f5 (fun g => g)
  refine RunO.loadG (v := .agg ⟨[.slice hA 0 hc, .slice sA 0 sc_, .slice oA 0 oc]⟩) rfl rfl (ot5.ld rfl) rfl ?_
  refine RunO.part 2 rfl ?_
  have hrb : RB [List.replicate 64 0, List.replicate 64 0] := ⟨by decide, fun x hx => by
    have : x = List.replicate 64 0 := by simpa using hx
    rw [this]
    exact ⟨by rw [List.length_replicate]; decide, fun y hy => by rw [List.eq_of_mem_replicate hy]; decide⟩⟩
  have F5 := f4.same f5
  refine RunO.callDG rfl (viewSame_ok ((a1.fr0 f3).fr0 F5) ((a2.fr0 f3).fr0 F5) ((a3.fr0 f3).fr0 F5) (rw40.fr0 f5) (Sns.nil _) (Sns.nil _) RB.nil SB.nil SB.nil hrb SB.nil SB.nil) rfl rfl rfl ?_
  rintro _ h6 ⟨rfl, f6⟩
  exact RunO.all rfl (RunC.ret ⟨_, rfl, rfl, ((f1.same F3).same F5).same f6⟩)
end Go.Proofs.Ytnokcbenpnmnbaa
end
section
set_option linter.unusedVariables false
set_option linter.unusedSectionVars false
set_option maxRecDepth 100000
open Go Go.Am Go.RowKit
namespace Go.Proofs.Ytnokcbenpnmnbaa
open Go.Proofs.Try

theorem us_set0 (l : List Int) (i : Nat) (x : Int) : (us l).set (0 + i * 1) (.int .u8 x) = us (l.set i x) := by unfold us; rw [List.map_set, Nat.zero_add, Nat.mul_one]
theorem Agr.secs {L X : List Int} (a : Agr L X) (h : (lk L).2 = 0) {p : Int × Int} (hp : p ∈ lkR L) (n : Nat) : secsL X (treeM X p.1) n = secsL L (treeM L p.1) n := by
  rw [(a.tree h hp).2.1]
  unfold secsL
  refine List.map_congr_left (fun x hx => ?_)
  have hx := List.mem_of_mem_take hx
  unfold secB
  split
  · rfl
  · rename_i h0
    obtain ⟨hd, _, _, htr, _, _⟩ := lk_trees h
    have := (tree_rng hd (htr p hp)).1 x hx
    exact a.blk _ (.inr (.inr ⟨p, hp, .inr ⟨by omega, by rw [show ((x.toNat : Nat) : Int) = x by omega]; exact hx⟩⟩))
theorem Agr.view {L X : List Int} (a : Agr L X) (h : (lk L).2 = 0) : vwH X = vwH L ∧ vwS X (lkF X).1 = vwS L (lkF L).1 ∧ vwO X (lkF X).1 = vwO L (lkF L).1 := by
  have hs : ∀ r ∈ (lkF L).1, snP X r = snP L r := fun r hr => by
    unfold snP
    rw [a.secs h (p := (r.ro, r.sz)) (by unfold lkR; exact List.mem_cons_of_mem _ (List.mem_map.2 ⟨r, hr, rfl⟩))]
  refine ⟨?_, ?_, ?_⟩
  · unfold vwH
    rw [a.S, a.secs h (p := ((lkS L).2.2.1, (lkS L).2.2.2.1)) (by unfold lkR; exact List.mem_cons_self ..)]
  · rw [a.F h]
    unfold vwS
    exact List.map_congr_left (fun r hr => hs r (List.mem_filter.1 hr).1)
  · rw [a.F h]
    unfold vwO
    exact List.map_congr_left (fun r hr => hs r (List.mem_filter.1 hr).1)
theorem view_RB {L : List Int} (hb : Byt L) (h : (lk L).2 = 0) : RB (vwH L) ∧ SB (vwS L (lkF L).1) ∧ SB (vwO L (lkF L).1) := by
  obtain ⟨hd, _, _, htr, _, _⟩ := lk_trees h
  have hte : ∀ p ∈ lkR L, treeE L p.1 = 0 := fun p hp => by unfold treeE; rw [if_pos hd, if_pos (htr p hp)]
  have key : ∀ p ∈ lkR L, ∀ n, RB (secsL L (treeM L p.1) n) := fun p hp n => secsL_RB hb (treeM_rng (hte p hp)) (by rw [treeM_len]; decide)
  have hdl := lk_dev h
  obtain ⟨_, hrl, hbl⟩ := recs_look h
  have hs : ∀ r ∈ (lkF L).1, RB (snP L r).2.2.1 := fun r hr => key (r.ro, r.sz) (by unfold lkR; exact List.mem_cons_of_mem _ (List.mem_map.2 ⟨r, hr, rfl⟩)) _
  refine ⟨key ((lkS L).2.2.1, (lkS L).2.2.2.1) (by unfold lkR; exact List.mem_cons_self ..) (lkS L).2.2.2.1.toNat, ⟨?_, fun x hx => ?_⟩, ⟨?_, fun x hx => ?_⟩⟩
  · unfold vwS; rw [List.length_map]; exact Nat.le_trans (List.length_filter_le _ _) (by omega)
  · unfold vwS at hx
    obtain ⟨r, hr, rfl⟩ := List.mem_map.1 hx
    exact hs r (List.mem_filter.1 hr).1
  · unfold vwO; rw [List.length_map]; exact Nat.le_trans (List.length_filter_le _ _) (by omega)
  · unfold vwO at hx
    obtain ⟨r, hr, rfl⟩ := List.mem_map.1 hx
    exact hs r (List.mem_filter.1 hr).1
theorem vw_cells {h : Heap} {hv sv ov : Value} {H : List (List Int)} {S O : List Sn} (a1 : Rws h hv H) (a2 : Sns h sv S) (a3 : Sns h ov O) : allCells (cellsOf (.agg ⟨[hv, sv, ov]⟩)) = true := by
  obtain ⟨_, s1, _⟩ := a1
  obtain ⟨_, s2, _⟩ := a2
  obtain ⟨_, s3, _⟩ := a3
  obtain ⟨_, _, rfl, _⟩ := s1.form
  obtain ⟨_, _, rfl, _⟩ := s2.form
  obtain ⟨_, _, rfl, _⟩ := s3.form
  rfl
set_option maxHeartbeats 32000000 in
theorem viewReached_true : ∀ h xs avs, ArgsK [.slice (.int .u8), .int .u8] h xs avs → RunF prog 9 avs h fun v _ => v = .bool true := by
  intro h xs avs ha
  obtain ⟨L, _, iv, _, rfl, sl, hwf, ha⟩ := argInts ha
  obtain ⟨cv, _, _, rfl, hcw, ha⟩ := argInt ha
  obtain rfl := argNil ha
  have hb : Byt L := fun x hx => wf_u8 (hwf x hx)
  have hcv := wf_u8 hcw
  refine RunF.walk func9 rfl rfl ?_
  refine RunC.seq (RunC.region (RunO.all rfl ?_))
  refine RunC.seq (RunC.seq (RunC.region (RunO.part 1 rfl ?_)))
  refine RunO.callD (heavy_ok sl) rfl rfl rfl ?_
  rintro _ _ ⟨rfl, rfl⟩
  refine RunO.all rfl ?_
  by_cases hL : (L.length : Int) > 19200
  · rw [decide_eq_true hL]
    refine RunC.cond rfl (fun _ => ?_) (fun g => by cases g)
    exact RunC.seq (RunC.region (RunO.all rfl (RunC.ret ⟨_, rfl, rfl⟩)))
  rw [decide_eq_false hL]
  refine RunC.cond rfl (fun g => by cases g) (fun _ => RunC.skip ?_)
  have hm : L.length ≤ 4611686018427387904 := by omega
  have sl0 : Sl h iv 1 L.length (us L) := sl
  obtain ⟨A, c, rfl, _, _⟩ := sl.form
  refine RunC.seq (RunC.region (RunO.part 1 rfl ?_))
  refine RunO.callD (walkCounts_ok sl0 hb hm) rfl rfl rfl ?_
  rintro _ h1 ⟨f1, ⟨g, cB, cb, hcb, rfl, ow⟩ | ⟨g, rfl⟩⟩
  case inr =>
    refine RunO.all rfl ?_
    refine RunC.seq (RunC.region (RunO.part 1 rfl ?_))
    refine RunO.callD (viewOf_ok (sl0.fr0 f1) hb hm) rfl rfl rfl ?_
    rintro _ h2 ⟨f2, ⟨g', _⟩ | ⟨_, rfl⟩⟩
    · exact absurd g' g
    refine RunO.part 4 (h1 := h2.push ⟨[.slice none 0 0, .slice none 0 0, .slice none 0 0], true⟩) rfl ?_
    refine RunO.store rfl rfl (store_ow (s := 3) (Ow.push h2 [.slice none 0 0, .slice none 0 0, .slice none 0 0]) rfl rfl rfl (Nat.le_refl 3)) (RunO.all rfl ?_)
    generalize (lk L).2 = e at *
    refine RunC.seq (RunC.seq (RunC.region (RunO.part 2 rfl ?_)))
    rw [show (e != 0) = true from bne_iff_ne.2 g]
    refine RunO.all rfl (RunC.cond rfl (fun _ => ?_) (fun g => by cases g))
    refine RunC.seq (RunC.region (RunO.part 3 rfl ?_))
    rw [show (e == e) = true from beq_self_eq_true e]
    refine RunO.part 1 rfl ?_
    refine RunO.callDG rfl wakes17_ok rfl rfl rfl ?_
    rintro _ h9 ⟨rfl, f9⟩
    exact RunO.all rfl (RunC.ret ⟨_, rfl, rfl⟩)
  refine RunO.all rfl ?_
  refine RunC.seq (RunC.region (RunO.part 1 rfl ?_))
  refine RunO.callD (viewOf_ok (sl0.fr0 f1) hb hm) rfl rfl rfl ?_
  rintro _ h2 ⟨f2, ⟨_, hv, sv, ov, rfl, a1, a2, a3⟩ | ⟨g', _⟩⟩
  case inr => exact absurd g g'
  refine RunO.part 4 (h1 := h2.push ⟨[.slice none 0 0, .slice none 0 0, .slice none 0 0], true⟩) rfl ?_
  refine RunO.store rfl rfl (store_ow (s := 3) (Ow.push h2 [.slice none 0 0, .slice none 0 0, .slice none 0 0]) rfl rfl (vw_cells a1 a2 a3) (Nat.le_refl 3)) (RunO.all rfl ?_)
  have f3 : Fr no h2 ((h2.push ⟨[.slice none 0 0, .slice none 0 0, .slice none 0 0], true⟩).put h2.next (some ⟨[hv, sv, ov], true⟩)) := (Fr.push _ _ _).trans (Fr.put (m := (· = h2.next)) _ (.inl rfl)) (fun j hj => .inr (by omega))
  have os : Ow ((h2.push ⟨[.slice none 0 0, .slice none 0 0, .slice none 0 0], true⟩).put h2.next (some ⟨[hv, sv, ov], true⟩)) h2.next [hv, sv, ov] := Ow.put _ (Nat.lt_succ_self _)
  have slI := ((sl0.fr0 f1).fr0 f2).fr0 f3
  have owc := (ow.fr f2 (fun g => g)).fr f3 (fun g => g)
  have hdl := lk_dev g
  replace a1 := a1.fr0 f3
  replace a2 := a2.fr0 f3
  replace a3 := a3.fr0 f3
  show RunC prog _ _ _ ((h2.push ⟨[.slice none 0 0, .slice none 0 0, .slice none 0 0], true⟩).put h2.next (some ⟨[hv, sv, ov], true⟩)) _ _ _
  generalize (h2.push ⟨[.slice none 0 0, .slice none 0 0, .slice none 0 0], true⟩).put h2.next (some ⟨[hv, sv, ov], true⟩) = h3 at *
  generalize h2.next = sb at *
  obtain ⟨B, hB⟩ : ∃ B, B = L.length / 64 := ⟨_, rfl⟩
  have hcn := cB.1
  rw [← hB] at hdl hcn
  have hnn : ∀ j, 0 ≤ (cntL L).getD j 0 := (cnt_inv g).1.get
  have hci := cnt_inv g
  rw [← hB]
  refine RunC.seq (RunC.seq (RunC.region (RunO.all rfl (RunC.cond rfl (fun g => by cases g) (fun _ => RunC.skip ?_)))))
  -- the twin
  refine RunC.seq (RunC.region (RunO.part 1 rfl ?_))
  refine RunO.callD (twin_ok slI (by omega)) rfl rfl rfl ?_
  rintro xv h4 ⟨rx, f4⟩
  obtain ⟨xb, hxb, rfl, ox⟩ : ∃ b, h3.next ≤ b ∧ xv = .slice (some ⟨b, 0, none⟩) L.length (unkc 1) ∧ Ow h4 b (us L) := by
    rcases rx.2 with ⟨_, e⟩ | e
    · omega
    · exact e
  obtain ⟨xc, hxc⟩ : ∃ q, q = unkc 1 := ⟨_, rfl⟩
  have hcx : Cp 1 L.length xc := by
    have := (rx.sl (by omega)).2.2
    rw [hxc]
    rcases this with ⟨e, _⟩ | ⟨b, o, c', e, hc, _⟩
    · cases e
    · injection e with _ _ e3; rw [e3]; exact hc
  rw [← hxc]
  have hsb1 := os.1
  have hcb1 := owc.1
  refine RunO.all rfl ?_
  refine RunC.seq (RunC.seq (RunC.region (RunO.all rfl ?_)))
  refine RunC.block ?_
  refine RunC.loop (fun d E h' => ∃ (i : Nat) (X : List Int), i + d = B ∧ 2 ≤ i ∧ Fr no h3 h' ∧ Ow h' xb (us X) ∧ X.length = L.length ∧ Byt X ∧ (∀ j, (i ≤ j ∨ rch L j) → blkI X j = blkI L j) ∧ Le ((upd (upd (upd (upd (upd (upd E0 0 (.slice A L.length c)) 1 (.int .u8 cv)) 5 (.slice (some ⟨cb, 0, none⟩) B (exc B))) 7 (.pointer (some ⟨sb, 0, none⟩))) 9 (.slice (some ⟨xb, 0, none⟩) L.length xc)) 10 (.int .i64 (i : Int)))) E) ?st1 (k := B - 2) ?ini1
  case ini1 => exact ⟨2, L, by omega, Nat.le_refl _, f4, ox, rfl, hb, fun _ _ => rfl, Le.cons rfl (Le.cons rfl (Le.cons rfl (Le.cons rfl (Le.cons rfl (Le.cons rfl (Le.nil _))))))⟩
  clear ox
  rintro d E g1 ⟨i, X, hi, hi2, fg, ox, hXl, hXb, hXa, hE⟩
  refine RunC.le hE ?_
  clear hE
  refine RunC.seq (RunC.seq (RunC.region (RunO.part 4 rfl ?_)))
  by_cases hlt : (i : Int) < (B : Int)
  case neg =>
    rw [decide_eq_false hlt]
    refine RunO.all rfl (RunC.cond rfl (fun g => by cases g) (fun _ => RunC.exit ?_))
    have agr : Agr L X := ⟨hXl, fun j hj => hXa j (.inr hj)⟩
    have slX : Sl g1 (.slice (some ⟨xb, 0, none⟩) L.length xc) 1 X.length (us X) := by rw [← hXl] at hcx ⊢; exact sl_own ox rfl hcx (by omega)
    have gX : (lk X).2 = 0 := by rw [agr.lks g]; exact g
    obtain ⟨e1, e2, e3⟩ := agr.view g
    obtain ⟨r1, r2, r3⟩ := view_RB hb g
    refine RunC.seq (RunC.region (RunO.part 1 rfl ?_))
    refine RunO.callD (viewOf_ok slX hXb (by omega)) rfl rfl rfl ?_
    rintro _ g2 ⟨f5, ⟨_, hv2, sv2, ov2, rfl, b1, b2, b3⟩ | ⟨g', _⟩⟩
    case inr => exact absurd gX g'
    rw [e1] at b1
    rw [e2] at b2
    rw [e3] at b3
    refine RunO.part 4 (h1 := g2.push ⟨[.slice none 0 0, .slice none 0 0, .slice none 0 0], true⟩) rfl ?_
    refine RunO.store rfl rfl (store_ow (s := 3) (Ow.push g2 [.slice none 0 0, .slice none 0 0, .slice none 0 0]) rfl rfl (vw_cells b1 b2 b3) (Nat.le_refl 3)) (RunO.all rfl ?_)
    have f6 : Fr no g2 ((g2.push ⟨[.slice none 0 0, .slice none 0 0, .slice none 0 0], true⟩).put g2.next (some ⟨[hv2, sv2, ov2], true⟩)) := (Fr.push _ _ _).trans (Fr.put (m := (· = g2.next)) _ (.inl rfl)) (fun j hj => .inr (by omega))
    have ot : Ow ((g2.push ⟨[.slice none 0 0, .slice none 0 0, .slice none 0 0], true⟩).put g2.next (some ⟨[hv2, sv2, ov2], true⟩)) g2.next [hv2, sv2, ov2] := Ow.put _ (Nat.lt_succ_self _)
    replace b1 := b1.fr0 f6
    replace b2 := b2.fr0 f6
    replace b3 := b3.fr0 f6
    show RunC prog _ _ _ ((g2.push ⟨[.slice none 0 0, .slice none 0 0, .slice none 0 0], true⟩).put g2.next (some ⟨[hv2, sv2, ov2], true⟩)) _ _ _
    generalize (g2.push ⟨[.slice none 0 0, .slice none 0 0, .slice none 0 0], true⟩).put g2.next (some ⟨[hv2, sv2, ov2], true⟩) = g3 at *
    generalize g2.next = tb at *
    have F3 := (fg.same f5).same f6
    replace os := os.fr F3 (fun g => g)
    replace a1 := a1.fr0 F3
    replace a2 := a2.fr0 F3
    replace a3 := a3.fr0 F3
    generalize vwH L = VH at *
    generalize vwS L (lkF L).1 = VS at *
    generalize vwO L (lkF L).1 = VO at *
    have hself : (((VH == VH) && (VS == VS)) && (VO == VO)) = true := by rw [beq_self_eq_true VH, beq_self_eq_true VS, beq_self_eq_true VO]; rfl
    refine RunC.seq (RunC.region (RunO.part 3 rfl ?_))
    refine RunO.loadG (v := .agg ⟨[hv, sv, ov]⟩) rfl rfl (os.ld rfl) rfl ?_
    refine RunO.loadG (v := .agg ⟨[hv2, sv2, ov2]⟩) rfl rfl (ot.ld rfl) rfl ?_
    refine RunO.callDG rfl (viewSame_ok a1 a2 a3 b1 b2 b3 r1 r2 r3 r1 r2 r3) rfl rfl rfl ?_
    rw [hself]
    rintro _ g4 ⟨rfl, f7⟩
    refine RunO.part 2 rfl ?_
    refine RunO.loadG (v := .agg ⟨[hv, sv, ov]⟩) rfl rfl ((os.fr f7 (fun g => g)).ld rfl) rfl ?_
    refine RunO.loadG (v := .agg ⟨[hv2, sv2, ov2]⟩) rfl rfl ((ot.fr f7 (fun g => g)).ld rfl) rfl ?_
    refine RunO.callDG rfl (keepView_ok (a1.fr0 f7) (a2.fr0 f7) (a3.fr0 f7) (b1.fr0 f7) (b2.fr0 f7) (b3.fr0 f7) r1 r2 r3 r1 r2 r3) rfl rfl rfl ?_
    rw [hself]
    rintro _ g5 ⟨rfl, f8⟩
    refine RunO.part 2 rfl ?_
    refine RunO.callDG rfl wakes17_ok rfl rfl rfl ?_
    rintro _ h9 ⟨rfl, f9⟩
    exact RunO.all rfl (RunC.ret ⟨_, rfl, rfl⟩)
  rw [decide_eq_true hlt]
  refine RunO.part 3 rfl ?_
  rw [fw64 (x := (i : Int) * 64) (by omega) (by omega)]
  refine RunO.part 3 rfl ?_
  rw [decide_eq_true (show (i : Int) * 64 < (L.length : Int) by omega)]
  refine RunO.all rfl (RunC.cond rfl (fun _ => RunC.skip ?_) (fun g => by cases g))
  have hlt : i < B := by omega
  refine RunC.seq (RunC.block ?_)
  refine RunC.seq (RunC.region (RunO.all rfl ?_))
  refine RunC.block ?_
  refine RunC.loop (fun e E h' => ∃ (k : Nat) (Y : List Int), k + e = 64 ∧ Fr no h3 h' ∧ Ow h' xb (us Y) ∧ Y.length = L.length ∧ Byt Y ∧ (∀ j, (j ≠ i ∨ rch L j) → blkI Y j = blkI X j) ∧ Le ((upd (upd (upd (upd (upd (upd (upd E0 0 (.slice A L.length c)) 1 (.int .u8 cv)) 5 (.slice (some ⟨cb, 0, none⟩) B (exc B))) 7 (.pointer (some ⟨sb, 0, none⟩))) 9 (.slice (some ⟨xb, 0, none⟩) L.length xc)) 10 (.int .i64 (i : Int))) 11 (.int .i64 (k : Int)))) E) ?st2 (k := 64) ?ini2
  case ini2 => exact ⟨0, X, by omega, fg, ox, hXl, hXb, fun _ _ => rfl, Le.cons rfl (Le.cons rfl (Le.cons rfl (Le.cons rfl (Le.cons rfl (Le.cons rfl (Le.cons rfl (Le.nil _)))))))⟩
  rintro e E g2 ⟨k, Y, hk, fg2, oy, hYl, hYb, hYa, hE⟩
  refine RunC.le hE ?_
  clear hE
  have owc1 := owc.fr fg2 (fun g => g)
  have slc : Sl g2 (.slice (some ⟨cb, 0, none⟩) B (exc B)) 1 B (is (cntL L)) := by have := sl_owI owc1 hcn (Cp.exc (Nat.le_refl _)) (by omega); rwa [hcn] at this
  refine RunC.seq (RunC.seq (RunC.region (RunO.part 2 rfl ?_)))
  by_cases hk64 : (k : Int) < 64
  case neg =>
    rw [decide_eq_false hk64]
    refine RunO.all rfl (RunC.cond rfl (fun g => by cases g) (fun _ => RunC.exit ?_))
    refine RunC.region (RunO.all rfl ?_)
    exact ⟨d - 1, by omega, i + 1, Y, by omega, by omega, fg2, oy, hYl, hYb, fun j hj => by
      rw [hYa j (by rcases hj with hj | hj; exact .inl (by omega); exact .inr hj)]
      exact hXa j (by rcases hj with hj | hj; exact .inl (by omega); exact .inr hj), Le.cons (inc64 (by omega)) (Le.cons rfl (Le.cons rfl (Le.cons rfl (Le.cons rfl (Le.cons rfl (Le.nil _))))))⟩
  rw [decide_eq_true hk64]
  refine RunO.part 3 rfl ?_
  refine RunO.atG (s := 1) (k := i) rfl (fun _ => rfl) rfl rfl slc rfl rfl hlt (ig_at (by rw [hcn]; exact hlt)) rfl rfl rfl ?_
  refine RunO.part 1 rfl ?_
  by_cases hz : (cntL L).getD i 0 = 0
  case neg =>
    rw [show ((cntL L).getD i 0 == 0) = false from beq_eq_false_iff_ne.2 hz]
    refine RunO.all rfl (RunC.cond rfl (fun g => by cases g) (fun _ => RunC.exit ?_))
    refine RunC.region (RunO.all rfl ?_)
    have hri : rch L i := (hci.2 i).1 (by have := hnn i; show 0 < _; omega)
    exact ⟨d - 1, by omega, i + 1, Y, by omega, by omega, fg2, oy, hYl, hYb, fun j hj => by
      have hj2 : rch L j ∨ j ≠ i := by
        by_cases e : j = i
        · exact .inl (by rw [e]; exact hri)
        · exact .inr e
      rw [hYa j hj2.symm]
      exact hXa j (by rcases hj with hj | hj; exact .inl (by omega); exact .inr hj), Le.cons (inc64 (by omega)) (Le.cons rfl (Le.cons rfl (Le.cons rfl (Le.cons rfl (Le.cons rfl (Le.nil _))))))⟩
  rw [show ((cntL L).getD i 0 == 0) = true from beq_iff_eq.2 hz]
  refine RunO.all rfl (RunC.cond rfl (fun _ => RunC.skip ?_) (fun g => by cases g))
  have hnr : ¬ rch L i := fun g' => by
    have := (hci.2 i).2 g'
    have : 0 < (cntL L).getD i 0 := this
    omega
  have hk64 : k < 64 := by omega
  refine RunC.seq (RunC.block ?_)
  refine RunC.region (RunO.part 3 rfl ?_)
  rw [fw64 (x := (i : Int) * 64) (by omega) (by omega)]
  refine RunO.part 2 rfl ?_
  rw [fw64 (x := (i : Int) * 64 + (k : Int)) (by omega) (by omega), show (i : Int) * 64 + (k : Int) = ((i * 64 + k : Nat) : Int) by omega]
  refine RunO.part 4 rfl ?_
  rw [fwu8, fwu8]
  have hv0 : 0 ≤ (cv + (k : Int) % 256) % 256 := Int.emod_nonneg _ (by decide)
  have hv1 : (cv + (k : Int) % 256) % 256 < 256 := Int.emod_lt_of_pos _ (by decide)
  generalize (cv + (k : Int) % 256) % 256 = v at *
  refine RunO.index (s := 1) (k := i * 64 + k) rfl rfl rfl rfl (show i * 64 + k < L.length by omega) rfl ?_
  refine RunO.store rfl rfl (store1_ow oy rfl rfl rfl (by rw [us_len]; omega)) (RunO.nil ?_)
  rw [us_set0]
  refine RunC.region (RunO.all rfl ?_)
  exact ⟨e - 1, by omega, k + 1, Y.set (i * 64 + k) v, by omega, fg2.trans (Fr.put (m := (· = xb)) _ (.inl rfl)) (fun b e => .inr (by have e : b = xb := e; omega)), Ow.put _ oy.1, by rw [List.length_set]; exact hYl, fun x hx => by
    rcases List.mem_or_eq_of_mem_set hx with g | g
    · exact hYb x g
    · rw [g]; exact ⟨hv0, hv1⟩, fun j hj => by
      have hji : j ≠ i := fun e => by
        subst e
        exact hj.elim (fun g => g rfl) hnr
      rw [blk_put hk64 hji]; exact hYa j hj, Le.cons (inc64 (by omega)) (Le.cons rfl (Le.cons rfl (Le.cons rfl (Le.cons rfl (Le.cons rfl (Le.cons rfl (Le.nil _)))))))⟩
end Go.Proofs.Ytnokcbenpnmnbaa
end
