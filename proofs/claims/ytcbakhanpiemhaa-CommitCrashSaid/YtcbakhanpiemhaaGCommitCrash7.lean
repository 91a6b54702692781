/- CommitCrash: a calculus over an abstract machine that stands beside the model, and contracts of functions by it (part 7).
Conditions: what each theorem says of its arguments. -/
import Derived.Test.YtcbakhanpiemhaaGCommitCrash6
section
set_option linter.unusedVariables false
set_option linter.unusedSectionVars false
set_option maxRecDepth 100000
open Go Go.Am Go.RowKit
namespace Go.Proofs.Ytcbakhanpiemhaa
open Go.Proofs.Try

def nxA (at0 : Int) (free : List Int) (i : Nat) : Int := if i = 0 then at0 else free.getD (i - 1) 0
def ioA (A : List R8) (free : List Int) (at0 : Int) (i : Nat) : IoT := (1, free.getD i 0, r8B (nx0 (A.getD i ⟨0, 0, 0, 0, 0, 0, 0, 0⟩) (nxA at0 free i)), ())
def wrA (A : List R8) (free : List Int) (at0 : Int) (k : Nat) : List IoT := (List.range k).map (ioA A free at0)
def anewL (old : List R8) (n : Nat) (w : Bool) (x : R8) : List R8 := (old.take (n - 1)).reverse ++ (if w then [x] else [])
def at0L (bl : List Int) (n : Nat) : Int := if n < bl.length then bl.getD n 0 else 0
theorem wrA_len (A : List R8) (free : List Int) (at0 : Int) (k : Nat) : (wrA A free at0 k).length = k := by unfold wrA; rw [List.length_map, List.length_range]
theorem wrA_succ (A : List R8) (free : List Int) (at0 : Int) (k : Nat) : wrA A free at0 (k + 1) = wrA A free at0 k ++ [ioA A free at0 k] := by unfold wrA; rw [List.range_succ, List.map_append]; rfl
theorem r8_nx {r : R8} {a b : Int} (h : r8Ok (nx0 r b) = true) (ha : ptrB a = true) : r8Ok (nx0 r a) = true := by
  have key : ∀ c, recIs c r.id r.pa r.ro r.sz = (ptrB c && recIs 0 r.id r.pa r.ro r.sz) := fun c => by
    unfold recIs
    rw [show ptrB 0 = true from rfl]
    cases ptrB c <;> rfl
  have h : recOk b r.id r.pa r.ro r.sz r.ki r.fr r.di = true := h
  show recOk a r.id r.pa r.ro r.sz r.ki r.fr r.di = true
  unfold recOk at h ⊢
  rw [key] at h
  rw [key, ha, Bool.true_and]
  split
  · rename_i g
    rw [if_pos g] at h
    simp only [Bool.and_eq_true] at h ⊢
    exact ⟨⟨h.1.1.2, h.1.2⟩, h.2⟩
  · rename_i g
    rw [if_neg g] at h
    split
    · rename_i g2
      rw [if_pos g2] at h
      simp only [Bool.and_eq_true] at h ⊢
      exact ⟨⟨h.1.1.2, h.1.2⟩, h.2⟩
    · rename_i g2
      rw [if_neg g2] at h
      cases h
theorem place_ptr {a : Int} (h : placeB a = true) : ptrB a = true := by
  unfold placeB at h
  unfold ptrB
  rw [h, Bool.or_true]
theorem getD_mem {l : List Int} {i : Nat} (h : i < l.length) : l.getD i 0 ∈ l := by rw [List.getD_eq_getElem?_getD, List.getElem?_eq_getElem h]; exact List.getElem_mem h
section
variable {old : List R8} {bl free : List Int} {n : Nat} {x : R8} {w : Bool} (m : MayOk old bl n x w free)
include m
theorem nxA_ptr {i : Nat} (hi : i ≤ free.length) : ptrB (nxA (at0L bl n) free i) = true := by
  unfold nxA
  split
  · unfold at0L
    split
    · rename_i g; exact place_ptr (m.pl _ (getD_mem g))
    · rfl
  · exact place_ptr (m.pf _ (getD_mem (by omega)))
theorem anew_ok {i : Nat} (hi : i < (anewL old n w x).length) (hf : i ≤ free.length) : r8Ok (nx0 ((anewL old n w x).getD i ⟨0, 0, 0, 0, 0, 0, 0, 0⟩) (nxA (at0L bl n) free i)) = true := by
  have hp := nxA_ptr m hf
  have hm : (anewL old n w x).getD i ⟨0, 0, 0, 0, 0, 0, 0, 0⟩ ∈ anewL old n w x := by rw [List.getD_eq_getElem?_getD, List.getElem?_eq_getElem hi]; exact List.getElem_mem hi
  generalize (anewL old n w x).getD i ⟨0, 0, 0, 0, 0, 0, 0, 0⟩ = r at *
  unfold anewL at hm
  rcases List.mem_append.1 hm with g | g
  · have g := m.ok r (List.mem_of_mem_take (List.mem_reverse.1 g))
    exact r8_nx (b := r.nx) g hp
  · cases w with
    | true =>
      rw [if_pos rfl, List.mem_singleton] at g
      rw [g]
      exact r8_nx (m.fst rfl) hp
    | false => rw [if_neg (by decide)] at g; cases g
end
set_option maxHeartbeats 32000000 in
theorem commitRecords_ok {h : Heap} {ov bv fv : Value} {old : List R8} {bl free : List Int} {n : Nat} {x : R8} {w : Bool} (so : Sl h ov 8 old.length (recCs old)) (sb : Sl h bv 1 bl.length (is bl)) (sf : Sl h fv 1 free.length (is free)) (m : MayOk old bl n x w free) (hA : (anewL old n w x).length ≤ free.length) :
    RunF prog 31 [ov, bv, .int .i64 (n : Int), .agg ⟨rc8 x⟩, .bool w, fv] h fun v h' => Fr no h h' ∧ ∃ lv rv, v = .tuple #[lv, .int .i64 (nxA (at0L bl n) free (anewL old n w x).length), rv, .int .i64 0] ∧ IoW h.next h' lv (wrA (anewL old n w x) free (at0L bl n) (anewL old n w x).length) ∧ Osl h.next h' rv 1 (free.drop (anewL old n w x).length).length (is (free.drop (anewL old n w x).length)) := by
  refine RunF.walk func31 rfl rfl ?_
  have hok := fun i hi hf => anew_ok m (i := i) hi hf
  have hlo := m.lo
  have hlf := m.lf
  have hlb := m.len
  have hle := m.le
  have so0 := so
  have sb0 := sb
  have sf0 := sf
  obtain ⟨oA, oc, rfl, _, _⟩ := so.form
  obtain ⟨bA, bc, rfl, _, _⟩ := sb.form
  obtain ⟨fA, fc, rfl, _, _⟩ := sf.form
  refine RunC.seq (RunC.region (RunO.all (h1 := h.push ⟨rc8 x, true⟩) rfl ?_))
  have oq := Ow.push h (rc8 x)
  have f1 : Fr no h (h.push ⟨rc8 x, true⟩) := Fr.push _ _ _
  generalize h.push ⟨rc8 x, true⟩ = h1 at *
  obtain ⟨qb, hqb⟩ : ∃ q, q = h.next := ⟨_, rfl⟩
  rw [← hqb] at oq ⊢
  refine RunC.seq (RunC.seq (RunC.region (RunO.part 3 rfl ?_)))
  refine RunO.load (v := .agg ⟨rc8 x⟩) rfl (oq.ld rfl) rfl ?_
  refine RunO.part 2 rfl ?_
  refine RunO.callD (may_ok (so0.fr0 f1) (sb0.fr0 f1) (sf0.fr0 f1) m) rfl rfl rfl ?_
  rintro _ h2 ⟨rfl, f2⟩
  refine RunO.all rfl (RunC.cond rfl (fun g => by cases g) (fun _ => RunC.skip ?_))
  have F2 := f1.same f2
  replace oq := oq.fr f2 (fun g => g)
  have hq1 := oq.1
  have hmx : (cond (decide ((0 : Int) > (n : Int) - 1)) (0 : Int) ((n : Int) - 1)) = ((n - 1 : Nat) : Int) := by
    by_cases g : (0 : Int) > (n : Int) - 1
    · rw [decide_eq_true g]; show (0 : Int) = _; omega
    · rw [decide_eq_false g]; show (n : Int) - 1 = _; omega
  refine RunC.seq (RunC.region (RunO.part 3 rfl ?_))
  rw [fw64 (x := (n : Int) - 1) (by omega) (by omega)]
  refine RunO.part 1 rfl ?_
  rw [hmx]
  refine RunO.sliceSl (s := 8) (len := old.length) (k := 0) (m := n - 1) rfl rfl rfl rfl rfl (so0.fr0 F2) (.none _) (.some _ _ _) (Nat.zero_le _) (by omega) rfl ?_
  intro tv st
  have hlt_ : (old.take (n - 1)).length = n - 1 := by rw [List.length_take]; omega
  have st : Sl h2 tv 8 (old.take (n - 1)).length (recCs (old.take (n - 1))) := by
    rw [Nat.zero_mul, List.drop_zero, Nat.sub_zero, recCs_take] at st
    rw [hlt_]; exact st
  refine RunO.callD (cloneR_ok st (by omega)) rfl rfl rfl ?_
  rintro av h3 ⟨ga, f3⟩
  refine RunO.all rfl ?_
  refine RunC.seq (RunC.region (RunO.part 1 rfl ?_))
  refine RunO.callD (reverseR_ok ga (by omega)) rfl rfl rfl ?_
  rintro _ h4 ⟨gv, f4⟩
  refine RunO.nil ?_
  have hat3 := fun b g => (ga.at (b := b) g).1
  have F4 : Fr no h2 h4 := f3.trans f4 (fun b g => .inr (hat3 b g))
  replace oq := oq.fr F4 (fun g => g)
  have F4' := F2.same F4
  have hn2 := F2.next
  have gv := gv.lo hn2
  have eA : anewL old n w x = (old.take (n - 1)).reverse ++ (if w then [x] else []) := rfl
  have hRl : (old.take (n - 1)).reverse.length = n - 1 := by rw [List.length_reverse, hlt_]
  obtain ⟨R, hR⟩ : ∃ R, R = (old.take (n - 1)).reverse := ⟨_, rfl⟩
  rw [← hR] at gv eA hRl
  refine RunC.seqc (fun E' h' => ∃ av, Gr h.next h' av 8 (anewL old n w x).length (recCs (anewL old n w x)) ∧ Fr no h h' ∧ Le ((upd (upd (upd (upd (upd (upd E0 1 (.slice bA bl.length bc)) 2 (.int .i64 (n : Int))) 5 (.slice fA free.length fc)) 12 (.slice none 0 0)) 13 (.int .i64 0)) 16 (av))) E') ?wi ?by1
  case wi =>
    refine RunC.seq (RunC.region (RunO.all rfl ?_))
    cases w with
    | false =>
      refine RunC.cond rfl (fun g => by cases g) (fun _ => RunC.skip ?_)
      rw [eA, if_neg (by decide), List.append_nil]
      exact ⟨av, gv, F4', Le.cons rfl (Le.cons rfl (Le.cons rfl (Le.cons rfl (Le.cons rfl (Le.cons rfl (Le.nil _))))))⟩
    | true =>
      refine RunC.cond rfl (fun _ => ?_) (fun g => by cases g)
      refine RunC.region (RunO.part 1 rfl ?_)
      refine RunO.load (v := .agg ⟨rc8 x⟩) rfl (oq.ld rfl) rfl ?_
      refine RunO.part 1 (h1 := h4.push ⟨rc8 x, true⟩) rfl ?_
      have ol := Ow.push h4 (rc8 x)
      have f5 : Fr no h4 (h4.push ⟨rc8 x, true⟩) := Fr.push _ _ _
      have gv5 := gv.fr0 f5
      generalize h4.push ⟨rc8 x, true⟩ = h5 at *
      generalize h4.next = lb at *
      refine RunO.appendG (s := 8) (j := 1) rfl rfl rfl rfl rfl rfl rfl rfl (by decide) gv5 ol.all rfl (Nat.le_refl 1) rfl (by show 2 * (_ + 1) * 64 ≤ _; omega) (by omega) ?_
      intro av2 h6 row f6
      refine RunO.all rfl ?_
      have F6 := (F4'.same f5).trans f6 (fun b g => .inr (gv5.at g).1)
      refine ⟨av2, ?_, F6, Le.cons rfl (Le.cons rfl (Le.cons rfl (Le.cons rfl (Le.cons rfl (Le.cons rfl (Le.nil _))))))⟩
      rw [eA, if_pos rfl, List.length_append, recCs_app]
      exact row.gr.lo (F4'.same f5).next
  rintro E' h5 ⟨av, gw, F5, hE⟩
  refine RunC.le hE ?_
  clear hE gv F4' F4 f4 f3 ga st f2 F2 oq f1
  have hAl : (anewL old n w x).length ≤ 10001 := by rw [eA, List.length_append, hRl]; split <;> (simp; omega)
  have hok := hok
  clear eA hRl
  generalize anewL old n w x = A at *
  have sav := gw.sl (by omega)
  have sav0 := sav
  obtain ⟨nA, nc, rfl, _, _⟩ := sav.form
  refine RunC.seq (RunC.seq (RunC.region (RunO.part 4 rfl ?_)))
  refine RunO.part 1 rfl ?_
  rw [decide_eq_false (show ¬ ((free.length : Int) < (A.length : Int)) by omega)]
  refine RunO.all rfl (RunC.cond rfl (fun g => by cases g) (fun _ => RunC.skip ?_))
  have e0 : at0L bl n = if n < bl.length then bl.getD n 0 else 0 := rfl
  generalize at0L bl n = at0 at *
  refine RunC.seqc (fun E' h' => h5 = h' ∧ Le ((upd (upd (upd (upd E0 5 (.slice fA free.length fc)) 12 (.slice none 0 0)) 13 (.int .i64 at0)) 16 (.slice nA A.length nc))) E') ?at_ ?by2
  case at_ =>
    refine RunC.seq (RunC.region (RunO.part 3 rfl ?_))
    refine RunO.part 1 rfl ?_
    by_cases hnb : (n : Int) < (bl.length : Int)
    · rw [decide_eq_true hnb]
      have hnb : n < bl.length := by omega
      refine RunO.all rfl (RunC.cond rfl (fun _ => ?_) (fun g => by cases g))
      refine RunC.region (RunO.part 2 rfl ?_)
      refine RunO.at (s := 1) (k := n) rfl rfl (sb0.fr0 F5) rfl rfl hnb (is_part hnb) rfl rfl rfl (RunO.all rfl ?_)
      have e1 : bl[n] = at0 := by rw [e0, if_pos hnb, List.getD_eq_getElem?_getD, List.getElem?_eq_getElem hnb]; rfl
      rw [e1]
      exact ⟨rfl, Le.cons rfl (Le.cons rfl (Le.cons rfl (Le.cons rfl (Le.nil _))))⟩
    · rw [decide_eq_false hnb]
      refine RunO.all rfl (RunC.cond rfl (fun g => by cases g) (fun _ => RunC.skip ?_))
      have e1 : at0 = 0 := by rw [e0, if_neg (by omega)]
      rw [e1]
      exact ⟨rfl, Le.cons rfl (Le.cons rfl (Le.cons rfl (Le.cons rfl (Le.nil _))))⟩
  rintro E' _ ⟨rfl, hE⟩
  refine RunC.le hE ?_
  clear hE
  refine RunC.seq (RunC.seq (RunC.region (RunO.all rfl ?_)))
  refine RunC.block ?_
  refine RunC.loop (fun d E h' => ∃ (i : Nat) (lv : Value), i + d = A.length ∧ Fr no h5 h' ∧ IoW h.next h' lv (wrA A free at0 i) ∧ (∀ b, At lv b → h5.next ≤ b) ∧ Le ((upd (upd (upd (upd (upd (upd (upd E0 5 (.slice fA free.length fc)) 12 (lv)) 13 (.int .i64 (nxA at0 free i))) 16 (.slice nA A.length nc)) 55 (.slice nA A.length nc)) 56 (.int .i64 (A.length : Int))) 57 (.int .i64 (i : Int)))) E) ?st (k := A.length) ?ini
  case ini => exact ⟨0, .slice none 0 0, by omega, Fr.refl _ _, IoW.nil _ _, (fun b ⟨_, _, e⟩ => by cases e), Le.cons rfl (Le.cons rfl (Le.cons rfl (Le.cons rfl (Le.cons rfl (Le.cons rfl (Le.cons rfl (Le.nil _)))))))⟩
  rintro d E g1 ⟨i, lv, hi, fg, ios, hlv, hE⟩
  refine RunC.le hE ?_
  clear hE
  have Fg := F5.same fg
  refine RunC.seq (RunC.region (RunO.all rfl ?_))
  refine RunC.seq (RunC.cond rfl (fun hlt => RunC.skip ?go) (fun hge => RunC.exit ?ex))
  case ex =>
    have hge := of_decide_eq_false hge
    obtain rfl : i = A.length := by omega
    refine RunC.seq (RunC.region (RunO.part 5 rfl ?_))
    refine RunO.sliceSl (s := 1) (len := free.length) (k := A.length) (m := free.length) rfl rfl rfl rfl rfl (sf0.fr0 Fg) (.some _ _ _) (.none _) hA (Nat.le_refl _) rfl ?_
    intro uv su
    have hdl : (free.drop A.length).length = free.length - A.length := List.length_drop
    have su : Sl g1 uv 1 (free.drop A.length).length (is (free.drop A.length)) := by
      rw [Nat.mul_one, Nat.mul_one, show (is free).drop A.length = is (free.drop A.length) by unfold is; rw [List.map_drop], List.take_of_length_le (by rw [is_len]; omega)] at su
      rw [hdl]; exact su
    refine RunO.callD (cloneI_ok su (by omega)) rfl rfl rfl ?_
    rintro rv g2 ⟨orv, f2, _⟩
    refine RunO.all rfl (RunC.ret ⟨_, rfl, Fg.same f2, lv, rv, rfl, by rw [hqb]; exact ios.fr0 f2, by rw [hqb]; exact orv.lo Fg.next⟩)
  have hlt := of_decide_eq_true hlt
  have hlt : i < A.length := by omega
  have hif : i < free.length := by omega
  have hoki := hok i hlt (by omega)
  have hws := wrA_succ A free at0 i
  have hwl := wrA_len A free at0 i
  have eio : ioA A free at0 i = (1, free.getD i 0, r8B (nx0 (A.getD i ⟨0, 0, 0, 0, 0, 0, 0, 0⟩) (nxA at0 free i)), ()) := rfl
  have hAi : A.getD i ⟨0, 0, 0, 0, 0, 0, 0, 0⟩ = A[i] := by rw [List.getD_eq_getElem?_getD, List.getElem?_eq_getElem hlt]; rfl
  have hpt := recCs_part hlt
  have hfp := is_part hif
  have hfi : free[i] = free.getD i 0 := by rw [List.getD_eq_getElem?_getD, List.getElem?_eq_getElem hif]; rfl
  have hnx : nxA at0 free (i + 1) = free.getD i 0 := by unfold nxA; rw [if_neg (by omega), Nat.add_sub_cancel]
  rw [hAi] at eio hoki
  rw [hfi] at hfp
  generalize free.getD i 0 = fi at *
  generalize nxA at0 free i = ni at *
  generalize A[i] = r at *
  refine RunC.seq (RunC.block ?_)
  refine RunC.seq (RunC.region (RunO.part 1 rfl ?_))
  refine RunO.at (s := 8) (k := i) rfl rfl (sav0.fr0 fg) rfl rfl hlt hpt rfl rfl rfl ?_
  refine RunO.part 2 (h1 := g1.push ⟨rc8 ⟨0, 0, 0, 0, 0, 0, 0, 0⟩, true⟩) rfl ?_
  refine RunO.store rfl rfl (store_ow (s := 8) (Ow.push g1 (rc8 ⟨0, 0, 0, 0, 0, 0, 0, 0⟩)) rfl rfl rfl (Nat.le_refl 8)) (RunO.nil ?_)
  have on : Ow ((g1.push ⟨rc8 ⟨0, 0, 0, 0, 0, 0, 0, 0⟩, true⟩).put g1.next (some ⟨rc8 r, true⟩)) g1.next (rc8 r) := Ow.put _ (Nat.lt_succ_self _)
  have f6 : Fr no g1 ((g1.push ⟨rc8 ⟨0, 0, 0, 0, 0, 0, 0, 0⟩, true⟩).put g1.next (some ⟨rc8 r, true⟩)) := (Fr.push _ _ _).trans (Fr.put (m := (· = g1.next)) _ (.inl rfl)) (fun j hj => .inr (by omega))
  have hlv1 := fun b g => (ios.at (b := b) g).2
  show RunC prog _ _ _ ((g1.push ⟨rc8 ⟨0, 0, 0, 0, 0, 0, 0, 0⟩, true⟩).put g1.next (some ⟨rc8 r, true⟩)) _ _ _
  generalize (g1.push ⟨rc8 ⟨0, 0, 0, 0, 0, 0, 0, 0⟩, true⟩).put g1.next (some ⟨rc8 r, true⟩) = g2 at *
  obtain ⟨pb, hpb⟩ : ∃ q, q = g1.next := ⟨_, rfl⟩
  rw [← hpb] at on hlv1 ⊢
  refine RunC.seq (RunC.region (RunO.part 2 rfl ?_))
  refine RunO.store rfl rfl (store1_ow on rfl rfl rfl (Nat.le_of_ble_eq_true rfl)) (RunO.nil ?_)
  have on2 : Ow (g2.put pb (some ⟨rc8 (nx0 r ni), true⟩)) pb (rc8 (nx0 r ni)) := Ow.put _ on.1
  have f7 : Fr no g1 (g2.put pb (some ⟨rc8 (nx0 r ni), true⟩)) := f6.trans (Fr.put (m := (· = pb)) _ (.inl rfl)) (fun b e => .inr (by have e : b = pb := e; omega))
  show RunC prog _ _ _ (g2.put pb (some ⟨rc8 (nx0 r ni), true⟩)) _ _ _
  generalize g2.put pb (some ⟨rc8 (nx0 r ni), true⟩) = g3 at *
  refine RunC.seq (RunC.region (RunO.part 2 rfl ?_))
  refine RunO.at (s := 1) (k := i) rfl rfl (sf0.fr0 (Fg.same f7)) rfl rfl hif hfp rfl rfl rfl (RunO.all rfl ?_)
  refine RunC.seq (RunC.region ?_)
  refine RunO.load (v := .agg ⟨rc8 (nx0 r ni)⟩) rfl (on2.ld rfl) rfl ?_
  refine RunO.callD (recBytes_ok (n := ni) (id := r.id) (pa := r.pa) (ro := r.ro) (sz := r.sz) (ki := r.ki) (fr := r.fr) (di := r.di)) rfl rfl rfl ?_
  rintro _ g4 ⟨f8, ⟨_, db, hdb, rfl, od⟩ | ⟨g, _⟩⟩
  case inr =>
    have g : r8Ok (nx0 r ni) = false := g
    rw [hoki] at g; cases g
  have od : Ow g4 db (us (r8B (nx0 r ni))) := od
  have hrl := r8B_len (nx0 r ni)
  have hrb := r8B_byt (nx0 r ni)
  have ios4 := (ios.fr0 f7).fr0 f8
  have hn3 := f7.next
  have hn4 := f8.next
  generalize r8B (nx0 r ni) = RB at *
  refine RunO.all rfl ?_
  refine RunC.region (RunO.part 5 (h1 := g4.push ⟨[.int .i64 1, .int .i64 fi, .slice (some ⟨db, 0, none⟩) 64 (exc 64)], true⟩) rfl ?_)
  have ot := Ow.push g4 [.int .i64 1, .int .i64 fi, .slice (some ⟨db, 0, none⟩) 64 (exc 64)]
  have f9 : Fr no g4 (g4.push ⟨[.int .i64 1, .int .i64 fi, .slice (some ⟨db, 0, none⟩) 64 (exc 64)], true⟩) := Fr.push _ _ _
  replace ios4 := ios4.fr0 f9
  replace od := od.fr f9 (fun g => g)
  have F9 := ((fg.same f7).same f8).same f9
  generalize g4.push ⟨[.int .i64 1, .int .i64 fi, .slice (some ⟨db, 0, none⟩) 64 (exc 64)], true⟩ = g5 at *
  obtain ⟨acs, row, kk⟩ := ios4
  refine RunO.appendG (s := 3) (j := 1) rfl rfl rfl rfl rfl rfl rfl rfl (by decide) row.gr ot.all rfl (Nat.le_refl 1) rfl (by show 2 * (_ + 1) * 40 ≤ _; omega) (by omega) ?_
  intro lv2 g6 row2 f10
  have hsd : Sl g5 (.slice (some ⟨db, 0, none⟩) 64 (exc 64)) 1 RB.length (us RB) := by rw [hrl]; exact od.all.sl (by rw [us_len, hrl]) (by decide) (Cp.exc (Nat.le_refl _))
  have ios2 := IoW.app (ys := [ioA A free at0 i]) row kk rfl (fun j y hy => by
    match j, hy with
    | 0, hy =>
      rw [eio] at hy
      cases hy
      exact ⟨_, rfl, hsd, hrb, fun b o c e a => by injection e with e1; injection e1 with e1; injection e1 with e1; have := hlv1 b a; omega⟩
    | j + 1, hy => simp at hy) row2 f10 (F5.same F9).next
  rw [← hws] at ios2
  refine RunO.all rfl ?_
  refine RunC.region (RunO.all rfl ?_)
  refine ⟨d - 1, by omega, i + 1, lv2, by omega, F9.trans f10 (fun b g => .inr (hlv b g)), ios2, fun b g => by have := (row2.at g).1; have := F9.next; omega, ?_⟩
  rw [hnx]
  exact Le.cons (inc64 (by omega)) (Le.cons rfl (Le.cons rfl (Le.cons rfl (Le.cons rfl (Le.cons rfl (Le.cons rfl (Le.nil _)))))))
end Go.Proofs.Ytcbakhanpiemhaa
end
section
set_option linter.unusedVariables false
set_option linter.unusedSectionVars false
set_option maxRecDepth 100000
open Go Go.Am Go.RowKit
namespace Go.Proofs.Ytcbakhanpiemhaa
open Go.Proofs.Try

theorem ready_ok {h : Heap} {s : S5} {slot : Int} {rv : Value} (hs : superOk s.1 s.2.1 s.2.2.1 s.2.2.2.1 s.2.2.2.2 = true) (hg : s.1 < 1099511627776) (hsl : slot = 0 ∨ slot = 1) :
    RunF prog 56 [.agg ⟨stc s slot rv⟩] h fun v h' => v = .bool true ∧ Fr no h h' := by
  refine RunF.walk func56 rfl rfl ?_
  refine RunC.seq (RunC.region (RunO.all (h1 := h.push ⟨stc s slot rv, true⟩) rfl ?_))
  have oq := Ow.push h (stc s slot rv)
  have f1 : Fr no h (h.push ⟨stc s slot rv, true⟩) := Fr.push _ _ _
  generalize h.push ⟨stc s slot rv, true⟩ = h1 at *
  generalize h.next = qb at *
  refine RunC.seq (RunC.region (RunO.part 1 rfl ?_))
  refine RunO.load (v := .agg ⟨sc s.1 s.2.1 s.2.2.1 s.2.2.2.1 s.2.2.2.2⟩) rfl (oq.ld rfl) rfl ?_
  refine RunO.callD (superCheck_ok (g := s.1) (bl := s.2.1) (rt := s.2.2.1) (sz := s.2.2.2.1) (fi := s.2.2.2.2)) rfl rfl rfl ?_
  rw [hs]
  rintro _ h2 ⟨rfl, f2⟩
  replace oq := oq.fr f2 (fun g => g)
  refine RunO.part 4 rfl ?_
  refine RunO.loadG (v := .int .i64 s.1) rfl rfl (oq.ld rfl) rfl ?_
  refine RunO.part 1 rfl ?_
  rw [decide_eq_true hg]
  refine RunO.part 3 rfl ?_
  refine RunO.loadG (v := .int .i64 slot) rfl rfl (oq.ld rfl) rfl ?_
  rcases hsl with rfl | rfl
  · exact RunO.all rfl (RunC.ret ⟨_, rfl, rfl, f1.same f2⟩)
  · refine RunO.part 3 rfl ?_
    refine RunO.loadG (v := .int .i64 1) rfl rfl (oq.ld rfl) rfl ?_
    exact RunO.all rfl (RunC.ret ⟨_, rfl, rfl, f1.same f2⟩)
theorem write_ok {h : Heap} {a B : Int} {A : Option Addr} {c : Nat} (h2 : 2 ≤ a) (hB : a < B) :
    RunF prog 60 [.agg ⟨[.int .i64 1, .int .i64 a, .slice A 64 c]⟩, .int .i64 B] h fun v h' => v = .bool true ∧ Fr no h h' := by
  refine RunF.walk func60 rfl rfl ?_
  refine RunC.seq (RunC.region (RunO.all (h1 := h.push ⟨[.int .i64 1, .int .i64 a, .slice A 64 c], true⟩) rfl ?_))
  have oq := Ow.push h [.int .i64 1, .int .i64 a, .slice A 64 c]
  have f1 : Fr no h (h.push ⟨[.int .i64 1, .int .i64 a, .slice A 64 c], true⟩) := Fr.push _ _ _
  generalize h.push ⟨[.int .i64 1, .int .i64 a, .slice A 64 c], true⟩ = h1 at *
  generalize h.next = qb at *
  refine RunC.seq (RunC.region (RunO.part 1 rfl ?_))
  refine RunO.load (v := .int .i64 1) rfl (oq.ld rfl) rfl ?_
  refine RunO.part 3 rfl ?_
  refine RunO.loadG (v := .int .i64 a) rfl rfl (oq.ld rfl) rfl ?_
  refine RunO.part 1 rfl ?_
  rw [decide_eq_true (show a ≥ 2 from h2)]
  refine RunO.part 3 rfl ?_
  refine RunO.loadG (v := .int .i64 a) rfl rfl (oq.ld rfl) rfl ?_
  refine RunO.part 2 rfl ?_
  rw [decide_eq_true hB]
  refine RunO.part 3 rfl ?_
  refine RunO.loadG (v := .slice A 64 c) rfl rfl (oq.ld rfl) rfl ?_
  exact RunO.all rfl (RunC.ret ⟨_, rfl, rfl, f1⟩)
theorem stepsC_ok {h : Heap} {q : Nat} {g B r z f a : Int} {A : Option Addr} {c : Nat} (oq : Ow h q (sc g B r z f)) (h2 : 2 ≤ a) (hB : a < B) :
    RunF prog 59 [.agg ⟨[.int .i64 1, .int .i64 a, .slice A 64 c]⟩, .pointer (some ⟨q, 0, none⟩)] h fun v h' => v = .bool false ∧ Fr no h h' := by
  refine RunF.walk func59 rfl rfl ?_
  refine RunC.seq (RunC.region (RunO.all (h1 := h.push ⟨[.int .i64 1, .int .i64 a, .slice A 64 c], true⟩) rfl ?_))
  have ob := Ow.push h [.int .i64 1, .int .i64 a, .slice A 64 c]
  have f1 : Fr no h (h.push ⟨[.int .i64 1, .int .i64 a, .slice A 64 c], true⟩) := Fr.push _ _ _
  replace oq := oq.fr f1 (fun g => g)
  generalize h.push ⟨[.int .i64 1, .int .i64 a, .slice A 64 c], true⟩ = h1 at *
  generalize h.next = qb at *
  refine RunC.seq (RunC.region ?_)
  refine RunO.load (v := .agg ⟨[.int .i64 1, .int .i64 a, .slice A 64 c]⟩) rfl (ob.ld rfl) rfl ?_
  refine RunO.part 1 rfl ?_
  refine RunO.load (v := .int .i64 B) rfl (oq.ld rfl) rfl ?_
  refine RunO.callD (write_ok h2 hB) rfl rfl rfl ?_
  rintro _ h3 ⟨rfl, f3⟩
  exact RunO.all rfl (RunC.ret ⟨_, rfl, rfl, f1.same f3⟩)
def cmtT (s : S5) (slot root size first : Int) : List IoT := [((2 : Int), (0 : Int), ([] : List Int), ()), ((1 : Int), 1 - slot, superBlock (s.1 + 1) s.2.1 root size first, ()), ((2 : Int), (0 : Int), ([] : List Int), ())]
set_option maxHeartbeats 32000000 in
theorem commitSteps_ok {h : Heap} {lv rv : Value} {l : List IoT} {s : S5} {slot root size first : Int} (sl : Ios h lv l) (hl : l.length ≤ 1000) (hs : superOk s.1 s.2.1 s.2.2.1 s.2.2.2.1 s.2.2.2.2 = true) (hg : s.1 < 1099511627776) (hsl : slot = 0 ∨ slot = 1)
    (hn : superOk (s.1 + 1) s.2.1 root size first = true) (hw : ∀ x ∈ l, x.1 = 1 ∧ 2 ≤ x.2.1 ∧ x.2.1 < s.2.1 ∧ x.2.2.1.length = 64) :
    RunF prog 27 [.agg ⟨stc s slot rv⟩, lv, .int .i64 root, .int .i64 size, .int .i64 first] h fun v h' => Fr no h h' ∧ ∃ ov, v = .tuple #[ov, .int .i64 0] ∧ IoW h.next h' ov (l ++ cmtT s slot root size first) := by
  refine RunF.walk func27 rfl rfl ?_
  have hgr := ((superOk_iff _ _ _ _ _).1 hs).1
  obtain ⟨acs, sa, ka⟩ := sl
  have sa0 := sa
  have hal := sa.1
  obtain ⟨lA, lc, rfl, _, _⟩ := sa.form
  have hel : ∀ j (hj : j < l.length), ∃ A c, (acs.drop (j * 3)).take 3 = [.int .i64 1, .int .i64 l[j].2.1, .slice A 64 c] ∧ Sl h (.slice A 64 c) 1 64 (us l[j].2.2.1) ∧ Byt l[j].2.2.1 := fun j hj => by
    obtain ⟨dv, e, sd, hb⟩ := ka j l[j] (List.getElem?_eq_getElem hj)
    obtain ⟨h1, h2, h3, h4⟩ := hw l[j] (List.getElem_mem hj)
    obtain ⟨A, c, rfl, _, _⟩ := sd.form
    rw [h4] at sd e
    rw [h1] at e
    exact ⟨A, c, e, sd, hb⟩
  refine RunC.seq (RunC.region (RunO.all (h1 := h.push ⟨stc s slot rv, true⟩) rfl ?_))
  have oq := Ow.push h (stc s slot rv)
  have f1 : Fr no h (h.push ⟨stc s slot rv, true⟩) := Fr.push _ _ _
  generalize h.push ⟨stc s slot rv, true⟩ = h1 at *
  obtain ⟨qb, hqb⟩ : ∃ q, q = h.next := ⟨_, rfl⟩
  rw [← hqb] at oq ⊢
  refine RunC.seq (RunC.seq (RunC.region ?_))
  refine RunO.load (v := .agg ⟨stc s slot rv⟩) rfl (oq.ld rfl) rfl ?_
  refine RunO.callD (ready_ok hs hg hsl) rfl rfl rfl ?_
  rintro _ h2 ⟨rfl, f2⟩
  refine RunO.all rfl (RunC.cond rfl (fun g => by cases g) (fun _ => RunC.skip ?_))
  replace oq := oq.fr f2 (fun g => g)
  have F2 := f1.same f2
  refine RunC.seq (RunC.region (RunO.part 2 rfl ?_))
  refine RunO.load (v := .int .i64 s.1) rfl (oq.ld rfl) rfl ?_
  refine RunO.part 1 rfl ?_
  rw [fw64 (x := s.1 + 1) (by omega) (by omega)]
  refine RunO.part 2 rfl ?_
  refine RunO.load (v := .int .i64 s.2.1) rfl (oq.ld rfl) rfl ?_
  refine RunO.part 5 (h1 := h2.push ⟨[.int .i64 0, .int .i64 0, .int .i64 0, .int .i64 0, .int .i64 0], true⟩) rfl ?_
  refine RunO.store rfl rfl (store_ow (s := 5) (Ow.push h2 [.int .i64 0, .int .i64 0, .int .i64 0, .int .i64 0, .int .i64 0]) rfl rfl rfl (Nat.le_refl 5)) (RunO.nil ?_)
  have on : Ow ((h2.push ⟨[.int .i64 0, .int .i64 0, .int .i64 0, .int .i64 0, .int .i64 0], true⟩).put h2.next (some ⟨(sc (s.1 + 1) s.2.1 root size first), true⟩)) h2.next (sc (s.1 + 1) s.2.1 root size first) := Ow.put _ (Nat.lt_succ_self _)
  have f3 : Fr no h2 ((h2.push ⟨[.int .i64 0, .int .i64 0, .int .i64 0, .int .i64 0, .int .i64 0], true⟩).put h2.next (some ⟨(sc (s.1 + 1) s.2.1 root size first), true⟩)) := (Fr.push _ _ _).trans (Fr.put (m := (· = h2.next)) _ (.inl rfl)) (fun j hj => .inr (by omega))
  show RunC prog _ _ _ ((h2.push ⟨[.int .i64 0, .int .i64 0, .int .i64 0, .int .i64 0, .int .i64 0], true⟩).put h2.next (some ⟨(sc (s.1 + 1) s.2.1 root size first), true⟩)) _ _ _
  generalize (h2.push ⟨[.int .i64 0, .int .i64 0, .int .i64 0, .int .i64 0, .int .i64 0], true⟩).put h2.next (some ⟨(sc (s.1 + 1) s.2.1 root size first), true⟩) = h3 at *
  generalize h2.next = nb at *
  replace oq := oq.fr f3 (fun g => g)
  refine RunC.seq (RunC.region ?_)
  refine RunO.load (v := .agg ⟨(sc (s.1 + 1) s.2.1 root size first)⟩) rfl (on.ld rfl) rfl ?_
  refine RunO.callD (superBytes_ok (g := s.1 + 1) (bl := s.2.1) (rt := root) (sz := size) (fi := first)) rfl rfl rfl ?_
  rintro _ h4 ⟨f4, ⟨_, sb, hsb, rfl, os⟩ | ⟨g, _⟩⟩
  case inr => rw [hn] at g; cases g
  replace oq := oq.fr f4 (fun g => g)
  replace on := on.fr f4 (fun g => g)
  have F4 := (F2.same f3).same f4
  refine RunO.all rfl ?_
  refine RunC.seq (RunC.seq (RunC.region (RunO.part 5 rfl ?_)))
  have hcs := containsIo_ok (sa0.fr0 F4) (u := fun j => .agg ⟨(acs.drop (j * 3)).take 3⟩) (fun j hj => io_part hal hj) (g := 59) (cap := [.pointer (some ⟨nb, 0, none⟩)]) (p := fun _ => false) (fun j hj h5 f5 => by
    obtain ⟨A, c, e, _, _⟩ := hel j hj
    obtain ⟨_, h2', h3', _⟩ := hw l[j] (List.getElem_mem hj)
    show RunF prog _ [.agg ⟨(acs.drop (j * 3)).take 3⟩, _] h5 _
    rw [e]
    exact stepsC_ok (on.fr f5 (fun g => g)) h2' h3') (by omega)
  refine RunO.callDG rfl hcs rfl rfl rfl ?_
  rw [anyI_false (fun _ _ => rfl)]
  rintro _ h5 ⟨rfl, f5⟩
  refine RunO.all rfl (RunC.cond rfl (fun g => by cases g) (fun _ => RunC.skip ?_))
  replace oq := oq.fr f5 (fun g => g)
  replace os := os.fr f5 (fun g => g)
  have F5 := F4.same f5
  have hsbn := os.1
  refine RunC.seq (RunC.region (RunO.all rfl ?_))
  refine RunC.seq (RunC.seq (RunC.region (RunO.all rfl ?_)))
  refine RunC.block ?_
  refine RunC.loop (fun d E h' => ∃ (i : Nat) (ov : Value), i + d = l.length ∧ Fr no h5 h' ∧ IoW h.next h' ov (l.take i) ∧ (∀ b, At ov b → h5.next ≤ b) ∧ Le ((upd (upd (upd (upd (upd (upd E0 5 (.pointer (some ⟨qb, 0, none⟩))) 13 (.slice (some ⟨sb, 0, none⟩) 64 (exc 64))) 15 (ov)) 45 (.slice lA l.length lc)) 46 (.int .i64 (l.length : Int))) 47 (.int .i64 (i : Int)))) E) ?st (k := l.length) ?ini
  case ini => exact ⟨0, .slice none 0 0, by omega, Fr.refl _ _, IoW.nil _ _, (fun b ⟨_, _, e⟩ => by cases e), Le.cons rfl (Le.cons rfl (Le.cons rfl (Le.cons rfl (Le.cons rfl (Le.cons rfl (Le.nil _))))))⟩
  rintro d E g1 ⟨i, ov, hi, fg, ios, hov, hE⟩
  refine RunC.le hE ?_
  clear hE
  have Fg := F5.same fg
  have hov1 := fun b g => (ios.at (b := b) g).2
  refine RunC.seq (RunC.region (RunO.all rfl ?_))
  refine RunC.seq (RunC.cond rfl (fun hlt => RunC.skip ?go) (fun hge => RunC.exit ?ex))
  case ex =>
    have hge := of_decide_eq_false hge
    obtain rfl : i = l.length := by omega
    rw [List.take_length] at ios
    refine RunC.seq (RunC.region (RunO.part 2 (h1 := g1.push ⟨[.int .i64 0, .int .i64 0, .slice none 0 0], true⟩) rfl ?_))
    refine RunO.store rfl rfl (store_ow (s := 3) (Ow.push g1 [.int .i64 0, .int .i64 0, .slice none 0 0]) rfl rfl rfl (Nat.le_refl 3)) (RunO.nil ?_)
    have ofl : Ow ((g1.push ⟨[.int .i64 0, .int .i64 0, .slice none 0 0], true⟩).put g1.next (some ⟨[.int .i64 2, .int .i64 0, .slice none 0 0], true⟩)) g1.next [.int .i64 2, .int .i64 0, .slice none 0 0] := Ow.put _ (Nat.lt_succ_self _)
    have f6 : Fr no g1 ((g1.push ⟨[.int .i64 0, .int .i64 0, .slice none 0 0], true⟩).put g1.next (some ⟨[.int .i64 2, .int .i64 0, .slice none 0 0], true⟩)) := (Fr.push _ _ _).trans (Fr.put (m := (· = g1.next)) _ (.inl rfl)) (fun j hj => .inr (by omega))
    show RunC prog _ _ _ ((g1.push ⟨[.int .i64 0, .int .i64 0, .slice none 0 0], true⟩).put g1.next (some ⟨[.int .i64 2, .int .i64 0, .slice none 0 0], true⟩)) _ _ _
    generalize (g1.push ⟨[.int .i64 0, .int .i64 0, .slice none 0 0], true⟩).put g1.next (some ⟨[.int .i64 2, .int .i64 0, .slice none 0 0], true⟩) = g2 at *
    generalize g1.next = fb at *
    have fg2 := fg.same f6
    have ios2 := ios.fr0 f6
    replace oq := oq.fr fg2 (fun g => g)
    replace os := os.fr fg2 (fun g => g)
    refine RunC.seq (RunC.region (RunO.part 1 rfl ?_))
    refine RunO.load (v := .agg ⟨[.int .i64 2, .int .i64 0, .slice none 0 0]⟩) rfl (ofl.ld rfl) rfl ?_
    refine RunO.part 1 rfl ?_
    refine RunO.load (v := .int .i64 slot) rfl (oq.ld rfl) rfl ?_
    refine RunO.part 1 rfl ?_
    rw [fw64 (x := 1 - slot) (by omega) (by omega)]
    refine RunO.part 2 rfl ?_
    refine RunO.load (v := .agg ⟨[.int .i64 2, .int .i64 0, .slice none 0 0]⟩) rfl (ofl.ld rfl) rfl ?_
    refine RunO.part 1 (h1 := g2.push ⟨[.int .i64 2, .int .i64 0, .slice none 0 0, .int .i64 1, .int .i64 (1 - slot), .slice (some ⟨sb, 0, none⟩) 64 (exc 64), .int .i64 2, .int .i64 0, .slice none 0 0], true⟩) rfl ?_
    have ot := Ow.push g2 [.int .i64 2, .int .i64 0, .slice none 0 0, .int .i64 1, .int .i64 (1 - slot), .slice (some ⟨sb, 0, none⟩) 64 (exc 64), .int .i64 2, .int .i64 0, .slice none 0 0]
    have f7 : Fr no g2 (g2.push ⟨[.int .i64 2, .int .i64 0, .slice none 0 0, .int .i64 1, .int .i64 (1 - slot), .slice (some ⟨sb, 0, none⟩) 64 (exc 64), .int .i64 2, .int .i64 0, .slice none 0 0], true⟩) := Fr.push _ _ _
    have ios3 := ios2.fr0 f7
    replace os := os.fr f7 (fun g => g)
    have F7 := fg2.same f7
    generalize g2.push ⟨[.int .i64 2, .int .i64 0, .slice none 0 0, .int .i64 1, .int .i64 (1 - slot), .slice (some ⟨sb, 0, none⟩) 64 (exc 64), .int .i64 2, .int .i64 0, .slice none 0 0], true⟩ = g3 at *
    obtain ⟨bcs, row, kk⟩ := ios3
    refine RunO.appendG (s := 3) (j := 3) rfl rfl rfl rfl rfl rfl rfl rfl (by decide) row.gr ot.all rfl (by decide) rfl (by show 2 * (_ + 3) * 40 ≤ _; omega) (by omega) ?_
    intro ov2 g4 row2 f8
    have hbl := superBlock_len (s.1 + 1) s.2.1 root size first
    have hbb := superBlock_byt (s.1 + 1) s.2.1 root size first
    have hbyn : Byt ([] : List Int) := fun x hx => by cases hx
    have fin := IoW.app (ys := cmtT s slot root size first) row kk rfl (fun j y hy => by
      unfold cmtT at hy
      match j, hy with
      | 0, hy => cases hy; exact ⟨_, rfl, Sl.nil _ 1, hbyn, fun b o c e => by cases e⟩
      | 1, hy =>
        cases hy
        refine ⟨_, rfl, ?_, hbb, fun b o c e a => by injection e with e1; injection e1 with e1; injection e1 with e1; have := hov b a; omega⟩
        show Sl g3 _ 1 (superBlock (s.1 + 1) s.2.1 root size first).length (us (superBlock (s.1 + 1) s.2.1 root size first))
        rw [hbl]
        exact os.all.sl (by rw [us_len, hbl]) (by decide) (Cp.exc (Nat.le_refl _))
      | 2, hy => cases hy; exact ⟨_, rfl, Sl.nil _ 1, hbyn, fun b o c e => by cases e⟩
      | j + 3, hy => simp at hy) row2 f8 (F5.same F7).next
    refine RunO.all rfl (RunC.ret ⟨_, rfl, (F5.same F7).trans f8 (fun b g => .inr (by have := hov b g; have := F5.next; omega)), ov2, rfl, by rw [hqb]; exact fin⟩)
  have hlt := of_decide_eq_true hlt
  have hlt : i < l.length := by omega
  obtain ⟨A, c, e, sd, hb⟩ := hel i hlt
  obtain ⟨w1, w2, w3, w4⟩ := hw l[i] (List.getElem_mem hlt)
  have hpt := io_part hal hlt
  rw [e] at hpt
  have htk : l.take (i + 1) = l.take i ++ [l[i]] := List.take_succ_eq_append_getElem hlt
  have htl : (l.take i).length = i := by rw [List.length_take]; omega
  refine RunC.seq (RunC.block ?_)
  refine RunC.seq (RunC.region ?_)
  refine RunO.at (s := 3) (k := i) rfl rfl (sa0.fr0 Fg) rfl rfl hlt hpt rfl rfl rfl ?_
  refine RunO.part 1 (h1 := g1.push ⟨[.int .i64 0, .int .i64 0, .slice none 0 0], true⟩) rfl ?_
  refine RunO.store rfl rfl (store_ow (s := 3) (Ow.push g1 [.int .i64 0, .int .i64 0, .slice none 0 0]) rfl rfl rfl (Nat.le_refl 3)) (RunO.nil ?_)
  have ox : Ow ((g1.push ⟨[.int .i64 0, .int .i64 0, .slice none 0 0], true⟩).put g1.next (some ⟨[.int .i64 1, .int .i64 l[i].2.1, .slice A 64 c], true⟩)) g1.next [.int .i64 1, .int .i64 l[i].2.1, .slice A 64 c] := Ow.put _ (Nat.lt_succ_self _)
  have f6 : Fr no g1 ((g1.push ⟨[.int .i64 0, .int .i64 0, .slice none 0 0], true⟩).put g1.next (some ⟨[.int .i64 1, .int .i64 l[i].2.1, .slice A 64 c], true⟩)) := (Fr.push _ _ _).trans (Fr.put (m := (· = g1.next)) _ (.inl rfl)) (fun j hj => .inr (by omega))
  show RunC prog _ _ _ ((g1.push ⟨[.int .i64 0, .int .i64 0, .slice none 0 0], true⟩).put g1.next (some ⟨[.int .i64 1, .int .i64 l[i].2.1, .slice A 64 c], true⟩)) _ _ _
  generalize (g1.push ⟨[.int .i64 0, .int .i64 0, .slice none 0 0], true⟩).put g1.next (some ⟨[.int .i64 1, .int .i64 l[i].2.1, .slice A 64 c], true⟩) = g2 at *
  have hn6 := f6.next
  generalize hxb : g1.next = xb at *
  have ios2 := ios.fr0 f6
  have fg2 := fg.same f6
  have sd2 := sd.fr0 (Fg.same f6)
  refine RunC.drawT 6 (fun b => At ov b ∨ g2.next ≤ b) rfl ?_
  refine RunQ.part 2 rfl ?_
  refine RunQ.load (v := .int .i64 l[i].2.1) rfl rfl (ox.ld rfl) rfl ?_
  refine RunQ.part 1 rfl ?_
  refine RunQ.load (v := .slice A 64 c) rfl rfl (ox.ld rfl) rfl ?_
  have sd2' : Sl (g2.lo g2.next) (.slice A 64 c) 1 l[i].2.2.1.length (us l[i].2.2.1) := by rw [w4]; exact sd2
  refine RunQ.call rfl (clone8_ok sd2' (by rw [w4]; decide)) (fun v h1 q => q.2.1) rfl rfl rfl ?_
  rintro dv g3 ⟨od, f7, _⟩
  have f7 : Fr no g2 g3 := ⟨f7.next, f7.get, fun l a b c => f7.low l b b c⟩
  have od : Osl g2.next g3 dv 1 l[i].2.2.1.length (us l[i].2.2.1) := od
  have sdv := od.sl
  have hdvb : ∀ b o c, dv = .slice (some ⟨b, o, none⟩) l[i].2.2.1.length c → g2.next ≤ b := fun b o c e => by
    rcases od.2.2 with ⟨e', _⟩ | ⟨b', c', g1', e', _⟩
    · rw [e'] at e; injection e with e1; cases e1
    · rw [e'] at e; injection e with e1; injection e1 with e1; injection e1 with e1; omega
  obtain ⟨dA, dc, rfl, _, _⟩ := sdv.form
  refine RunQ.all rfl ?_
  refine RunT.pure rfl rfl (fun _ => rfl) rfl ?_
  refine RunT.new (ob := ⟨[.int .i64 1, .int .i64 l[i].2.1, .slice dA l[i].2.2.1.length dc], true⟩) rfl rfl (fun _ => rfl) rfl ?_
  have ot := Ow.push g3 [.int .i64 1, .int .i64 l[i].2.1, .slice dA l[i].2.2.1.length dc]
  have f8 : Fr no g3 (g3.push ⟨[.int .i64 1, .int .i64 l[i].2.1, .slice dA l[i].2.2.1.length dc], true⟩) := Fr.push _ _ _
  have ios4 := (ios2.fr0 f7).fr0 f8
  have sdv4 := sdv.fr0 f8
  have F4_ := f7.same f8
  generalize g3.push ⟨[.int .i64 1, .int .i64 l[i].2.1, .slice dA l[i].2.2.1.length dc], true⟩ = g4 at *
  obtain ⟨bcs, row, kk⟩ := ios4
  refine RunT.appendG (s := 3) (j := 1) rfl rfl rfl rfl rfl rfl rfl rfl rfl (by decide) row.gr ot.all rfl (Nat.le_refl 1) rfl (by show 2 * (_ + 1) * 40 ≤ _; omega) (by omega) (fun b g => .inl g) ?_
  intro ov2 g5 row2 f9
  have hn4 := F4_.next
  have fin := IoW.app (ys := [l[i]]) row kk rfl (fun j y hy => by
    match j, hy with
    | 0, hy =>
      cases hy
      exact ⟨_, by rw [w1]; rfl, sdv4, hb, fun b o c e a => by have := hdvb b o c e; have := hov1 b a; omega⟩
    | j + 1, hy => simp at hy) row2 f9 (((F5.same fg2).same F4_).next)
  rw [← htk] at fin
  refine RunT.pure rfl rfl (fun _ => rfl) rfl ?_
  refine RunT.nil ?_
  intro lw F10
  have fin2 : IoW h.next (g5.lo lw) ov2 (l.take (i + 1)) := fin
  have hat2 : ∀ b, At ov2 b → h5.next ≤ b := fun b g => by have := (row2.at g).1; have := fg2.next; omega
  have F10 : Fr no h5 (g5.lo lw) := fg2.trans F10 (fun b g => .inr (by rcases g with g | g; exact hov b g; have := fg2.next; omega))
  generalize g5.lo lw = g6 at *
  refine RunC.region (RunO.all rfl ?_)
  exact ⟨d - 1, by omega, i + 1, ov2, by omega, F10, fin2, hat2, Le.cons (inc64 (by omega)) (Le.cons rfl (Le.cons rfl (Le.cons rfl (Le.cons rfl (Le.cons rfl (Le.nil _))))))⟩
end Go.Proofs.Ytcbakhanpiemhaa
end
section
set_option linter.unusedVariables false
set_option linter.unusedSectionVars false
set_option maxRecDepth 100000
open Go Go.Am Go.RowKit
namespace Go.Proofs.Ytcbakhanpiemhaa
open Go.Proofs.Try

theorem pick_gt {L : List Int} {st : S5 × Int × Bool} {i : Nat} {g bl rt sz fi : Int} (h : blkI L i = superBlock g bl rt sz fi) (ok : superOk g bl rt sz fi = true) (hbl : bl = ((L.length / 64 : Nat) : Int)) (hst : g > st.1.1) : pickStep L st i = ((g, bl, rt, sz, fi), (i : Int), true) := by
  obtain ⟨b1, b2⟩ := super_back ok
  unfold pickStep
  rw [h, b1, b2, if_pos]
  show ((0 : Int) == 0 && (bl == _ && (!st.2.2 || decide (g > st.1.1)))) = true
  rw [hbl, decide_eq_true hst]; simp
theorem pick_le {L : List Int} {st : S5 × Int × Bool} {i : Nat} {g bl rt sz fi : Int} (h : blkI L i = superBlock g bl rt sz fi) (ok : superOk g bl rt sz fi = true) (h2 : st.2.2 = true) (hst : ¬ g > st.1.1) : pickStep L st i = st := by
  obtain ⟨b1, b2⟩ := super_back ok
  unfold pickStep
  rw [h, b1, b2, h2, if_neg]
  show ¬ ((0 : Int) == 0 && (bl == _ && (!true || decide (g > st.1.1)))) = true
  rw [decide_eq_false hst]; simp
/-- One slot stands, the other one is none, or elder. -/
structure Two (B : Nat) (g : Int) (slot : Nat) (rt sz fi : Int) (X : List Int) : Prop where
  len : X.length = B * 64
  byt : Byt X
  cur : blkI X slot = superBlock g (B : Int) rt sz fi
  oth : sCode (blkI X (1 - slot)) ≠ 0 ∨ ∃ g' rt' sz' fi', g' < g ∧ superOk g' (B : Int) rt' sz' fi' = true ∧ blkI X (1 - slot) = superBlock g' (B : Int) rt' sz' fi'
theorem Two.pick {B : Nat} {g rt sz fi : Int} {slot : Nat} {X : List Int} (t : Two B g slot rt sz fi X) (hs : slot = 0 ∨ slot = 1) (ok : superOk g (B : Int) rt sz fi = true) : pickS X = ((g, (B : Int), rt, sz, fi), (slot : Int), true) := by
  have hbl : (B : Int) = ((X.length / 64 : Nat) : Int) := by rw [t.len, Nat.mul_div_cancel _ (by decide)]
  have hg := ((superOk_iff _ _ _ _ _).1 ok).1
  rcases hs with rfl | rfl
  · rcases t.oth with h | ⟨g', rt', sz', fi', h1, h2, h3⟩
    · exact pick_one0 t.cur ok hbl h
    · rw [pick_two, pick_yes t.cur ok hbl rfl, pick_le (i := 1) h3 h2 rfl (by show ¬ g' > g; omega)]
  · rcases t.oth with h | ⟨g', rt', sz', fi', h1, h2, h3⟩
    · exact pick_one1 t.cur ok hbl h
    · rw [pick_two, pick_yes (i := 0) h3 h2 hbl rfl, pick_gt t.cur ok hbl (by show g > g'; omega)]
theorem Two.next {B : Nat} {g rt sz fi rt' sz' fi' : Int} {slot : Nat} {X : List Int} (t : Two B g slot rt sz fi X) (hs : slot = 0 ∨ slot = 1) (hB : 4 ≤ B) (ok : superOk g (B : Int) rt sz fi = true) : Two B (g + 1) (1 - slot) rt' sz' fi' (setBlk X (1 - slot) (superBlock (g + 1) (B : Int) rt' sz' fi')) := by
  have hl := superBlock_len (g + 1) (B : Int) rt' sz' fi'
  have hi : (1 - slot + 1) * 64 ≤ X.length := by rw [t.len]; exact Nat.mul_le_mul_right 64 (by omega)
  refine ⟨by rw [setBlk_len hi hl]; exact t.len, setBlk_byt t.byt (superBlock_byt _ _ _ _ _), blk_set_same hi hl, .inr ⟨g, rt, sz, fi, by omega, ok, ?_⟩⟩
  rw [show 1 - (1 - slot) = slot by omega, blk_set_ne hi hl (by omega)]
  exact t.cur
theorem two_new {B : Nat} (h4 : 4 ≤ B) : Two B 1 0 0 0 0 (newI B) := ⟨newI_len (by omega), newI_byt B, (newI_blk h4).1, .inl (by rw [(newI_blk h4).2, sCode_zeros]; decide)⟩
/-- What a commit's steps make. -/
theorem ap_cmt {o : List Int} {W : List IoT} {s : S5} {slot : Nat} {root size first : Int} (hs : slot = 0 ∨ slot = 1) : applyL o (W ++ cmtT s (slot : Int) root size first) = setBlk (applyL o W) (1 - slot) (superBlock (s.1 + 1) s.2.1 root size first) := by
  unfold applyL cmtT
  rw [List.foldl_append]
  generalize List.foldl applyStep o W = x
  rw [List.foldl_cons, List.foldl_cons, List.foldl_cons, List.foldl_nil]
  have e1 : ∀ y : List Int, applyStep y ((2 : Int), (0 : Int), ([] : List Int), ()) = y := fun y => rfl
  rw [e1, e1]
  rcases hs with rfl | rfl <;> rfl
theorem st_cmt {n : Nat} {W : List IoT} {s : S5} {slot : Nat} {root size first : Int} (hd : devOk n = true) (hs : slot = 0 ∨ slot = 1) (hl : W.length ≤ 1000) (hw : ∀ x ∈ W, wrG n x) : stepsE n (W ++ cmtT s (slot : Int) root size first) = 0 := by
  have hdl : n % 64 = 0 ∧ 4 ≤ n / 64 ∧ n / 64 ≤ 4096 := by
    unfold devOk at hd
    simpa using hd
  refine stepsE_ok hd (by rw [List.length_append]; show W.length + 3 ≤ _; omega) (fun x hx => ?_)
  rcases List.mem_append.1 hx with g | g
  · obtain ⟨h1, ⟨a, ha, hab⟩, h3, _⟩ := hw x g
    exact .inl ⟨h1, ⟨a, ha, by omega⟩, h3⟩
  · unfold cmtT at g
    rcases List.mem_cons.1 g with rfl | g
    · exact .inr ⟨rfl, rfl, rfl⟩
    rcases List.mem_cons.1 g with rfl | g
    · refine .inl ⟨rfl, ⟨1 - slot, ?_, by omega⟩, superBlock_len ..⟩
      show 1 - (slot : Int) = _
      omega
    · rw [List.mem_singleton] at g
      rw [g]
      exact .inr ⟨rfl, rfl, rfl⟩
set_option maxHeartbeats 16000000 in
theorem wakes15_ok {h : Heap} : RunF prog 33 [] h fun v h' => v = .bool true ∧ Fr no h h' := by
  refine RunF.walk func33 rfl rfl ?_
  have h4 : 4 ≤ 8 := by decide
  have hB : 8 ≤ 4096 := by decide
  refine RunC.seq (RunC.region (RunO.all rfl ?_))
  refine RunC.seq (RunC.region ?_)
  refine RunO.callD (openNew_ok (B := 8) h4 hB) rfl rfl rfl ?_
  rintro _ h1 ⟨f1, ib, hib, rfl, oi⟩
  obtain ⟨k1, k2, k3⟩ := lk_new h4 hB
  have hpk := pick_new h4 hB
  have tw := two_new h4
  have hl := newI_len (B := 8) (by decide)
  have hby := newI_byt 8
  generalize newI 8 = L at *
  have k0 : (lk L).2 = 0 := by rw [k1]
  have sli := sl_own oi hl (Cp.exc (Nat.le_refl _)) (by decide)
  refine RunO.all rfl ?_
  refine RunC.seq (RunC.region (RunO.part 1 rfl ?_))
  refine RunO.callD (openOpen_ok sli hby (by omega)) rfl rfl rfl ?_
  rintro _ h2 ⟨f2, ⟨_, rv, rfl, rl⟩ | ⟨g, _⟩⟩
  case inr => exact absurd k0 g
  rw [k3, hpk]
  refine RunO.part 4 (h1 := h2.push ⟨(stc (0, 0, 0, 0, 0) 0 (.slice none 0 0)), true⟩) rfl ?_
  refine RunO.store rfl rfl (store_ow (s := 7) (Ow.push h2 (stc (0, 0, 0, 0, 0) 0 (.slice none 0 0))) rfl rfl (stc_cells rl) (Nat.le_of_ble_eq_true rfl)) (RunO.all rfl ?_)
  rw [stc_store]
  have os : Ow ((h2.push ⟨(stc (0, 0, 0, 0, 0) 0 (.slice none 0 0)), true⟩).put h2.next (some ⟨stc (1, ((8 : Nat) : Int), 0, 0, 0) 0 rv, true⟩)) h2.next (stc (1, ((8 : Nat) : Int), 0, 0, 0) 0 rv) := Ow.put _ (Nat.lt_succ_self _)
  have f3 : Fr no h2 ((h2.push ⟨(stc (0, 0, 0, 0, 0) 0 (.slice none 0 0)), true⟩).put h2.next (some ⟨stc (1, ((8 : Nat) : Int), 0, 0, 0) 0 rv, true⟩)) := (Fr.push _ _ _).trans (Fr.put (m := (· = h2.next)) _ (.inl rfl)) (fun j hj => .inr (by omega))
  show RunC prog _ _ _ ((h2.push ⟨(stc (0, 0, 0, 0, 0) 0 (.slice none 0 0)), true⟩).put h2.next (some ⟨stc (1, ((8 : Nat) : Int), 0, 0, 0) 0 rv, true⟩)) _ _ _
  generalize (h2.push ⟨(stc (0, 0, 0, 0, 0) 0 (.slice none 0 0)), true⟩).put h2.next (some ⟨stc (1, ((8 : Nat) : Int), 0, 0, 0) 0 rv, true⟩) = h3 at *
  generalize h2.next = sb at *
  have sli3 := (sli.fr0 f2).fr0 f3
  refine RunC.seq (RunC.region ?_)
  refine RunO.load (v := .agg ⟨stc (1, ((8 : Nat) : Int), 0, 0, 0) 0 rv⟩) rfl (os.ld rfl) rfl ?_
  have hios : Ios h3 (.slice none 0 0) [] := ⟨[], Sl.nil _ 3, fun j x hx => by cases hx⟩
  have hok2 : superOk (1 + 1) ((8 : Nat) : Int) 0 5 0 = true := by decide
  refine RunO.callD (commitSteps_ok (s := (1, ((8 : Nat) : Int), 0, 0, 0)) (slot := 0) (root := 0) (size := 5) (first := 0) hios (by decide) (by decide) (by show (1 : Int) < _; decide) (.inl rfl) hok2 (fun x hx => by cases hx)) rfl rfl rfl ?_
  rintro _ h5 ⟨f4, lv, rfl, ios⟩
  rw [List.nil_append] at ios
  have hct : (cmtT (1, ((8 : Nat) : Int), 0, 0, 0) 0 0 5 0).length = 3 := rfl
  have ios2 := ios.ios (by decide)
  obtain ⟨lA, lc, rfl⟩ : ∃ a b, lv = .slice a 3 b := by
    obtain ⟨acs, row, _⟩ := ios
    obtain ⟨a, b, e, _⟩ := (row.sl (by decide)).form
    exact ⟨a, b, e⟩
  refine RunO.all rfl ?_
  refine RunC.seq (RunC.region (RunO.part 2 rfl ?_))
  have hst := st_cmt (n := 512) (W := []) (s := (1, ((8 : Nat) : Int), 0, 0, 0)) (slot := 0) (root := 0) (size := 5) (first := 0) (by decide) (.inl rfl) (by decide) (fun x hx => by cases hx)
  have hap := ap_cmt (o := L) (W := []) (s := (1, ((8 : Nat) : Int), 0, 0, 0)) (slot := 0) (root := 0) (size := 5) (first := 0) (.inl rfl)
  rw [List.nil_append] at hst hap
  refine RunO.callD (devApply_ok (sli3.fr0 f4) (by omega) ios2 (by decide)) rfl rfl rfl ?_
  have hst : stepsE L.length (cmtT (1, ((8 : Nat) : Int), 0, 0, 0) 0 0 5 0) = 0 := by rw [hl]; exact hst
  rw [hst]
  rintro _ h6 ⟨f5, ⟨_, xq, xc, hxq, rfl, hxc, ox⟩ | ⟨hno, _⟩⟩
  case inr => exact absurd rfl hno
  have t2 := tw.next (rt' := 0) (sz' := 5) (fi' := 0) (.inl rfl) h4 (by decide)
  have hX : applyL L (cmtT (1, ((8 : Nat) : Int), 0, 0, 0) 0 0 5 0) = setBlk L (1 - 0) (superBlock (1 + 1) ((8 : Nat) : Int) 0 5 0) := hap
  rw [hX] at ox
  have hp2 := t2.pick (.inr rfl) hok2
  have hxl := t2.len
  have hxb := t2.byt
  generalize setBlk L (1 - 0) (superBlock (1 + 1) ((8 : Nat) : Int) 0 5 0) = X at *
  obtain ⟨j1, j2, j3⟩ := lk_empty (by rw [hxl]; decide) hp2 rfl rfl
  have j0 : (lk X).2 = 0 := by rw [j1]
  rw [hl]
  rw [hl, show 8 * 64 = 512 from rfl] at hxc
  have slx : Sl h6 (.slice (some ⟨xq, 0, none⟩) (8 * 64) xc) 1 X.length (us X) := sl_own ox hxl hxc (by decide)
  refine RunO.all rfl ?_
  refine RunC.seq (RunC.region (RunO.part 1 rfl ?_))
  refine RunO.callD (openOpen_ok slx hxb (by omega)) rfl rfl rfl ?_
  rintro _ h7 ⟨f6, ⟨_, wv, rfl, wl⟩ | ⟨g, _⟩⟩
  case inr => exact absurd j0 g
  rw [j3, hp2]
  refine RunO.part 4 (h1 := h7.push ⟨(stc (0, 0, 0, 0, 0) 0 (.slice none 0 0)), true⟩) rfl ?_
  refine RunO.store rfl rfl (store_ow (s := 7) (Ow.push h7 (stc (0, 0, 0, 0, 0) 0 (.slice none 0 0))) rfl rfl (stc_cells wl) (Nat.le_of_ble_eq_true rfl)) (RunO.all rfl ?_)
  rw [stc_store]
  have ot : Ow ((h7.push ⟨(stc (0, 0, 0, 0, 0) 0 (.slice none 0 0)), true⟩).put h7.next (some ⟨stc (1 + 1, ((8 : Nat) : Int), 0, 5, 0) ((1 - 0 : Nat) : Int) wv, true⟩)) h7.next (stc (1 + 1, ((8 : Nat) : Int), 0, 5, 0) ((1 - 0 : Nat) : Int) wv) := Ow.put _ (Nat.lt_succ_self _)
  have f7 : Fr no h7 ((h7.push ⟨(stc (0, 0, 0, 0, 0) 0 (.slice none 0 0)), true⟩).put h7.next (some ⟨stc (1 + 1, ((8 : Nat) : Int), 0, 5, 0) ((1 - 0 : Nat) : Int) wv, true⟩)) := (Fr.push _ _ _).trans (Fr.put (m := (· = h7.next)) _ (.inl rfl)) (fun j hj => .inr (by omega))
  show RunC prog _ _ _ ((h7.push ⟨(stc (0, 0, 0, 0, 0) 0 (.slice none 0 0)), true⟩).put h7.next (some ⟨stc (1 + 1, ((8 : Nat) : Int), 0, 5, 0) ((1 - 0 : Nat) : Int) wv, true⟩)) _ _ _
  generalize (h7.push ⟨(stc (0, 0, 0, 0, 0) 0 (.slice none 0 0)), true⟩).put h7.next (some ⟨stc (1 + 1, ((8 : Nat) : Int), 0, 5, 0) ((1 - 0 : Nat) : Int) wv, true⟩) = h8 at *
  generalize h7.next = tb at *
  refine RunC.seq (RunC.region (RunO.part 2 (h1 := h8.push ⟨[.int .i64 4, .int .i64 6], true⟩) rfl ?_))
  have of := Ow.push h8 [.int .i64 4, .int .i64 6]
  have f8 : Fr no h8 (h8.push ⟨[.int .i64 4, .int .i64 6], true⟩) := Fr.push _ _ _
  replace ot := ot.fr f8 (fun g => g)
  generalize h8.push ⟨[.int .i64 4, .int .i64 6], true⟩ = h9 at *
  generalize h8.next = fb at *
  have sf : Sl h9 (.slice (some ⟨fb, 0, none⟩) 2 (exc 2)) 1 ([4, 6] : List Int).length (is [4, 6]) := of.all.sl (s := 1) rfl (by decide) (Cp.exc (Nat.le_refl _))
  have hup : ∀ i, i + 1 < ([4, 6] : List Int).length → ([4, 6] : List Int).getD i 0 < ([4, 6] : List Int).getD (i + 1) 0 := fun i hi => by
    have hi : i + 1 < 2 := hi
    obtain rfl : i = 0 := by omega
    decide
  have hmay : MayOk [] [] 0 ⟨0, 3, 0, 0, 0, 0, 0, 0⟩ true [4, 6] := ⟨rfl, Nat.le_refl _, (fun r hr => by cases hr), (fun _ => by decide), (fun a ha => by cases ha), (by decide), hup, (by decide), (by decide)⟩
  refine RunO.callD (commitRecords_ok (old := []) (bl := []) (free := [4, 6]) (n := 0) (x := ⟨0, 3, 0, 0, 0, 0, 0, 0⟩) (w := true) (Sl.nil _ 8) (Sl.nil _ 1) sf hmay (by decide)) rfl rfl rfl ?_
  rintro _ g1 ⟨e1, mv, rv2, rfl, iom, orv⟩
  have hA : anewL [] 0 true ⟨0, 3, 0, 0, 0, 0, 0, 0⟩ = [⟨0, 3, 0, 0, 0, 0, 0, 0⟩] := rfl
  rw [hA] at iom orv ⊢
  have iml : (wrA [⟨0, 3, 0, 0, 0, 0, 0, 0⟩] [4, 6] (at0L [] 0) 1).length = 1 := wrA_len _ _ _ _
  obtain ⟨mA, mc, rfl⟩ : ∃ a b, mv = .slice a 1 b := by
    obtain ⟨acs, row, _⟩ := iom
    obtain ⟨a, b, e, _⟩ := (row.sl (by decide)).form
    exact ⟨a, b, e⟩
  have sor : Sl g1 rv2 1 ([6] : List Int).length (is [6]) := orv.sl
  replace ot := ot.fr e1 (fun g => g)
  refine RunO.all rfl ?_
  refine RunC.seq (RunC.region (RunO.part 26 rfl ?_))
  refine RunO.loadG (v := .int .i64 (1 + 1)) rfl rfl (ot.ld rfl) rfl ?_
  refine RunO.part 4 rfl ?_
  refine RunO.loadG (v := .int .i64 1) rfl rfl (ot.ld rfl) rfl ?_
  refine RunO.part 5 rfl ?_
  refine RunO.loadG (v := .int .i64 5) rfl rfl (ot.ld rfl) rfl ?_
  refine RunO.part 17 rfl ?_
  refine RunO.part 1 (h1 := g1.push ⟨[.int .i64 6], true⟩) rfl ?_
  have oz := Ow.push g1 [.int .i64 6]
  have e2 : Fr no g1 (g1.push ⟨[.int .i64 6], true⟩) := Fr.push _ _ _
  replace sor := sor.fr0 e2
  generalize g1.push ⟨[.int .i64 6], true⟩ = g2 at *
  generalize g1.next = zb at *
  have s6 : Sl g2 (.slice (some ⟨zb, 0, none⟩) 1 (exc 1)) 1 ([6] : List Int).length (is [6]) := oz.all.sl (s := 1) rfl (by decide) (Cp.exc (Nat.le_refl _))
  refine RunO.callDG rfl (keepInts_ok sor s6 (by decide)) rfl rfl rfl ?_
  rintro _ _ ⟨rfl, rfl⟩
  exact RunO.all rfl (RunC.ret ⟨_, rfl, rfl, (((((((((f1.same f2).same f3).same f4).same f5).same f6).same f7).same f8).same e1).same e2)⟩)
end Go.Proofs.Ytcbakhanpiemhaa
end
section
set_option linter.unusedVariables false
set_option linter.unusedSectionVars false
set_option maxRecDepth 100000
open Go Go.Am Go.RowKit
namespace Go.Proofs.Ytcbakhanpiemhaa
open Go.Proofs.Try

def flP (l : List IoT) (j : Nat) : Bool := match l[j]? with | some x => x.1 == 2 | none => false
theorem flP_at {l : List IoT} {j : Nat} (h : j < l.length) : flP l j = (l[j].1 == 2) := by unfold flP; rw [List.getElem?_eq_getElem h]
set_option maxHeartbeats 4000000 in
theorem flushes_ok {h : Heap} {lv : Value} {l : List IoT} (il : Ios h lv l) (hl : l.length ≤ 100000) : RunF prog 81 [lv] h fun v h' => Fr no h h' ∧ Row h.next h' v 1 (idxs (flP l) l.length).length (is (idxs (flP l) l.length)) := by
  refine RunF.walk func81 rfl rfl ?_
  obtain ⟨acs, sa, ka⟩ := il
  have sa0 := sa
  have hal := sa.1
  obtain ⟨lA, lc, rfl, _, _⟩ := sa.form
  refine RunC.seq (RunC.region (RunO.all rfl ?_))
  refine RunC.seq (RunC.region (RunO.all rfl ?_))
  refine RunC.seq (RunC.seq (RunC.region (RunO.all rfl ?_)))
  refine RunC.block ?_
  refine RunC.loop (fun d E h' => ∃ (i : Nat) (ov : Value), i + d = l.length ∧ Fr no h h' ∧ Row h.next h' ov 1 (idxs (flP l) i).length (is (idxs (flP l) i)) ∧ Le ((upd (upd (upd (upd E0 3 (ov)) 6 (.slice lA l.length lc)) 7 (.int .i64 (l.length : Int))) 8 (.int .i64 (i : Int)))) E) ?st (k := l.length) ?ini
  case ini => exact ⟨0, .slice none 0 0, by omega, Fr.refl _ _, Row.nil _ _ _, Le.cons rfl (Le.cons rfl (Le.cons rfl (Le.cons rfl (Le.nil _))))⟩
  rintro d E g ⟨i, ov, hi, fg, row, hE⟩
  refine RunC.le hE ?_
  clear hE
  refine RunC.seq (RunC.region (RunO.all rfl ?_))
  refine RunC.seq (RunC.cond rfl (fun hlt => RunC.skip ?go) (fun hge => RunC.exit ?ex))
  case ex =>
    have hge := of_decide_eq_false hge
    obtain rfl : i = l.length := by omega
    refine RunC.seq (RunC.region (RunO.all rfl ?_))
    exact RunC.ret ⟨_, rfl, fg, row⟩
  have hlt := of_decide_eq_true hlt
  have hlt : i < l.length := by omega
  obtain ⟨dv, ed, sd, _⟩ := ka i l[i] (List.getElem?_eq_getElem hlt)
  obtain ⟨dA, dc, rfl, _, _⟩ := sd.form
  have hpt := io_part hal hlt
  rw [ed] at hpt
  have hci := cntI_le (flP l) i
  rw [← idxs_len] at hci
  have hfp := flP_at hlt
  refine RunC.seq (RunC.block ?_)
  refine RunC.seq (RunC.region (RunO.part 1 rfl ?_))
  refine RunO.at (s := 3) (k := i) rfl rfl (sa0.fr0 fg) rfl rfl hlt hpt rfl rfl rfl ?_
  generalize l[i].1 = kk at *
  refine RunO.part 2 (h1 := g.push ⟨[.int .i64 0, .int .i64 0, .slice none 0 0], true⟩) rfl ?_
  refine RunO.store rfl rfl (store_ow (s := 3) (Ow.push g [.int .i64 0, .int .i64 0, .slice none 0 0]) rfl rfl rfl (Nat.le_refl 3)) (RunO.nil ?_)
  have ox : Ow ((g.push ⟨[.int .i64 0, .int .i64 0, .slice none 0 0], true⟩).put g.next (some ⟨[.int .i64 kk, .int .i64 l[i].2.1, .slice dA l[i].2.2.1.length dc], true⟩)) g.next [.int .i64 kk, .int .i64 l[i].2.1, .slice dA l[i].2.2.1.length dc] := Ow.put _ (Nat.lt_succ_self _)
  have f1 : Fr no g ((g.push ⟨[.int .i64 0, .int .i64 0, .slice none 0 0], true⟩).put g.next (some ⟨[.int .i64 kk, .int .i64 l[i].2.1, .slice dA l[i].2.2.1.length dc], true⟩)) := (Fr.push _ _ _).trans (Fr.put (m := (· = g.next)) _ (.inl rfl)) (fun j hj => .inr (by omega))
  show RunC prog _ _ _ ((g.push ⟨[.int .i64 0, .int .i64 0, .slice none 0 0], true⟩).put g.next (some ⟨[.int .i64 kk, .int .i64 l[i].2.1, .slice dA l[i].2.2.1.length dc], true⟩)) _ _ _
  generalize (g.push ⟨[.int .i64 0, .int .i64 0, .slice none 0 0], true⟩).put g.next (some ⟨[.int .i64 kk, .int .i64 l[i].2.1, .slice dA l[i].2.2.1.length dc], true⟩) = g1 at *
  generalize g.next = xb at *
  have row1 := row.gr.fr0 f1
  have fg1 := fg.same f1
  refine RunC.seq (RunC.region (RunO.part 1 rfl ?_))
  refine RunO.load (v := .int .i64 kk) rfl (ox.ld rfl) rfl ?_
  refine RunO.all rfl ?_
  cases hk : (kk == 2) with
  | false =>
    rw [hk] at hfp
    refine RunC.cond rfl (fun g => by cases g) (fun _ => RunC.skip ?_)
    refine RunC.region (RunO.all rfl ?_)
    refine ⟨d - 1, by omega, i + 1, ov, by omega, fg1, ?_, Le.cons (inc64 (by omega)) (Le.cons rfl (Le.cons rfl (Le.cons rfl (Le.nil _))))⟩
    rw [idxs_no hfp]
    exact row.fr f1 (fun _ _ _ g => g)
  | true =>
    rw [hk] at hfp
    refine RunC.cond rfl (fun _ => ?_) (fun g => by cases g)
    refine RunC.region (RunO.part 3 (h1 := g1.push ⟨[.int .i64 (i : Int)], true⟩) rfl ?_)
    have ot := Ow.push g1 [.int .i64 (i : Int)]
    have f2 : Fr no g1 (g1.push ⟨[.int .i64 (i : Int)], true⟩) := Fr.push _ _ _
    have row2 := row1.fr0 f2
    generalize g1.push ⟨[.int .i64 (i : Int)], true⟩ = g2 at *
    refine RunO.appendG (s := 1) (j := 1) rfl rfl rfl rfl rfl rfl rfl rfl (by decide) row2 ot.all rfl (Nat.le_refl 1) rfl (by show 2 * (_ + 1) * 8 ≤ _; omega) (by omega) ?_
    intro ov2 g3 row3 f3
    refine RunO.all rfl ?_
    refine RunC.region (RunO.all rfl ?_)
    refine ⟨d - 1, by omega, i + 1, ov2, by omega, (fg1.same f2).trans f3 (fun b a => .inr (row2.at a).1), ?_, Le.cons (inc64 (by omega)) (Le.cons rfl (Le.cons rfl (Le.cons rfl (Le.nil _))))⟩
    rw [idxs_yes hfp, List.length_append, show is (idxs (flP l) i ++ [(i : Int)]) = is (idxs (flP l) i) ++ [.int .i64 (i : Int)] from List.map_append]
    exact Row.lo row3 (fg1.same f2).next
/-- What a crash may leave. -/
structure CrI (L : List Int) (l : List IoT) (i : Nat) (safe : Int) (Y : List Int) : Prop where
  len : Y.length = L.length
  byt : Byt Y
  blk : ∀ c : Nat, blkI Y c = blkI L c ∨ ∃ x ∈ l.take i, x.1 = 1 ∧ x.2.1 = (c : Int) ∧ blkI Y c = x.2.2.1
  all : (∀ (j : Nat) (x : IoT), j < i → l[j]? = some x → x.1 = 1 → (j : Int) < safe) → Y = applyL L (l.take i)
theorem CrI.skip {L : List Int} {l : List IoT} {i : Nat} {safe : Int} {Y : List Int} (v : CrI L l i safe Y) (hi : i < l.length) (hk : l[i].1 ≠ 1 ∨ ¬ (i : Int) < safe) : CrI L l (i + 1) safe Y := by
  have htk : l.take (i + 1) = l.take i ++ [l[i]] := List.take_succ_eq_append_getElem hi
  refine ⟨v.len, v.byt, fun c => (v.blk c).imp id (fun ⟨x, hx, g⟩ => ⟨x, by rw [htk]; exact List.mem_append_left _ hx, g⟩), fun hall => ?_⟩
  have e := v.all (fun j x hj hx h1 => hall j x (by omega) hx h1)
  rcases hk with hk | hk
  · rw [htk, e]
    unfold applyL
    rw [List.foldl_append]
    show _ = applyStep _ l[i]
    unfold applyStep
    rw [if_neg (by rw [beq_iff_eq]; exact hk)]
  · by_cases h1 : l[i].1 = 1
    · exact absurd (hall i l[i] (by omega) (List.getElem?_eq_getElem hi) h1) hk
    · rw [htk, e]
      unfold applyL
      rw [List.foldl_append]
      show _ = applyStep _ l[i]
      unfold applyStep
      rw [if_neg (by rw [beq_iff_eq]; exact h1)]
theorem CrI.step {L : List Int} {l : List IoT} {i : Nat} {safe : Int} {Y : List Int} (v : CrI L l i safe Y) (hi : i < l.length) {a : Nat} (ha : l[i].2.1 = (a : Int)) (hw : wrG L.length l[i]) : CrI L l (i + 1) safe (setBlk Y a l[i].2.2.1) := by
  have htk : l.take (i + 1) = l.take i ++ [l[i]] := List.take_succ_eq_append_getElem hi
  obtain ⟨h1, ⟨a', ha', hab⟩, h3, h4⟩ := hw
  obtain rfl : a' = a := by omega
  have hal : (a' + 1) * 64 ≤ Y.length := by rw [v.len]; exact hab
  refine ⟨by rw [setBlk_len hal h3]; exact v.len, setBlk_byt v.byt h4, fun c => ?_, fun hall => ?_⟩
  · by_cases hc : c = a'
    · subst hc
      exact .inr ⟨l[i], by rw [htk]; exact List.mem_append_right _ (List.mem_singleton.2 rfl), h1, ha, blk_set_same hal h3⟩
    · rw [blk_set_ne hal h3 hc]
      exact (v.blk c).imp id (fun ⟨x, hx, g⟩ => ⟨x, by rw [htk]; exact List.mem_append_left _ hx, g⟩)
  · rw [htk, v.all (fun j x hj hx h1 => hall j x (by omega) hx h1)]
    unfold applyL
    rw [List.foldl_append]
    show _ = applyStep _ l[i]
    rw [apStep_w ⟨h1, ⟨a', ha', hab⟩, h3, h4⟩ ha]
theorem us_blk {Y d : List Int} {a : Nat} (hd : d.length = 64) : (us Y).take (0 + a * 64) ++ (us d).take 64 ++ (us Y).drop (0 + a * 64 + 64) = us (setBlk Y a d) := by
  rw [Nat.zero_add, List.take_of_length_le (l := us d) (by rw [us_len, hd]; exact Nat.le_refl _)]
  unfold us setBlk
  rw [List.map_append, List.map_append, List.map_take, List.map_drop]
set_option maxHeartbeats 32000000 in
theorem devCrash_ok {h : Heap} {iv lv kv : Value} {L : List Int} {l : List IoT} {keep : List Bool} {cut : Nat} (si : Sl h iv 1 L.length (us L)) (hb : Byt L) (hm : L.length ≤ 1000000) (hd : devOk L.length = true) (il : Ios h lv l) (hst : stepsE L.length l = 0) (hw : ∀ x ∈ l, x.1 = 1 → wrG L.length x) (hc : cut ≤ l.length) (hl : l.length ≤ 100000) (sk : Sl h kv 1 keep.length (bo keep)) (hkl : keep.length ≤ 1000000) :
    RunF prog 41 [iv, lv, .int .i64 (cut : Int), kv] h fun v h' => Fr no h h' ∧ ∃ ob oc Y, h.next ≤ ob ∧ v = .tuple #[.slice (some ⟨ob, 0, none⟩) L.length oc, .int .i64 0] ∧ Cp 1 L.length oc ∧ Ow h' ob (us Y) ∧ CrI L l cut ((idxs (flP (l.take cut)) cut).getLast?.getD (-1)) Y := by
  refine RunF.walk func41 rfl rfl ?_
  have hdl : L.length % 64 = 0 ∧ 4 ≤ L.length / 64 ∧ L.length / 64 ≤ 4096 := by
    unfold devOk at hd
    simpa using hd
  have si0 := si
  have il0 := il
  have sk0 := sk
  obtain ⟨iA, ic, rfl, hic, hiA⟩ := si.form
  obtain ⟨acs, sa, ka⟩ := il
  have sa0 := sa
  have hal := sa.1
  obtain ⟨lA, lc, rfl, _, _⟩ := sa.form
  obtain ⟨kA, kc, rfl, _, _⟩ := sk.form
  refine RunC.seq (RunC.region (RunO.all rfl ?_))
  refine RunC.seq (RunC.region (RunO.part 2 rfl ?_))
  refine RunO.callD (devSteps_ok (A := iA) (c := ic) (n := L.length) il0 (by omega) (by omega)) rfl rfl rfl ?_
  rw [hst]
  rintro _ h1 ⟨rfl, f1⟩
  refine RunO.all rfl ?_
  refine RunC.seq (RunC.block ?_)
  refine RunC.seq (RunC.region (RunO.all rfl (RunC.cond (t := false) rfl (fun g => by cases g) (fun _ => ?_))))
  refine RunC.seq (RunC.region (RunO.part 2 rfl ?_))
  rw [decide_eq_false (show ¬ ((cut : Int) < 0) by omega)]
  refine RunO.part 4 rfl ?_
  refine RunO.part 1 rfl ?_
  rw [decide_eq_false (show ¬ ((cut : Int) > (l.length : Int)) by omega)]
  refine RunO.all rfl (RunC.cond rfl (fun g => by cases g) (fun _ => RunC.skip ?_))
  refine RunC.seq (RunC.region (RunO.all rfl ?_))
  -- the last flush
  have htl : (l.take cut).length = cut := by rw [List.length_take]; omega
  refine RunC.seq (RunC.region (RunO.part 2 rfl ?_))
  refine RunO.sliceSl (s := 3) (len := l.length) (k := 0) (m := cut) rfl rfl rfl rfl rfl (sa0.fr0 f1) (.none _) (.some _ _ _) (Nat.zero_le _) hc rfl ?_
  intro tv st
  have hsl : ∀ (h' : Heap) (u : Value), Fr no h h' → Sl h' u 3 (cut - 0) ((acs.drop (0 * 3)).take ((cut - 0) * 3)) → Ios h' u (l.take cut) := fun h' u f st => by
    rw [Nat.zero_mul, List.drop_zero, Nat.sub_zero] at st
    refine ⟨acs.take (cut * 3), by rw [htl]; exact st, fun j x hx => ?_⟩
    have hj := (List.getElem?_eq_some_iff.1 hx).1
    rw [htl] at hj
    rw [List.getElem?_take, if_pos hj] at hx
    obtain ⟨dv, ed, sd, hb⟩ := ka j x hx
    refine ⟨dv, ?_, sd.fr0 f, hb⟩
    rw [← ed, List.drop_take, List.take_take, show min 3 (cut * 3 - j * 3) = 3 by omega]
  have hios := hsl h1 tv f1 st
  refine RunO.callD (flushes_ok hios (by rw [htl]; omega)) rfl rfl rfl ?_
  rw [htl]
  rintro fv h2 ⟨f2, rf⟩
  have F2 := f1.same f2
  have hcl := cntI_le (flP (l.take cut)) cut
  rw [← idxs_len] at hcl
  generalize hFL : idxs (flP (l.take cut)) cut = FL at *
  have sfl := rf.sl (by omega)
  have sfl0 := sfl
  obtain ⟨fA, fc, rfl, _, _⟩ := sfl.form
  refine RunO.all rfl ?_
  obtain ⟨safe, hsafe⟩ : ∃ s, s = FL.getLast?.getD (-1) := ⟨_, rfl⟩
  rw [← hsafe]
  refine RunC.seqc (fun E' h' => h2 = h' ∧ Le (upd (upd (upd (upd (upd E0 0 (.slice iA L.length ic)) 1 (.slice lA l.length lc)) 2 (.int .i64 (cut : Int))) 3 (.slice kA keep.length kc)) 11 (.int .i64 safe)) E') ?sf ?by1
  case sf =>
    refine RunC.seq (RunC.region (RunO.part 2 rfl ?_))
    refine RunO.part 1 rfl ?_
    by_cases h0 : (FL.length : Int) > 0
    · rw [decide_eq_true h0]
      refine RunO.all rfl (RunC.cond rfl (fun _ => ?_) (fun g => by cases g))
      refine RunC.region (RunO.part 4 rfl ?_)
      rw [fw64 (x := (FL.length : Int) - 1) (by omega) (by omega), show (FL.length : Int) - 1 = ((FL.length - 1 : Nat) : Int) by omega]
      have hk : FL.length - 1 < FL.length := by omega
      refine RunO.at (s := 1) (k := FL.length - 1) rfl rfl sfl0 rfl rfl hk (is_part hk) rfl rfl rfl (RunO.all rfl ?_)
      have e : FL[FL.length - 1] = safe := by rw [hsafe, List.getLast?_eq_getElem?, List.getElem?_eq_getElem hk]; rfl
      rw [e]
      exact ⟨rfl, Le.cons rfl (Le.cons rfl (Le.cons rfl (Le.cons rfl (Le.cons rfl (Le.nil _)))))⟩
    · rw [decide_eq_false h0]
      refine RunO.all rfl (RunC.cond rfl (fun g => by cases g) (fun _ => RunC.skip ?_))
      have e : safe = -1 := by
        have : FL = [] := List.eq_nil_of_length_eq_zero (by omega)
        rw [hsafe, this]; rfl
      rw [e]
      exact ⟨rfl, Le.cons rfl (Le.cons rfl (Le.cons rfl (Le.cons rfl (Le.cons rfl (Le.nil _)))))⟩
  rintro E' _ ⟨rfl, hE⟩
  refine RunC.le hE ?_
  clear hE hsafe hFL sfl0 sfl rf
  refine RunC.seq (RunC.region (RunO.part 1 rfl ?_))
  refine RunO.callD (clone8_ok (si0.fr0 F2) (by omega)) rfl rfl rfl ?_
  rintro ov h3 ⟨oov, f3, _⟩
  obtain ⟨ob, oc, hob, rfl, hoc, oo⟩ : ∃ b c, h2.next ≤ b ∧ ov = .slice (some ⟨b, 0, none⟩) L.length c ∧ Cp 1 L.length c ∧ Ow h3 b (us L) := by
    rcases oov.2.2 with ⟨_, e⟩ | e
    · omega
    · exact e
  have F3 := F2.same f3
  refine RunO.all rfl ?_
  refine RunC.seq (RunC.seq (RunC.region (RunO.part 2 rfl ?_)))
  refine RunO.sliceAll (s := 3) (len := l.length) (k := 0) (m := cut) rfl rfl rfl rfl rfl (sa0.fr0 F3) (.none _) (.some _ _ _) (Nat.zero_le _) hc rfl ?_
  intro tv2 st2
  have hslc : ∀ (h' : Heap), Fr no h h' → Sl h' tv2 3 cut (acs.take (cut * 3)) := fun h' f => by
    have := st2 h' (sa0.fr0 f)
    rwa [Nat.zero_mul, List.drop_zero, Nat.sub_zero] at this
  obtain ⟨tA, tc, rfl, _, _⟩ := (hslc h3 F3).form
  refine RunO.all rfl ?_
  refine RunC.block ?_
  have hF2n := F2.next
  refine RunC.loop (fun d E h' => ∃ (i o : Nat) (Y : List Int), i + d = cut ∧ o ≤ i ∧ Fr (· = ob) h3 h' ∧ Ow h' ob (us Y) ∧ CrI L l i safe Y ∧ Le ((upd (upd (upd (upd (upd (upd (upd E0 3 (.slice kA keep.length kc)) 11 (.int .i64 safe)) 13 (.slice (some ⟨ob, 0, none⟩) L.length oc)) 14 (.int .i64 (o : Int))) 51 (.slice tA cut tc)) 52 (.int .i64 (cut : Int))) 53 (.int .i64 (i : Int)))) E) ?st (k := cut) ?ini
  case ini => exact ⟨0, 0, L, by omega, Nat.le_refl _, Fr.refl _ _, oo, ⟨rfl, hb, fun c => .inl rfl, fun _ => by rw [List.take_zero]; rfl⟩, Le.cons rfl (Le.cons rfl (Le.cons rfl (Le.cons rfl (Le.cons rfl (Le.cons rfl (Le.cons rfl (Le.nil _)))))))⟩
  clear oo
  rintro d E g ⟨i, o, Y, hi, hoi, fg, oo, v, hE⟩
  refine RunC.le hE ?_
  clear hE
  have Fg : Fr no h2 g := f3.trans fg (fun b e => .inr (by have e : b = ob := e; omega))
  have Fg0 := F2.same Fg
  refine RunC.seq (RunC.region (RunO.all rfl ?_))
  refine RunC.seq (RunC.cond rfl (fun hlt => RunC.skip ?go) (fun hge => RunC.exit ?ex))
  case ex =>
    have hge := of_decide_eq_false hge
    obtain rfl : i = cut := by omega
    refine RunC.seq (RunC.region (RunO.all rfl ?_))
    exact RunC.ret ⟨_, rfl, Fg0, ob, oc, Y, by omega, rfl, hoc, oo, v⟩
  have hlt := of_decide_eq_true hlt
  have hic : i < cut := by omega
  have hil : i < l.length := by omega
  obtain ⟨dv, ed, sd, hdb⟩ := ka i l[i] (List.getElem?_eq_getElem hil)
  have sd0 := sd
  obtain ⟨dA, dc, rfl, _, _⟩ := sd.form
  have ed2 : ((acs.take (cut * 3)).drop (i * 3)).take 3 = [.int .i64 l[i].1, .int .i64 l[i].2.1, .slice dA l[i].2.2.1.length dc] := by rw [← ed, List.drop_take, List.take_take, show min 3 (cut * 3 - i * 3) = 3 by omega]
  have hpt := io_part (acs := acs.take (cut * 3)) (n := cut) (by rw [List.length_take]; omega) hic
  rw [ed2] at hpt
  have hwi := hw l[i] (List.getElem_mem hil)
  have hoo := oo.1
  refine RunC.seq (RunC.block ?_)
  refine RunC.seq (RunC.region (RunO.part 1 rfl ?_))
  refine RunO.at (s := 3) (k := i) rfl rfl (hslc g Fg0) rfl rfl hic hpt rfl rfl rfl ?_
  refine RunO.part 2 (h1 := g.push ⟨[.int .i64 0, .int .i64 0, .slice none 0 0], true⟩) rfl ?_
  refine RunO.store rfl rfl (store_ow (s := 3) (Ow.push g [.int .i64 0, .int .i64 0, .slice none 0 0]) rfl rfl rfl (Nat.le_refl 3)) (RunO.nil ?_)
  have ox : Ow ((g.push ⟨[.int .i64 0, .int .i64 0, .slice none 0 0], true⟩).put g.next (some ⟨[.int .i64 l[i].1, .int .i64 l[i].2.1, .slice dA l[i].2.2.1.length dc], true⟩)) g.next [.int .i64 l[i].1, .int .i64 l[i].2.1, .slice dA l[i].2.2.1.length dc] := Ow.put _ (Nat.lt_succ_self _)
  have f6 : Fr no g ((g.push ⟨[.int .i64 0, .int .i64 0, .slice none 0 0], true⟩).put g.next (some ⟨[.int .i64 l[i].1, .int .i64 l[i].2.1, .slice dA l[i].2.2.1.length dc], true⟩)) := (Fr.push _ _ _).trans (Fr.put (m := (· = g.next)) _ (.inl rfl)) (fun j hj => .inr (by omega))
  show RunC prog _ _ _ ((g.push ⟨[.int .i64 0, .int .i64 0, .slice none 0 0], true⟩).put g.next (some ⟨[.int .i64 l[i].1, .int .i64 l[i].2.1, .slice dA l[i].2.2.1.length dc], true⟩)) _ _ _
  generalize (g.push ⟨[.int .i64 0, .int .i64 0, .slice none 0 0], true⟩).put g.next (some ⟨[.int .i64 l[i].1, .int .i64 l[i].2.1, .slice dA l[i].2.2.1.length dc], true⟩) = g2 at *
  obtain ⟨xb, hxb⟩ : ∃ q, q = g.next := ⟨_, rfl⟩
  rw [← hxb] at ox ⊢
  replace oo := oo.fr f6 (fun g => g)
  have fg2 := fg.quiet f6
  refine RunC.seq (RunC.seq (RunC.region (RunO.part 1 rfl ?_)))
  refine RunO.load (v := .int .i64 l[i].1) rfl (ox.ld rfl) rfl ?_
  refine RunO.part 1 rfl ?_
  by_cases hk : l[i].1 = 1
  case neg =>
    rw [show (l[i].1 != 1) = true from bne_iff_ne.2 hk]
    refine RunO.all rfl (RunC.cond rfl (fun _ => RunC.exit ?_) (fun g => by cases g))
    refine RunC.region (RunO.all rfl ?_)
    exact ⟨d - 1, by omega, i + 1, o, Y, by omega, by omega, fg2, oo, v.skip hil (.inl hk), Le.cons (inc64 (by omega)) (Le.cons rfl (Le.cons rfl (Le.cons rfl (Le.cons rfl (Le.cons rfl (Le.cons rfl (Le.nil _)))))))⟩
  rw [show (l[i].1 != 1) = false from by rw [hk]; rfl]
  refine RunO.all rfl (RunC.cond rfl (fun g => by cases g) (fun _ => RunC.skip ?_))
  have hwi := hwi hk
  obtain ⟨_, ⟨a, ha, hab⟩, hd64, _⟩ := hwi
  refine RunC.seq (RunC.region (RunO.all rfl ?_))
  refine RunC.seqc (fun E' h' => g2 = h' ∧ ∃ (o : Nat) (st : Bool), o ≤ i + 1 ∧ (st = false → ¬ (i : Int) < safe) ∧ Le ((upd (upd (upd (upd (upd (upd (upd (upd (upd (upd E0 3 (.slice kA keep.length kc)) 11 (.int .i64 safe)) 13 (.slice (some ⟨ob, 0, none⟩) L.length oc)) 14 (.int .i64 (o : Int))) 51 (.slice tA cut tc)) 52 (.int .i64 (cut : Int))) 53 (.int .i64 (i : Int))) 15 (.int .i64 (i : Int))) 16 (.pointer (some ⟨xb, 0, none⟩))) 17 (.bool st))) E') ?kp ?by2
  case kp =>
    by_cases hs : (i : Int) < safe
    · rw [decide_eq_true hs]
      refine RunC.seq (RunC.region (RunO.all rfl (RunC.cond rfl (fun g => by cases g) (fun _ => RunC.skip ?_))))
      exact ⟨rfl, o, true, by omega, (fun g => by cases g), Le.cons rfl (Le.cons rfl (Le.cons rfl (Le.cons rfl (Le.cons rfl (Le.cons rfl (Le.cons rfl (Le.cons rfl (Le.cons rfl (Le.cons rfl (Le.nil _))))))))))⟩
    · rw [decide_eq_false hs]
      refine RunC.seq (RunC.region (RunO.all rfl (RunC.cond rfl (fun _ => ?_) (fun g => by cases g))))
      refine RunC.seq (RunC.region (RunO.part 3 rfl ?_))
      refine RunO.part 1 rfl ?_
      by_cases hok : (o : Int) < (keep.length : Int)
      · rw [decide_eq_true hok]
        have hok : o < keep.length := by omega
        refine RunO.part 3 rfl ?_
        refine RunO.atG (s := 1) (k := o) rfl (fun _ => rfl) rfl rfl ((sk0.fr0 Fg0).fr0 f6) rfl rfl hok (bo_part hok) rfl rfl rfl ?_
        refine RunO.all rfl ?_
        refine RunC.region (RunO.part 2 rfl ?_)
        rw [fw64 (x := (o : Int) + 1) (by omega) (by omega), show (o : Int) + 1 = ((o + 1 : Nat) : Int) by omega]
        exact RunO.all rfl ⟨rfl, o + 1, _, by omega, (fun _ => hs), Le.cons rfl (Le.cons rfl (Le.cons rfl (Le.cons rfl (Le.cons rfl (Le.cons rfl (Le.cons rfl (Le.cons rfl (Le.cons rfl (Le.cons rfl (Le.nil _))))))))))⟩
      · rw [decide_eq_false hok]
        refine RunO.all rfl ?_
        refine RunC.region (RunO.part 2 rfl ?_)
        rw [fw64 (x := (o : Int) + 1) (by omega) (by omega), show (o : Int) + 1 = ((o + 1 : Nat) : Int) by omega]
        exact RunO.all rfl ⟨rfl, o + 1, false, by omega, (fun _ => hs), Le.cons rfl (Le.cons rfl (Le.cons rfl (Le.cons rfl (Le.cons rfl (Le.cons rfl (Le.cons rfl (Le.cons rfl (Le.cons rfl (Le.cons rfl (Le.nil _))))))))))⟩
  rintro E' _ ⟨rfl, o2, st, ho2, hst2, hE⟩
  refine RunC.le hE ?_
  clear hE
  refine RunC.seq (RunC.region (RunO.all rfl ?_))
  cases st with
  | false =>
    refine RunC.cond rfl (fun g => by cases g) (fun _ => RunC.skip ?_)
    refine RunC.region (RunO.all rfl ?_)
    exact ⟨d - 1, by omega, i + 1, o2, Y, by omega, by omega, fg2, oo, v.skip hil (.inr (hst2 rfl)), Le.cons (inc64 (by omega)) (Le.cons rfl (Le.cons rfl (Le.cons rfl (Le.cons rfl (Le.cons rfl (Le.cons rfl (Le.nil _)))))))⟩
  | true =>
    refine RunC.cond rfl (fun _ => ?_) (fun g => by cases g)
    have sd2 := sd0.fr0 (Fg0.same f6)
    have hYl := v.len
    have hstep := v.step hil ha ⟨hk, ⟨a, ha, hab⟩, hd64, hdb⟩
    rw [ha] at ox
    refine RunC.drawT 6 (fun b => b = ob ∨ g2.next ≤ b) rfl ?_
    refine RunQ.part 2 rfl ?_
    refine RunQ.load (v := .int .i64 (a : Int)) rfl rfl (ox.ld rfl) rfl ?_
    refine RunQ.call rfl (devOf_ok (b := ob) (o := 0) (c := oc) (i := a) (l := L) hab (by omega) hoc) (fun v h1 q => by obtain ⟨_, rfl⟩ := q; exact Fr.refl _ _) rfl rfl rfl ?_
    rintro _ _ ⟨⟨c', hc', rfl⟩, rfl⟩
    refine RunQ.lo ?_
    refine RunQ.part 1 rfl ?_
    refine RunQ.load (v := .slice dA l[i].2.2.1.length dc) rfl rfl (ox.ld rfl) rfl ?_
    refine RunQ.all rfl ?_
    refine RunT.copyAt (k := 64) rfl rfl rfl rfl rfl oo sd2 (allCells_map (f := Value.int .u8) (fun _ => rfl) _) (by rw [hd64]; rfl) (by rw [us_len, hYl]; omega) rfl (.inl rfl) ?_
    intro h' oc2 f7
    refine RunT.nil ?_
    intro lw F8
    rw [us_blk hd64] at oc2
    have oc3 : Ow (h'.lo lw) ob (us (setBlk Y a l[i].2.2.1)) := oc2
    have F9 : Fr (· = ob) h3 (h'.lo lw) := fg2.trans F8 (fun b g => by rcases g with g | g; exact .inl g; have := fg2.next; exact .inr (by omega))
    generalize h'.lo lw = g4 at *
    refine RunC.region (RunO.all rfl ?_)
    exact ⟨d - 1, by omega, i + 1, o2, _, by omega, by omega, F9, oc3, hstep, Le.cons (inc64 (by omega)) (Le.cons rfl (Le.cons rfl (Le.cons rfl (Le.cons rfl (Le.cons rfl (Le.cons rfl (Le.nil _)))))))⟩
end Go.Proofs.Ytcbakhanpiemhaa
end
section
set_option linter.unusedVariables false
set_option linter.unusedSectionVars false
set_option maxRecDepth 100000
open Go Go.Am Go.RowKit
namespace Go.Proofs.Ytcbakhanpiemhaa
open Go.Proofs.Try

def atC (B : Nat) (v : Int) : Int := 2 + (v % 18446744073709551616).tmod ((B : Int) - 2)
theorem atC_rng {B : Nat} (hB : 8 ≤ B) (v : Int) : 2 ≤ atC B v ∧ atC B v < (B : Int) := by
  obtain ⟨h1, h2⟩ := modU v ((B : Int) - 2) (by omega)
  unfold atC
  omega
def dtC (c : Int) (i : Nat) : List Int := (List.replicate 64 0).set (i % 64) c
def wCr (B : Nat) (c : Int) (l : List Int) (k : Nat) : List IoT := (List.range k).map fun i => ((1 : Int), atC B (l.getD i 0), dtC c i, ())
theorem wCr_len (B : Nat) (c : Int) (l : List Int) (k : Nat) : (wCr B c l k).length = k := by unfold wCr; rw [List.length_map, List.length_range]
theorem wCr_succ (B : Nat) (c : Int) (l : List Int) (k : Nat) : wCr B c l (k + 1) = wCr B c l k ++ [((1 : Int), atC B (l.getD k 0), dtC c k, ())] := by unfold wCr; rw [List.range_succ, List.map_append]; rfl
theorem dtC_ok {c : Int} (hc : 0 ≤ c ∧ c < 256) (i : Nat) : (dtC c i).length = 64 ∧ Byt (dtC c i) := by
  refine ⟨by unfold dtC; rw [List.length_set, List.length_replicate], fun y hy => ?_⟩
  unfold dtC at hy
  rcases List.mem_or_eq_of_mem_set hy with g | g
  · rw [List.eq_of_mem_replicate g]; decide
  · rw [g]; exact hc
theorem wCr_ok {B : Nat} {c : Int} {l : List Int} {k : Nat} (hB : 8 ≤ B) (hc : 0 ≤ c ∧ c < 256) : ∀ x ∈ wCr B c l k, x.1 = 1 ∧ 2 ≤ x.2.1 ∧ x.2.1 < (B : Int) ∧ x.2.2.1.length = 64 ∧ Byt x.2.2.1 := by
  intro x hx
  unfold wCr at hx
  obtain ⟨i, _, rfl⟩ := List.mem_map.1 hx
  obtain ⟨h1, h2⟩ := atC_rng hB (l.getD i 0)
  obtain ⟨h3, h4⟩ := dtC_ok hc i
  exact ⟨rfl, h1, h2, h3, h4⟩
theorem tmod64 (k : Nat) : (k : Int).tmod 64 = ((k % 64 : Nat) : Int) := by rw [Int.tmod_eq_emod_of_nonneg (by omega)]; omega
theorem uset2 (l : List Int) (i : Nat) (x : Int) : (us l).set (0 + i * 1) (.int .u8 x) = us (l.set i x) := by unfold us; rw [List.map_set, Nat.zero_add, Nat.mul_one]
/-- What stands behind a crash. -/
theorem crash_law {B : Nat} {W : List IoT} {size : Int} {cut : Nat} {Y : List Int} (hB : 8 ≤ B) (hB2 : B ≤ 4096) (hw : ∀ x ∈ W, x.1 = 1 ∧ 2 ≤ x.2.1 ∧ x.2.1 < (B : Int) ∧ x.2.2.1.length = 64 ∧ Byt x.2.2.1) (hok : superOk (1 + 1) (B : Int) 0 size 0 = true)
    (hc : cut ≤ W.length + 3) (v : CrI (newI B) (W ++ cmtT (1, (B : Int), 0, 0, 0) ((0 : Nat) : Int) 0 size 0) cut ((idxs (flP ((W ++ cmtT (1, (B : Int), 0, 0, 0) ((0 : Nat) : Int) 0 size 0).take cut)) cut).getLast?.getD (-1)) Y) :
    (pickS Y = ((1, (B : Int), 0, 0, 0), 0, true) ∧ cut ≠ W.length + 3) ∨ (pickS Y = ((1 + 1, (B : Int), 0, size, 0), 1, true) ∧ W.length + 1 < cut) := by
  have hnl := newI_len (B := B) (by omega)
  obtain ⟨n0, n1⟩ := newI_blk (B := B) (by omega)
  have hYl := v.len
  obtain ⟨lst, hlst⟩ : ∃ q, q = W ++ cmtT (1, (B : Int), 0, 0, 0) ((0 : Nat) : Int) 0 size 0 := ⟨_, rfl⟩
  have hl0 : ∀ j, j < W.length → lst[j]? = W[j]? := fun j hj => by rw [hlst, List.getElem?_append_left hj]
  have hl1 : lst[W.length]? = some ((2 : Int), (0 : Int), ([] : List Int), ()) := by rw [hlst, List.getElem?_append_right (Nat.le_refl _), Nat.sub_self]; rfl
  have hl2 : lst[W.length + 1]? = some ((1 : Int), 1 - ((0 : Nat) : Int), superBlock (1 + 1) (B : Int) 0 size 0, ()) := by rw [hlst, List.getElem?_append_right (by omega), show W.length + 1 - W.length = 1 by omega]; rfl
  have hl3 : lst[W.length + 2]? = some ((2 : Int), (0 : Int), ([] : List Int), ()) := by rw [hlst, List.getElem?_append_right (by omega), show W.length + 2 - W.length = 2 by omega]; rfl
  have hll : lst.length = W.length + 3 := by rw [hlst, List.length_append]; rfl
  have hap := ap_cmt (o := newI B) (W := W) (s := (1, (B : Int), 0, 0, 0)) (slot := 0) (root := 0) (size := size) (first := 0) (.inl rfl)
  rw [← hlst] at v hap
  -- where a block may be from
  have hmem : ∀ x ∈ lst.take cut, x.1 = 1 → ∀ c : Nat, c < 2 → x.2.1 = (c : Int) → c = 1 ∧ W.length + 1 < cut ∧ x.2.2.1 = superBlock (1 + 1) (B : Int) 0 size 0 := by
    intro x hx h1 c hc2 hxc
    obtain ⟨j, hj, e⟩ := List.mem_iff_getElem.1 hx
    rw [List.length_take] at hj
    have e : lst[j]? = some x := by
      rw [← e, List.getElem?_eq_getElem (by omega), List.getElem_take]
    by_cases j1 : j < W.length
    · rw [hl0 j j1] at e
      have := hw x (List.mem_of_getElem? e)
      omega
    by_cases j2 : j = W.length
    · rw [j2, hl1] at e
      cases e
      exact absurd h1 (by decide)
    by_cases j3 : j = W.length + 1
    · rw [j3, hl2] at e
      cases e
      have hxc : (1 : Int) - ((0 : Nat) : Int) = (c : Int) := hxc
      exact ⟨by omega, by omega, rfl⟩
    · have j4 : j = W.length + 2 := by omega
      rw [j4, hl3] at e
      cases e
      exact absurd h1 (by decide)
  have y0 : blkI Y 0 = superBlock 1 (B : Int) 0 0 0 := by
    rcases v.blk 0 with e | ⟨x, hx, h1, h2, _⟩
    · rw [e]; exact n0
    · have := (hmem x hx h1 0 (by decide) h2).1
      cases this
  have hbl : (B : Int) = ((Y.length / 64 : Nat) : Int) := by rw [hYl, hnl, Nat.mul_div_cancel _ (by decide)]
  have hok1 := ok_new (B := B) (by omega) hB2
  have hnew : blkI Y 1 = superBlock (1 + 1) (B : Int) 0 size 0 → pickS Y = ((1 + 1, (B : Int), 0, size, 0), 1, true) := fun e =>
    (Two.mk (hYl.trans hnl) v.byt e (.inr ⟨1, 0, 0, 0, by decide, hok1, y0⟩) : Two B (1 + 1) 1 0 size 0 Y).pick (.inr rfl) hok
  by_cases hce : cut = W.length + 3
  · right
    refine ⟨hnew ?_, by omega⟩
    have hlast : (idxs (flP (lst.take cut)) cut).getLast?.getD (-1) = ((W.length + 2 : Nat) : Int) := by
      rw [List.take_of_length_le (by omega), hce, show W.length + 3 = (W.length + 2) + 1 by omega, idxs_yes (by unfold flP; rw [hl3]; rfl), List.getLast?_append]
      rfl
    have e := v.all (fun j x hj hx h1 => by
      rw [hlast]
      have : j ≠ W.length + 2 := fun g => by
        rw [g, hl3] at hx
        cases hx
        exact absurd h1 (by decide)
      omega)
    rw [e, List.take_of_length_le (by omega), hap]
    have hxl : (applyL (newI B) W).length = B * 64 := (apL_w W _ (fun x hx => by
      obtain ⟨a1, a2, a3, a4, a5⟩ := hw x hx
      exact ⟨a1, ⟨x.2.1.toNat, by omega, Nat.mul_le_mul_right 64 (by omega)⟩, a4, a5⟩) hnl (newI_byt B)).1
    exact blk_set_same (by rw [hxl]; exact Nat.mul_le_mul_right 64 (by omega)) (superBlock_len ..)
  · rcases v.blk 1 with e | ⟨x, hx, h1, h2, h3⟩
    · left
      exact ⟨pick_one0 y0 hok1 hbl (by rw [e, n1, sCode_zeros]; decide), hce⟩
    · right
      obtain ⟨_, g2, g3⟩ := hmem x hx h1 1 (by decide) h2
      exact ⟨hnew (h3.trans g3), g2⟩
end Go.Proofs.Ytcbakhanpiemhaa
end
section
set_option linter.unusedVariables false
set_option linter.unusedSectionVars false
set_option maxRecDepth 100000
open Go Go.Am Go.RowKit
namespace Go.Proofs.Ytcbakhanpiemhaa
open Go.Proofs.Try

theorem map_of_bools : ∀ (l : List Bool) (acs : List Value), acs.length = l.length → (∀ (j : Nat) (x : Bool), l[j]? = some x → (acs.drop j).take 1 = [.bool x]) → acs = bo l
  | [], [], _, _ => rfl
  | [], _ :: _, h, _ => by cases h
  | _ :: _, [], h, _ => by cases h
  | x :: l, v :: acs, h, H => by
    have h0 := H 0 x rfl
    have e : v = .bool x := by simpa using h0
    show _ = Value.bool x :: bo l
    rw [e, map_of_bools l acs (by simpa using h) (fun j y hy => by simpa using H (j + 1) y (by simpa using hy))]
theorem slBools {h : Heap} {l : List Bool} {cs : List Value} (a : (Sh.slice .bool).K h l cs) : ∃ v, cs = [v] ∧ Sl h v 1 l.length (bo l) := by
  obtain ⟨v, acs, rfl, hs, H⟩ := a
  have H' : ∀ (j : Nat) (x : Bool), l[j]? = some x → (acs.drop (j * 1)).take 1 = [.bool x] := fun j x hj => H j x ((nth_eq l j).trans hj)
  have e : acs = bo l := map_of_bools l acs (by have h1 : acs.length = l.length * 1 := hs.1; omega) (fun j x hj => by have := H' j x hj; rwa [Nat.mul_one] at this)
  exact ⟨v, rfl, e ▸ hs⟩
theorem argBools {l : List Sh} {h : Heap} {x : ArgsT (.slice .bool :: l)} {vs : List Value} (a : ArgsK (.slice .bool :: l) h x vs) :
    ∃ (n : List Bool) (r : ArgsT l) (v : Value) (vr : List Value), vs = v :: vr ∧ Sl h v 1 n.length (bo n) ∧ ArgsK l h r vr := by
  obtain ⟨v, vr, rfl, h1, h2⟩ := a
  obtain ⟨v', h3, h4⟩ := slBools (cs := [v]) h1
  injection h3 with h3
  subst h3
  exact ⟨x.1, x.2, v, vr, rfl, h4, h2⟩
set_option maxHeartbeats 32000000 in
theorem commitCrash_walk {h : Heap} {b_ s_ cut_ c : Int} {lv kv : Value} {l : List Int} {keep : List Bool} (sl : Sl h lv 1 l.length (is l)) (sk : Sl h kv 1 keep.length (bo keep)) (hc : 0 ≤ c ∧ c < 256) : RunF prog 11 [.int .i64 b_, .int .i64 s_, .int .i64 cut_, lv, kv, .int .u8 c] h fun v _ => v = .bool true := by
  have sl0 := sl
  have sk0 := sk
  obtain ⟨A, c_, rfl, _, _⟩ := sl.form
  obtain ⟨kA, kc, rfl, _, _⟩ := sk.form
  refine RunF.walk func11 rfl rfl ?_
  refine RunC.seq (RunC.region (RunO.all rfl ?_))
  refine RunC.seq (RunC.seq (RunC.region (RunO.part 3 rfl ?_)))
  by_cases hL : (l.length : Int) > 40
  · rw [decide_eq_true hL]
    refine RunO.all rfl (RunC.cond rfl (fun _ => ?_) (fun g => by cases g))
    exact RunC.seq (RunC.region (RunO.all rfl (RunC.ret ⟨_, rfl, rfl⟩)))
  rw [decide_eq_false hL]
  refine RunO.part 3 rfl ?_
  refine RunO.part 1 rfl ?_
  by_cases hK : (keep.length : Int) > 100
  · rw [decide_eq_true hK]
    refine RunO.all rfl (RunC.cond rfl (fun _ => ?_) (fun g => by cases g))
    exact RunC.seq (RunC.region (RunO.all rfl (RunC.ret ⟨_, rfl, rfl⟩)))
  rw [decide_eq_false hK]
  refine RunO.all rfl (RunC.cond rfl (fun g => by cases g) (fun _ => RunC.skip ?_))
  obtain ⟨hb0, hb1⟩ := modU b_ 40 (by decide)
  obtain ⟨B, hB⟩ := Int.eq_ofNat_of_zero_le hb0
  obtain ⟨hs0, hs1⟩ := modU s_ 513 (by decide)
  obtain ⟨sz, hs⟩ := Int.eq_ofNat_of_zero_le hs0
  refine RunC.seq (RunC.region (RunO.part 2 rfl ?_))
  rw [fwu64']
  refine RunO.part 1 rfl ?_
  rw [hB]
  refine RunO.part 1 rfl ?_
  rw [fw64 (x := (B : Int)) (by omega) (by omega)]
  refine RunO.part 1 rfl ?_
  rw [fw64 (x := 8 + (B : Int)) (by omega) (by omega), show 8 + (B : Int) = ((8 + B : Nat) : Int) by omega]
  refine RunO.part 2 rfl ?_
  rw [fwu64']
  refine RunO.part 1 rfl ?_
  rw [hs]
  refine RunO.part 1 rfl ?_
  rw [fw64 (x := (sz : Int)) (by omega) (by omega)]
  refine RunO.all rfl ?_
  have hB8 : 8 ≤ 8 + B := by omega
  have hB47 : 8 + B ≤ 47 := by omega
  have hsz : sz ≤ 512 := by omega
  generalize 8 + B = B at *
  clear hb0 hb1 hs0 hs1 hB hs
  -- the image
  refine RunC.seq (RunC.region (RunO.part 1 rfl ?_))
  refine RunO.callD (openNew_ok (B := B) (by omega) (by omega)) rfl rfl rfl ?_
  rintro _ h1 ⟨f1, ib, hib, rfl, oi⟩
  obtain ⟨k1, k2, k3⟩ := lk_new (B := B) (by omega) (by omega)
  have hpk := pick_new (B := B) (by omega) (by omega)
  have hnl := newI_len (B := B) (by omega)
  have k0 : (lk (newI B)).2 = 0 := by rw [k1]
  have sli := sl_own oi hnl (Cp.exc (Nat.le_refl _)) (by omega)
  refine RunO.all rfl ?_
  refine RunC.seq (RunC.region (RunO.part 1 rfl ?_))
  refine RunO.callD (openOpen_ok sli (newI_byt B) (by omega)) rfl rfl rfl ?_
  rintro _ h2 ⟨f2, ⟨_, rv, rfl, rl⟩ | ⟨g, _⟩⟩
  case inr => exact absurd k0 g
  rw [k3, hpk]
  refine RunO.part 4 (h1 := h2.push ⟨(stc (0, 0, 0, 0, 0) 0 (.slice none 0 0)), true⟩) rfl ?_
  refine RunO.store rfl rfl (store_ow (s := 7) (Ow.push h2 (stc (0, 0, 0, 0, 0) 0 (.slice none 0 0))) rfl rfl (stc_cells rl) (Nat.le_of_ble_eq_true rfl)) (RunO.all rfl ?_)
  rw [stc_store]
  have os : Ow ((h2.push ⟨(stc (0, 0, 0, 0, 0) 0 (.slice none 0 0)), true⟩).put h2.next (some ⟨(stc (1, (B : Int), 0, 0, 0) 0 rv), true⟩)) h2.next (stc (1, (B : Int), 0, 0, 0) 0 rv) := Ow.put _ (Nat.lt_succ_self _)
  have f3 : Fr no h2 ((h2.push ⟨(stc (0, 0, 0, 0, 0) 0 (.slice none 0 0)), true⟩).put h2.next (some ⟨(stc (1, (B : Int), 0, 0, 0) 0 rv), true⟩)) := (Fr.push _ _ _).trans (Fr.put (m := (· = h2.next)) _ (.inl rfl)) (fun j hj => .inr (by omega))
  show RunC prog _ _ _ ((h2.push ⟨(stc (0, 0, 0, 0, 0) 0 (.slice none 0 0)), true⟩).put h2.next (some ⟨(stc (1, (B : Int), 0, 0, 0) 0 rv), true⟩)) _ _ _
  generalize (h2.push ⟨(stc (0, 0, 0, 0, 0) 0 (.slice none 0 0)), true⟩).put h2.next (some ⟨(stc (1, (B : Int), 0, 0, 0) 0 rv), true⟩) = h3 at *
  generalize h2.next = sb at *
  have F3 := (f1.same f2).same f3
  have oi3 := (oi.fr f2 (fun g => g)).fr f3 (fun g => g)
  refine RunC.seq (RunC.region (RunO.all rfl ?_))
  refine RunC.seq (RunC.seq (RunC.region (RunO.all rfl ?_)))
  refine RunC.block ?_
  refine RunC.loop (fun d E h' => ∃ (i : Nat) (wv : Value), i + d = l.length ∧ Fr no h3 h' ∧ IoW h3.next h' wv (wCr B c l i) ∧ Le ((upd (upd (upd (upd (upd (upd (upd (upd (upd (upd (upd (upd E0 0 (.int .i64 (B : Int))) 1 (.int .i64 (sz : Int))) 2 (.int .i64 cut_)) 3 (.slice A l.length c_)) 4 (.slice kA keep.length kc)) 5 (.int .u8 c)) 13 (.slice (some ⟨ib, 0, none⟩) (B * 64) (exc (B * 64)))) 14 (.int .i64 0)) 15 (.pointer (some ⟨sb, 0, none⟩))) 16 (.int .i64 0)) 17 (wv)) 18 (.int .i64 (i : Int)))) E) ?st (k := l.length) ?ini
  case ini => exact ⟨0, .slice none 0 0, by omega, Fr.refl _ _, IoW.nil _ _, Le.cons rfl (Le.cons rfl (Le.cons rfl (Le.cons rfl (Le.cons rfl (Le.cons rfl (Le.cons rfl (Le.cons rfl (Le.cons rfl (Le.cons rfl (Le.cons rfl (Le.cons rfl (Le.nil _))))))))))))⟩
  rintro d E g1 ⟨i, wv, hi, fg, iow, hE⟩
  refine RunC.le hE ?_
  clear hE
  refine RunC.seq (RunC.seq (RunC.region (RunO.all rfl ?_)))
  refine RunC.cond rfl (fun hlt => RunC.skip ?go) (fun hge => RunC.exit ?ex)
  case go =>
    have hlt := of_decide_eq_true hlt
    have hlt : i < l.length := by omega
    have hwv := fun b g => (iow.at (b := b) g).2
    have hwl := wCr_len B c l i
    have hws := wCr_succ B c l i
    have hpt := ig_at (l := l) hlt
    have hat : 2 + (l.getD i 0 % 18446744073709551616).tmod ((B : Int) - 2) = atC B (l.getD i 0) := rfl
    obtain ⟨hr1, hr2⟩ := atC_rng hB8 (l.getD i 0)
    generalize l.getD i 0 = x at *
    refine RunC.seq (RunC.block ?_)
    refine RunC.seq (RunC.region ?_)
    refine RunO.make (m := 64) rfl rfl rfl rfl rfl rfl (Nat.le_of_ble_eq_true rfl) (by decide) rfl ?_
    rw [reps_us]
    have od := Ow.push g1 (us (List.replicate 64 0))
    have e1 : Fr no g1 (g1.push ⟨us (List.replicate 64 0), true⟩) := Fr.push _ _ _
    generalize g1.push ⟨us (List.replicate 64 0), true⟩ = g2 at *
    obtain ⟨db, hdb⟩ : ∃ q, q = g1.next := ⟨_, rfl⟩
    rw [← hdb] at od hwv ⊢
    refine RunO.all rfl ?_
    refine RunC.seq (RunC.region (RunO.part 3 rfl ?_))
    rw [tmod64]
    refine RunO.part 1 rfl ?_
    refine RunO.index (s := 1) (k := i % 64) rfl rfl rfl rfl (Nat.mod_lt _ (by decide)) rfl ?_
    refine RunO.store rfl rfl (store1_ow od rfl rfl rfl (by rw [us_len, List.length_replicate, Nat.zero_add, Nat.mul_one]; exact Nat.mod_lt _ (by decide))) (RunO.nil ?_)
    rw [uset2]
    have od2 : Ow (g2.put db (some ⟨us (dtC c i), true⟩)) db (us (dtC c i)) := Ow.put _ od.1
    have e2 : Fr no g1 (g2.put db (some ⟨us (dtC c i), true⟩)) := e1.trans (Fr.put (m := (· = db)) _ (.inl rfl)) (fun b e => .inr (by have e : b = db := e; omega))
    show RunC prog _ _ _ (g2.put db (some ⟨us (dtC c i), true⟩)) _ _ _
    generalize g2.put db (some ⟨us (dtC c i), true⟩) = g3 at *
    have iow3 := iow.fr0 e2
    obtain ⟨hdl, hdb_⟩ := dtC_ok hc i
    refine RunC.region (RunO.part 3 rfl ?_)
    refine RunO.at (s := 1) (k := i) rfl rfl (((sl0.fr0 F3).fr0 fg).fr0 e2) rfl rfl hlt hpt rfl rfl rfl ?_
    refine RunO.part 3 rfl ?_
    rw [fwu64', fw64 (x := (B : Int) - 2) (by omega) (by omega)]
    refine RunO.part 1 rfl ?_
    rw [fwu64 (x := (B : Int) - 2) (by omega) (by omega)]
    refine RunO.one (v := .int .u64 ((x % 18446744073709551616).tmod ((B : Int) - 2))) (E1 := upd _ 77 _) (h1 := g3) rfl ?_ rfl ?_
    · show pureR g3 (cond (decide ((B : Int) - 2 = 0)) none (some (Value.int .u64 ((x % 18446744073709551616).tmod ((B : Int) - 2))))) = _
      rw [decide_eq_false (show ¬ ((B : Int) - 2 = 0) by omega)]; rfl
    refine RunO.part 1 rfl ?_
    rw [fw64 (x := (x % 18446744073709551616).tmod ((B : Int) - 2)) (by omega) (by omega)]
    refine RunO.part 1 rfl ?_
    rw [fw64 (x := 2 + (x % 18446744073709551616).tmod ((B : Int) - 2)) (by omega) (by omega), hat]
    refine RunO.part 3 (h1 := g3.push ⟨[.int .i64 1, .int .i64 (atC B x), .slice (some ⟨db, 0, none⟩) 64 (exc 64)], true⟩) rfl ?_
    have ot := Ow.push g3 [.int .i64 1, .int .i64 (atC B x), .slice (some ⟨db, 0, none⟩) 64 (exc 64)]
    have e3 : Fr no g3 (g3.push ⟨[.int .i64 1, .int .i64 (atC B x), .slice (some ⟨db, 0, none⟩) 64 (exc 64)], true⟩) := Fr.push _ _ _
    replace iow3 := iow3.fr0 e3
    replace od2 := od2.fr e3 (fun g => g)
    have E3 := (fg.same e2).same e3
    generalize g3.push ⟨[.int .i64 1, .int .i64 (atC B x), .slice (some ⟨db, 0, none⟩) 64 (exc 64)], true⟩ = g4 at *
    obtain ⟨acs, row, kk⟩ := iow3
    refine RunO.appendG (s := 3) (j := 1) rfl rfl rfl rfl rfl rfl rfl rfl (by decide) row.gr ot.all rfl (Nat.le_refl 1) rfl (by show 2 * (_ + 1) * 40 ≤ _; omega) (by omega) ?_
    intro wv2 g5 row2 e4
    have hsd : Sl g4 (.slice (some ⟨db, 0, none⟩) 64 (exc 64)) 1 (dtC c i).length (us (dtC c i)) := by rw [hdl]; exact od2.all.sl (by rw [us_len, hdl]) (by decide) (Cp.exc (Nat.le_refl _))
    have fin := IoW.app (ys := [((1 : Int), atC B x, dtC c i, ())]) row kk rfl (fun j y hy => by
      match j, hy with
      | 0, hy =>
        cases hy
        exact ⟨_, rfl, hsd, hdb_, fun b o c e a => by injection e with e1; injection e1 with e1; injection e1 with e1; have := hwv b a; omega⟩
      | j + 1, hy => simp at hy) row2 e4 E3.next
    rw [← hws] at fin
    refine RunO.all rfl ?_
    refine RunC.region (RunO.all rfl ?_)
    exact ⟨d - 1, by omega, i + 1, wv2, by omega, E3.trans e4 (fun b g => .inr (row.at g).1), fin, Le.cons (inc64 (by omega)) (Le.cons rfl (Le.cons rfl (Le.cons rfl (Le.cons rfl (Le.cons rfl (Le.cons rfl (Le.cons rfl (Le.cons rfl (Le.cons rfl (Le.cons rfl (Le.cons rfl (Le.nil _))))))))))))⟩
  have hge := of_decide_eq_false hge
  obtain rfl : i = l.length := by omega
  have hwo := wCr_ok (l := l) (k := l.length) hB8 hc
  have hWl := wCr_len B c l l.length
  generalize wCr B c l l.length = W at *
  have iosw := iow.ios (by omega)
  obtain ⟨wA, wc, rfl⟩ : ∃ a b, wv = .slice a W.length b := by
    obtain ⟨acs, row, _⟩ := iow
    obtain ⟨a, b, e, _⟩ := (row.sl (by omega)).form
    exact ⟨a, b, e⟩
  have os1 := os.fr fg (fun g => g)
  have hok2 : superOk (1 + 1) (B : Int) 0 (sz : Int) 0 = true := (superOk_iff _ _ _ _ _).2 ⟨by omega, by omega, by omega, .inl rfl, .inl rfl⟩
  refine RunC.seq (RunC.region ?_)
  refine RunO.load (v := .agg ⟨(stc (1, (B : Int), 0, 0, 0) 0 rv)⟩) rfl (os1.ld rfl) rfl ?_
  refine RunO.part 2 rfl ?_
  refine RunO.callD (commitSteps_ok (s := (1, (B : Int), 0, 0, 0)) (slot := 0) (root := 0) (size := (sz : Int)) (first := 0) iosw (by omega) (ok_new (by omega) (by omega)) (by show (1 : Int) < _; decide) (.inl rfl) hok2 (fun x hx => by
    obtain ⟨a1, a2, a3, a4, _⟩ := hwo x hx
    exact ⟨a1, a2, a3, a4⟩)) rfl rfl rfl ?_
  rintro _ g2 ⟨f4, xv, rfl, iox⟩
  have hxl : (W ++ cmtT (1, (B : Int), 0, 0, 0) 0 0 (sz : Int) 0).length = W.length + 3 := by rw [List.length_append]; rfl
  have iosx := iox.ios (by omega)
  obtain ⟨xA, xc, rfl⟩ : ∃ a b, xv = .slice a (W.length + 3) b := by
    obtain ⟨acs, row, _⟩ := iox
    obtain ⟨a, b, e, _⟩ := (row.sl (by omega)).form
    rw [hxl] at e
    exact ⟨a, b, e⟩
  refine RunO.all rfl ?_
  refine RunC.seq (RunC.seq (RunC.region (RunO.part 16 rfl ?_)))
  rw [fw64 (x := (W.length : Int) + 3) (by omega) (by omega), show (W.length : Int) + 3 = ((W.length + 3 : Nat) : Int) by omega]
  refine RunO.part 1 rfl ?_
  rw [show (((W.length + 3 : Nat) : Int) != ((W.length + 3 : Nat) : Int)) = false from bne_self_eq_false _]
  refine RunO.all rfl (RunC.cond rfl (fun g => by cases g) (fun _ => RunC.skip ?_))
  -- the cut
  obtain ⟨hc0, hc1⟩ := modU cut_ ((W.length + 3 : Nat) + 1 : Int) (by omega)
  obtain ⟨cut, hcut⟩ := Int.eq_ofNat_of_zero_le hc0
  rw [hcut] at hc1
  have hcl : cut ≤ W.length + 3 := by omega
  refine RunC.seq (RunC.region (RunO.part 2 rfl ?_))
  rw [fwu64']
  refine RunO.part 3 rfl ?_
  rw [fw64 (x := ((W.length + 3 : Nat) : Int) + 1) (by omega) (by omega)]
  refine RunO.part 1 rfl ?_
  rw [fwu64 (x := ((W.length + 3 : Nat) : Int) + 1) (by omega) (by omega)]
  refine RunO.one (v := .int .u64 ((cut_ % 18446744073709551616).tmod (((W.length + 3 : Nat) : Int) + 1))) (E1 := upd _ 115 _) (h1 := g2) rfl ?_ rfl ?_
  · show pureR g2 (cond (decide (((W.length + 3 : Nat) : Int) + 1 = 0)) none (some (Value.int .u64 ((cut_ % 18446744073709551616).tmod (((W.length + 3 : Nat) : Int) + 1))))) = _
    rw [decide_eq_false (show ¬ (((W.length + 3 : Nat) : Int) + 1 = 0) by omega)]; rfl
  rw [hcut]
  refine RunO.part 1 rfl ?_
  rw [fw64 (x := (cut : Int)) (by omega) (by omega)]
  refine RunO.all rfl ?_
  -- the crash
  have Fg := fg.same f4
  have si := (sl_own (oi3.fr Fg (fun g => g)) hnl (Cp.exc (Nat.le_refl _)) (by omega) : Sl g2 (.slice (some ⟨ib, 0, none⟩) (B * 64) (exc (B * 64))) 1 (newI B).length (us (newI B)))
  have hwr : ∀ x ∈ W, wrG (B * 64) x := fun x hx => by
    obtain ⟨a1, a2, a3, a4, a5⟩ := hwo x hx
    exact ⟨a1, ⟨x.2.1.toNat, by omega, Nat.mul_le_mul_right 64 (by omega)⟩, a4, a5⟩
  have hdv := devOk_mul (B := B) (by omega) (by omega)
  have hst := st_cmt (n := B * 64) (W := W) (s := (1, (B : Int), 0, 0, 0)) (slot := 0) (root := 0) (size := (sz : Int)) (first := 0) hdv (.inl rfl) (by omega) hwr
  have hst : stepsE (newI B).length (W ++ cmtT (1, (B : Int), 0, 0, 0) 0 0 (sz : Int) 0) = 0 := by rw [hnl]; exact hst
  have hwx : ∀ x ∈ W ++ cmtT (1, (B : Int), 0, 0, 0) 0 0 (sz : Int) 0, x.1 = 1 → wrG (newI B).length x := fun x hx h1 => by
    rw [hnl]
    rcases List.mem_append.1 hx with g | g
    · exact hwr x g
    · unfold cmtT at g
      rcases List.mem_cons.1 g with rfl | g
      · exact absurd h1 (by decide)
      rcases List.mem_cons.1 g with rfl | g
      · exact ⟨rfl, ⟨1, rfl, Nat.mul_le_mul_right 64 (by omega)⟩, superBlock_len .., superBlock_byt _ _ _ _ _⟩
      · rw [List.mem_singleton] at g
        rw [g] at h1
        exact absurd h1 (by decide)
  have sk2 := (sk0.fr0 F3).fr0 Fg
  refine RunC.seq (RunC.region (RunO.part 4 rfl ?_))
  refine RunO.callD (devCrash_ok (cut := cut) si (newI_byt B) (by omega) (by rw [hnl]; exact hdv) iosx hst hwx (by omega) (by omega) sk2 (by omega)) rfl rfl rfl ?_
  rintro _ g3 ⟨f5, ob, oc, Y, hob, rfl, hoc, oy, v⟩
  have v : CrI (newI B) (W ++ cmtT (1, (B : Int), 0, 0, 0) ((0 : Nat) : Int) 0 (sz : Int) 0) cut ((idxs (flP ((W ++ cmtT (1, (B : Int), 0, 0, 0) ((0 : Nat) : Int) 0 (sz : Int) 0).take cut)) cut).getLast?.getD (-1)) Y := v
  have law := crash_law hB8 (by omega) hwo hok2 hcl v
  have hYl := v.len
  have hYb := v.byt
  clear v
  rw [hnl] at hoc hYl ⊢
  refine RunO.all rfl ?_
  have hpc : ∀ s sl, pickS Y = (s, sl, true) → pickCode Y = 0 := fun s sl e => by unfold pickCode; rw [hYl, hdv, e]; rfl
  have hpick := superPick_ok (h := g3) (A := some ⟨ob, 0, none⟩) (c := oc) (l := Y) (fun _ => ⟨_, rfl, oy.all⟩) hYb (by rw [hYl]; exact hoc) (by omega)
  rw [hYl] at hpick
  have os3 := ((os1.fr f4 (fun g => g)).fr f5 (fun g => g))
  refine RunC.seq (RunC.region (RunO.part 1 rfl ?_))
  refine RunO.callD hpick rfl rfl rfl ?_
  rintro _ g4 ⟨rfl, f6⟩
  replace os3 := os3.fr f6 (fun g => g)
  -- the superblock that stands
  obtain ⟨s, slot, hps, hcase⟩ : ∃ (s : S5) (slot : Int), pickS Y = (s, slot, true) ∧ ((s = (1, (B : Int), 0, 0, 0) ∧ slot = 0 ∧ cut ≠ W.length + 3) ∨ (s = (1 + 1, (B : Int), 0, (sz : Int), 0) ∧ slot = 1 ∧ W.length + 1 < cut)) := by
    rcases law with ⟨e, g⟩ | ⟨e, g⟩
    · exact ⟨_, _, e, .inl ⟨rfl, rfl, g⟩⟩
    · exact ⟨_, _, e, .inr ⟨rfl, rfl, g⟩⟩
  have hpc0 := hpc _ _ hps
  rw [hpc0, if_pos rfl, if_pos rfl, hps]
  refine RunO.part 5 (h1 := g4.push ⟨sc 0 0 0 0 0, true⟩) rfl ?_
  refine RunO.store rfl rfl (store_ow (s := 5) (Ow.push g4 (sc 0 0 0 0 0)) rfl rfl rfl (Nat.le_refl 5)) (RunO.all rfl ?_)
  have op : Ow ((g4.push ⟨sc 0 0 0 0 0, true⟩).put g4.next (some ⟨sc5 s, true⟩)) g4.next (sc5 s) := Ow.put _ (Nat.lt_succ_self _)
  have f7 : Fr no g4 ((g4.push ⟨sc 0 0 0 0 0, true⟩).put g4.next (some ⟨sc5 s, true⟩)) := (Fr.push _ _ _).trans (Fr.put (m := (· = g4.next)) _ (.inl rfl)) (fun j hj => .inr (by omega))
  replace os3 := os3.fr f7 (fun g => g)
  show RunC prog _ _ _ ((g4.push ⟨sc 0 0 0 0 0, true⟩).put g4.next (some ⟨sc5 s, true⟩)) _ _ _
  generalize (g4.push ⟨sc 0 0 0 0 0, true⟩).put g4.next (some ⟨sc5 s, true⟩) = g5 at *
  generalize g4.next = pb at *
  refine RunC.seq (RunC.seq (RunC.region (RunO.all rfl (RunC.cond rfl (fun g => by cases g) (fun _ => RunC.skip ?_)))))
  rcases hcase with ⟨rfl, rfl, hne⟩ | ⟨rfl, rfl, hgt⟩
  · refine RunC.seq (RunC.region ?_)
    refine RunO.load (v := .agg ⟨sc 1 (B : Int) 0 0 0⟩) rfl (op.ld rfl) rfl ?_
    refine RunO.part 1 rfl ?_
    refine RunO.load (v := .agg ⟨sc 1 (B : Int) 0 0 0⟩) rfl (os3.ld rfl) rfl ?_
    refine RunO.bin (v := .bool true) rfl rfl (by rw [super_eq]; simp) rfl ?_
    refine RunO.part 3 rfl ?_
    refine RunO.loadG (v := .int .i64 0) rfl rfl (os3.ld rfl) rfl ?_
    refine RunO.all rfl ?_
    refine RunC.seq (RunC.region (RunO.part 1 rfl ?_))
    refine RunO.load (v := .int .i64 1) rfl (op.ld rfl) rfl ?_
    refine RunO.part 2 rfl ?_
    refine RunO.load (v := .int .i64 1) rfl (os3.ld rfl) rfl ?_
    refine RunO.all rfl ?_
    refine RunC.seq (RunC.block ?_)
    refine RunC.seq (RunC.region (RunO.part 4 rfl ?_))
    rw [show ((cut : Int) == ((W.length + 3 : Nat) : Int)) = false from beq_eq_false_iff_ne.2 (by omega)]
    refine RunO.all rfl (RunC.cond rfl (fun g => by cases g) (fun _ => ?_))
    refine RunC.seq (RunC.region (RunO.part 4 rfl ?_))
    rw [fw64 (x := (W.length : Int) + 1) (by omega) (by omega)]
    refine RunO.part 1 rfl ?_
    by_cases hle : (cut : Int) ≤ (W.length : Int) + 1
    · rw [decide_eq_true hle]
      refine RunO.all rfl (RunC.cond rfl (fun _ => ?_) (fun g => by cases g))
      refine RunC.seq (RunC.region (RunO.part 2 rfl ?_))
      refine RunO.callDG rfl wakes15_ok rfl rfl rfl ?_
      rintro _ h9 ⟨rfl, f9⟩
      exact RunO.all rfl (RunC.ret ⟨_, rfl, rfl⟩)
    · rw [decide_eq_false hle]
      refine RunO.all rfl (RunC.cond rfl (fun g => by cases g) (fun _ => RunC.skip ?_))
      refine RunC.seq (RunC.region (RunO.part 5 rfl ?_))
      refine RunO.callDG rfl wakes15_ok rfl rfl rfl ?_
      rintro _ h9 ⟨rfl, f9⟩
      exact RunO.all rfl (RunC.ret ⟨_, rfl, rfl⟩)
  · refine RunC.seq (RunC.region ?_)
    refine RunO.load (v := .agg ⟨sc (1 + 1) (B : Int) 0 (sz : Int) 0⟩) rfl (op.ld rfl) rfl ?_
    refine RunO.part 1 rfl ?_
    refine RunO.load (v := .agg ⟨sc 1 (B : Int) 0 0 0⟩) rfl (os3.ld rfl) rfl ?_
    refine RunO.bin (v := .bool false) rfl rfl (by rw [super_eq]; simp) rfl ?_
    refine RunO.all rfl ?_
    refine RunC.seq (RunC.region (RunO.part 1 rfl ?_))
    refine RunO.load (v := .int .i64 (1 + 1)) rfl (op.ld rfl) rfl ?_
    refine RunO.part 2 rfl ?_
    refine RunO.load (v := .int .i64 1) rfl (os3.ld rfl) rfl ?_
    refine RunO.part 4 rfl ?_
    refine RunO.loadG (v := .int .i64 (sz : Int)) rfl rfl (op.ld rfl) rfl ?_
    refine RunO.part 2 rfl ?_
    rw [beq_self_eq_true (sz : Int)]
    refine RunO.part 4 rfl ?_
    refine RunO.loadG (v := .int .i64 0) rfl rfl (os3.ld rfl) rfl ?_
    refine RunO.all rfl ?_
    refine RunC.seq (RunC.block ?_)
    refine RunC.seq (RunC.region (RunO.part 4 rfl ?_))
    by_cases hce : cut = W.length + 3
    · rw [show ((cut : Int) == ((W.length + 3 : Nat) : Int)) = true from beq_iff_eq.2 (by omega)]
      refine RunO.all rfl (RunC.cond rfl (fun _ => ?_) (fun g => by cases g))
      refine RunC.seq (RunC.region (RunO.part 2 rfl ?_))
      refine RunO.callDG rfl wakes15_ok rfl rfl rfl ?_
      rintro _ h9 ⟨rfl, f9⟩
      exact RunO.all rfl (RunC.ret ⟨_, rfl, rfl⟩)
    rw [show ((cut : Int) == ((W.length + 3 : Nat) : Int)) = false from beq_eq_false_iff_ne.2 (by omega)]
    refine RunO.all rfl (RunC.cond rfl (fun g => by cases g) (fun _ => ?_))
    refine RunC.seq (RunC.region (RunO.part 4 rfl ?_))
    rw [fw64 (x := (W.length : Int) + 1) (by omega) (by omega)]
    refine RunO.part 1 rfl ?_
    rw [decide_eq_false (show ¬ ((cut : Int) ≤ (W.length : Int) + 1) by omega)]
    refine RunO.all rfl (RunC.cond rfl (fun g => by cases g) (fun _ => RunC.skip ?_))
    refine RunC.seq (RunC.region (RunO.part 5 rfl ?_))
    refine RunO.callDG rfl wakes15_ok rfl rfl rfl ?_
    rintro _ h9 ⟨rfl, f9⟩
    exact RunO.all rfl (RunC.ret ⟨_, rfl, rfl⟩)
theorem commitCrash_true : ∀ h xs avs, ArgsK [.int .i64, .int .i64, .int .i64, .slice (.int .i64), .slice .bool, .int .u8] h xs avs → RunF prog 11 avs h fun v _ => v = .bool true := by
  intro h xs avs ha
  obtain ⟨a, _, _, rfl, _, ha⟩ := argInt ha
  obtain ⟨b, _, _, rfl, _, ha⟩ := argInt ha
  obtain ⟨c, _, _, rfl, _, ha⟩ := argInt ha
  obtain ⟨l, _, lv, _, rfl, sl, _, ha⟩ := argInts ha
  obtain ⟨k, _, kv, _, rfl, sk, ha2⟩ := argBools ha
  obtain ⟨x, _, _, rfl, hx, ha3⟩ := argInt ha2
  obtain rfl := argNil ha3
  exact commitCrash_walk sl sk (wf_u8 hx)
end Go.Proofs.Ytcbakhanpiemhaa
end
