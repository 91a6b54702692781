/- Super2: part of a calculus over an abstract machine that stands beside the model, and contracts of functions by it.
Conditions: what each theorem says of its arguments. -/
import Derived.Test.YtaaemamcdhebhaaSuper
set_option linter.unusedVariables false
set_option maxRecDepth 100000
open Go Go.Am
namespace Go.Proofs.Ytaaemamcdhebhaa
open Go.Proofs.Try
def ns (l : List Nat) : List Value := l.map (fun n => Value.int .i64 (n : Nat))
def is (l : List Int) : List Value := l.map (Value.int .i64)
theorem ns_len (l : List Nat) : (ns l).length = l.length := List.length_map _
theorem is_len (l : List Int) : (is l).length = l.length := List.length_map _
theorem ns_nth {l : List Nat} {i : Nat} (h : i < l.length) : nth (ns l) i = some (.int .i64 (l[i] : Nat)) := by
  rw [nth_eq, ns, List.getElem?_map, List.getElem?_eq_getElem h]; rfl
theorem is_nth {l : List Int} {i : Nat} (h : i < l.length) : nth (is l) i = some (.int .i64 l[i]) := by
  rw [nth_eq, is, List.getElem?_map, List.getElem?_eq_getElem h]; rfl
/-- Fields side by side from a place on. -/
def layF : Nat → List Nat → List (Nat × Nat)
  | _, [] => []
  | a, s :: t => (a, s) :: layF (a + s) t
theorem layF_len : ∀ (l : List Nat) (a : Nat), (layF a l).length = l.length
  | [], a => rfl
  | s :: t, a => by rw [layF, List.length_cons, layF_len t]; rfl
theorem layF_snoc : ∀ (l : List Nat) (a x : Nat), layF a (l ++ [x]) = layF a l ++ [(a + l.sum, x)]
  | [], a, x => by simp [layF]
  | s :: t, a, x => by simp only [List.cons_append, layF, layF_snoc t, List.sum_cons, Nat.add_assoc]
def fcs : List (Nat × Nat) → List Value
  | [] => []
  | (a, s) :: t => .int .i64 (a : Nat) :: .int .i64 (s : Nat) :: fcs t
theorem fcs_len : ∀ l, (fcs l).length = 2 * l.length
  | [] => rfl
  | (a, s) :: t => by simp only [fcs, List.length_cons, fcs_len t]; omega
theorem fcs_snoc : ∀ (l : List (Nat × Nat)) (a s : Nat), fcs (l ++ [(a, s)]) = fcs l ++ [.int .i64 (a : Nat), .int .i64 (s : Nat)]
  | [], a, s => rfl
  | (b, t) :: l, a, s => by simp only [List.cons_append, fcs, fcs_snoc l]
theorem fcs_drop : ∀ (l : List (Nat × Nat)) (i : Nat) (h : i < l.length), (fcs l).drop (2 * i) = .int .i64 (l[i].1 : Nat) :: .int .i64 (l[i].2 : Nat) :: fcs (l.drop (i + 1))
  | [], i, h => absurd h (by simp)
  | (a, s) :: t, 0, h => by simp [fcs]
  | (a, s) :: t, i + 1, h => by
    have h' : i < t.length := by simpa using h
    rw [show 2 * (i + 1) = 2 * i + 1 + 1 by omega]
    simp only [fcs, List.drop_succ_cons, fcs_drop t i h', List.getElem_cons_succ]
theorem sum_le {l : List Nat} (h : ∀ x ∈ l, x ≤ 8) : l.sum ≤ 8 * l.length := by
  induction l with
  | nil => simp
  | cons x t ih =>
    have h1 := h x (List.mem_cons_self ..)
    have h2 := ih (fun y hy => h y (List.mem_cons_of_mem _ hy))
    simp only [List.sum_cons, List.length_cons]; omega
theorem superLayout_ok {h : Heap} {a : Addr} {c : Nat} {ss : List Nat} (rd : Rd h a (ns ss)) (hs : ∀ x ∈ ss, x ≤ 8) (hl : ss.length ≤ 1000) :
    RunF prog 69 [.slice (some a) ss.length c] h fun v h' => Row h.next h' v 2 ss.length (fcs (layF 4 ss)) ∧ Fr no h h' := by
  obtain ⟨b, o, sp⟩ := a
  have hsp : sp = none := rd.1
  subst hsp
  refine RunF.walk func69 rfl rfl ?_
  refine RunC.seq (RunC.region (RunO.all rfl ?_))
  refine RunC.seq (RunC.region (RunO.all rfl ?_))
  refine RunC.seq (RunC.region (RunO.all rfl ?_))
  refine RunC.seq (RunC.seq (RunC.region (RunO.all rfl ?_)))
  refine RunC.block ?_
  let I : Nat → Env → Heap → Prop := fun d E h' => ∃ (i : Nat) (v : Value), i + d = ss.length ∧ Row h.next h' v 2 i (fcs (layF 4 (ss.take i))) ∧ Fr (fun b => h.next ≤ b) h h' ∧ Le (upd (upd (upd (upd (upd E0 3 v) 4 (.int .i64 (4 + (ss.take i).sum : Nat))) 7 (.slice (some ⟨b, o, none⟩) ss.length c)) 8 (.int .i64 ss.length)) 9 (.int .i64 i)) E
  refine RunC.loop I ?_ (k := ss.length) ?_
  · rintro d E h' ⟨i, v, hi, hrow, hf, hE⟩
    refine RunC.le hE ?_
    clear hE
    have hsum : (ss.take i).sum ≤ 8 * 1000 := by
      have := sum_le (l := ss.take i) (fun x hx => hs x (List.mem_of_mem_take hx))
      rw [List.length_take] at this; omega
    refine RunC.seq (RunC.region (RunO.all rfl ?_))
    refine RunC.seq (RunC.cond rfl (fun hlt => ?_) (fun hge => ?_))
    · have hlt := of_decide_eq_true hlt
      have hlt2 : i < ss.length := by omega
      refine RunC.skip ?_
      refine RunC.seq (RunC.block ?_)
      refine RunC.seq (RunC.region ?_)
      refine RunO.index (s := 1) rfl rfl rfl rfl hlt2 rfl ?_
      refine RunO.load (v := .int .i64 (ss[i] : Nat)) rfl ((rd.fr hf (by have := rd.2.1; simp only at *; omega)).cell1 (k := i * 1) rfl (by rw [Nat.mul_one]; exact ns_nth hlt2)) rfl ?_
      refine RunO.all rfl ?_
      have hx := hs _ (List.getElem_mem hlt2)
      have htk := List.take_succ_eq_append_getElem hlt2
      generalize ss[i] = x at *
      refine RunC.seq (RunC.region (RunO.part 5 (h1 := h'.push ⟨[.int .i64 (4 + (ss.take i).sum : Nat), .int .i64 (x : Nat)], true⟩) rfl ?_))
      refine RunO.append (s := 2) (lo := h.next) rfl rfl rfl rfl rfl rfl rfl rfl (by decide) (hrow.fr (Fr.push no _ _) (fun _ _ _ g => g)) (Nat.le_trans hf.next (Nat.le_succ _)) (Ow.push _ _).all rfl (by decide) rfl (by show 2 * (i + 1) * 16 ≤ _; omega) (by omega) ?_
      intro v' h2 hrow2 hf2
      refine RunO.all rfl ?_
      refine RunC.region (RunO.all rfl ?_)
      refine RunC.region (RunO.all rfl ?_)
      refine ⟨d - 1, by omega, i + 1, v', by omega, ?_, ?_, ?_⟩
      · rw [htk, layF_snoc, fcs_snoc]; exact hrow2
      · exact (hf.same (Fr.push _ _ _)).trans hf2 (fun b hb => .inl (hrow.at hb).1)
      · refine Le.cons (inc64 (by omega)) (Le.cons rfl (Le.cons rfl (Le.cons ?_ (Le.cons rfl (Le.nil _)))))
        show some (Value.int .i64 (fwrap .i64 (((4 + (ss.take i).sum : Nat) : Int) + (x : Int)))) = _
        rw [fw64 (by omega) (by omega), htk, List.sum_append]
        simp
        omega
    · have hge := of_decide_eq_false hge
      refine RunC.exit ?_
      have : i = ss.length := by omega
      subst this
      rw [List.take_length] at hrow
      exact RunC.seq (RunC.region (RunO.all rfl (RunC.ret ⟨_, rfl, hrow, frNo hf⟩)))
  · exact ⟨0, .slice none 0 0, by omega, Row.nil _ _ _, Fr.refl _ _, Le.cons rfl (Le.cons rfl (Le.cons rfl (Le.cons rfl (Le.cons rfl (Le.nil _)))))⟩
end Go.Proofs.Ytaaemamcdhebhaa
