import Derived.Test.YtaaemamcdhebhaaPNEx0
import Derived.Test.YtaaemamcdhebhaaPNExF14
import Derived.Test.YtaaemamcdhebhaaPNExF46p
import Derived.Test.YtaaemamcdhebhaaPNExF56
import Derived.Test.YtaaemamcdhebhaaPNExF59
import Derived.Test.YtaaemamcdhebhaaPNExF6
import Derived.Test.YtaaemamcdhebhaaNum
import Derived.Test.YtaaemamcdhebhaaRec
import Derived.Test.YtaaemamcdhebhaaBlk2
import Derived.Test.YtaaemamcdhebhaaDneNode
import Derived.Test.YtaaemamcdhebhaaDneKeep
namespace Go.Proofs.Ytaaemamcdhebhaa.PNE
open Go.RowKit Go.Proofs.YtaaemamcdhebhaaW.PrintWords Go.Proofs.YtaaemamcdhebhaaW.PrintLast Go.Proofs.YtaaemamcdhebhaaW.PrintMore
set_option linter.unusedVariables false
set_option linter.unusedSimpArgs false
theorem place_no {s v : Int} (h : ¬ (0 ≤ v ∧ v ≤ 2 ∧ 0 ≤ s ∧ s < under (v.toNat + 1))) : placeE s v = (0, 0, 1) := by
  unfold placeE
  rw [if_neg]
  unfold placeOk
  simp only [Bool.and_eq_true, decide_eq_true_eq]
  intro hh
  exact h ⟨hh.1.1.1, hh.1.1.2, hh.1.2, hh.2⟩
theorem place_yes {s v : Int} (h : 0 ≤ v ∧ v ≤ 2 ∧ 0 ≤ s ∧ s < under (v.toNat + 1)) : placeE s v = (s / under v.toNat, s % under v.toNat, 0) := by
  unfold placeE
  rw [if_pos]
  unfold placeOk
  simp only [Bool.and_eq_true, decide_eq_true_eq]
  exact ⟨⟨⟨h.1, h.2.1⟩, h.2.2.1⟩, h.2.2.2⟩
theorem isPtr_nn {x : Int} (h : Nod.isPtr x = true) : (decide (0 ≤ x) && decide (x ≤ 9223372036854775807)) = true := by
  have := Num.isPtr_b h
  rw [decide_eq_true (by omega), decide_eq_true (by omega)]; rfl
theorem okNode_nn {lv a b c d e f g h : Int} (hk : Nod.okNode lv [a, b, c, d, e, f, g, h] = true) : allNN [lv, a, b, c, d, e, f, g, h] = true := by
  unfold Nod.okNode at hk
  simp only [List.all_cons, List.all_nil, Bool.and_true, Bool.and_eq_true, decide_eq_true_eq] at hk
  obtain ⟨⟨⟨h0, h1⟩, p0, p1, p2, p3, p4, p5, p6, p7⟩, _⟩ := hk
  unfold allNN
  rw [List.all_cons, List.all_cons, List.all_cons, List.all_cons, List.all_cons, List.all_cons, List.all_cons, List.all_cons, List.all_cons, isPtr_nn p0, isPtr_nn p1, isPtr_nn p2, isPtr_nn p3, isPtr_nn p4, isPtr_nn p5, isPtr_nn p6, isPtr_nn p7, decide_eq_true h0, decide_eq_true (show lv ≤ 9223372036854775807 by omega)]
  rfl
section
variable (lv a b c d e f g h : Int)
theorem ne_j4 : Ev (fun k => woodcutlaw07_NodeExact.j4 k (if Nod.okNode lv [a, b, c, d, e, f, g, h] = true then Blk.blk Nod.magic Nod.sizes (lv :: [a, b, c, d, e, f, g, h]) else []) (Nod.chk lv [a, b, c, d, e, f, g, h]) lv a b c d e f g h) true := by
  refine Ev.step (fun k => by rw [woodcutlaw07_NodeExact.j4]) ?_
  have hn : woodcutref01_Node.f lv a b c d e f g h = some (Nod.okNode lv [a, b, c, d, e, f, g, h]) := rfl
  have hc : node_Check.f lv a b c d e f g h = some (Nod.chk lv [a, b, c, d, e, f, g, h]) := rfl
  simp only [hn, hc, wakes07_ok, Option.bind_some]
  rcases Bool.eq_false_or_eq_true (Nod.okNode lv [a, b, c, d, e, f, g, h]) with hk | hk
  · have hb : woodcutref01_NodeBytes.f lv a b c d e f g h = some (Blk.blk Nod.magic Nod.sizes (lv :: [a, b, c, d, e, f, g, h])) := by
      unfold woodcutref01_NodeBytes.f
      rw [if_pos (okNode_nn hk)]
      rfl
    simp only [hk, Nod.chk0 hk, hb, if_true, Option.bind_some]
    refine Ev.bind (keepBytes_same _ (by rw [Num.blk_len hk rfl]; omega)) ?_
    exact Ev.now _
  · simp only [hk, Nod.chk1 hk, if_true, Bool.false_eq_true, if_false, List.length_nil]
    exact Ev.now _
abbrev neB : List Int := if Nod.okNode lv [a, b, c, d, e, f, g, h] = true then Blk.blk Nod.magic Nod.sizes (lv :: [a, b, c, d, e, f, g, h]) else []
abbrev neC : Int := Nod.chk lv [a, b, c, d, e, f, g, h]
theorem ne_j3_no (s span : Int) : Ev (fun k => woodcutlaw07_NodeExact.j3 k s (neB lv a b c d e f g h) (neC lv a b c d e f g h) 0 0 1 span true lv a b c d e f g h) true := by
  refine Ev.step (f := fun k => woodcutlaw07_NodeExact.j4 k (neB lv a b c d e f g h) (neC lv a b c d e f g h) lv a b c d e f g h) (fun k => by rw [woodcutlaw07_NodeExact.j3, if_pos rfl, if_pos rfl, if_pos (show wrap64 ((0 : Int) + 0) = 0 by unfold wrap64; omega)]) ?_
  exact ne_j4 lv a b c d e f g h
theorem ne_j3_yes (s span : Int) (hs : 0 ≤ s) (hm : s < 4096) (h0 : 1 ≤ span) : Ev (fun k => woodcutlaw07_NodeExact.j3 k s (neB lv a b c d e f g h) (neC lv a b c d e f g h) (s / span) (s % span) 0 span false lv a b c d e f g h) true := by
  refine Ev.step (f := fun k => woodcutlaw07_NodeExact.j4 k (neB lv a b c d e f g h) (neC lv a b c d e f g h) lv a b c d e f g h) (fun k => ?_) (ne_j4 lv a b c d e f g h)
  have hd : wrap64 (Int.tdiv s span) = s / span := by
    rw [Int.tdiv_eq_ediv_of_nonneg hs]
    have h1 : 0 ≤ s / span := Int.ediv_nonneg hs (by omega)
    have h2 : s / span ≤ s := Int.ediv_le_self _ hs
    exact w64' (by omega) (by omega)
  have hr : Int.tmod s span = s % span := Int.tmod_eq_emod_of_nonneg hs
  rw [woodcutlaw07_NodeExact.j3, if_neg (by decide), if_pos rfl, if_neg (by omega), hd, hr, if_pos rfl, if_pos rfl]
theorem ne_j2 (s v span : Int) (h1 : 1 ≤ span) (h2 : span ≤ 512) (hsp : 0 ≤ v → v ≤ 2 → span = under v.toNat) : Ev (fun k => woodcutlaw07_NodeExact.j2 k s v (neB lv a b c d e f g h) (neC lv a b c d e f g h) (placeE s v).1 (placeE s v).2.1 (placeE s v).2.2 span lv a b c d e f g h) true := by
  refine Ev.step (fun k => by rw [woodcutlaw07_NodeExact.j2]) ?_
  by_cases c1 : v < 0
  · rw [place_no (by omega)]
    simp only [if_pos c1]
    exact ne_j3_no lv a b c d e f g h s span
  simp only [if_neg c1]
  by_cases c2 : v > 2
  · rw [place_no (by omega)]
    simp only [if_pos c2]
    exact ne_j3_no lv a b c d e f g h s span
  simp only [if_neg c2]
  by_cases c3 : s < 0
  · rw [place_no (by omega)]
    simp only [if_pos c3]
    exact ne_j3_no lv a b c d e f g h s span
  simp only [if_neg c3]
  have hspan := hsp (by omega) (by omega)
  have hu : under (v.toNat + 1) = span * 8 := by rw [hspan]; unfold under; rw [Int.pow_succ]
  have hw : wrap64 (span * 8) = span * 8 := w64' (by omega) (by omega)
  rw [hw]
  by_cases c4 : s ≥ span * 8
  · rw [place_no (by rw [hu]; omega), decide_eq_true c4]
    exact ne_j3_no lv a b c d e f g h s span
  · rw [place_yes (by rw [hu]; omega), decide_eq_false c4, ← hspan]
    exact ne_j3_yes lv a b c d e f g h s span (by omega) (by omega) h1
theorem ne_l0 (s v : Int) : Ev (fun k => woodcutlaw07_NodeExact.l0 k s v (neB lv a b c d e f g h) (neC lv a b c d e f g h) (placeE s v).1 (placeE s v).2.1 (placeE s v).2.2 1 0 lv a b c d e f g h) true := by
  refine Ev.step (fun k => by rw [woodcutlaw07_NodeExact.l0]) ?_
  by_cases c0 : (0 : Int) < v
  case neg =>
    simp only [if_neg c0]
    refine ne_j2 lv a b c d e f g h s v 1 (by omega) (by omega) fun h0 _ => ?_
    rw [show v = 0 by omega]; rfl
  simp only [if_pos c0, show (0 : Int) < 3 by decide, if_true, show wrap64 ((1 * 8) : Int) = 8 by unfold wrap64; omega, show wrap64 (((0 : Int) + 1) : Int) = 1 by unfold wrap64; omega]
  refine Ev.step (fun k => by rw [woodcutlaw07_NodeExact.l0]) ?_
  by_cases c1 : (1 : Int) < v
  case neg =>
    simp only [if_neg c1]
    refine ne_j2 lv a b c d e f g h s v 8 (by omega) (by omega) fun h0 _ => ?_
    rw [show v = 1 by omega]; rfl
  simp only [if_pos c1, show (1 : Int) < 3 by decide, if_true, show wrap64 ((8 * 8) : Int) = 64 by unfold wrap64; omega, show wrap64 (((1 : Int) + 1) : Int) = 2 by unfold wrap64; omega]
  refine Ev.step (fun k => by rw [woodcutlaw07_NodeExact.l0]) ?_
  by_cases c2 : (2 : Int) < v
  case neg =>
    simp only [if_neg c2]
    refine ne_j2 lv a b c d e f g h s v 64 (by omega) (by omega) fun h0 _ => ?_
    rw [show v = 2 by omega]; rfl
  simp only [if_pos c2, show (2 : Int) < 3 by decide, if_true, show wrap64 ((64 * 8) : Int) = 512 by unfold wrap64; omega, show wrap64 (((2 : Int) + 1) : Int) = 3 by unfold wrap64; omega]
  refine Ev.step (fun k => by rw [woodcutlaw07_NodeExact.l0]) ?_
  by_cases c3 : (3 : Int) < v
  · simp only [if_pos c3, show ¬ (3 : Int) < 3 by decide, if_false]
    exact ne_j2 lv a b c d e f g h s v 512 (by omega) (by omega) fun h0 _ => by omega
  · simp only [if_neg c3]
    exact ne_j2 lv a b c d e f g h s v 512 (by omega) (by omega) fun h0 _ => by omega
theorem NodeExact (l : List Int) (s v : Int) (hb : Blk.bytesOk l = true) : ∃ k, woodcutlaw07_NodeExact.f k lv a b c d e f g h l s v = some true := by
  refine Ev.rounds (?_ : Ev (fun k => woodcutlaw07_NodeExact.f k lv a b c d e f g h l s v) true)
  unfold woodcutlaw07_NodeExact.f
  by_cases hl : (l.length : Int) > 300
  · simp only [if_pos hl]
    exact Ev.now _
  have hp : node_Place.f s v = some (placeE s v) := rfl
  have hr : woodcutref01_ParseNode.f l = some (tup10 (Nod.parse l).2 (Nod.parse l).1) := by
    unfold woodcutref01_ParseNode.f
    rw [if_pos hb]
    rfl
  simp only [if_neg hl, twin_ok l (by omega), node_Bytes_ok, node_Parse_ok l hb, hp, hr, Option.bind_some]
  simp only [beq_self_eq_true, Bool.not_true, Bool.or_self, Bool.false_eq_true, if_false, if_true]
  refine Ev.bind (keepBytes_same l (by omega)) ?_
  refine Ev.step (fun k => by rw [woodcutlaw07_NodeExact.j0]) ?_
  exact ne_l0 lv a b c d e f g h s v
end
theorem nodeExact_walk (a0_0 a0_1 a0_2 a0_3 a0_4 a0_5 a0_6 a0_7 a0_8 : Int) (A1 : Option Addr) (c1 : Nat) (l1 : List Int) (a2 a3 : Int) (w : World) (hr1 : Kd.C (Kd.int .u8) w A1 l1.length l1) (hc1 : l1.length ≤ c1) (hG1 : ∀ p ∈ l1, (Lit.int .u8 p).wf = true) :
    Calls Try.prog 6 #[.agg #[.int .i64 a0_0, .int .i64 a0_1, .int .i64 a0_2, .int .i64 a0_3, .int .i64 a0_4, .int .i64 a0_5, .int .i64 a0_6, .int .i64 a0_7, .int .i64 a0_8], .slice A1 l1.length c1, .int .i64 a2, .int .i64 a3] w fun e w' => e = .returned (.bool true) ∧ Below w.heap.size w w' := by
  have hb : Blk.bytesOk l1 = true := Blk.bytesOk_iff.2 fun x hx => ⟨(bounds_u8 (hG1 x hx)).1, Int.lt_add_one_of_le (bounds_u8 (hG1 x hx)).2⟩
  obtain ⟨k, hk⟩ := NodeExact a0_0 a0_1 a0_2 a0_3 a0_4 a0_5 a0_6 a0_7 a0_8 l1 a2 a3 hb
  exact woodcutlaw07_NodeExact.calls k a0_0 a0_1 a0_2 a0_3 a0_4 a0_5 a0_6 a0_7 a0_8 A1 c1 l1 a2 a3 true w hr1 hc1 hk

end Go.Proofs.Ytaaemamcdhebhaa.PNE
