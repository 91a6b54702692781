/- BuildExact: a calculus over an abstract machine that stands beside the model, and contracts of functions by it (part 4).
Conditions: what each theorem says of its arguments. -/
import Derived.Test.YtdcggjkcbheolaaGBuildExact3
section
set_option linter.unusedVariables false
set_option maxRecDepth 100000
open Go Go.Am Go.RowKit
namespace Go.Proofs.Ytdcggjkcbheolaa
open Go.Proofs.Try
set_option maxHeartbeats 1000000 in
theorem treeAt_ok {h : Heap} {iv : Value} {L : List Int} {B : Nat} {at_ lv : Int} (sl : Sl h iv 1 L.length (us L)) (hb : Byt L) (hB : B * 64 ≤ L.length) (hm : L.length ≤ 4611686018427387904) :
    RunF prog 133 [iv, .int .i64 (B : Int), .int .i64 at_, .int .i64 lv] h fun v h' => v = .tuple #[.agg ⟨nc (atV L B at_).1 (atV L B at_).2⟩, .bool (atIs L B at_ lv)] ∧ Fr no h h' := by
  refine RunF.walk func133 rfl rfl ?_
  refine RunC.seq (RunC.region (RunO.part 1 (h1 := h.push ⟨nc 0 nZero, true⟩) rfl (RunO.all rfl ?_)))
  have ow : Ow (h.push ⟨nc 0 nZero, true⟩) h.next (nc 0 nZero) := Ow.push _ _
  have f1 : Fr (fun b => h.next ≤ b) h (h.push ⟨nc 0 nZero, true⟩) := Fr.push _ _ _
  have s1 := sl.fr0 (Fr.push no h ⟨nc 0 nZero, true⟩)
  generalize h.push ⟨nc 0 nZero, true⟩ = h1 at *
  have hp : h.next < h1.next := ow.1
  obtain ⟨A, c, rfl, hc, hA⟩ := s1.form
  have hin : atIn B at_ = !(decide (at_ < 2) || decide (at_ ≥ (B : Int))) := rfl
  have hbad : atIn B at_ = false → atV L B at_ = (0, nZero) ∧ atIs L B at_ lv = false := by
    intro e
    constructor
    · unfold atV; rw [e]; rfl
    · unfold atIs; rw [e]; rfl
  refine RunC.seq ?_
  refine RunC.seqE (upd (upd (upd (upd (upd (upd E0 0 (.slice A L.length c)) 1 (.int .i64 (B : Int))) 2 (.int .i64 at_)) 3 (.int .i64 lv)) 8 (.pointer (some ⟨h.next, 0, none⟩))) 18 (.bool (decide (at_ < 2) || decide (at_ ≥ (B : Int))))) ?_ ?_
  · refine RunC.region (RunO.part 3 rfl ?_)
    cases decide (at_ < 2) with
    | true => exact RunO.all rfl ⟨rfl, Le.cons rfl (Le.cons rfl (Le.cons rfl (Le.cons rfl (Le.cons rfl (Le.cons rfl (Le.nil _))))))⟩
    | false => exact RunO.all rfl ⟨rfl, Le.cons rfl (Le.cons rfl (Le.cons rfl (Le.cons rfl (Le.cons rfl (Le.cons rfl (Le.nil _))))))⟩
  generalize (decide (at_ < 2) || decide (at_ ≥ (B : Int))) = bd at hin ⊢
  cases bd with
  | true =>
    obtain ⟨e1, e2⟩ := hbad hin
    rw [e1, e2]
    refine RunC.cond rfl (fun _ => ?_) (fun g => by cases g)
    refine RunC.seq (RunC.region (RunO.part 1 rfl ?_))
    refine RunO.store rfl rfl (store_ow (s := 9) ow rfl rfl rfl (Nat.le_refl 9)) (RunO.all rfl ?_)
    exact RunC.ret ⟨_, eresults_cell rfl (nc_load rfl (Ow.put (nc 0 nZero) ow.1)) rfl, rfl, frNo (f1.same (Fr.put _ (.inl (Nat.le_refl _))))⟩
  | false =>
  have hin : atIn B at_ = true := hin
  obtain ⟨ha2, haB⟩ := atIn_iff.1 hin
  obtain ⟨a, rfl⟩ := Int.eq_ofNat_of_zero_le (show 0 ≤ at_ by omega)
  have haL : (a + 1) * 64 ≤ L.length := by
    have : a + 1 ≤ B := by omega
    exact Nat.le_trans (Nat.mul_le_mul_right 64 this) hB
  have hvv : atV L B a = nodV (blkI L a) := by unfold atV; rw [hin, Int.toNat_natCast]; rfl
  have his : atIs L B a lv = (nCode (blkI L a) == 0 && (nodV (blkI L a)).1 == lv) := by unfold atIs; rw [hin, hvv, Int.toNat_natCast]; rfl
  rw [hvv, his]
  obtain ⟨b, o, rfl, rd⟩ := hA (by omega)
  refine RunC.cond rfl (fun g => by cases g) (fun _ => RunC.skip ?_)
  refine RunC.seq (RunC.region (RunO.part 2 rfl ?_))
  refine RunO.callD (devOf_ok (o := o) haL hm hc) rfl rfl rfl ?_
  rintro _ _ ⟨⟨c', hc', rfl⟩, rfl⟩
  have hbl := blkI_len haL
  have hparse := nodParse_ok (h := h1) (A := some ⟨b, o + a * 64, none⟩) (c := c') (l := blkI L a) (fun _ => ⟨_, rfl, rdBlk rd haL⟩) (byt_blk hb a) (by rw [hbl]; exact hc')
  rw [hbl, nodV_cells] at hparse
  refine RunO.callD hparse rfl rfl rfl ?_
  rintro v h2 ⟨rfl, f2⟩
  have hlen := nodV_len (blkI L a)
  generalize nodV (blkI L a) = nv at *
  obtain ⟨nl, ps⟩ := nv
  simp only at hlen ⊢
  refine RunO.part 4 (h1 := h2.push ⟨nc 0 nZero, true⟩) rfl ?_
  have hcl : (cellsOf (.agg ⟨nc nl ps⟩)).length = 9 := by show (nc nl ps).length = 9; simp [nc, is_len, hlen]
  have hac : allCells (cellsOf (.agg ⟨nc nl ps⟩)) = true := by show allCells (.int .i64 nl :: is ps) = true; exact allCells_map (f := Value.int .i64) (fun _ => rfl) ps
  refine RunO.store rfl rfl (store_ow (s := 9) (Ow.push h2 (nc 0 nZero)) rfl hcl hac (Nat.le_refl 9)) (RunO.all rfl ?_)
  have e9 : (nc 0 nZero).take 0 ++ cellsOf (.agg ⟨nc nl ps⟩) ++ (nc 0 nZero).drop (0 + 9) = nc nl ps := by
    show [] ++ nc nl ps ++ [] = _; simp
  rw [e9]
  have on : Ow ((h2.push ⟨nc 0 nZero, true⟩).put h2.next (some ⟨nc nl ps, true⟩)) h2.next (nc nl ps) := Ow.put _ (Nat.lt_succ_self _)
  have f4 : Fr no h2 ((h2.push ⟨nc 0 nZero, true⟩).put h2.next (some ⟨nc nl ps, true⟩)) := (Fr.push _ _ _).trans (Fr.put (m := (· = h2.next)) _ (.inl rfl)) (fun j hj => .inr (by omega))
  have ow4 := (ow.fr f2 (fun g => g)).fr f4 (fun g => g)
  have f14 := (f1.quiet f2).quiet f4
  have hne : h2.next ≠ h.next := by have := f2.next; omega
  generalize (h2.push ⟨nc 0 nZero, true⟩).put h2.next (some ⟨nc nl ps, true⟩) = h4 at *
  generalize h2.next = q at *
  have hqn : q < h4.next := on.1
  refine RunC.seq (RunC.draw (l0 := min (min h4.low h4.next) h.next) (Nat.le_trans (Nat.min_le_left _ _) (Nat.min_le_left _ _)) rfl ?_)
  have hn : min (min h4.low h4.next) h.next ≤ h4.next := Nat.le_trans (Nat.min_le_left _ _) (Nat.min_le_right h4.low h4.next)
  have hst : astore prog (h4.lo h4.next) 107 ⟨h.next, 0, none⟩ (.agg ⟨nc nl ps⟩) = some ((h4.lo h4.next).put h.next (some ⟨nc nl ps, true⟩)) := by
    have := store_ow (P := prog) (t := 107) (h := h4.lo h4.next) (off := 0) (s := 9) ow4 rfl hcl hac (Nat.le_refl 9)
    rw [e9] at this
    exact this
  have o5 : Ow ((h4.lo h4.next).put h.next (some ⟨nc nl ps, true⟩)) h.next (nc nl ps) := Ow.put _ ow4.1
  have f5 : Fr (fun b => h.next ≤ b) h4 ((h4.lo h4.next).put h.next (some ⟨nc nl ps, true⟩)) := ⟨Nat.le_refl _, (Fr.put (h := h4) (m := fun b => h.next ≤ b) _ (.inl (Nat.le_refl _))).get, fun l x y z => by
    rw [lowput_eq]
    have := z h.next (Nat.le_refl _)
    show l ≤ min h4.next h.next
    omega⟩
  have hl5 : min (min h4.low h4.next) h.next ≤ ((h4.lo h4.next).put h.next (some ⟨nc nl ps, true⟩)).low := by
    rw [lowput_eq]
    show _ ≤ min h4.next h.next
    omega
  have hn5 : min (min h4.low h4.next) h.next ≤ ((h4.lo h4.next).put h.next (some ⟨nc nl ps, true⟩)).next := hn
  generalize (h4.lo h4.next).put h.next (some ⟨nc nl ps, true⟩) = h5 at *
  have fin : ∀ lw, min (min h4.low h4.next) h.next ≤ lw → Fr no h (h5.lo lw) := fun lw hlw => frNo ((f14.fg0.trans f5.fg0 (fun i e => .inl e)).close (fun l x y z => by
    have := f14.low l x y z
    have := f14.next
    omega))
  refine RunD.load (v := .agg ⟨nc nl ps⟩) hn rfl (nc_load hlen on) rfl ?_
  refine RunD.pure hn rfl rfl (fun _ => rfl) rfl ?_
  refine RunD.pure hn rfl rfl (fun _ => rfl) rfl ?_
  refine RunD.pure hn rfl rfl (fun _ => rfl) rfl ?_
  cases (nCode (blkI L a) == 0) with
  | false =>
    refine RunD.offG rfl rfl (RunD.offG rfl rfl (RunD.offG rfl rfl (RunD.offG rfl rfl ?_)))
    refine RunD.pure hn rfl rfl (fun _ => rfl) rfl ?_
    refine RunD.one (v := undef) (f := .wr [h.next]) (h1 := h5) rfl (by show (match astore prog (h4.lo h4.next) 107 ⟨h.next, 0, none⟩ (.agg ⟨nc nl ps⟩) with | some h' => some (undef, h') | none => none) = _; rw [hst]) (fun _ => rfl) hl5 rfl ?_
    refine RunD.pure hn5 rfl rfl (fun _ => rfl) rfl ?_
    refine RunD.nil ⟨rfl, fun lw hlw => ?_⟩
    exact RunC.ret ⟨_, eresults_cell rfl (nc_load (h := h5.lo lw) hlen o5) rfl, rfl, fin lw hlw⟩
  | true =>
    refine RunD.pureG hn rfl rfl (fun _ => rfl) rfl ?_
    refine RunD.loadG (v := .int .i64 nl) hn rfl rfl (on.ld rfl) rfl ?_
    refine RunD.pureG hn rfl rfl (fun _ => rfl) rfl ?_
    refine RunD.pureG hn rfl rfl (fun _ => rfl) rfl ?_
    refine RunD.pure hn rfl rfl (fun _ => rfl) rfl ?_
    refine RunD.one (v := undef) (f := .wr [h.next]) (h1 := h5) rfl (by show (match astore prog (h4.lo h4.next) 107 ⟨h.next, 0, none⟩ (.agg ⟨nc nl ps⟩) with | some h' => some (undef, h') | none => none) = _; rw [hst]) (fun _ => rfl) hl5 rfl ?_
    refine RunD.pure hn5 rfl rfl (fun _ => rfl) rfl ?_
    refine RunD.nil ⟨?_, fun lw hlw => ?_⟩
    · have hm : memN q [h.next] = false := by
        show cond (Nat.beq q h.next) true false = false
        rw [beqF hne]; rfl
      show cond (!memN q [h.next]) true false = true
      rw [hm]; rfl
    exact RunC.ret ⟨_, eresults_cell rfl (nc_load (h := h5.lo lw) hlen o5) rfl, rfl, fin lw hlw⟩
end Go.Proofs.Ytdcggjkcbheolaa
end
section
set_option linter.unusedVariables false
set_option maxRecDepth 100000
open Go Go.Am Go.RowKit
namespace Go.Proofs.Ytdcggjkcbheolaa
open Go.Proofs.Try
theorem is_part {l : List Int} {i : Nat} (h : i < l.length) : apart prog 3 (is l) (i * 1) = some (.int .i64 l[i]) := by
  show nth (is l) (i * 1) = _
  rw [Nat.mul_one]; exact is_nth h
theorem is_app (a b : List Int) : is (a ++ b) = is a ++ is b := by unfold is; rw [List.map_append]
theorem contains_cut {l : List Int} {i : Nat} {x : Int} (h : i < l.length) (hn : (l.take i).contains x = false) : (l.take (i + 1)).contains x = (x == l[i]) := by
  rw [List.take_succ_eq_append_getElem h]
  simp only [List.contains_eq_mem, List.mem_append, List.mem_singleton]
  have hn : ¬ x ∈ l.take i := by simpa using hn
  by_cases c : x = l[i]
  · simp [c]
  · simp [c, hn]
theorem indexInt_ok {h : Heap} {v : Value} {l : List Int} {x : Int} (sl : Sl h v 1 l.length (is l)) (hm : l.length ≤ 4611686018427387904) :
    RunF prog 112 [v, .int .i64 x] h fun r h' => h = h' ∧ ∃ k : Int, r = .int .i64 k ∧ decide (k ≥ 0) = l.contains x := by
  refine RunF.walk func112 rfl rfl ?_
  obtain ⟨A, c, rfl, hc, _⟩ := sl.form
  refine RunC.seq (RunC.region (RunO.all rfl ?_))
  refine RunC.seq (RunC.seq (RunC.region (RunO.all rfl ?_)))
  refine RunC.block ?_
  let I : Nat → Env → Heap → Prop := fun k E h' => ∃ i : Nat, i + k = l.length ∧ (l.take i).contains x = false ∧ h = h' ∧ Le (upd (upd (upd (upd E0 0 (.slice A l.length c)) 1 (.int .i64 x)) 7 (.int .i64 l.length)) 8 (.int .i64 i)) E
  refine RunC.loop I ?_ (k := l.length) ?_
  · rintro k E h' ⟨i, hi, hp, rfl, hE⟩
    refine RunC.le hE ?_
    clear hE
    refine RunC.seq (RunC.region (RunO.all rfl ?_))
    refine RunC.seq (RunC.cond rfl (fun hlt => ?_) (fun hge => ?_))
    · have hlt := of_decide_eq_true hlt
      have h1 : i < l.length := by omega
      have hcut := contains_cut h1 hp
      refine RunC.skip ?_
      refine RunC.seq (RunC.block ?_)
      refine RunC.seq (RunC.region (RunO.all rfl ?_))
      refine RunC.seq (RunC.region (RunO.part 3 rfl ?_))
      refine RunO.at (s := 1) rfl rfl sl rfl rfl h1 (is_part h1) rfl rfl rfl ?_
      refine RunO.all rfl ?_
      refine RunC.cond rfl (fun ht => ?_) (fun hn => ?_)
      · refine RunC.seq (RunC.region (RunO.all rfl (RunC.ret ⟨_, rfl, rfl, _, rfl, ?_⟩)))
        have hmem : x ∈ l := by have e : x = l[i] := by simpa using ht
                                rw [e]; exact List.getElem_mem h1
        rw [decide_eq_true (Int.natCast_nonneg i)]; simp [hmem]
      · refine RunC.skip (RunC.region (RunO.all rfl ?_))
        exact ⟨k - 1, by omega, i + 1, by omega, by rw [hcut]; exact hn, rfl, Le.cons (inc64 (by omega)) (Le.cons rfl (Le.cons rfl (Le.cons rfl (Le.nil _))))⟩
    · have hge := of_decide_eq_false hge
      refine RunC.exit ?_
      have hi2 : i = l.length := by omega
      rw [hi2, List.take_length] at hp
      refine RunC.seq (RunC.region (RunO.all rfl (RunC.ret ⟨_, rfl, rfl, _, rfl, ?_⟩)))
      rw [hp]; rfl
  · exact ⟨0, by omega, rfl, rfl, Le.cons rfl (Le.cons rfl (Le.cons rfl (Le.cons rfl (Le.nil _))))⟩
theorem containsInt_ok {h : Heap} {v : Value} {l : List Int} {x : Int} (sl : Sl h v 1 l.length (is l)) (hm : l.length ≤ 4611686018427387904) :
    RunF prog 73 [v, .int .i64 x] h fun r h' => r = .bool (l.contains x) ∧ h = h' := by
  refine RunF.walk func73 rfl rfl ?_
  refine RunC.seq (RunC.region (RunO.all rfl ?_))
  refine RunC.seq (RunC.region (RunO.part 2 rfl ?_))
  refine RunO.callD (indexInt_ok sl hm) rfl rfl rfl ?_
  rintro _ _ ⟨rfl, k, rfl, hk⟩
  refine RunO.part 1 rfl ?_
  rw [hk]
  exact RunO.all rfl (RunC.ret ⟨_, rfl, rfl, rfl⟩)
theorem keepInts_ok {h : Heap} {v w : Value} {l m : List Int} (sl : Sl h v 1 l.length (is l)) (sm : Sl h w 1 m.length (is m)) (hm : l.length ≤ 4611686018427387904) :
    RunF prog 20 [v, w] h fun v h' => v = .bool (l == m) ∧ h = h' := by
  refine RunF.walk func20 rfl rfl ?_
  obtain ⟨A, c, rfl, hc, _⟩ := sl.form
  obtain ⟨B, d, rfl, hd, _⟩ := sm.form
  refine RunC.seq (RunC.region (RunO.all rfl ?_))
  refine RunC.seq (RunC.seq (RunC.region (RunO.all rfl ?_)))
  by_cases hl : l.length = m.length
  case neg =>
    have e : (l == m) = false := beq_eq_false_iff_ne.2 (fun g => hl (by rw [g]))
    rw [show ((l.length : Int) != (m.length : Int)) = true by simp; omega, e]
    refine RunC.cond rfl (fun _ => ?_) (fun g => by cases g)
    exact RunC.seq (RunC.region (RunO.all rfl (RunC.ret ⟨_, rfl, rfl, rfl⟩)))
  rw [show ((l.length : Int) != (m.length : Int)) = false by simp; omega]
  refine RunC.cond rfl (fun g => by cases g) (fun _ => RunC.skip ?_)
  refine RunC.seq (RunC.seq (RunC.region (RunO.all rfl ?_)))
  refine RunC.block ?_
  let I : Nat → Env → Heap → Prop := fun k E h' => ∃ i : Nat, i + k = l.length ∧ l.take i = m.take i ∧ h = h' ∧ Le (upd (upd (upd E0 0 (.slice A l.length c)) 1 (.slice B m.length d)) 5 (.int .i64 i)) E
  refine RunC.loop I ?_ (k := l.length) ?_
  · rintro k E h' ⟨i, hi, ht, rfl, hE⟩
    refine RunC.le hE ?_
    clear hE
    refine RunC.seq (RunC.seq (RunC.region (RunO.all rfl ?_)))
    refine RunC.cond rfl (fun hlt => ?_) (fun hge => ?_)
    · have hlt := of_decide_eq_true hlt
      have h1 : i < l.length := by omega
      have h2 : i < m.length := by omega
      refine RunC.skip ?_
      refine RunC.seq (RunC.block ?_)
      refine RunC.seq (RunC.draw0 rfl (RunO.part 2 rfl ?_))
      refine RunO.at (s := 1) rfl rfl sl rfl rfl h1 (is_part h1) rfl rfl rfl ?_
      refine RunO.part 2 rfl ?_
      refine RunO.at (s := 1) rfl rfl sm rfl rfl h2 (is_part h2) rfl rfl rfl ?_
      refine RunO.all rfl ?_
      refine RunC.cond rfl (fun hne => ?_) (fun heq => ?_)
      · have hne : l[i] ≠ m[i] := by simpa using hne
        have e : (l == m) = false := beq_eq_false_iff_ne.2 (fun g => hne (by subst g; rfl))
        rw [e]
        exact RunC.seq (RunC.region (RunO.all rfl (RunC.ret ⟨_, rfl, rfl, rfl⟩)))
      · have heq : l[i] = m[i] := by simpa using heq
        refine RunC.skip (RunC.region (RunO.all rfl ?_))
        exact ⟨k - 1, by omega, i + 1, by omega, beq_take h1 h2 ht heq, rfl, Le.cons (inc64 (by omega)) (Le.cons rfl (Le.cons rfl (Le.nil _)))⟩
    · have hge := of_decide_eq_false hge
      refine RunC.exit ?_
      have hi2 : i = l.length := by omega
      have e : l = m := by
        rw [hi2, List.take_length] at ht
        rw [ht, hl, List.take_length]
      rw [show (l == m) = true by rw [e]; exact beq_self_eq_true _]
      exact RunC.seq (RunC.region (RunO.all rfl (RunC.ret ⟨_, rfl, rfl, rfl⟩)))
  · exact ⟨0, by omega, rfl, rfl, Le.cons rfl (Le.cons rfl (Le.cons rfl (Le.nil _)))⟩
theorem twin_ok {h : Heap} {v : Value} {l : List Int} (sl : Sl h v 1 l.length (us l)) (hb : 2 * l.length ≤ 281474976710656) : RunF prog 16 [v] h fun r h' => Row h.next h' r 1 l.length (us l) ∧ Fr no h h' := by
  refine RunF.walk func16 rfl rfl ?_
  refine RunC.seq (RunC.region (RunO.all rfl ?_))
  refine RunC.seq (RunC.region (RunO.all rfl ?_))
  refine RunC.seq (RunC.region (RunO.part 2 rfl ?_))
  refine RunO.appendOs (s := 1) (k := 0) rfl rfl rfl rfl rfl rfl rfl rfl (Nat.le_refl 1) (Row.nil h.next h 1) (Nat.le_refl _) sl (allCells_map (fun _ => rfl) l) (by show 2 * (0 + l.length) * 1 ≤ _; omega) (by omega) ?_
  intro v' h' row f
  rw [Nat.zero_add, List.nil_append] at row
  exact RunO.all rfl (RunC.ret ⟨_, rfl, row, f.weak (fun i g => by obtain ⟨_, _, e⟩ := g; cases e)⟩)
theorem twinInts_ok {h : Heap} {v : Value} {l : List Int} (sl : Sl h v 1 l.length (is l)) (hb : 16 * l.length ≤ 281474976710656) : RunF prog 17 [v] h fun r h' => Row h.next h' r 1 l.length (is l) ∧ Fr no h h' := by
  refine RunF.walk func17 rfl rfl ?_
  refine RunC.seq (RunC.region (RunO.all rfl ?_))
  refine RunC.seq (RunC.region (RunO.all rfl ?_))
  refine RunC.seq (RunC.region (RunO.part 2 rfl ?_))
  refine RunO.appendOs (s := 1) (k := 0) rfl rfl rfl rfl rfl rfl rfl rfl (Nat.le_refl 1) (Row.nil h.next h 1) (Nat.le_refl _) sl (allCells_map (fun _ => rfl) l) (by show 2 * (0 + l.length) * 8 ≤ _; omega) (by omega) ?_
  intro v' h' row f
  rw [Nat.zero_add, List.nil_append] at row
  exact RunO.all rfl (RunC.ret ⟨_, rfl, row, f.weak (fun i g => by obtain ⟨_, _, e⟩ := g; cases e)⟩)
end Go.Proofs.Ytdcggjkcbheolaa
end
section
set_option linter.unusedVariables false
set_option maxRecDepth 100000
open Go Go.Am Go.RowKit
namespace Go.Proofs.Ytdcggjkcbheolaa
open Go.Proofs.Try
/-- The cells of a walk. -/
def wc (iv : Value) (B : Nat) (mv nv : Value) (bad : Bool) : List Value := [iv, .int .i64 (B : Int), mv, nv, .bool bad]
/-- A walk through a tree, in memory: its own block, the map's, the nodes' row. -/
structure TW (lo : Nat) (h : Heap) (iv : Value) (B wb mb : Nat) (nv : Value) (w : TS) : Prop where
  ow : Ow h wb (wc iv B (.slice (some ⟨mb, 0, none⟩) 512 (exc 512)) nv w.2.2)
  om : Ow h mb (is w.1)
  row : Row lo h nv 1 w.2.1.length (is w.2.1)
  len : w.1.length = 512
  ne : wb ≠ mb
  lw : wb < lo
  lm : mb < lo
  ln : lo ≤ h.next
/-- What a walk writes. -/
def TM (lo wb mb : Nat) : Nat → Prop := fun b => b = wb ∨ b = mb ∨ lo ≤ b
theorem TW.quiet {lo : Nat} {h h' : Heap} {iv : Value} {B wb mb : Nat} {nv : Value} {w : TS} (t : TW lo h iv B wb mb nv w) (f : Fr no h h') : TW lo h' iv B wb mb nv w :=
  ⟨t.ow.fr f (fun g => g), t.om.fr f (fun g => g), t.row.fr f (fun _ _ _ g => g), t.len, t.ne, t.lw, t.lm, Nat.le_trans t.ln f.next⟩
/-- A flag is raised. -/
theorem TW.bad {lo : Nat} {h : Heap} {iv : Value} {B wb mb : Nat} {nv : Value} {m ns : List Int} {b : Bool} (t : TW lo h iv B wb mb nv (m, ns, b)) :
    astore prog h 4 ⟨wb, 4, none⟩ (.bool true) = some (h.put wb (some ⟨wc iv B (.slice (some ⟨mb, 0, none⟩) 512 (exc 512)) nv true, true⟩)) ∧
    TW lo (h.put wb (some ⟨wc iv B (.slice (some ⟨mb, 0, none⟩) 512 (exc 512)) nv true, true⟩)) iv B wb mb nv (m, ns, true) ∧ Fr (TM lo wb mb) h (h.put wb (some ⟨wc iv B (.slice (some ⟨mb, 0, none⟩) 512 (exc 512)) nv true, true⟩)) := by
  have f : Fr (· = wb) h (h.put wb (some ⟨wc iv B (.slice (some ⟨mb, 0, none⟩) 512 (exc 512)) nv true, true⟩)) := Fr.put _ (.inl rfl)
  refine ⟨store1_ow t.ow rfl rfl rfl (Nat.le_of_ble_eq_true rfl), ⟨Ow.put _ t.ow.1, t.om.fr f (fun e => t.ne e.symm), t.row.fr f (fun b h1 _ e => by have := t.lw; omega), t.len, t.ne, t.lw, t.lm, t.ln⟩, f.weak (fun i e => .inl (.inl e))⟩
theorem foldl_range_bad {f : TS → Nat → TS} (hf : ∀ w i, w.2.2 = true → f w i = w) : ∀ (l : List Nat) (w : TS), w.2.2 = true → l.foldl f w = w
  | [], w, _ => rfl
  | i :: l, w, h => by rw [List.foldl_cons, hf w i h]; exact foldl_range_bad hf l w h
theorem range8_split {f : TS → Nat → TS} {w : TS} {i : Nat} (hi : i ≤ 8) : (List.range 8).foldl f w = ((List.range (8 - i)).map (· + i)).foldl f ((List.range i).foldl f w) := by
  have : List.range 8 = List.range i ++ (List.range (8 - i)).map (· + i) := by
    rw [show 8 = i + (8 - i) by omega, List.range_add]
    congr 1
    · rw [show i + (8 - i) - i = 8 - i by omega]
      apply List.map_congr_left
      intro x _; omega
  rw [this, List.foldl_append]
theorem nc_ptrs {h : Heap} {b : Nat} {lv : Int} {ps : List Int} (hp : ps.length = 8) (ow : Ow h b (nc lv ps)) : aload prog h 105 ⟨b, 1, none⟩ = some (.agg ⟨is ps⟩) := by
  refine Ow.ld ow ?_
  show (match takeN 8 (dropN 1 (nc lv ps)) with | some l => some (Value.agg ⟨l⟩) | none => none) = _
  rw [takeN_eq, dropN_eq]
  show (match (if 8 ≤ (is ps).length then some ((is ps).take 8) else none) with | some l => some (Value.agg ⟨l⟩) | none => none) = _
  rw [is_len, hp, if_pos (Nat.le_refl 8)]
  show some (Value.agg ⟨(is ps).take 8⟩) = _
  rw [List.take_of_length_le (by rw [is_len, hp]; exact Nat.le_refl _)]
def GoesOk (L : List Int) (B lo wb mb : Nat) (iv : Value) (lv : Nat) : Prop := ∀ {h : Heap} {nv : Value} {w : TS} {at_ : Int} {from_ : Nat},
    Sl h iv 1 L.length (us L) → TW lo h iv B wb mb nv w → w.2.1.length + nN lv ≤ 100000 → from_ + 8 ^ (lv + 1) ≤ 512 → w.2.2 = false →
    RunF prog 107 [.pointer (some ⟨wb, 0, none⟩), .int .i64 at_, .int .i64 (lv : Int), .int .i64 (from_ : Int)] h fun v h' => v = .tuple #[] ∧ ∃ nv', TW lo h' iv B wb mb nv' (tgo L B lv at_ from_ w) ∧ Fr (TM lo wb mb) h h'
theorem sl_tm {h h' : Heap} {iv : Value} {n s : Nat} {cs : List Value} {lo wb mb : Nat} (sl : Sl h iv s n cs) (hn : ∀ b o c, iv = .slice (some ⟨b, o, none⟩) n c → ¬ TM lo wb mb b) (f : Fr (TM lo wb mb) h h') : Sl h' iv s n cs := by
  refine ⟨sl.1, sl.2.1, sl.2.2.imp (fun y => y) ?_⟩
  rintro ⟨b, o, c, h1, h2, h3⟩
  exact ⟨b, o, c, h1, h2, h3.fr f (hn b o c h1)⟩
set_option maxHeartbeats 8000000 in
theorem goes_body {L : List Int} {B lo wb mb : Nat} {iv : Value} (hb : Byt L) (hB : B * 64 ≤ L.length) (hB2 : B ≤ 4096) (hm : L.length ≤ 4611686018427387904) (hiv : ∀ b o c, iv = .slice (some ⟨b, o, none⟩) L.length c → ¬ TM lo wb mb b)
    {lv : Nat} (hlv : lv ≤ 2) (hrec : ∀ k, lv = k + 1 → GoesOk L B lo wb mb iv k) : GoesOk L B lo wb mb iv lv := by
  intro h nv w at_ from_ sl tw hns hfrom hnb
  obtain ⟨m, ns, bad⟩ := w
  simp only at hns hnb
  subst hnb
  have hlv8 : 8 ^ lv ≤ 64 := by
    have : 8 ^ lv ≤ 8 ^ 2 := Nat.pow_le_pow_right (by decide) hlv
    exact this
  have hp8 : 8 ^ (lv + 1) = 8 ^ lv * 8 := Nat.pow_succ ..
  refine RunF.walk func107 rfl rfl ?_
  have tw0 := tw
  obtain ⟨ow, om, row, hlen, hne, hlw, hlm, hln⟩ := tw
  have hnv : ∀ b, At nv b → b < h.next := fun b ha => (row.at ha).2
  refine RunC.seq (RunC.draw0 rfl ?_)
  refine RunO.part 3 rfl ?_
  refine RunO.load (v := iv) rfl (ow.ld rfl) rfl ?_
  refine RunO.part 3 rfl ?_
  refine RunO.load (v := .int .i64 (B : Int)) rfl (ow.ld rfl) rfl ?_
  refine RunO.part 2 rfl ?_
  refine RunO.callD (treeAt_ok sl hb hB hm) rfl rfl rfl ?_
  rintro _ h1 ⟨rfl, f1⟩
  have hpl := atV_len L B at_
  have hgo : tgo L B lv at_ from_ (m, ns, false) = if (!atIs L B at_ (lv : Int) || ns.contains at_) = true then (m, ns, true) else (List.range 8).foldl (fun w i => tstep (trec L B lv) B (lv == 0) w ((atV L B at_).2.getD i 0) (from_ + i * 8 ^ lv)) (m, ns ++ [at_], false) := tgo_eq ..
  rw [hgo]
  clear hgo
  generalize atV L B at_ = nd at *
  obtain ⟨nl, ps⟩ := nd
  simp only at hpl
  refine RunO.part 4 (h1 := h1.push ⟨nc 0 nZero, true⟩) rfl ?_
  have hcl : (cellsOf (.agg ⟨nc nl ps⟩)).length = 9 := by show (nc nl ps).length = 9; simp [nc, is_len, hpl]
  have hac : allCells (cellsOf (.agg ⟨nc nl ps⟩)) = true := by show allCells (.int .i64 nl :: is ps) = true; exact allCells_map (f := Value.int .i64) (fun _ => rfl) ps
  refine RunO.store rfl rfl (store_ow (s := 9) (Ow.push h1 (nc 0 nZero)) rfl hcl hac (Nat.le_refl 9)) (RunO.all rfl ?_)
  have e9 : (nc 0 nZero).take 0 ++ cellsOf (.agg ⟨nc nl ps⟩) ++ (nc 0 nZero).drop (0 + 9) = nc nl ps := by
    show [] ++ nc nl ps ++ [] = _; simp
  rw [e9]
  have on : Ow ((h1.push ⟨nc 0 nZero, true⟩).put h1.next (some ⟨nc nl ps, true⟩)) h1.next (nc nl ps) := Ow.put _ (Nat.lt_succ_self _)
  have f2 : Fr no h1 ((h1.push ⟨nc 0 nZero, true⟩).put h1.next (some ⟨nc nl ps, true⟩)) := (Fr.push _ _ _).trans (Fr.put (m := (· = h1.next)) _ (.inl rfl)) (fun j hj => .inr (by omega))
  have f12 := f1.same f2
  have hq : lo ≤ h1.next := Nat.le_trans hln f1.next
  have hnrow : ∀ b, At nv b → b ≠ h1.next := fun b ha => by have := hnv b ha; have := f1.next; omega
  generalize (h1.push ⟨nc 0 nZero, true⟩).put h1.next (some ⟨nc nl ps, true⟩) = h2 at *
  generalize h1.next = q at *
  have tw2 := tw0.quiet f12
  clear ow om row hln tw0
  obtain ⟨ow, om, row, _, _, _, _, hln⟩ := tw2
  have row : Row lo h2 nv 1 ns.length (is ns) := row
  have tw2 : TW lo h2 iv B wb mb nv (m, ns, false) := ⟨ow, om, row, hlen, hne, hlw, hlm, hln⟩
  have F2 : Fr (TM lo wb mb) h h2 := f12.weak (fun _ g => g.elim)
  -- is it none, or met?
  refine RunC.seq (RunC.seqE (upd (upd (upd (upd (upd (upd E0 0 (.pointer (some ⟨wb, 0, none⟩))) 1 (.int .i64 at_)) 2 (.int .i64 (lv : Int))) 3 (.int .i64 (from_ : Int))) 8 (.pointer (some ⟨q, 0, none⟩))) 36 (.bool (!atIs L B at_ (lv : Int) || ns.contains at_))) ?_ ?_)
  · refine RunC.region (RunO.part 3 rfl ?_)
    cases atIs L B at_ (lv : Int) with
    | false => exact RunO.all rfl ⟨rfl, Le.cons rfl (Le.cons rfl (Le.cons rfl (Le.cons rfl (Le.cons rfl (Le.cons rfl (Le.nil _))))))⟩
    | true =>
      refine RunO.part 3 rfl ?_
      refine RunO.loadG (v := nv) rfl rfl (ow.ld rfl) rfl ?_
      refine RunO.part 1 rfl ?_
      refine RunO.callDG rfl (containsInt_ok (row.sl (by show ns.length ≤ _; omega)) (by show ns.length ≤ _; omega)) rfl rfl rfl ?_
      rintro _ _ ⟨rfl, rfl⟩
      exact RunO.all rfl ⟨rfl, Le.cons rfl (Le.cons rfl (Le.cons rfl (Le.cons rfl (Le.cons rfl (Le.cons rfl (Le.nil _))))))⟩
  generalize (!atIs L B at_ (lv : Int) || ns.contains at_) = bd
  cases bd with
  | true =>
    rw [if_pos rfl]
    refine RunC.cond rfl (fun _ => ?_) (fun g => by cases g)
    obtain ⟨e1, e2, e3⟩ := tw2.bad
    refine RunC.seq (RunC.region (RunO.part 3 rfl ?_))
    refine RunO.store rfl rfl e1 (RunO.all rfl ?_)
    exact RunC.ret ⟨_, rfl, rfl, nv, e2, F2.same e3⟩
  | false =>
  rw [if_neg Bool.false_ne_true]
  refine RunC.cond rfl (fun g => by cases g) (fun _ => RunC.skip ?_)
  -- one node more
  refine RunC.seq (RunC.region (RunO.part 4 rfl ?_))
  refine RunO.load (v := nv) rfl (ow.ld rfl) rfl ?_
  refine RunO.part 2 (h1 := h2.push ⟨is [at_], true⟩) rfl ?_
  have fp : Fr no h2 (h2.push ⟨is [at_], true⟩) := Fr.push _ _ _
  have ob := Ow.push h2 (is [at_])
  have rowp := row.fr fp (fun _ _ _ g => g)
  have owp := ow.fr fp (fun g => g)
  have omp := om.fr fp (fun g => g)
  have onp := on.fr fp (fun g => g)
  have hlnp : lo ≤ (h2.push ⟨is [at_], true⟩).next := Nat.le_trans hln fp.next
  generalize h2.push ⟨is [at_], true⟩ = h3 at *
  refine RunO.append (s := 1) (m := 1) rfl rfl rfl rfl rfl rfl rfl rfl (Nat.le_refl 1) rowp hlnp ob.all rfl (Nat.le_refl 1) rfl (by show 2 * (ns.length + 1) * 8 ≤ _; omega) (by omega) ?_
  intro nv2 h4 row4 f4
  have hat : ∀ b, At nv b → lo ≤ b ∧ b < h3.next := fun b ha => rowp.at ha
  have ow4 := owp.fr f4 (fun g => by have := (hat _ g).1; omega)
  have om4 := omp.fr f4 (fun g => by have := (hat _ g).1; omega)
  have on4 := onp.fr f4 (fun g => hnrow _ g rfl)
  refine RunO.part 2 rfl ?_
  refine RunO.store rfl rfl (store1_ow ow4 rfl row4.cell.1 row4.cell.2 (Nat.le_of_ble_eq_true rfl)) (RunO.all rfl ?_)
  change RunC _ _ _ _ (h4.put wb (some ⟨wc iv B (.slice (some ⟨mb, 0, none⟩) 512 (exc 512)) nv2 false, true⟩)) _ _ _
  rw [← is_app] at row4
  have fw : Fr (· = wb) h4 (h4.put wb (some ⟨wc iv B (.slice (some ⟨mb, 0, none⟩) 512 (exc 512)) nv2 false, true⟩)) := Fr.put _ (.inl rfl)
  have tw5 : TW lo (h4.put wb (some ⟨wc iv B (.slice (some ⟨mb, 0, none⟩) 512 (exc 512)) nv2 false, true⟩)) iv B wb mb nv2 (m, ns ++ [at_], false) :=
    ⟨Ow.put _ ow4.1, om4.fr fw (fun e => hne e.symm), by
      have := row4.fr fw (fun b h1 _ e => by omega)
      rw [List.length_append]; exact this, hlen, hne, hlw, hlm, Nat.le_trans hlnp f4.next⟩
  have on5 := on4.fr fw (show ¬ q = wb by omega)
  have F5 : Fr (TM lo wb mb) h (h4.put wb (some ⟨wc iv B (.slice (some ⟨mb, 0, none⟩) 512 (exc 512)) nv2 false, true⟩)) :=
    ((F2.quiet fp).trans f4 (fun b g => .inl (.inr (.inr (hat b g).1)))).trans fw (fun b e => .inl (.inl e))
  have hn5 : (ns ++ [at_]).length + 8 * rN lv ≤ 100000 := by
    rw [nN_eq] at hns
    rw [List.length_append, List.length_singleton]; omega
  generalize h4.put wb (some ⟨wc iv B (.slice (some ⟨mb, 0, none⟩) 512 (exc 512)) nv2 false, true⟩) = h5 at *
  generalize ns ++ [at_] = ns5 at *
  clear tw2 ow om row on ow4 om4 on4 owp omp onp rowp row4 f4 fp ob fw f12 f2 F2
  refine RunC.seq (RunC.region (RunO.part 1 rfl ?_))
  refine RunO.load (v := .agg ⟨is ps⟩) rfl (nc_ptrs hpl on5) rfl (RunO.all rfl ?_)
  refine RunC.block ?_
  obtain ⟨st, hst⟩ : ∃ st : TS → Nat → TS, st = fun w i => tstep (trec L B lv) B (lv == 0) w (ps.getD i 0) (from_ + i * 8 ^ lv) := ⟨_, rfl⟩
  rw [← hst]
  have hstb : ∀ w i, w.2.2 = true → st w i = w := fun w i hw => by rw [hst]; show tstep _ _ _ _ _ _ = _; unfold tstep; rw [if_pos hw]
  let I : Nat → Env → Heap → Prop := fun d E h' => ∃ (i : Nat) (nv' : Value), i + d = 8 ∧ TW lo h' iv B wb mb nv' ((List.range i).foldl st (m, ns5, false)) ∧ ((List.range i).foldl st (m, ns5, false)).2.1.length ≤ ns5.length + i * rN lv ∧ Fr (TM lo wb mb) h h' ∧ Le (upd (upd (upd (upd (upd E0 0 (.pointer (some ⟨wb, 0, none⟩))) 2 (.int .i64 (lv : Int))) 3 (.int .i64 (from_ : Int))) 51 (.agg ⟨is ps⟩)) 52 (.int .i64 (i : Int))) E
  refine RunC.loop I ?_ (k := 8) ?_
  · rintro d E h6 ⟨i, nv6, hi, tw6, hl6, F6, hE⟩
    refine RunC.le hE ?_
    clear hE
    have hsucc : (List.range (i + 1)).foldl st (m, ns5, false) = st ((List.range i).foldl st (m, ns5, false)) i := by rw [List.range_succ, List.foldl_append]; rfl
    have hall : ((List.range i).foldl st (m, ns5, false)).2.2 = true → (List.range 8).foldl st (m, ns5, false) = (List.range i).foldl st (m, ns5, false) := fun hw => by
      rw [range8_split (i := i) (by omega), foldl_range_bad hstb _ _ hw]
    obtain ⟨w', hw'⟩ : ∃ w', w' = (List.range (i + 1)).foldl st (m, ns5, false) := ⟨_, rfl⟩
    rw [← hw'] at hsucc
    have hfin : i = 8 → (List.range 8).foldl st (m, ns5, false) = (List.range i).foldl st (m, ns5, false) := fun e => by rw [e]
    generalize (List.range i).foldl st (m, ns5, false) = w at *
    obtain ⟨m6, n6, b6⟩ := w
    simp only at hl6 hall
    refine RunC.seq (RunC.region (RunO.all rfl ?_))
    refine RunC.seq (RunC.cond rfl (fun hlt => ?_) (fun hge => ?_))
    · have hlt := of_decide_eq_true hlt
      have hi8 : i < 8 := by omega
      have hps : i < ps.length := by omega
      have hpi : ps.getD i 0 = ps[i] := by rw [List.getD_eq_getElem?_getD, List.getElem?_eq_getElem hps]; rfl
      have hnth := is_nth hps
      have hsti : w' = tstep (trec L B lv) B (lv == 0) (m6, n6, b6) ps[i] (from_ + i * 8 ^ lv) := by rw [hsucc, hst, ← hpi]
      generalize ps[i] = p at *
      have hto : from_ + i * 8 ^ lv + 8 ^ lv ≤ 512 := by
        have : i * 8 ^ lv + 8 ^ lv ≤ 8 ^ lv * 8 := by rw [← Nat.succ_mul, Nat.mul_comm]; exact Nat.mul_le_mul_left _ hi8
        omega
      have hpos : 1 ≤ 8 ^ lv := Nat.pow_pos (by decide)
      obtain ⟨to_, hto_⟩ : ∃ t, t = from_ + i * 8 ^ lv := ⟨_, rfl⟩
      rw [← hto_] at hsti hto
      refine RunC.skip ?_
      refine RunC.seq (RunC.block ?_)
      refine RunC.seq (RunC.region (RunO.part 1 rfl ?_))
      refine RunO.one rfl (v := .int .i64 p) (h1 := h6) ?_ rfl (RunO.all rfl ?_)
      · show pureR h6 (cond (Nat.ble (Nat.succ i) 8) (nth (is ps) (Nat.mul i 1)) none) = _
        rw [Nat.ble_eq_true_of_le (by omega), cond_true, show Nat.mul i 1 = i from Nat.mul_one i, hnth]; rfl
      refine RunC.seq (RunC.region (RunO.part 3 rfl ?_))
      refine RunO.callD (nodUnder_ok (k := lv) (by omega)) rfl rfl rfl ?_
      rintro _ _ ⟨rfl, rfl⟩
      refine RunO.part 1 rfl ?_
      have h1c : (i : Int) * ((8 ^ lv : Nat) : Int) = ((i * 8 ^ lv : Nat) : Int) := by rw [Int.natCast_mul]
      rw [h1c, fw64 (x := ((i * 8 ^ lv : Nat) : Int)) (by omega) (by omega)]
      refine RunO.part 1 rfl ?_
      rw [fw64 (x := (from_ : Int) + ((i * 8 ^ lv : Nat) : Int)) (by omega) (by omega), show (from_ : Int) + ((i * 8 ^ lv : Nat) : Int) = (to_ : Int) by omega]
      refine RunO.all rfl ?_
      refine RunC.block ?_
      have ow6 := tw6.ow
      refine RunC.seq (RunC.region (RunO.part 3 rfl ?_))
      refine RunO.load (v := .bool b6) rfl (ow6.ld rfl) rfl (RunO.all rfl ?_)
      cases b6 with
      | true =>
        refine RunC.cond rfl (fun _ => ?_) (fun g => by cases g)
        rw [hall rfl]
        exact RunC.ret ⟨_, rfl, rfl, nv6, tw6, F6⟩
      | false =>
      refine RunC.cond rfl (fun g => by cases g) (fun _ => ?_)
      have hrl : n6.length + rN lv ≤ 100000 := by
        have : i * rN lv + rN lv ≤ 8 * rN lv := by rw [← Nat.succ_mul]; exact Nat.mul_le_mul_right _ hi8
        omega
      have hnsl : w'.2.1.length ≤ ns5.length + (i + 1) * rN lv := by
        have := tstep_ns (trec_ns L B lv) B (lv == 0) (m6, n6, false) p to_
        rw [← hsti] at this
        rw [Nat.succ_mul]
        simp only at this
        omega
      -- what the loop goes on with
      have next : ∀ (h7 : Heap) (nv7 : Value), TW lo h7 iv B wb mb nv7 w' → Fr (TM lo wb mb) h h7 → ∀ E, Le (upd (upd (upd (upd (upd E0 0 (.pointer (some ⟨wb, 0, none⟩))) 2 (.int .i64 (lv : Int))) 3 (.int .i64 (from_ : Int))) 51 (.agg ⟨is ps⟩)) 52 (.int .i64 ((i + 1 : Nat) : Int))) E → ∃ d', d' < d ∧ I d' E h7 := by
        intro h7 nv7 t7 F7 E hE
        exact ⟨d - 1, by omega, i + 1, nv7, by omega, hw' ▸ t7, hw' ▸ hnsl, F7, hE⟩
      refine RunC.seq (RunC.region (RunO.part 4 rfl ?_))
      refine RunO.load (v := .int .i64 (B : Int)) rfl (ow6.ld rfl) rfl (RunO.all rfl ?_)
      cases hpB : decide (p ≥ (B : Int)) with
      | true =>
        have hw1 : w' = (m6, n6, true) := by rw [hsti]; unfold tstep; rw [if_neg Bool.false_ne_true, if_pos hpB]
        obtain ⟨e1, e2, e3⟩ := tw6.bad
        rw [← hw1] at e2
        refine RunC.cond rfl (fun _ => ?_) (fun g => by cases g)
        refine RunC.region (RunO.part 3 rfl ?_)
        refine RunO.store rfl rfl e1 (RunO.all rfl ?_)
        exact RunC.region (RunO.all rfl (next _ nv6 e2 (F6.same e3) _ (Le.cons (inc64 (by omega)) (Le.cons rfl (Le.cons rfl (Le.cons rfl (Le.cons rfl (Le.nil _))))))))
      | false =>
      refine RunC.cond rfl (fun g => by cases g) (fun _ => ?_)
      by_cases hp0 : p = 0
      · have hw1 : w' = (m6, n6, false) := by
          rw [hsti]; unfold tstep
          rw [if_neg Bool.false_ne_true, if_neg (by rw [hpB]; exact Bool.false_ne_true), hp0]; rfl
        rw [← hw1] at tw6
        subst hp0
        refine RunC.seq (RunC.region (RunO.all rfl (RunC.cond rfl (fun g => by cases g) (fun _ => ?_))))
        refine RunC.seq (RunC.region (RunO.all rfl (RunC.cond rfl (fun g => by cases g) (fun _ => RunC.skip ?_))))
        exact RunC.region (RunO.all rfl (next _ nv6 tw6 F6 _ (Le.cons (inc64 (by omega)) (Le.cons rfl (Le.cons rfl (Le.cons rfl (Le.cons rfl (Le.nil _))))))))
      have hpn : (p != 0) = true := bne_iff_ne.2 hp0
      refine RunC.seq (RunC.region (RunO.part 3 rfl ?_))
      rw [hpn]
      refine RunO.all rfl ?_
      cases hl0 : lv == 0 with
      | true =>
        have hl00 : lv = 0 := beq_iff_eq.1 hl0
        rw [show ((lv : Int) == 0) = true from beq_iff_eq.2 (by omega)]
        have hw1 : w' = (m6.set to_ p, n6, false) := by
          rw [hsti]; unfold tstep
          rw [if_neg Bool.false_ne_true, if_neg (by rw [hpB]; exact Bool.false_ne_true), hl0, hpn]; rfl
        refine RunC.cond rfl (fun _ => ?_) (fun g => by cases g)
        have hmt : to_ < m6.length := by have := tw6.len; simp only at this; omega
        refine RunC.region (RunO.part 3 rfl ?_)
        refine RunO.load (v := .slice (some ⟨mb, 0, none⟩) 512 (exc 512)) rfl (ow6.ld rfl) rfl ?_
        refine RunO.part 2 rfl ?_
        refine RunO.index (s := 1) rfl rfl rfl rfl (by omega) rfl ?_
        refine RunO.store rfl rfl (store1_ow tw6.om rfl rfl rfl (by rw [is_len]; simpa using hmt)) (RunO.all rfl ?_)
        have ei : (is m6).set (0 + to_ * 1) (.int .i64 p) = is (m6.set to_ p) := by rw [Nat.zero_add, Nat.mul_one]; unfold is; rw [List.map_set]
        have fm : Fr (· = mb) h6 (h6.put mb (some ⟨(is m6).set (0 + to_ * 1) (.int .i64 p), true⟩)) := Fr.put _ (.inl rfl)
        have t7 : TW lo (h6.put mb (some ⟨(is m6).set (0 + to_ * 1) (.int .i64 p), true⟩)) iv B wb mb nv6 (m6.set to_ p, n6, false) :=
          ⟨tw6.ow.fr fm hne, by show Ow _ mb (is (m6.set to_ p)); rw [← ei]; exact Ow.put _ tw6.om.1, tw6.row.fr fm (fun b h1 _ e => by omega), by show (m6.set to_ p).length = 512; rw [List.length_set]; exact tw6.len, hne, hlw, hlm, tw6.ln⟩
        rw [← hw1] at t7
        exact RunC.region (RunO.all rfl (next _ nv6 t7 (F6.trans fm (fun b e => .inl (.inr (.inl e)))) _ (Le.cons (inc64 (by omega)) (Le.cons rfl (Le.cons rfl (Le.cons rfl (Le.cons rfl (Le.nil _))))))))
      | false =>
        obtain ⟨k, rfl⟩ : ∃ k, lv = k + 1 := by
          cases lv with
          | zero => cases hl0
          | succ k => exact ⟨k, rfl⟩
        rw [show (((k + 1 : Nat) : Int) == 0) = false from beq_eq_false_iff_ne.2 (by omega)]
        have hw1 : w' = tgo L B k p to_ (m6, n6, false) := by
          rw [hsti]; unfold tstep
          rw [if_neg Bool.false_ne_true, if_neg (by rw [hpB]; exact Bool.false_ne_true), hl0, hpn]; rfl
        refine RunC.cond rfl (fun g => by cases g) (fun _ => ?_)
        refine RunC.seq (RunC.region (RunO.part 1 rfl ?_))
        refine RunO.part 1 rfl ?_
        rw [hpn]
        refine RunO.all rfl ?_
        refine RunC.cond rfl (fun _ => ?_) (fun g => by cases g)
        refine RunC.region (RunO.part 3 rfl ?_)
        refine RunO.part 1 rfl ?_
        rw [fw64 (x := ((k + 1 : Nat) : Int) - 1) (by omega) (by omega), show ((k + 1 : Nat) : Int) - 1 = (k : Int) by omega]
        refine RunO.part 1 rfl ?_
        refine RunO.callD (hrec k rfl (at_ := p) (from_ := to_) (sl_tm sl hiv F6) tw6 hrl hto rfl) rfl rfl rfl ?_
        rintro _ h7 ⟨rfl, nv7, t7, F7⟩
        rw [← hw1] at t7
        refine RunO.all rfl ?_
        exact RunC.region (RunO.all rfl (next _ nv7 t7 (F6.same F7) _ (Le.cons (inc64 (by omega)) (Le.cons rfl (Le.cons rfl (Le.cons rfl (Le.cons rfl (Le.nil _))))))))
    · have hge := of_decide_eq_false hge
      refine RunC.exit ?_
      rw [hfin (by omega)]
      exact ⟨_, rfl, rfl, nv6, tw6, F6⟩
  · exact ⟨0, nv2, by omega, tw5, by simp, F5, Le.cons rfl (Le.cons rfl (Le.cons rfl (Le.cons rfl (Le.cons rfl (Le.nil _)))))⟩
theorem treeGoes_ok {L : List Int} {B lo wb mb : Nat} {iv : Value} (hb : Byt L) (hB : B * 64 ≤ L.length) (hB2 : B ≤ 4096) (hm : L.length ≤ 4611686018427387904) (hiv : ∀ b o c, iv = .slice (some ⟨b, o, none⟩) L.length c → ¬ TM lo wb mb b) : ∀ (lv : Nat), lv ≤ 2 → GoesOk L B lo wb mb iv lv := by
  intro lv
  induction lv with
  | zero => intro h; exact goes_body hb hB hB2 hm hiv h (fun k e => by cases e)
  | succ k ih =>
    intro h
    exact goes_body hb hB hB2 hm hiv h (fun j e => by cases e; exact ih (by omega))
end Go.Proofs.Ytdcggjkcbheolaa
end
section
set_option linter.unusedVariables false
namespace Go.Am
open Go.RowKit
variable {P : Program}
/-- A row appended to lies in a new block. -/
theorem append_row2 {h : Heap} {t e : TypeId} {i : TypeInfo} {z : Value} {lo s k m c' : Nat} {xv : Value} {cells news : List Value} {a : Addr}
    (hu : P.underlying t = some (.slice e)) (hi : P.info? e = some i) (hz : zeroOf P e = some z) (hlz : lenIs (cellsOf z) i.size = true) (hs : i.size = s) (hs1 : 1 ≤ s) (row : Row lo h xv s k cells)
    (rd : Rd h a news) (hn : news.length = m * s) (hm : 1 ≤ m) (ha : allCells news = true) (hb : 2 * (k + m) * i.bytes ≤ 281474976710656) (hb2 : k + m ≤ 9223372036854775807) :
    ∃ v' h', aappend P h t t xv (.slice (some a) m c') = some (v', h') ∧ Row h.next h' v' s (k + m) (cells ++ news) ∧ Fr (At xv) h h' := by
  have row2 : Row 0 h xv s k cells := ⟨row.1, row.2.imp (fun x => x) (fun ⟨b, _, h2⟩ => ⟨b, Nat.zero_le _, h2⟩)⟩
  have hgen : ∀ lo', Row lo' h xv s k cells → lo' ≤ h.next → ∃ v' h', aappend P h t t xv (.slice (some a) m c') = some (v', h') ∧ Row lo' h' v' s (k + m) (cells ++ news) ∧ Fr (At xv) h h' :=
    fun lo' r hl => append_row hu hi hz hlz hs hs1 r hl rd hn hm ha hb hb2
  rcases row.2 with ⟨rfl, hk⟩ | ⟨b, hb1, rfl, ow⟩
  · exact hgen h.next ⟨row.1, .inl ⟨rfl, hk⟩⟩ (Nat.le_refl _)
  · obtain ⟨v', h', e1, r1, f1⟩ := hgen 0 row2 (Nat.zero_le _)
    refine ⟨v', h', e1, ⟨r1.1, .inr ?_⟩, f1⟩
    obtain ⟨hl, _⟩ := row
    subst hs
    obtain ⟨m, rfl⟩ : ∃ j, m = j + 1 := ⟨m - 1, by omega⟩
    have hr : asrc h i.size (.slice (some a) (m + 1) c') = some (m + 1, news) := by
      have hq : aread h a (Nat.mul (m + 1) i.size) = some (news.take ((m + 1) * i.size)) := rd.read0 (m := (m + 1) * i.size) (by omega)
      simp only [asrc, hq]
      rw [List.take_of_length_le (by omega)]
    have e1' : Nat.ble (Nat.mul (Nat.mul 2 (Nat.add k (Nat.succ m))) i.bytes) 281474976710656 = true := Nat.ble_eq_true_of_le hb
    have e2 : Nat.ble (Nat.add k (Nat.succ m)) 9223372036854775807 = true := Nat.ble_eq_true_of_le hb2
    have e3 : aread h ⟨b, 0, none⟩ (Nat.mul k i.size) = some cells := by
      have := ow.all.read0 (m := k * i.size) (by omega)
      rw [List.take_of_length_le (by omega)] at this
      exact this
    have e4 : lenIs cells (Nat.add 0 (Nat.mul k i.size)) = true := (lenIs_iff _ _).2 (by show _ = 0 + k * i.size; omega)
    have key : aappend P h t t (.slice (some ⟨b, 0, none⟩) k (unkc i.size)) (.slice (some a) (m + 1) c') = some (.slice (some ⟨h.next, 0, none⟩) (k + (m + 1)) (unkc i.size), (h.put b none).push ⟨cells ++ news, true⟩) := by
      simp only [aappend, hu, Nat.beq_refl, cond_true, hi, hz, hlz, Nat.ble_eq_true_of_le hs1, hr, e1', e2, e3, unk_unkc, half_unkc, ow.2, e4, ha]
      rfl
    rw [key] at e1
    cases e1
    exact ⟨h.next, Nat.le_refl _, rfl, Ow.push _ _⟩
section
variable {n : Nat} {ops rest : List Oper} {E E1 : Env} {h h1 : Heap} {Q : Env → Heap → Prop}
theorem RunO.append2 {d : Tmp} {t ty e : TypeId} {x y : Operand} {pos : String} {after : Array Edge} {i : TypeInfo} {z : Value} {lo s k m c' : Nat} {xv : Value} {cells news : List Value} {a : Addr}
    (hx : gE E x = some xv) (hy : gE E y = some (.slice (some a) m c')) (hd : Nat.ble (Nat.succ d) n = true)
    (hu : P.underlying t = some (.slice e)) (hi : P.info? e = some i) (hz : zeroOf P e = some z) (hlz : lenIs (cellsOf z) i.size = true) (hs : i.size = s) (hs1 : 1 ≤ s) (row : Row lo h xv s k cells)
    (rd : Rd h a news) (hn : news.length = m * s) (hm : 1 ≤ m) (ha : allCells news = true) (hb : 2 * (k + m) * i.bytes ≤ 281474976710656) (hb2 : k + m ≤ 9223372036854775807)
    (r : ∀ v' h', Row h.next h' v' s (k + m) (cells ++ news) → Fr (At xv) h h' → RunO P n ops rest (upd E d v') h' Q) : RunO P n ops (⟨some d, .call ⟨.builtin .append, #[x, y], #[t, t]⟩, ty, pos, after, none⟩ :: rest) E h Q := by
  obtain ⟨v', h', h1, h2, h3⟩ := append_row2 (c' := c') hu hi hz hlz hs hs1 row rd hn hm ha hb hb2
  refine RunO.one rfl (v := v') (h1 := h') ?_ (by simp only [eput, hd, cond_true]) (r v' h' h2 h3)
  simp only [eop, gs, hx, hy, abuiltin, h1]
end
end Go.Am
end
section
set_option linter.unusedVariables false
namespace Go.Am
open Go.RowKit
/- A region that draws its order: its first operations write nothing old, and only these are drawn; what comes behind may write. -/
/-- What comes behind: it may write m. -/
def RunT (P : Program) (n : Nat) (ops rest : List Oper) (m : Nat → Prop) (E : Env) (h : Heap) (Q : Env → Heap → Prop) : Prop :=
  ∀ l0, l0 ≤ h.next → (∀ j, m j → l0 ≤ j) → RunD P n ops rest l0 E h (fun E' h' _ => Fg m h h' ∧ Q E' h')
section
variable {P : Program} {n : Nat} {ops rest : List Oper} {m : Nat → Prop} {E E1 : Env} {h h1 : Heap} {Q : Env → Heap → Prop}
def drawTOk (k : Nat) (ops : Array Oper) : Bool := match drawOk ops with
  | some (p :: ps) => idxOk (ops.toList.take k).length (p :: ps)
  | _ => false
theorem RunQ.indexA {d : Tmp} {t ty : TypeId} {x i : Operand} {pos : String} {after : Array Edge} {gd : Option (Nat × Bool)} {b o len s k : Nat} {ik : IntKind} {e : TypeId}
    (hw : ewanted ops E ⟨some d, .indexAddr t x i, ty, pos, after, gd⟩ = some true) (hx : gE E x = some (.pointer (some ⟨b, o, none⟩))) (hi : gE E i = some (.int ik (k : Int))) (hu : P.underlying t = some (.array len e)) (hs : sizeOf P e = some s) (hk : k < len) (hd : Nat.ble (Nat.succ d) n = true)
    (r : RunQ P n ops rest (upd E d (.pointer (some ⟨b, o + k * s, none⟩))) h Q) : RunQ P n ops (⟨some d, .indexAddr t x i, ty, pos, after, gd⟩ :: rest) E h Q := by
  refine RunQ.oneG (v := .pointer (some ⟨b, o + k * s, none⟩)) (f := .none) (h1 := h.lo h.next) hw ?_ (fun _ => rfl) rfl (Fr.refl _ _) (by simp only [eput, hd, cond_true]) r.lo
  have hi : gE E i = some (.int ik (.ofNat k)) := hi
  simp only [eop, hx, hi, aindexAddr, hu, hs, Nat.ble_eq_true_of_le (show Nat.succ k ≤ len from hk), cond_true]
  rfl
end
end Go.Am
end
section
set_option linter.unusedVariables false
set_option maxRecDepth 100000
open Go Go.Am Go.RowKit
namespace Go.Proofs.Ytdcggjkcbheolaa
open Go.Proofs.Try
/-- The image lies apart. -/
def Away (lo gb : Nat) (iv : Value) (n : Nat) : Prop := ∀ b o c, iv = .slice (some ⟨b, o, none⟩) n c → b ≠ gb ∧ b < lo
theorem sl_away {lo gb : Nat} {h h' : Heap} {iv : Value} {n s : Nat} {cs : List Value} {M : Nat → Prop} (sl : Sl h iv s n cs) (ha : Away lo gb iv n) (hM : ∀ b, M b → b = gb ∨ lo ≤ b) (f : Fr M h h') : Sl h' iv s n cs := by
  refine ⟨sl.1, sl.2.1, sl.2.2.imp (fun y => y) ?_⟩
  rintro ⟨b, o, c, h1, h2, h3⟩
  have := ha b o c h1
  exact ⟨b, o, c, h1, h2, h3.fr f (fun g => by rcases hM b g with e | e <;> omega)⟩
theorem arr_store {t : TypeId} {h : Heap} {b : Nat} {qs ps : List Int} (ow : Ow h b (is qs)) (hq : qs.length = 8) (hp : ps.length = 8) (hs : Go.Am.sizeOf prog t = some 8) : astore prog h t ⟨b, 0, none⟩ (.agg ⟨is ps⟩) = some (h.put b (some ⟨is ps, true⟩)) := by
  have := store_ow (P := prog) (t := t) (v := .agg ⟨is ps⟩) (off := 0) ow hs (by show (is ps).length = 8; rw [is_len, hp]) (allCells_map (f := Value.int .i64) (fun _ => rfl) ps) (by rw [is_len, hq]; exact Nat.le_refl _)
  rw [this]
  congr 4
  show [] ++ is ps ++ (is qs).drop (0 + 8) = _
  rw [List.drop_of_length_le (by rw [is_len, hq]; omega)]; simp
theorem arr_load {h : Heap} {b : Nat} {ps : List Int} (hp : ps.length = 8) (ow : Ow h b (is ps)) : aload prog h 105 ⟨b, 0, none⟩ = some (.agg ⟨is ps⟩) := by
  refine Ow.ld ow ?_
  show (match takeN 8 (dropN 0 (is ps)) with | some l => some (Value.agg ⟨l⟩) | none => none) = _
  rw [takeN_eq, dropN_eq, List.drop_zero, if_pos (by rw [is_len, hp]; exact Nat.le_refl 8), List.take_of_length_le (by rw [is_len, hp]; exact Nat.le_refl _)]
end Go.Proofs.Ytdcggjkcbheolaa
end
section
set_option linter.unusedVariables false
set_option maxRecDepth 100000
open Go Go.Am
namespace Go.Proofs.Ytdcggjkcbheolaa
open Go.Proofs.Try
theorem refIn_ok {h : Heap} {a lo hi : Int} : RunF prog 50 [.int .i64 a, .int .i64 lo, .int .i64 hi] h fun v h' => v = .bool (inB a lo hi) ∧ h = h' := by
  refine RunF.walk func50 rfl rfl ?_
  refine RunC.seq (RunC.region (RunO.all rfl ?_))
  refine RunC.seq (RunC.region (RunO.part 4 rfl ?_))
  unfold inB
  cases decide (a ≥ lo) with
  | true => exact RunO.all rfl (RunC.ret ⟨_, rfl, by simp, rfl⟩)
  | false => exact RunO.all rfl (RunC.ret ⟨_, rfl, by simp, rfl⟩)
theorem refLink_ok {h : Heap} {a b : Int} : RunF prog 115 [.int .i64 a, .int .i64 b] h fun v h' => v = .bool (a == 0 || inB a 2 (fwrap .i64 (b - 1))) ∧ h = h' := by
  refine RunF.walk func115 rfl rfl ?_
  refine RunC.seq (RunC.region (RunO.all rfl ?_))
  refine RunC.seq (RunC.region (RunO.part 3 rfl ?_))
  cases (a == 0) with
  | true => exact RunO.all rfl (RunC.ret ⟨_, rfl, rfl, rfl⟩)
  | false =>
    refine RunO.part 3 rfl ?_
    refine RunO.callDG rfl refIn_ok rfl rfl rfl ?_
    rintro _ _ ⟨rfl, rfl⟩
    exact RunO.all rfl (RunC.ret ⟨_, rfl, rfl, rfl⟩)
theorem leN_drop_le : ∀ {l : List Int}, Byt l → ∀ i, leN (l.drop i) ≤ leN l
  | [], _, i => by simp
  | x :: t, h, 0 => by simp
  | x :: t, h, i + 1 => by
    have ht : Byt t := fun y hy => h y (List.mem_cons_of_mem _ hy)
    have h1 := leN_drop_le ht i
    have h2 := (leN_bound ht).1
    have h3 := (h x (List.mem_cons_self ..)).1
    show leN (t.drop i) ≤ x + 256 * leN t
    omega
def leNum (l : List Int) : Int × Bool := if leN l > 4611686018427387903 then (0, false) else (leN l, true)
theorem refNumber_ok {h : Heap} {v : Value} {l : List Int} (sl : Sl h v 1 l.length (us l)) (hb : Byt l) (hm : l.length ≤ 4611686018427387904) :
    RunF prog 114 [v] h fun r h' => r = .tuple #[.int .i64 (leNum l).1, .bool (leNum l).2] ∧ h = h' := by
  refine RunF.walk func114 rfl rfl ?_
  obtain ⟨A, c, rfl, hc, _⟩ := sl.form
  refine RunC.seq (RunC.region (RunO.all rfl ?_))
  refine RunC.seq (RunC.region (RunO.all rfl ?_))
  refine RunC.seq (RunC.seq (RunC.region (RunO.all rfl ?_)))
  rw [fw64 (by omega) (by omega)]
  refine RunC.block ?_
  let I : Nat → Env → Heap → Prop := fun k E h' => k ≤ l.length ∧ leN (l.drop k) ≤ 4611686018427387903 ∧ h = h' ∧ Le (upd (upd (upd E0 0 (.slice A l.length c)) 4 (.int .i64 (leN (l.drop k)))) 5 (.int .i64 ((k : Int) - 1))) E
  refine RunC.loop I ?_ (k := l.length) ?_
  · rintro k E h' ⟨hk, hN, rfl, hE⟩
    refine RunC.le hE ?_
    clear hE
    refine RunC.seq (RunC.seq (RunC.region (RunO.all rfl ?_)))
    refine RunC.cond rfl (fun hlt => ?_) (fun hge => ?_)
    · have hlt := of_decide_eq_true hlt
      obtain ⟨i, rfl⟩ : ∃ i, k = i + 1 := ⟨k - 1, by omega⟩
      have hi : i < l.length := by omega
      have hx := hb.get hi
      have hd : l.drop i = l[i] :: l.drop (i + 1) := List.drop_eq_getElem_cons hi
      have hdb : 0 ≤ leN (l.drop (i + 1)) := (leN_bound (fun x hx => hb x (List.mem_of_mem_drop hx))).1
      have hle := leN_drop_le hb i
      have hdN : leN (l.drop i) = l[i] + 256 * leN (l.drop (i + 1)) := by rw [hd]; rfl
      rw [show (((i + 1 : Nat) : Int) - 1) = (i : Int) by omega]
      rw [hdN] at hle
      generalize leN (l.drop (i + 1)) = N at *
      refine RunC.skip ?_
      refine RunC.seq (RunC.block ?_)
      refine RunC.seq (RunC.seq (RunC.region (RunO.part 3 rfl ?_)))
      refine RunO.at (s := 1) (u := .int .u8 l[i]) rfl rfl sl rfl rfl hi (by show nth (us l) (i * 1) = _; rw [Nat.mul_one]; exact us_nth hi) rfl rfl rfl ?_
      refine RunO.part 1 rfl ?_
      rw [fw64 (x := l[i]) (by omega) (by omega)]
      refine RunO.part 2 rfl ?_
      rw [fw64 (x := 4611686018427387903 - l[i]) (by omega) (by omega), Int.tdiv_eq_ediv_of_nonneg (by omega), fw64 (by omega) (by omega)]
      refine RunO.all rfl ?_
      refine RunC.cond rfl (fun hgt => ?_) (fun hng => ?_)
      · have hgt := of_decide_eq_true hgt
        have e : leNum l = (0, false) := by unfold leNum; rw [if_pos (by omega)]
        rw [e]
        exact RunC.seq (RunC.region (RunO.all rfl (RunC.ret ⟨_, rfl, rfl, rfl⟩)))
      · have hng := of_decide_eq_false hng
        refine RunC.skip (RunC.region (RunO.part 2 rfl ?_))
        rw [fw64 (x := 256 * N) (by omega) (by omega)]
        refine RunO.part 2 rfl ?_
        refine RunO.at (s := 1) (u := .int .u8 l[i]) rfl rfl sl rfl rfl hi (by show nth (us l) (i * 1) = _; rw [Nat.mul_one]; exact us_nth hi) rfl rfl rfl ?_
        refine RunO.part 1 rfl ?_
        rw [fw64 (x := l[i]) (by omega) (by omega)]
        refine RunO.all rfl (RunC.region (RunO.all rfl ?_))
        rw [fw64 (x := 256 * N + l[i]) (by omega) (by omega), fw64 (x := (i : Int) - 1) (by omega) (by omega)]
        refine ⟨i, by omega, by omega, by omega, rfl, Le.cons rfl (Le.cons ?_ (Le.cons rfl (Le.nil _)))⟩
        rw [hdN, Int.add_comm]; rfl
    · have hge := of_decide_eq_false hge
      refine RunC.exit ?_
      obtain rfl : k = 0 := by omega
      rw [List.drop_zero] at hN
      have e : leNum l = (leN l, true) := by unfold leNum; rw [if_neg (by omega)]
      rw [e]
      exact RunC.seq (RunC.region (RunO.all rfl (RunC.ret ⟨_, rfl, rfl, rfl⟩)))
  · refine ⟨Nat.le_refl _, by rw [List.drop_length]; decide, rfl, Le.cons rfl (Le.cons ?_ (Le.cons rfl (Le.nil _)))⟩
    rw [List.drop_length]; rfl
theorem rdPart {h : Heap} {b o : Nat} {l : List Int} {k m : Nat} (rd : Rd h ⟨b, o, none⟩ (us l)) (hi : k + m ≤ l.length) : Rd h ⟨b, o + k * 1, none⟩ (us ((l.drop k).take m)) := by
  obtain ⟨h1, h2, ob, ho, he⟩ := rd
  refine ⟨rfl, h2, ob, ho, ?_⟩
  have hl := congrArg List.length he
  rw [List.length_take, List.length_drop, us_len] at hl
  simp only at hl he ⊢
  have e : us ((l.drop k).take m) = ((us l).drop k).take m := by unfold us; rw [List.map_take, List.map_drop]
  have hlen : (us ((l.drop k).take m)).length = m := by rw [us_len, List.length_take, List.length_drop]; omega
  rw [hlen, e, Nat.mul_one]
  apply List.ext_getElem?
  intro j
  rw [List.getElem?_take, List.getElem?_take]
  split
  · rename_i hj
    rw [List.getElem?_drop, List.getElem?_drop]
    conv => rhs; rw [← he]
    rw [us_len, List.getElem?_take, if_pos (by omega), List.getElem?_drop]
    congr 1; omega
  · rfl
theorem sl_part {h : Heap} {v : Value} {l : List Int} (sl : Sl h v 1 l.length (us l)) {k m : Nat} (hk : k < m) (hm : m ≤ l.length) (ik jk : IntKind) :
    ∃ v', aslice prog 23 v (some (.int ik (k : Int))) (some (.int jk (m : Int))) none = some v' ∧ Sl h v' 1 ((l.drop k).take (m - k)).length (us ((l.drop k).take (m - k))) := by
  obtain ⟨b, o, c, rfl, hc, rd⟩ := sl.nz (by omega)
  obtain ⟨c', h1, h2⟩ := slice_mid (P := prog) (t := 23) (b := b) (o := o) (ik := ik) (jk := jk) rfl rfl hc hk hm
  have hl : ((l.drop k).take (m - k)).length = m - k := by rw [List.length_take, List.length_drop]; omega
  refine ⟨_, h2, ?_⟩
  rw [hl]
  refine Rd.sl (rdPart rd (k := k) (m := m - k) (by omega)) (by rw [us_len, hl]; omega) (by have := sl.2.1; omega) h1
theorem refGet4_ok {h : Heap} {v : Value} {l : List Int} {k : Nat} (sl : Sl h v 1 l.length (us l)) (hb : Byt l) (hk : k + 4 ≤ l.length) (hm : l.length ≤ 4611686018427387904) :
    RunF prog 77 [v, .int .i64 (k : Int)] h fun r h' => r = .int .i64 (leGet l k 4).1 ∧ h = h' := by
  refine RunF.walk func77 rfl rfl ?_
  refine RunC.seq (RunC.region (RunO.all rfl ?_))
  refine RunC.seq (RunC.region (RunO.part 4 rfl ?_))
  rw [fw64 (x := (k : Int) + 4) (by omega) (by omega), show (k : Int) + 4 = ((k + 4 : Nat) : Int) by omega]
  obtain ⟨v', h1, h2⟩ := sl_part sl (k := k) (m := k + 4) (by omega) hk .i64 .i64
  rw [show k + 4 - k = 4 by omega] at h2
  refine RunO.one (v := v') (h1 := h) rfl (by show pureR h _ = _; exact congrArg (pureR h) h1) rfl ?_
  have hl : ((l.drop k).take 4).length = 4 := by rw [List.length_take, List.length_drop]; omega
  refine RunO.callD (refNumber_ok h2 (hb.part k 4) (by omega)) rfl rfl rfl ?_
  rintro _ _ ⟨rfl, rfl⟩
  refine RunO.all rfl ?_
  refine RunC.seq (RunC.region (RunO.all rfl (RunC.ret ⟨_, rfl, ?_, rfl⟩)))
  unfold leNum leGet
  split <;> rfl
theorem zerosN_cut {l : List Int} {k i m : Nat} (hk : k ≤ i) (him : i < m) (hm : m ≤ l.length) (h : ((l.drop k).take (i - k)).all (· == 0) = true) (hx : l[i] ≠ 0) : zerosN l k m = false := by
  unfold zerosN
  rw [List.all_eq_false]
  refine ⟨l[i], ?_, by simpa using hx⟩
  rw [List.mem_iff_getElem]
  refine ⟨i - k, by rw [List.length_take, List.length_drop]; omega, ?_⟩
  rw [List.getElem_take, List.getElem_drop]
  congr 1; omega
theorem refZeros_ok {h : Heap} {v : Value} {l : List Int} {k m : Nat} (sl : Sl h v 1 l.length (us l)) (hk : k ≤ m) (hml : m ≤ l.length) (hm : l.length ≤ 4611686018427387904) :
    RunF prog 79 [v, .int .i64 (k : Int), .int .i64 (m : Int)] h fun r h' => r = .bool (zerosN l k m) ∧ h = h' := by
  refine RunF.walk func79 rfl rfl ?_
  obtain ⟨A, c, rfl, hc, _⟩ := sl.form
  refine RunC.seq (RunC.region (RunO.all rfl ?_))
  refine RunC.seq (RunC.seq (RunC.region (RunO.part 1 rfl ?_)))
  refine RunO.one (v := .int .i64 k) (h1 := h) rfl (by
    show some (Value.int .i64 (cond (decide ((0 : Int) > k)) 0 k), h) = _
    rw [decide_eq_false (by omega)]; rfl) rfl (RunO.all rfl ?_)
  refine RunC.block ?_
  let I : Nat → Env → Heap → Prop := fun d E h' => ∃ i, k ≤ i ∧ i + d = m ∧ ((l.drop k).take (i - k)).all (· == 0) = true ∧ h = h' ∧ Le (upd (upd (upd E0 0 (.slice A l.length c)) 2 (.int .i64 m)) 7 (.int .i64 (i : Int))) E
  refine RunC.loop I ?_ (k := m - k) ?_
  · rintro d E h' ⟨i, hi, hd, hz, rfl, hE⟩
    refine RunC.le hE ?_
    clear hE
    refine RunC.seq (RunC.seq (RunC.region (RunO.part 4 rfl ?_)))
    by_cases c1 : i < m
    · rw [show decide ((i : Int) < m) = true from decide_eq_true (by omega)]
      refine RunO.all rfl ?_
      rw [show decide ((i : Int) < l.length) = true from decide_eq_true (by omega)]
      refine RunC.cond rfl (fun _ => RunC.skip ?_) (fun g => by cases g)
      have hil : i < l.length := by omega
      refine RunC.seq (RunC.block ?_)
      refine RunC.seq (RunC.region (RunO.part 2 rfl ?_))
      refine RunO.at (s := 1) (u := .int .u8 l[i]) rfl rfl sl rfl rfl hil (by show nth (us l) (i * 1) = _; rw [Nat.mul_one]; exact us_nth hil) rfl rfl rfl ?_
      refine RunO.all rfl ?_
      refine RunC.cond rfl (fun hne => ?_) (fun heq => ?_)
      · have hne : l[i] ≠ 0 := by simpa using hne
        rw [zerosN_cut hi c1 hml hz hne]
        exact RunC.seq (RunC.region (RunO.all rfl (RunC.ret ⟨_, rfl, rfl, rfl⟩)))
      · have heq : l[i] = 0 := by simpa using heq
        refine RunC.skip (RunC.region (RunO.all rfl ?_))
        refine ⟨d - 1, by omega, i + 1, by omega, by omega, ?_, rfl, Le.cons (inc64 (by omega)) (Le.cons rfl (Le.cons rfl (Le.nil _)))⟩
        rw [show i + 1 - k = (i - k) + 1 by omega, take_drop_snoc (by omega), List.all_append, hz]
        have e : l[k + (i - k)]'(by omega) = 0 := by
          have : k + (i - k) = i := by omega
          simp only [this]; exact heq
        rw [e]; rfl
    · rw [show decide ((i : Int) < m) = false from decide_eq_false (by omega)]
      refine RunO.all rfl ?_
      refine RunC.cond rfl (fun g => by cases g) (fun _ => RunC.exit ?_)
      have him : i = m := by omega
      subst him
      rw [show zerosN l k i = true from hz]
      exact RunC.seq (RunC.region (RunO.all rfl (RunC.ret ⟨_, rfl, rfl, rfl⟩)))
  · exact ⟨k, Nat.le_refl _, by omega, by rw [Nat.sub_self]; rfl, rfl, Le.cons rfl (Le.cons rfl (Le.cons rfl (Le.nil _)))⟩
end Go.Proofs.Ytdcggjkcbheolaa
end
section
set_option linter.unusedVariables false
set_option maxRecDepth 100000
open Go Go.Am
namespace Go.Proofs.Ytdcggjkcbheolaa
open Go.Proofs.Try
theorem us_app (a b : List Int) : us (a ++ b) = us a ++ us b := by unfold us; rw [List.map_append]
theorem refBytes_ok {h : Heap} {s : Nat} {v : Int} (hs : s ≤ 8) (h0 : 0 ≤ v) (hv : v ≤ 9223372036854775807) : RunF prog 80 [.int .i64 (s : Int), .int .i64 v] h fun r h' => Row h.next h' r 1 s (us (leB s v)) ∧ Fr no h h' := by
  refine RunF.walk func80 rfl rfl ?_
  refine RunC.seq (RunC.region (RunO.all rfl ?_))
  refine RunC.seq (RunC.region (RunO.all rfl ?_))
  refine RunC.seq (RunC.seq (RunC.region (RunO.all rfl ?_)))
  refine RunC.block ?_
  let I : Nat → Env → Heap → Prop := fun d E h' => ∃ (i : Nat) (w : Value), i + d = s ∧ Row h.next h' w 1 i (us (leB i v)) ∧ Fr (fun b => h.next ≤ b) h h' ∧ Le (upd (upd (upd (upd E0 0 (.int .i64 s)) 1 (.int .i64 (v / 256 ^ i))) 5 w) 6 (.int .i64 (i : Int))) E
  refine RunC.loop I ?_ (k := s) ?_
  · rintro d E h' ⟨i, w, hi, row, hf, hE⟩
    refine RunC.le hE ?_
    clear hE
    have hp : (0 : Int) < 256 ^ i := Int.pow_pos (by decide)
    have q0 : 0 ≤ v / 256 ^ i := Int.ediv_nonneg h0 (by omega)
    have q1 : v / 256 ^ i ≤ v := by
      have := Int.ediv_le_self (256 ^ i) h0
      exact this
    refine RunC.seq (RunC.seq (RunC.region (RunO.all rfl ?_)))
    refine RunC.cond rfl (fun hlt => ?_) (fun hge => ?_)
    · have hlt := of_decide_eq_true hlt
      refine RunC.skip ?_
      refine RunC.seq (RunC.block ?_)
      refine RunC.seq (RunC.region (RunO.part 3 rfl ?_))
      rw [Int.tmod_eq_emod_of_nonneg q0]
      refine RunO.part 1 rfl ?_
      rw [fwu8, Int.emod_emod_of_dvd _ (show (256 : Int) ∣ 256 from ⟨1, rfl⟩)]
      refine RunO.part 1 (h1 := h'.push ⟨us [v / 256 ^ i % 256], true⟩) rfl ?_
      have row1 := row.fr (m := no) (Fr.push no h' ⟨us [v / 256 ^ i % 256], true⟩) (fun _ _ _ g => g)
      have hf1 := hf.same (Fr.push _ h' ⟨us [v / 256 ^ i % 256], true⟩)
      have ob := Ow.push h' (us [v / 256 ^ i % 256])
      have hat : ∀ b, At w b → h.next ≤ b := fun b ha => (row.at ha).1
      generalize h'.push ⟨us [v / 256 ^ i % 256], true⟩ = h2 at *
      refine RunO.append (s := 1) (m := 1) rfl rfl rfl rfl rfl rfl rfl rfl (Nat.le_refl 1) row1 hf1.next ob.all rfl (Nat.le_refl 1) rfl (by show 2 * (i + 1) * 1 ≤ _; omega) (by omega) ?_
      intro w3 h3 row3 f3
      rw [← us_app, ← leB_snoc] at row3
      refine RunO.all rfl ?_
      refine RunC.region (RunO.part 2 rfl ?_)
      rw [Int.tdiv_eq_ediv_of_nonneg q0, Int.ediv_ediv_of_nonneg (by omega), ← Int.pow_succ, fw64 (x := v / 256 ^ (i + 1)) (by have := Int.ediv_nonneg h0 (show (0 : Int) ≤ 256 ^ (i + 1) from Int.le_of_lt (Int.pow_pos (by decide))); omega) (by have := Int.ediv_le_self (256 ^ (i + 1)) h0; omega)]
      refine RunO.all rfl ?_
      refine RunC.region (RunO.all rfl ?_)
      exact ⟨d - 1, by omega, i + 1, w3, by omega, row3, hf1.trans f3 (fun b g => .inl (hat b g)), Le.cons (inc64 (by omega)) (Le.cons rfl (Le.cons rfl (Le.cons rfl (Le.nil _))))⟩
    · have hge := of_decide_eq_false hge
      refine RunC.exit ?_
      have hi2 : i = s := by omega
      subst hi2
      refine RunC.seq (RunC.region (RunO.all rfl (RunC.ret ⟨_, rfl, row, frNo hf⟩)))
  · exact ⟨0, _, by omega, Row.nil _ _ _, Fr.refl _ _, Le.cons rfl (Le.cons rfl (Le.cons (by show some (Value.int .i64 v) = some (.int .i64 (v / 1)); rw [Int.ediv_one]) (Le.cons rfl (Le.nil _))))⟩
end Go.Proofs.Ytdcggjkcbheolaa
namespace Go.Proofs.Ytdcggjkcbheolaa.Crc
open Go.Proofs.Try
theorem rem32 (a : W) : abin .rem .u32 (nt a) .u32 2 = some (.int .u32 (nt a % 2)) := by
  show some (Value.int .u32 ((nt a).tmod 2)) = _
  rw [Int.tmod_eq_emod_of_nonneg (nt0 a)]
theorem quo32 (a : W) : abin .quo .u32 (nt a) .u32 2 = some (.int .u32 (nt (a >>> 1))) := by
  show some (Value.int .u32 (fwrap .u32 ((nt a).tdiv 2))) = _
  have h0 := nt0 a
  have h1 := nt1 a
  rw [Int.tdiv_eq_ediv_of_nonneg h0, fwu32]
  congr 2
  unfold nt
  rw [BitVec.toNat_ushiftRight, Nat.shiftRight_eq_div_pow]
  have := a.isLt
  omega
theorem odd32 (a : W) : (nt a % 2 == 1) = a.getLsbD 0 := by
  rw [← bit0]
  unfold nt
  rw [BitVec.toNat_and]
  have e : a.toNat &&& (1#32).toNat = a.toNat % 2 := by
    show a.toNat &&& 1 = _
    exact Nat.and_one_is_mod _
  rw [e]
  have : ((a.toNat % 2 : Nat) : Int) = (a.toNat : Int) % 2 := by omega
  rw [this]
end Go.Proofs.Ytdcggjkcbheolaa.Crc
namespace Go.Proofs.Ytdcggjkcbheolaa
open Go.Proofs.Try Crc
theorem refMore_ok {h : Heap} {v : Value} {s0 : Int} {l : List Int} (sl : Sl h v 1 l.length (us l)) (hm : l.length ≤ 4611686018427387904) :
    RunF prog 137 [.int .i64 s0, v] h fun r h' => r = .int .i64 (Crc.sum s0 l) ∧ h = h' := by
  refine RunF.walk func137 rfl rfl ?_
  obtain ⟨A, c, rfl, hc, _⟩ := sl.form
  refine RunC.seq (RunC.region (RunO.all rfl ?_))
  refine RunC.seq (RunC.region (RunO.part 2 rfl ?_))
  rw [fwu32, ← nt_ofInt]
  unfold Crc.sum
  generalize BitVec.ofInt 32 s0 = v
  refine RunO.un rfl (not32 v) rfl ?_
  refine RunO.all rfl ?_
  refine RunC.seq (RunC.seq (RunC.region (RunO.all rfl ?_)))
  refine RunC.block ?_
  let I : Nat → Env → Heap → Prop := fun m E h' => ∃ i : Nat, i + m = l.length ∧ h = h' ∧ Le (upd (upd (upd E0 1 (.slice A l.length c)) 5 (.int .u32 (nt (st (l.take i) (~~~ v))))) 6 (.int .i64 i)) E
  refine RunC.loop I ?_ (k := l.length) ?_
  · rintro m E h' ⟨i, hi, rfl, hE⟩
    refine RunC.le hE ?_
    clear hE
    refine RunC.seq (RunC.seq (RunC.region (RunO.all rfl ?_)))
    refine RunC.cond rfl (fun hlt => ?_) (fun hge => ?_)
    · have hlt := of_decide_eq_true hlt
      have hlt2 : i < l.length := by omega
      refine RunC.skip ?_
      refine RunC.seq (RunC.block ?_)
      refine RunC.seq (RunC.region (RunO.part 3 rfl ?_))
      refine RunO.at (s := 1) (u := .int .u8 l[i]) rfl rfl sl rfl rfl hlt2 (by show nth (us l) (i * 1) = _; rw [Nat.mul_one]; exact us_nth hlt2) rfl rfl rfl ?_
      have hst : st (l.take (i + 1)) (~~~ v) = Zn 8 (st (l.take i) (~~~ v) ^^^ BitVec.ofInt 32 l[i]) := by rw [List.take_succ_eq_append_getElem hlt2, st_snoc]
      generalize l[i] = x at *
      generalize st (l.take i) (~~~ v) = s at *
      refine RunO.part 1 rfl ?_
      rw [fwu32, ← nt_ofInt]
      refine RunO.bin rfl rfl (xor32 _ _) rfl ?_
      refine RunO.all rfl ?_
      generalize s ^^^ BitVec.ofInt 32 x = y at *
      refine RunC.seq (RunC.region (RunO.all rfl ?_))
      refine RunC.block ?_
      let J : Nat → Env → Heap → Prop := fun m E h' => ∃ j : Nat, j + m = 8 ∧ h = h' ∧ Le (upd (upd (upd (upd E0 1 (.slice A l.length c)) 5 (.int .u32 (nt (Zn j y)))) 6 (.int .i64 i)) 7 (.int .i64 j)) E
      refine RunC.loop J ?_ (k := 8) ?_
      · rintro m2 E h' ⟨j, hj, rfl, hE⟩
        refine RunC.le hE ?_
        clear hE
        refine RunC.seq (RunC.seq (RunC.region (RunO.all rfl ?_)))
        refine RunC.cond rfl (fun hlt => ?_) (fun hge => ?_)
        · have hlt := of_decide_eq_true hlt
          refine RunC.skip ?_
          have hz : Zn (j + 1) y = Z (Zn j y) := Zn_succ j y
          generalize Zn j y = u at *
          refine RunC.seq (RunC.block ?_)
          refine RunC.seq (RunC.region (RunO.part 1 rfl ?_))
          refine RunO.bin rfl rfl (rem32 u) rfl ?_
          refine RunO.all rfl ?_
          refine RunC.cond rfl (fun hb => ?_) (fun hb => ?_)
          · have hb : u.getLsbD 0 = true := by rw [← odd32]; exact hb
            refine RunC.region (RunO.part 1 rfl ?_)
            refine RunO.bin rfl rfl (quo32 u) rfl ?_
            refine RunO.bin rfl rfl (xor32 (u >>> 1) poly) rfl ?_
            refine RunO.all rfl ?_
            refine RunC.region (RunO.all rfl ?_)
            refine ⟨m2 - 1, by omega, j + 1, by omega, rfl, ?_⟩
            have e : Zn (j + 1) y = (u >>> 1) ^^^ poly := by rw [hz]; unfold Z; rw [if_pos hb]
            rw [e]
            exact Le.cons (inc64 (by omega)) (Le.cons rfl (Le.cons rfl (Le.cons rfl (Le.nil _))))
          · have hb : u.getLsbD 0 = false := by rw [← odd32]; exact hb
            refine RunC.region (RunO.part 1 rfl ?_)
            refine RunO.bin rfl rfl (quo32 u) rfl ?_
            refine RunO.all rfl ?_
            refine RunC.region (RunO.all rfl ?_)
            refine ⟨m2 - 1, by omega, j + 1, by omega, rfl, ?_⟩
            have e : Zn (j + 1) y = u >>> 1 := by rw [hz]; unfold Z; rw [if_neg (by rw [hb]; decide), BitVec.xor_zero]
            rw [e]
            exact Le.cons (inc64 (by omega)) (Le.cons rfl (Le.cons rfl (Le.cons rfl (Le.nil _))))
        · have hge := of_decide_eq_false hge
          refine RunC.exit ?_
          have : j = 8 := by omega
          subst this
          refine RunC.region (RunO.all rfl ?_)
          refine ⟨m - 1, by omega, i + 1, by omega, rfl, ?_⟩
          rw [hst]
          exact Le.cons (inc64 (by omega)) (Le.cons rfl (Le.cons rfl (Le.nil _)))
      · exact ⟨0, by omega, rfl, Le.cons rfl (Le.cons rfl (Le.cons rfl (Le.cons rfl (Le.nil _))))⟩
    · have hge := of_decide_eq_false hge
      refine RunC.exit ?_
      have : i = l.length := by omega
      subst this
      rw [List.take_length]
      refine RunC.seq (RunC.region (RunO.part 1 rfl ?_))
      generalize st l (~~~ v) = s
      refine RunO.un rfl (not32 s) rfl ?_
      refine RunO.all rfl ?_
      refine RunC.ret ⟨_, rfl, ?_, rfl⟩
      show Value.int .i64 (fwrap .i64 (nt (~~~ s))) = _
      have h0 := nt0 (~~~ s)
      have h1 := nt1 (~~~ s)
      rw [fw64 (by omega) (by omega)]
  · exact ⟨0, by omega, rfl, Le.cons rfl (Le.cons rfl (Le.cons rfl (Le.nil _)))⟩
theorem refSum_ok {h : Heap} {v : Value} {l : List Int} (sl : Sl h v 1 l.length (us l)) (hm : l.length ≤ 4611686018427387904) :
    RunF prog 116 [v] h fun r h' => r = .int .i64 (Crc.sum 0 l) ∧ h = h' := by
  refine RunF.walk func116 rfl rfl ?_
  refine RunC.seq (RunC.region (RunO.all rfl ?_))
  refine RunC.seq (RunC.region (RunO.part 1 rfl ?_))
  refine RunO.callD (refMore_ok sl hm) rfl rfl rfl ?_
  rintro _ _ ⟨rfl, rfl⟩
  exact RunO.all rfl (RunC.ret ⟨_, rfl, rfl, rfl⟩)
theorem sl_front {h : Heap} {v : Value} {l : List Int} (sl : Sl h v 1 l.length (us l)) {m : Nat} (h0 : 0 < l.length) (hm : m ≤ l.length) (jk : IntKind) :
    ∃ v', aslice prog 23 v none (some (.int jk (m : Int))) none = some v' ∧ Sl h v' 1 (l.take m).length (us (l.take m)) := by
  obtain ⟨b, o, c, rfl, hc, rd⟩ := sl.nz h0
  obtain ⟨c', h1, h2⟩ := slice_pre (P := prog) (t := 23) (b := b) (o := o) (ik := jk) rfl rfl hc hm
  have hl : (l.take m).length = m := by rw [List.length_take]; omega
  refine ⟨_, h2, ?_⟩
  rw [hl]
  exact Rd.sl (rdTake rd m) (by rw [us_len, hl, Nat.mul_one]) (by have := sl.2.1; omega) h1
theorem refGood_ok {h : Heap} {v : Value} {l : List Int} (sl : Sl h v 1 l.length (us l)) (hb : Byt l) (hl : 4 ≤ l.length) (hm : l.length ≤ 4611686018427387904) :
    RunF prog 113 [v] h fun r h' => r = .bool (goodB l) ∧ h = h' := by
  refine RunF.walk func113 rfl rfl ?_
  obtain ⟨A, c, rfl, hc, _⟩ := sl.form
  refine RunC.seq (RunC.region (RunO.all rfl ?_))
  refine RunC.seq (RunC.draw0 rfl (RunO.part 3 rfl ?_))
  rw [show decide ((l.length : Int) ≥ 4) = true from decide_eq_true (by omega)]
  refine RunO.part 5 rfl ?_
  rw [fw64 (x := (l.length : Int) - 4) (by omega) (by omega), show (l.length : Int) - 4 = ((l.length - 4 : Nat) : Int) by omega]
  refine RunO.callDG rfl (refGet4_ok (k := l.length - 4) sl hb (by omega) hm) rfl rfl rfl ?_
  rintro _ _ ⟨rfl, rfl⟩
  refine RunO.part 4 rfl ?_
  rw [fw64 (x := (l.length : Int) - 4) (by omega) (by omega), show (l.length : Int) - 4 = ((l.length - 4 : Nat) : Int) by omega]
  obtain ⟨v', h1, h2⟩ := sl_front (m := l.length - 4) sl (by omega) (by omega) .i64
  refine RunO.oneG (v := v') (h1 := h) rfl (by show pureR h _ = _; exact congrArg (pureR h) h1) rfl ?_
  refine RunO.callDG rfl (refSum_ok h2 (by rw [List.length_take]; omega)) rfl rfl rfl ?_
  rintro _ _ ⟨rfl, rfl⟩
  exact RunO.all rfl (RunC.ret ⟨_, rfl, rfl, rfl⟩)
/-- Bytes behind a row's bytes: zeros up to a block, the sum. -/
def sealB (b : List Int) : List Int := b ++ List.replicate (60 - b.length) 0 ++ leB 4 (Crc.sum 0 (b ++ List.replicate (60 - b.length) 0))
theorem refSeal_ok {lo : Nat} {h : Heap} {v : Value} {n : Nat} {b : List Int} (row : Row lo h v 1 n (us b)) (hl : b.length ≤ 60) (hn : n = b.length) (hlo : lo ≤ h.next) :
    RunF prog 81 [v] h fun r h' => Row lo h' r 1 64 (us (sealB b)) ∧ Fr (fun b => lo ≤ b) h h' := by
  subst hn
  refine RunF.walk func81 rfl rfl ?_
  refine RunC.seq (RunC.region (RunO.all rfl ?_))
  refine RunC.seq (RunC.block ?_)
  let I : Nat → Env → Heap → Prop := fun d E h' => ∃ w, d ≤ 60 - b.length ∧ Row lo h' w 1 (60 - d) (us (b ++ List.replicate (60 - b.length - d) 0)) ∧ Fr (fun b => lo ≤ b) h h' ∧ Le (upd E0 0 w) E
  refine RunC.loop I ?_ (k := 60 - b.length) ?_
  · rintro d E h' ⟨w, hd, row, hf, hE⟩
    refine RunC.le hE ?_
    clear hE
    have hlo' : lo ≤ h'.next := Nat.le_trans hlo hf.next
    have hat : ∀ b, At w b → lo ≤ b := fun b ha => (row.at ha).1
    have hlen : alen prog 23 w = some (.int .i64 (60 - d : Nat)) := by
      rcases row.2 with ⟨rfl, e⟩ | ⟨b', _, rfl, _⟩
      · rw [e]; rfl
      · rfl
    refine RunC.seq (RunC.seq (RunC.region (RunO.part 1 rfl ?_)))
    refine RunO.one (v := .int .i64 (60 - d : Nat)) (h1 := h') rfl (by show (match alen prog 23 w with | some v => some (v, h') | none => none) = _; rw [hlen]) rfl (RunO.all rfl ?_)
    refine RunC.cond rfl (fun hlt => ?_) (fun hge => ?_)
    · have hlt := of_decide_eq_true hlt
      refine RunC.skip ?_
      refine RunC.block ?_
      refine RunC.region (RunO.part 2 (h1 := h'.push ⟨us [0], true⟩) rfl ?_)
      have row1 := row.fr (m := no) (Fr.push no h' ⟨us [0], true⟩) (fun _ _ _ g => g)
      have hf1 := hf.same (Fr.push _ h' ⟨us [0], true⟩)
      have ob := Ow.push h' (us [0])
      have hn1 : lo ≤ (h'.push ⟨us [0], true⟩).next := Nat.le_succ_of_le hlo'
      generalize h'.push ⟨us [0], true⟩ = h2 at *
      refine RunO.append (s := 1) (m := 1) rfl rfl rfl rfl rfl rfl rfl rfl (Nat.le_refl 1) row1 hn1 ob.all rfl (Nat.le_refl 1) rfl (by show 2 * (60 - d + 1) * 1 ≤ _; omega) (by omega) ?_
      intro w3 h3 row3 f3
      refine RunO.all rfl ?_
      rw [← us_app, List.append_assoc, show ([0] : List Int) = List.replicate 1 0 from rfl, List.replicate_append_replicate] at row3
      refine ⟨d - 1, by omega, w3, by omega, ?_, hf1.trans f3 (fun b g => .inl (hat b g)), Le.cons rfl (Le.nil _)⟩
      rw [show 60 - (d - 1) = 60 - d + 1 by omega, show 60 - b.length - (d - 1) = 60 - b.length - d + 1 by omega]
      exact row3
    · have hge := of_decide_eq_false hge
      obtain rfl : d = 0 := by omega
      refine RunC.exit ?_
      rw [Nat.sub_zero, Nat.sub_zero] at row
      have hZ : sealB b = b ++ List.replicate (60 - b.length) 0 ++ leB 4 (Crc.sum 0 (b ++ List.replicate (60 - b.length) 0)) := rfl
      have hzl : (b ++ List.replicate (60 - b.length) (0 : Int)).length = 60 := by rw [List.length_append, List.length_replicate]; omega
      generalize b ++ List.replicate (60 - b.length) (0 : Int) = Z at *
      have sZ : Sl h' w 1 Z.length (us Z) := by rw [hzl]; exact row.sl (by decide)
      refine RunC.seq (RunC.region (RunO.part 2 rfl ?_))
      refine RunO.callD (refSum_ok sZ (by omega)) rfl rfl rfl ?_
      rintro _ _ ⟨rfl, rfl⟩
      have hs0 := Crc.sum0 0 Z
      have hs1 := Crc.sum1 0 Z
      refine RunO.callD (refBytes_ok (s := 4) (v := Crc.sum 0 Z) (by decide) hs0 (by omega)) rfl rfl rfl ?_
      rintro w4 h4 ⟨row4, f4⟩
      have row5 := row.fr f4 (fun _ _ _ g => g)
      refine RunO.appendOs (s := 1) rfl rfl rfl rfl rfl rfl rfl rfl (Nat.le_refl 1) row5 (Nat.le_trans hlo' f4.next) (row4.sl (by decide)) (allCells_map (fun _ => rfl) _) (by decide) (by decide) ?_
      intro w6 h6 row6 f6
      rw [← us_app, ← hZ] at row6
      exact RunO.all rfl (RunC.ret ⟨_, rfl, row6, (hf.quiet f4).trans f6 (fun b g => .inl (hat b g))⟩)
  · exact ⟨v, Nat.le_refl _, by rw [Nat.sub_self, List.replicate_zero, List.append_nil, show 60 - (60 - b.length) = b.length by omega]; exact row, Fr.refl _ _, Le.cons rfl (Le.nil _)⟩
end Go.Proofs.Ytdcggjkcbheolaa
end
section
set_option linter.unusedVariables false
set_option maxRecDepth 100000
open Go Go.Am Go.RowKit
namespace Go.Proofs.Ytdcggjkcbheolaa
open Go.Proofs.Try
theorem strOf_ok {h : Heap} {v : Value} {l : List Int} (sl : Sl h v 1 l.length (us l)) : abytes prog h 23 9 v = some (.string (mkStr l)) := by
  obtain ⟨h1, h2, ⟨rfl, h0⟩ | ⟨b, o, c, rfl, hc, rd⟩⟩ := sl
  · obtain rfl : l = [] := List.eq_nil_of_length_eq_zero h0
    rfl
  · have hrd : aread h ⟨b, o, none⟩ l.length = some (us l) := by
      have := rd.read0 (m := l.length) (by rw [us_len]; exact Nat.le_refl _)
      rw [this, List.take_of_length_le (by rw [us_len]; exact Nat.le_refl _)]
    show (match aread h ⟨b, o, none⟩ l.length with | some l => (match bytesOf l with | some ns => some (Value.string (mkStr ns)) | none => none) | none => none) = _
    rw [hrd]
    simp only [bytesOf_us]
/-- Why bytes are no block of a name. -/
def openE (mb l : List Int) : Int := if l.length ≠ 64 then 2 else if l.take 4 ≠ mb then 4 else if goodB l = false then 5 else 0
theorem refOpen_ok {h : Heap} {v : Value} {mg : ByteArray} {l mb : List Int} (hmg : strCells mg = us mb) (sl : Sl h v 1 l.length (us l)) (hb : Byt l) :
    RunF prog 76 [v, .string mg] h fun r h' => r = .int .i64 (openE mb l) ∧ h = h' := by
  refine RunF.walk func76 rfl rfl ?_
  have sl0 := sl
  obtain ⟨A, c, rfl, hc, _⟩ := sl.form
  refine RunC.seq (RunC.region (RunO.all rfl ?_))
  refine RunC.seq (RunC.block ?_)
  refine RunC.seq (RunC.region (RunO.all rfl ?_))
  by_cases hl : l.length = 64
  case neg =>
    rw [show ((l.length : Int) != 64) = true by simpa using (by omega : ¬ ((l.length : Int) = 64)), show openE mb l = 2 from if_pos hl]
    refine RunC.cond rfl (fun _ => ?_) (fun g => by cases g)
    exact RunC.seq (RunC.region (RunO.all rfl (RunC.ret ⟨_, rfl, rfl, rfl⟩)))
  rw [show ((l.length : Int) != 64) = false by simpa using (by omega : ((l.length : Int) = 64))]
  refine RunC.cond rfl (fun g => by cases g) (fun _ => ?_)
  refine RunC.seq (RunC.region (RunO.part 1 rfl ?_))
  obtain ⟨v', h1, h2⟩ := sl_front (m := 4) sl (by omega) (by omega) .i64
  refine RunO.one (v := v') (h1 := h) rfl (by show pureR h _ = _; exact congrArg (pureR h) h1) rfl ?_
  have hcv : aconvert prog 23 9 v' = none := by
    obtain ⟨A', c', rfl, _, _⟩ := h2.form
    rfl
  refine RunO.one rfl (v := .string (mkStr (l.take 4))) (h1 := h) ?_ rfl ?_
  · show (match aconvert prog 23 9 v' with | some v => some (v, h) | none => pureR h (abytes prog h 23 9 v')) = _
    rw [hcv, strOf_ok h2]; rfl
  refine RunO.part 1 rfl ?_
  refine RunO.bin (v := .bool (!(decide (l.take 4 = mb)))) rfl rfl ?_ rfl ?_
  · show some (Value.bool (!((mkStr (l.take 4)).data.toList == mg.data.toList))) = _
    rw [str_eq hmg (fun x hx => hb x (List.mem_of_mem_take hx))]
  refine RunO.all rfl ?_
  by_cases hm : l.take 4 = mb
  case neg =>
    rw [decide_eq_false hm, show openE mb l = 4 by unfold openE; rw [if_neg (by omega), if_pos hm]]
    refine RunC.cond rfl (fun _ => ?_) (fun g => by cases g)
    exact RunC.seq (RunC.region (RunO.all rfl (RunC.ret ⟨_, rfl, rfl, rfl⟩)))
  rw [decide_eq_true hm]
  refine RunC.cond rfl (fun g => by cases g) (fun _ => ?_)
  refine RunC.seq (RunC.region (RunO.part 1 rfl ?_))
  refine RunO.callD (refGood_ok sl0 hb (by omega) (by omega)) rfl rfl rfl ?_
  rintro _ _ ⟨rfl, rfl⟩
  refine RunO.all rfl ?_
  cases hg : goodB l with
  | false =>
    rw [show openE mb l = 5 by unfold openE; rw [if_neg (by omega), if_neg (by simpa using hm), if_pos hg]]
    refine RunC.cond rfl (fun _ => ?_) (fun g => by cases g)
    exact RunC.seq (RunC.region (RunO.all rfl (RunC.ret ⟨_, rfl, rfl, rfl⟩)))
  | true =>
    rw [show openE mb l = 0 by unfold openE; rw [if_neg (by omega), if_neg (by simpa using hm), if_neg (by simp [hg])]]
    refine RunC.cond rfl (fun g => by cases g) (fun _ => RunC.skip ?_)
    exact RunC.seq (RunC.region (RunO.all rfl (RunC.ret ⟨_, rfl, rfl, rfl⟩)))
theorem readB_open (mb : List Int) (fl : List (Nat × Nat)) (l : List Int) : readB mb fl l = if openE mb l ≠ 0 then openE mb l else if fl.all (okF l) = false then 1 else if zerosN l (endF fl) 60 = false then 1 else 0 := by
  unfold readB openE
  by_cases h1 : l.length ≠ 64
  · rw [if_pos h1, if_pos h1]; rfl
  · rw [if_neg h1, if_neg h1]
    by_cases h2 : l.take 4 ≠ mb
    · rw [if_pos h2, if_pos h2]; rfl
    · rw [if_neg h2, if_neg h2]
      by_cases h3 : goodB l = false
      · rw [if_pos h3, if_pos h3]; rfl
      · rw [if_neg h3, if_neg h3]; rfl
theorem ok4 {l : List Int} (hb : Byt l) (k : Nat) : (leGet l k 4).2 = 0 := by
  unfold leGet
  have h1 := (leN_bound (hb.part k 4)).2
  have h2 : (256 : Int) ^ ((l.drop k).take 4).length ≤ 256 ^ 4 := by
    have : ((l.drop k).take 4).length ≤ 4 := by rw [List.length_take]; omega
    exact_mod_cast Nat.pow_le_pow_right (by decide : 0 < 256) this
  have h3 : (256 : Int) ^ 4 = 4294967296 := by decide
  rw [if_neg (by omega)]
end Go.Proofs.Ytdcggjkcbheolaa
end
section
set_option linter.unusedVariables false
set_option maxRecDepth 100000
open Go Go.Am Go.RowKit
namespace Go.Proofs.Ytdcggjkcbheolaa
open Go.Proofs.Try
theorem link_ptr (p : Int) : (p == 0 || inB p 2 (fwrap .i64 (4096 - 1))) = ptrB p := by
  have e : fwrap .i64 (4096 - 1) = 4095 := rfl
  rw [e]
  unfold ptrB inB
  have : decide (p ≤ 4095) = decide (p < 4096) := by
    by_cases c : p < 4096
    · rw [decide_eq_true c, decide_eq_true (by omega)]
    · rw [decide_eq_false c, decide_eq_false (by omega)]
  rw [this]
set_option maxHeartbeats 1000000 in
theorem refNode_ok {h : Heap} {lv : Int} {ps : List Int} (hp : ps.length = 8) : RunF prog 78 [.agg ⟨nc lv ps⟩] h fun v h' => v = .bool (nodOk lv ps) ∧ Fr no h h' := by
  refine RunF.walk func78 rfl rfl ?_
  refine RunC.seq (RunC.region (RunO.all (h1 := h.push ⟨nc lv ps, true⟩) rfl ?_))
  have ow : Ow (h.push ⟨nc lv ps, true⟩) h.next (nc lv ps) := Ow.push _ _
  have f1 : Fr no h (h.push ⟨nc lv ps, true⟩) := Fr.push _ _ _
  generalize h.push ⟨nc lv ps, true⟩ = h1 at *
  generalize h.next = p at *
  have hok : nodOk lv ps = (inB lv 0 2 && (ps.all ptrB && anyP ps)) := by
    unfold nodOk inB
    have e1 : (!decide (lv < 0)) = decide (lv ≥ 0) := by
      by_cases c : lv < 0
      · rw [decide_eq_true c, decide_eq_false (by omega)]; rfl
      · rw [decide_eq_false c, decide_eq_true (by omega)]; rfl
    have e2 : (!decide (lv > 2)) = decide (lv ≤ 2) := by
      by_cases c : lv > 2
      · rw [decide_eq_true c, decide_eq_false (by omega)]; rfl
      · rw [decide_eq_false c, decide_eq_true (by omega)]; rfl
    rw [e1, e2]
    cases decide (lv ≥ 0) <;> cases decide (lv ≤ 2) <;> cases ps.all ptrB <;> cases anyP ps <;> rfl
  rw [hok]
  refine RunC.seq (RunC.seq (RunC.region ?_))
  (repeat (first | refine RunO.step rfl ?_ | refine RunO.loadG rfl rfl (Ow.ld (by assumption) (by rfl)) rfl ?_ | refine RunO.nil ?_))
  refine RunO.callD refIn_ok rfl rfl rfl ?_
  rintro _ _ ⟨rfl, rfl⟩
  refine RunO.all rfl ?_
  cases inB lv 0 2 with
  | false =>
    refine RunC.cond rfl (fun _ => ?_) (fun g => by cases g)
    exact RunC.seq (RunC.region (RunO.all rfl (RunC.ret ⟨_, rfl, rfl, f1⟩)))
  | true =>
  refine RunC.cond rfl (fun g => by cases g) (fun _ => RunC.skip ?_)
  refine RunC.seq (RunC.region (RunO.all rfl ?_))
  refine RunC.seq (RunC.seq (RunC.region (RunO.all rfl ?_)))
  refine RunC.block ?_
  let I : Nat → Env → Heap → Prop := fun d E h' => ∃ i : Nat, i + d = 8 ∧ (ps.take i).all ptrB = true ∧ h1 = h' ∧ Le (upd (upd (upd E0 1 (.pointer (some ⟨p, 0, none⟩))) 3 (.bool (anyP (ps.take i)))) 4 (.int .i64 (i : Int))) E
  refine RunC.loop I ?_ (k := 8) ?_
  · rintro d E h' ⟨i, hi, hall, rfl, hE⟩
    refine RunC.le hE ?_
    clear hE
    refine RunC.seq (RunC.seq (RunC.region (RunO.all rfl ?_)))
    refine RunC.cond rfl (fun hlt => ?_) (fun hge => ?_)
    · have hlt := of_decide_eq_true hlt
      have hi8 : i < 8 := by omega
      have hi2 : i < ps.length := by omega
      have hat : anyP (ps.take (i + 1)) = (anyP (ps.take i) || ps[i] != 0) := by
        unfold anyP; rw [List.take_succ_eq_append_getElem hi2, List.any_append]; simp
      have hal : (ps.take (i + 1)).all ptrB = ptrB ps[i] := by
        rw [List.take_succ_eq_append_getElem hi2, List.all_append, hall]; simp
      have hmem := List.getElem_mem hi2
      have hld : apart prog 3 (nc lv ps) (1 + i * 1) = some (.int .i64 ps[i]) := by
        show nth (nc lv ps) (1 + i * 1) = _
        rw [Nat.mul_one, Nat.add_comm]; exact is_nth hi2
      generalize ps[i] = x at *
      refine RunC.skip ?_
      refine RunC.seq (RunC.block ?_)
      refine RunC.seq (RunC.seq (RunC.region (RunO.part 2 rfl ?_)))
      refine RunO.indexA (s := 1) rfl rfl rfl rfl rfl hi8 rfl ?_
      refine RunO.load (v := .int .i64 x) rfl (ow.ld hld) rfl ?_
      refine RunO.callD refLink_ok rfl rfl rfl ?_
      rintro _ _ ⟨rfl, rfl⟩
      rw [link_ptr]
      refine RunO.all rfl ?_
      cases hx : ptrB x with
      | false =>
        have : ps.all ptrB = false := List.all_eq_false.2 ⟨x, hmem, by rw [hx]; exact Bool.false_ne_true⟩
        rw [this]
        refine RunC.cond rfl (fun _ => ?_) (fun g => by cases g)
        exact RunC.seq (RunC.region (RunO.all rfl (RunC.ret ⟨_, rfl, rfl, f1⟩)))
      | true =>
        refine RunC.cond rfl (fun g => by cases g) (fun _ => RunC.skip ?_)
        rw [hx] at hal
        refine RunC.region (RunO.part 2 rfl ?_)
        have fin : ∀ E, Le (upd (upd (upd E0 1 (.pointer (some ⟨p, 0, none⟩))) 3 (.bool (anyP (ps.take (i + 1))))) 4 (.int .i64 ((i + 1 : Nat) : Int))) E → ∃ d', d' < d ∧ I d' E h1 := fun E hE => ⟨d - 1, by omega, i + 1, by omega, hal, rfl, hE⟩
        rw [hat] at fin
        generalize anyP (ps.take i) = an at fin ⊢
        cases an with
        | true =>
          refine RunO.all rfl ?_
          exact RunC.region (RunO.all rfl (fin _ (Le.cons (inc64 (by omega)) (Le.cons rfl (Le.cons rfl (Le.nil _))))))
        | false =>
          refine RunO.part 2 rfl ?_
          refine RunO.oneG (v := .pointer (some ⟨p, 0 + 1 + i * 1, none⟩)) (h1 := h1) rfl ?_ rfl ?_
          · show pureR h1 (cond (Nat.ble (Nat.succ i) 8) (some (Value.pointer (some ⟨p, 0 + 1 + Nat.mul i 1, none⟩))) none) = _
            rw [Nat.ble_eq_true_of_le (by omega)]; rfl
          refine RunO.loadG (v := .int .i64 x) rfl rfl (by rw [Nat.zero_add]; exact ow.ld hld) rfl ?_
          refine RunO.all rfl ?_
          exact RunC.region (RunO.all rfl (fin _ (Le.cons (inc64 (by omega)) (Le.cons rfl (Le.cons rfl (Le.nil _))))))
    · have hge := of_decide_eq_false hge
      obtain rfl : i = 8 := by omega
      rw [← hp, List.take_length] at hall
      rw [hall]
      refine RunC.exit ?_
      refine RunC.seq (RunC.region (RunO.all rfl (RunC.ret ⟨_, rfl, ?_, f1⟩)))
      rw [← hp, List.take_length]; rfl
  · exact ⟨0, by omega, rfl, rfl, Le.cons rfl (Le.cons rfl (Le.cons rfl (Le.nil _)))⟩
theorem nLay_end : endF nLay = 40 := rfl
/-- Why bytes are no node, as the page says it. -/
theorem nCode_open {l : List Int} (hb : Byt l) : nCode l = if openE nMag l ≠ 0 then openE nMag l else if (nodOk (nLv l) (nPs l) && zerosN l 40 60) = true then 0 else 1 := by
  unfold nCode
  rw [readB_open, nLay_end]
  by_cases he : openE nMag l ≠ 0
  · rw [if_pos he, if_pos he, if_neg he]
  · rw [if_neg he, if_neg he]
    have hall : nLay.all (okF l) = true := by
      show (((leGet l 4 4).2 == 0) && (((leGet l 8 4).2 == 0) && (((leGet l 12 4).2 == 0) && (((leGet l 16 4).2 == 0) && (((leGet l 20 4).2 == 0) && (((leGet l 24 4).2 == 0) && (((leGet l 28 4).2 == 0) && (((leGet l 32 4).2 == 0) && (((leGet l 36 4).2 == 0) && true))))))))) = true
      rw [ok4 hb, ok4 hb, ok4 hb, ok4 hb, ok4 hb, ok4 hb, ok4 hb, ok4 hb, ok4 hb]; rfl
    rw [hall]
    cases zerosN l 40 60 <;> cases nodOk (nLv l) (nPs l) <;> rfl
end Go.Proofs.Ytdcggjkcbheolaa
end
section
set_option linter.unusedVariables false
set_option maxRecDepth 100000
open Go Go.Am Go.RowKit
namespace Go.Proofs.Ytdcggjkcbheolaa
open Go.Proofs.Try
theorem nPs_get (l : List Int) {i : Nat} (hi : i < 8) : (nPs l).getD i 0 = (leGet l (8 + 4 * i) 4).1 := by
  obtain rfl | rfl | rfl | rfl | rfl | rfl | rfl | rfl : i = 0 ∨ i = 1 ∨ i = 2 ∨ i = 3 ∨ i = 4 ∨ i = 5 ∨ i = 6 ∨ i = 7 := by omega
  all_goals rfl
def firstP (ps : List Int) (i : Nat) : List Int := ps.take i ++ List.replicate (8 - i) 0
theorem firstP_len {ps : List Int} (hp : ps.length = 8) {i : Nat} (hi : i ≤ 8) : (firstP ps i).length = 8 := by
  unfold firstP; rw [List.length_append, List.length_take, List.length_replicate]; omega
theorem firstP_set {ps : List Int} (hp : ps.length = 8) {i : Nat} (hi : i < 8) : (firstP ps i).set i (ps.getD i 0) = firstP ps (i + 1) := by
  apply List.ext_getElem?
  intro j
  have hl : i < (firstP ps i).length := by rw [firstP_len hp (by omega)]; exact hi
  rw [List.getElem?_set]
  unfold firstP at hl ⊢
  by_cases e : i = j
  · subst e
    rw [if_pos rfl, if_pos hl, List.getElem?_append_left (by rw [List.length_take]; omega), List.getElem?_take, if_pos (by omega), List.getD_eq_getElem?_getD, List.getElem?_eq_getElem (by omega)]; rfl
  · rw [if_neg e]
    by_cases c : j < i
    · rw [List.getElem?_append_left (by rw [List.length_take]; omega), List.getElem?_append_left (by rw [List.length_take]; omega), List.getElem?_take, List.getElem?_take, if_pos c, if_pos (by omega)]
    · rw [List.getElem?_append_right (by rw [List.length_take]; omega), List.getElem?_append_right (by rw [List.length_take]; omega), List.getElem?_replicate, List.getElem?_replicate, List.length_take, List.length_take]
      by_cases c2 : j < 8
      · rw [if_pos (by omega), if_pos (by omega)]
      · rw [if_neg (by omega), if_neg (by omega)]
theorem nc_cell (lv : Int) (ps : List Int) : (cellsOf (.agg ⟨nc lv ps⟩)).length = ps.length + 1 ∧ allCells (cellsOf (.agg ⟨nc lv ps⟩)) = true := by
  constructor
  · show (nc lv ps).length = _; simp [nc, is_len]
  · show allCells (.int .i64 lv :: is ps) = true; exact allCells_map (f := Value.int .i64) (fun _ => rfl) ps
/-- A whole node stored. -/
theorem nc_store {P : Program} {t : TypeId} {h : Heap} {b : Nat} {lw lv : Int} {qs ps : List Int} (ow : Ow h b (nc lw qs)) (hq : qs.length = 8) (hp : ps.length = 8) (hs : Go.Am.sizeOf P t = some 9) : astore P h t ⟨b, 0, none⟩ (.agg ⟨nc lv ps⟩) = some (h.put b (some ⟨nc lv ps, true⟩)) := by
  have hl : (nc lw qs).length = 9 := by simp [nc, is_len, hq]
  have hl2 : (nc lv ps).length = 9 := by simp [nc, is_len, hp]
  have := store_ow (P := P) (t := t) (v := .agg ⟨nc lv ps⟩) (off := 0) ow hs (by rw [(nc_cell lv ps).1, hp]) (nc_cell lv ps).2 (by omega)
  rw [this]
  congr 4
  show [] ++ nc lv ps ++ (nc lw qs).drop (0 + 9) = _
  rw [List.drop_of_length_le (by omega)]; simp
set_option maxHeartbeats 4000000 in
theorem refParseNode_ok {h : Heap} {v : Value} {l : List Int} (sl : Sl h v 1 l.length (us l)) (hb : Byt l) :
    RunF prog 52 [v] h fun r h' => r = .tuple #[.agg ⟨nc (nodV l).1 (nodV l).2⟩, .int .i64 (nCode l)] ∧ Fr no h h' := by
  refine RunF.walk func52 rfl rfl ?_
  refine RunC.seq (RunC.region (RunO.part 1 (h1 := h.push ⟨nc 0 nZero, true⟩) rfl (RunO.all rfl ?_)))
  have ow : Ow (h.push ⟨nc 0 nZero, true⟩) h.next (nc 0 nZero) := Ow.push _ _
  have f1 : Fr (fun b => h.next ≤ b) h (h.push ⟨nc 0 nZero, true⟩) := Fr.push _ _ _
  have s1 := sl.fr0 (Fr.push no h ⟨nc 0 nZero, true⟩)
  generalize h.push ⟨nc 0 nZero, true⟩ = h1 at *
  have hp : h.next < h1.next := ow.1
  refine RunC.seq (RunC.seq (RunC.region (RunO.part 1 rfl ?_)))
  refine RunO.callD (refOpen_ok (mb := nMag) rfl s1 hb) rfl rfl rfl ?_
  rintro _ _ ⟨rfl, rfl⟩
  refine RunO.all rfl ?_
  refine RunC.seq (RunC.region (RunO.all rfl ?_))
  have hro := nCode_open hb
  have hvd : nodV l = if nCode l = 0 then (nLv l, nPs l) else (0, nZero) := rfl
  rw [hvd]
  by_cases he : openE nMag l ≠ 0
  · rw [if_pos he] at hro
    rw [hro, if_neg he, show (openE nMag l != 0) = true from bne_iff_ne.2 he]
    refine RunC.cond rfl (fun _ => ?_) (fun g => by cases g)
    refine RunC.seq (RunC.region (RunO.part 2 rfl ?_))
    refine RunO.store rfl rfl (nc_store (lv := 0) (ps := nZero) ow rfl rfl rfl) (RunO.all rfl ?_)
    exact RunC.ret ⟨_, eresults_cell rfl (nc_load rfl (Ow.put (nc 0 nZero) ow.1)) rfl, rfl, frNo (f1.same (Fr.put _ (.inl (Nat.le_refl _))))⟩
  have he0 : openE nMag l = 0 := Decidable.not_not.1 he
  have hl : l.length = 64 := by
    unfold openE at he0
    by_cases g : l.length ≠ 64
    · rw [if_pos g] at he0; cases he0
    · exact Decidable.not_not.1 g
  rw [if_neg he] at hro
  rw [he0, hro]
  refine RunC.cond rfl (fun g => by cases g) (fun _ => RunC.skip ?_)
  refine RunC.seq (RunC.region (RunO.part 1 rfl ?_))
  refine RunO.callD (refGet4_ok (k := 4) s1 hb (by omega) (by omega)) rfl rfl rfl ?_
  rintro _ _ ⟨rfl, rfl⟩
  refine RunO.part 2 (h1 := h1.push ⟨nc 0 nZero, true⟩) rfl ?_
  refine RunO.store rfl rfl (nc_store (lv := nLv l) (ps := nZero) (Ow.push h1 (nc 0 nZero)) rfl rfl rfl) (RunO.nil ?_)
  have on : Ow ((h1.push ⟨nc 0 nZero, true⟩).put h1.next (some ⟨nc (nLv l) nZero, true⟩)) h1.next (nc (nLv l) nZero) := Ow.put _ (Nat.lt_succ_self _)
  have f4 : Fr no h1 ((h1.push ⟨nc 0 nZero, true⟩).put h1.next (some ⟨nc (nLv l) nZero, true⟩)) := (Fr.push _ _ _).trans (Fr.put (m := (· = h1.next)) _ (.inl rfl)) (fun j hj => .inr (by omega))
  have hqn : h.next < h1.next := hp
  generalize (h1.push ⟨nc 0 nZero, true⟩).put h1.next (some ⟨nc (nLv l) nZero, true⟩) = h4 at *
  generalize h1.next = q at *
  have ow4 := ow.fr f4 (fun g => g)
  have s4 := s1.fr0 f4
  have f14 := f1.quiet f4
  have hps : (nPs l).length = 8 := rfl
  have hget := fun i hi => nPs_get l (i := i) hi
  generalize nLv l = lv at *
  generalize nPs l = ps at *
  refine RunC.seq (RunC.seq (RunC.region (RunO.all rfl ?_)))
  refine RunC.block ?_
  let I : Nat → Env → Heap → Prop := fun d E h' => ∃ i : Nat, i + d = 8 ∧ Ow h' q (nc lv (firstP ps i)) ∧ Fr (· = q) h4 h' ∧ Le (upd (upd (upd (upd E0 0 v) 2 (.pointer (some ⟨h.next, 0, none⟩))) 5 (.pointer (some ⟨q, 0, none⟩))) 6 (.int .i64 (i : Int))) E
  refine RunC.loop I ?_ (k := 8) ?_
  · rintro d E h5 ⟨i, hi, on5, f5, hE⟩
    refine RunC.le hE ?_
    clear hE
    have s5 : Sl h5 v 1 l.length (us l) := by
      refine ⟨s4.1, s4.2.1, s4.2.2.imp (fun y => y) ?_⟩
      rintro ⟨b, o, c, h1', h2', h3'⟩
      have hbl : b < h.next := by
        rcases sl.2.2 with ⟨e, _⟩ | ⟨b', o', c', e, _, rd⟩
        · rw [h1'] at e; cases e
        · rw [h1'] at e; cases e; exact rd.2.1
      exact ⟨b, o, c, h1', h2', h3'.fr f5 (show ¬ b = q by omega)⟩
    refine RunC.seq (RunC.seq (RunC.region (RunO.all rfl ?_)))
    refine RunC.cond rfl (fun hlt => ?_) (fun hge => ?_)
    · have hlt := of_decide_eq_true hlt
      have hi8 : i < 8 := by omega
      refine RunC.skip ?_
      refine RunC.seq (RunC.block ?_)
      refine RunC.region (RunO.part 4 rfl ?_)
      rw [fw64 (x := 4 * (i : Int)) (by omega) (by omega)]
      refine RunO.part 1 rfl ?_
      rw [fw64 (x := 8 + 4 * (i : Int)) (by omega) (by omega), show 8 + 4 * (i : Int) = ((8 + 4 * i : Nat) : Int) by omega]
      refine RunO.callD (refGet4_ok (k := 8 + 4 * i) s5 hb (by omega) (by omega)) rfl rfl rfl ?_
      rintro _ _ ⟨rfl, rfl⟩
      rw [← hget i hi8]
      refine RunO.part 1 rfl ?_
      refine RunO.indexA (s := 1) rfl rfl rfl rfl rfl hi8 rfl ?_
      have hfl := firstP_len hps (show i ≤ 8 by omega)
      have on6 := Ow.put (h := h5) (b := q) (nc lv (firstP ps (i + 1))) on5.1
      refine RunO.store (h1 := h5.put q (some ⟨nc lv (firstP ps (i + 1)), true⟩)) rfl rfl ?_ (RunO.nil ?_)
      · rw [Nat.mul_one]
        show astore _ _ _ ⟨q, 1 + i, none⟩ _ = _
        rw [Nat.add_comm 1]
        refine (store1_ow on5 rfl rfl rfl (by show _ < (is _).length + 1; rw [is_len, hfl]; omega)).trans ?_
        rw [← firstP_set hps hi8]
        unfold nc
        rw [List.set_cons_succ]
        unfold is
        rw [List.map_set]
      refine RunC.region (RunO.all rfl ?_)
      exact ⟨d - 1, by omega, i + 1, by omega, on6, f5.same (Fr.put _ (.inl rfl)), Le.cons (inc64 (by omega)) (Le.cons rfl (Le.cons rfl (Le.cons rfl (Le.nil _))))⟩
    · have hge := of_decide_eq_false hge
      obtain rfl : i = 8 := by omega
      have hfin : firstP ps 8 = ps := by unfold firstP; rw [← hps, List.take_length, Nat.sub_self]; simp
      rw [hfin] at on5
      have ow5 := ow4.fr f5 (show ¬ h.next = q by omega)
      have f15 : Fr (fun b => h.next ≤ b) h h5 := f14.trans f5 (fun b e => .inl (by omega))
      refine RunC.exit ?_
      refine RunC.seq ?_
      refine RunC.seqc (fun E' h' => Fr no h5 h' ∧ Le (upd (upd (upd (upd E0 0 v) 2 (.pointer (some ⟨h.next, 0, none⟩))) 5 (.pointer (some ⟨q, 0, none⟩))) 35 (.bool (!(nodOk lv ps && zerosN l 40 60)))) E') ?_ ?_
      · refine RunC.region ?_
        refine RunO.load (v := .agg ⟨nc lv ps⟩) rfl (nc_load hps on5) rfl ?_
        refine RunO.callD (refNode_ok hps) rfl rfl rfl ?_
        rintro _ h6 ⟨rfl, f6⟩
        refine RunO.part 2 rfl ?_
        cases nodOk lv ps with
        | false => exact RunO.all rfl ⟨f6, Le.cons rfl (Le.cons rfl (Le.cons rfl (Le.cons rfl (Le.nil _))))⟩
        | true =>
          refine RunO.part 1 rfl ?_
          refine RunO.callDG rfl (refZeros_ok (k := 40) (m := 60) (s5.fr0 f6) (by decide) (by omega) (by omega)) rfl rfl rfl ?_
          rintro _ _ ⟨rfl, rfl⟩
          exact RunO.all rfl ⟨f6, Le.cons rfl (Le.cons rfl (Le.cons rfl (Le.cons rfl (Le.nil _))))⟩
      rintro E' h6 ⟨f6, hE⟩
      refine RunC.le hE ?_
      clear hE
      have ow6 := ow5.fr f6 (fun g => g)
      have on6 := on5.fr f6 (fun g => g)
      have f16 := f15.quiet f6
      cases (nodOk lv ps && zerosN l 40 60) with
      | false =>
        refine RunC.cond rfl (fun _ => ?_) (fun g => by cases g)
        refine RunC.seq (RunC.region (RunO.part 1 rfl ?_))
        refine RunO.store rfl rfl (nc_store (lv := 0) (ps := nZero) ow6 rfl rfl rfl) (RunO.all rfl ?_)
        exact RunC.ret ⟨_, eresults_cell rfl (nc_load rfl (Ow.put (nc 0 nZero) ow6.1)) rfl, rfl, frNo (f16.same (Fr.put _ (.inl (Nat.le_refl _))))⟩
      | true =>
        refine RunC.cond rfl (fun g => by cases g) (fun _ => RunC.skip ?_)
        refine RunC.seq (RunC.region ?_)
        refine RunO.load (v := .agg ⟨nc lv ps⟩) rfl (nc_load hps on6) rfl ?_
        refine RunO.store rfl rfl (nc_store ow6 rfl hps rfl) (RunO.all rfl ?_)
        exact RunC.ret ⟨_, eresults_cell rfl (nc_load hps (Ow.put (nc lv ps) ow6.1)) rfl, rfl, frNo (f16.same (Fr.put _ (.inl (Nat.le_refl _))))⟩
  · exact ⟨0, by omega, on, Fr.refl _ _, Le.cons rfl (Le.cons rfl (Le.cons rfl (Le.cons rfl (Le.nil _))))⟩
end Go.Proofs.Ytdcggjkcbheolaa
end
section
set_option linter.unusedVariables false
set_option maxRecDepth 100000
open Go Go.Am Go.RowKit
namespace Go.Proofs.Ytdcggjkcbheolaa
open Go.Proofs.Try
/-- What a pointer of a level leads to, for a place under it; level 0: a sector's block. -/
def look (L : List Int) (B : Nat) : Nat → Int → Nat → Int
  | 0, p, _ => p
  | k + 1, p, s => if p = 0 then 0 else look L B k ((atV L B p).2.getD (s / 8 ^ k) 0) (s % 8 ^ k)
/-- Along the way to a place each node is one, of its level. -/
def pathOk (L : List Int) (B : Nat) : Nat → Int → Nat → Prop
  | 0, _, _ => True
  | k + 1, p, s => p ≠ 0 → atIs L B p (k : Int) = true ∧ pathOk L B k ((atV L B p).2.getD (s / 8 ^ k) 0) (s % 8 ^ k)
theorem look_zero (L : List Int) (B k s : Nat) : look L B k 0 s = 0 := by cases k <;> rfl
/-- The fold of a node's pointers, as it goes. -/
def tst (L : List Int) (B lv : Nat) (ps : List Int) (f : Nat) (w : TS) (i : Nat) : TS := tstep (trec L B lv) B (lv == 0) w (ps.getD i 0) (f + i * 8 ^ lv)
theorem fold_bad {L : List Int} {B lv : Nat} {ps : List Int} {f : Nat} : ∀ (l : List Nat) (w : TS), w.2.2 = true → (l.foldl (tst L B lv ps f) w).2.2 = true
  | [], w, h => h
  | i :: l, w, h => by
    rw [List.foldl_cons]
    refine fold_bad l _ ?_
    unfold tst tstep
    rw [if_pos h]; exact h
theorem fold_pre {L : List Int} {B lv : Nat} {ps : List Int} {f N : Nat} {w : TS} (h : ((List.range N).foldl (tst L B lv ps f) w).2.2 = false) {i : Nat} (hi : i ≤ N) : ((List.range i).foldl (tst L B lv ps f) w).2.2 = false := by
  cases e : ((List.range i).foldl (tst L B lv ps f) w).2.2 with
  | false => rfl
  | true =>
    have hs : List.range N = List.range i ++ (List.range (N - i)).map (i + ·) := by
      rw [← List.range_add]; congr 1; omega
    rw [hs, List.foldl_append, fold_bad _ _ e] at h
    cases h
/-- What a walk that ends well has done. -/
structure TSpec (L : List Int) (B lv : Nat) (a : Int) (f : Nat) (w r : TS) : Prop where
  is_ : atIs L B a (lv : Int) = true
  new : w.2.1.contains a = false
  ns : ∃ t, r.2.1 = w.2.1 ++ a :: t
  nd : w.2.1.Nodup → r.2.1.Nodup
  m : ∀ s, s < 512 → r.1.getD s 0 = if f ≤ s ∧ s < f + 8 ^ (lv + 1) then look L B (lv + 1) a (s - f) else w.1.getD s 0
  path : ∀ s, s < 8 ^ (lv + 1) → pathOk L B (lv + 1) a s
  all : ∀ x ∈ r.2.1, x ∈ w.2.1 ∨ ∃ k, k ≤ lv ∧ atIs L B x (k : Int) = true
  bnd : ∀ x ∈ r.1, x ∈ w.1 ∨ x = 0 ∨ x < B
theorem atIs_ne {L : List Int} {B : Nat} {a lv : Int} (h : atIs L B a lv = true) : 2 ≤ a ∧ a < B := by
  unfold atIs at h
  rw [Bool.and_eq_true] at h
  exact atIn_iff.1 h.1
theorem nodup_snoc {α : Type} {l : List α} {x : α} (h : l.Nodup) (hx : ¬ x ∈ l) : (l ++ [x]).Nodup := by
  rw [List.nodup_append]
  refine ⟨h, List.nodup_cons.2 ⟨by simp, List.nodup_nil⟩, fun a ha b hb => ?_⟩
  rw [List.mem_singleton] at hb
  subst hb
  exact fun e => hx (e ▸ ha)
def SpecAt (L : List Int) (B lv : Nat) : Prop := ∀ (a : Int) (f : Nat) (w : TS), f + 8 ^ (lv + 1) ≤ 512 → w.1.length = 512 → w.2.2 = false → (∀ s, f ≤ s → s < f + 8 ^ (lv + 1) → w.1.getD s 0 = 0) → (tgo L B lv a f w).2.2 = false → TSpec L B lv a f w (tgo L B lv a f w)
structure FSpec (L : List Int) (B lv : Nat) (ps : List Int) (f : Nat) (m ns : List Int) (i : Nat) (r : TS) : Prop where
  len : r.1.length = 512
  tail : ∃ t, r.2.1 = ns ++ t
  nd : ns.Nodup → r.2.1.Nodup
  map : ∀ s, s < 512 → r.1.getD s 0 = if f ≤ s ∧ s < f + i * 8 ^ lv then look L B lv (ps.getD ((s - f) / 8 ^ lv) 0) ((s - f) % 8 ^ lv) else m.getD s 0
  path : ∀ j, j < i → ∀ s, s < 8 ^ lv → pathOk L B lv (ps.getD j 0) s
  all : ∀ x ∈ r.2.1, x ∈ ns ∨ ∃ k, k ≤ lv ∧ atIs L B x (k : Int) = true
  bnd : ∀ x ∈ r.1, x ∈ m ∨ x = 0 ∨ x < B
theorem getD_set (l : List Int) (k s : Nat) (p : Int) (hk : k < l.length) : (l.set k p).getD s 0 = if s = k then p else l.getD s 0 := by
  rw [List.getD_eq_getElem?_getD, List.getElem?_set]
  by_cases e : k = s
  · subst e; rw [if_pos rfl, if_pos hk, if_pos rfl]; rfl
  · rw [if_neg e, if_neg (fun g => e g.symm), List.getD_eq_getElem?_getD]
theorem divmod_at {s f i d : Nat} (hd : 0 < d) (h1 : f + i * d ≤ s) (h2 : s < f + i * d + d) : (s - f) / d = i ∧ (s - f) % d = s - (f + i * d) := by
  have e : s - f = (s - (f + i * d)) + i * d := by omega
  have hlt : s - (f + i * d) < d := by omega
  constructor
  · rw [e, Nat.add_mul_div_right _ _ hd, Nat.div_eq_of_lt hlt, Nat.zero_add]
  · rw [e, Nat.add_mul_mod_self_right, Nat.mod_eq_of_lt hlt]
theorem fold_spec {L : List Int} {B lv : Nat} {ps : List Int} {f : Nat} {m ns : List Int} (hrec : ∀ k, lv = k + 1 → SpecAt L B k) (hf : f + 8 ^ (lv + 1) ≤ 512) (hl : m.length = 512) (hz : ∀ s, f ≤ s → s < f + 8 ^ (lv + 1) → m.getD s 0 = 0)
    {N : Nat} (hN : N ≤ 8) (hb : ((List.range N).foldl (tst L B lv ps f) (m, ns, false)).2.2 = false) : ∀ i, i ≤ N → FSpec L B lv ps f m ns i ((List.range i).foldl (tst L B lv ps f) (m, ns, false)) := by
  have hp8 : 8 ^ (lv + 1) = 8 * 8 ^ lv := by rw [Nat.pow_succ, Nat.mul_comm]
  have hpos : 0 < 8 ^ lv := Nat.pow_pos (by decide)
  intro i
  induction i with
  | zero =>
    intro _
    exact ⟨hl, ⟨[], by simp⟩, fun h => h, fun s _ => by rw [if_neg (by omega)]; rfl, fun j hj => absurd hj (Nat.not_lt_zero _), fun x hx => .inl hx, fun x hx => .inl hx⟩
  | succ i ih =>
    intro hi
    have S := ih (by omega)
    have hnb := fold_pre hb (i := i) (by omega)
    have hnb1 := fold_pre hb (i := i + 1) hi
    have hstep : (List.range (i + 1)).foldl (tst L B lv ps f) (m, ns, false) = tst L B lv ps f ((List.range i).foldl (tst L B lv ps f) (m, ns, false)) i := by rw [List.range_succ, List.foldl_append]; rfl
    rw [hstep] at hnb1 ⊢
    generalize (List.range i).foldl (tst L B lv ps f) (m, ns, false) = W at *
    obtain ⟨wm, wn, wb⟩ := W
    simp only at hnb
    subst hnb
    have hile : i * 8 ^ lv + 8 ^ lv ≤ 8 * 8 ^ lv := by rw [← Nat.succ_mul]; exact Nat.mul_le_mul_right _ (Nat.le_trans hi hN)
    have hsucc : (i + 1) * 8 ^ lv = i * 8 ^ lv + 8 ^ lv := Nat.succ_mul ..
    obtain ⟨Sl, ⟨t, St⟩, Snd, Sm, Sp, Sa, Sb⟩ := S
    simp only at Sl St Snd Sm Sa Sb
    have here : ∀ s, f + i * 8 ^ lv ≤ s → s < f + i * 8 ^ lv + 8 ^ lv → wm.getD s 0 = 0 := fun s h1 h2 => by
      rw [Sm s (by omega), if_neg (by omega)]
      exact hz s (by omega) (by omega)
    unfold tst tstep at hnb1 ⊢
    rw [if_neg Bool.false_ne_true] at hnb1 ⊢
    generalize hp : ps.getD i 0 = p at *
    by_cases hB : decide (p ≥ (B : Int)) = true
    · rw [if_pos hB] at hnb1; cases hnb1
    rw [if_neg hB] at hnb1 ⊢
    have hpB : p < B := by have := of_decide_eq_false (Bool.eq_false_iff.2 hB); omega
    by_cases hp0 : p = 0
    · subst hp0
      rw [if_neg (by simp), if_neg (by simp)] at hnb1 ⊢
      refine ⟨Sl, ⟨t, St⟩, Snd, fun s hs => ?_, fun j hj s hs => ?_, Sa, Sb⟩
      · simp only
        by_cases c : f + i * 8 ^ lv ≤ s ∧ s < f + i * 8 ^ lv + 8 ^ lv
        · obtain ⟨d1, d2⟩ := divmod_at hpos c.1 c.2
          rw [here s c.1 c.2, if_pos (by omega), d1, hp, look_zero]
        · rw [Sm s hs]
          by_cases c2 : f ≤ s ∧ s < f + i * 8 ^ lv
          · rw [if_pos c2, if_pos (by omega)]
          · rw [if_neg c2, if_neg (by omega)]
      · by_cases e : j = i
        · subst e
          rw [hp]
          cases lv with
          | zero => trivial
          | succ k => intro h; exact absurd rfl h
        · exact Sp j (by omega) s hs
    have hpn : (p != 0) = true := bne_iff_ne.2 hp0
    cases lv with
    | zero =>
      rw [hpn, if_pos (by rfl)]
      simp only [Nat.pow_zero, Nat.mul_one] at *
      refine ⟨by simp only [List.length_set]; exact Sl, ⟨t, St⟩, Snd, fun s hs => ?_, fun j hj s hs => trivial, Sa, fun x hx => ?_⟩
      · simp only
        rw [getD_set _ _ _ _ (by omega)]
        by_cases e : s = f + i
        · subst e
          rw [if_pos rfl, if_pos (by omega), Nat.div_one, show f + i - f = i by omega, hp]; rfl
        · rw [if_neg e, Sm s hs]
          by_cases c2 : f ≤ s ∧ s < f + i
          · rw [if_pos c2, if_pos (by omega)]
          · rw [if_neg c2, if_neg (by omega)]
      · rcases List.mem_or_eq_of_mem_set hx with g | g
        · exact Sb x g
        · exact .inr (.inr (by omega))
    | succ k =>
      rw [hpn, if_neg (by simp), if_pos rfl] at hnb1 ⊢
      have T := hrec k rfl p (f + i * 8 ^ (k + 1)) (wm, wn, false) (by omega) Sl rfl here hnb1
      have hlen : (trec L B (k + 1) p (f + i * 8 ^ (k + 1)) (wm, wn, false)).1.length = 512 := by rw [trec_len]; exact Sl
      change TSpec L B k p (f + i * 8 ^ (k + 1)) (wm, wn, false) (trec L B (k + 1) p (f + i * 8 ^ (k + 1)) (wm, wn, false)) at T
      generalize trec L B (k + 1) p (f + i * 8 ^ (k + 1)) (wm, wn, false) = R at *
      obtain ⟨T1, T2, ⟨t2, T3⟩, T4, T5, T6, T7, T8⟩ := T
      simp only at T2 T3 T4 T5 T7 T8
      refine ⟨hlen, ⟨t ++ p :: t2, by rw [T3, St, List.append_assoc]⟩, fun h => T4 (Snd h), fun s hs => ?_, fun j hj s hs => ?_, fun x hx => ?_, fun x hx => ?_⟩
      · rw [T5 s hs]
        by_cases c : f + i * 8 ^ (k + 1) ≤ s ∧ s < f + i * 8 ^ (k + 1) + 8 ^ (k + 1)
        · obtain ⟨d1, d2⟩ := divmod_at hpos c.1 c.2
          rw [if_pos c, if_pos (by omega), d1, d2, hp]
        · rw [if_neg c, Sm s hs]
          by_cases c2 : f ≤ s ∧ s < f + i * 8 ^ (k + 1)
          · rw [if_pos c2, if_pos (by omega)]
          · rw [if_neg c2, if_neg (by omega)]
      · by_cases e : j = i
        · subst e; rw [hp]; exact T6 s hs
        · exact Sp j (by omega) s hs
      · rcases T7 x hx with g | ⟨q, g1, g2⟩
        · exact Sa x g
        · exact .inr ⟨q, by omega, g2⟩
      · rcases T8 x hx with g | g
        · exact Sb x g
        · exact .inr g
theorem spec_body {L : List Int} {B lv : Nat} (hrec : ∀ k, lv = k + 1 → SpecAt L B k) : SpecAt L B lv := by
  intro a f w hf hl hw hz hb
  obtain ⟨m, ns, bd⟩ := w
  simp only at hl hw hz
  subst hw
  have hpos : 0 < 8 ^ lv := Nat.pow_pos (by decide)
  have hp8 : 8 ^ (lv + 1) = 8 * 8 ^ lv := by rw [Nat.pow_succ, Nat.mul_comm]
  rw [tgo_eq] at hb ⊢
  unfold tbody at hb ⊢
  by_cases hc : (!atIs L B a (lv : Int) || ns.contains a) = true
  · rw [if_pos hc] at hb; cases hb
  rw [if_neg hc] at hb ⊢
  rw [Bool.or_eq_true, not_or, Bool.not_eq_true, Bool.not_eq_true, Bool.not_eq_false'] at hc
  obtain ⟨h1, h2⟩ := hc
  have ha := atIs_ne h1
  have S := fold_spec (ps := (atV L B a).2) (ns := ns ++ [a]) hrec hf hl hz (Nat.le_refl 8) hb 8 (Nat.le_refl 8)
  change TSpec L B lv a f (m, ns, false) ((List.range 8).foldl (tst L B lv (atV L B a).2 f) (m, ns ++ [a], false))
  generalize (List.range 8).foldl (tst L B lv (atV L B a).2 f) (m, ns ++ [a], false) = R at *
  obtain ⟨_, ⟨t, St⟩, Snd, Sm, Sp, Sa, Sb⟩ := S
  refine ⟨h1, h2, ⟨t, by rw [St, List.append_assoc]; rfl⟩, fun h => Snd (nodup_snoc h (by simpa using h2)), fun s hs => ?_, fun s hs => ?_, fun x hx => ?_, fun x hx => Sb x hx⟩
  · rw [Sm s hs, ← hp8]
    by_cases c : f ≤ s ∧ s < f + 8 ^ (lv + 1)
    · rw [if_pos c, if_pos c]
      show _ = if a = 0 then 0 else _
      rw [if_neg (by omega)]
    · rw [if_neg c, if_neg c]
  · intro _
    exact ⟨h1, Sp (s / 8 ^ lv) (by rw [Nat.div_lt_iff_lt_mul hpos]; omega) (s % 8 ^ lv) (Nat.mod_lt _ hpos)⟩
  · rcases Sa x hx with g | g
    · rcases List.mem_append.1 g with g | g
      · exact .inl g
      · rw [List.mem_singleton] at g; subst g; exact .inr ⟨lv, Nat.le_refl _, h1⟩
    · exact .inr g
theorem tgo_spec (L : List Int) (B : Nat) : ∀ lv, SpecAt L B lv := by
  intro lv
  induction lv with
  | zero => exact spec_body (fun k e => by cases e)
  | succ k ih => exact spec_body (fun j e => by cases e; exact ih)
end Go.Proofs.Ytdcggjkcbheolaa
end
section
set_option linter.unusedVariables false
set_option maxRecDepth 100000
open Go Go.Am
namespace Go.Proofs.Ytdcggjkcbheolaa
open Go.Proofs.Try
theorem indexI_ok {h : Heap} {v : Value} {n : Nat} {acs : List Value} (sl : Sl h v 1 n acs) {u : Nat → Value} (hu : ∀ j, j < n → apart prog 3 acs (j * 1) = some (u j)) {g : FuncId} {cap : List Value} {p : Nat → Bool}
    (hg : ∀ j, j < n → ∀ h1, Fr no h h1 → RunF prog g (u j :: cap) h1 (fun v h2 => v = .bool (p j) ∧ Fr no h1 h2)) (hm : n ≤ 4611686018427387904) :
    RunF prog 132 [v, .func (.func g) #[] ⟨cap⟩] h fun r h' => Fr no h h' ∧ ((∃ i : Nat, i < n ∧ r = .int .i64 (i : Int) ∧ p i = true ∧ ∀ j, j < i → p j = false) ∨ (r = .int .i64 (-1) ∧ ∀ j, j < n → p j = false)) := by
  refine RunF.walk func132 rfl rfl ?_
  obtain ⟨A, c, rfl, hc, _⟩ := sl.form
  refine RunC.seq (RunC.region (RunO.all rfl ?_))
  refine RunC.seq (RunC.seq (RunC.region (RunO.all rfl ?_)))
  refine RunC.block ?_
  let I : Nat → Env → Heap → Prop := fun k E h' => ∃ i : Nat, i + k = n ∧ (∀ j, j < i → p j = false) ∧ Fr no h h' ∧ Le (upd (upd (upd (upd E0 0 (.slice A n c)) 1 (.func (.func g) #[] ⟨cap⟩)) 7 (.int .i64 n)) 8 (.int .i64 i)) E
  refine RunC.loop I ?_ (k := n) ?_
  · rintro k E h' ⟨i, hi, hp, hf, hE⟩
    refine RunC.le hE ?_
    clear hE
    refine RunC.seq (RunC.region (RunO.all rfl ?_))
    refine RunC.seq (RunC.cond rfl (fun hlt => ?_) (fun hge => ?_))
    · have hlt := of_decide_eq_true hlt
      have h1 : i < n := by omega
      refine RunC.skip ?_
      refine RunC.seq (RunC.block ?_)
      refine RunC.seq (RunC.region (RunO.all rfl ?_))
      refine RunC.seq (RunC.region (RunO.part 3 rfl ?_))
      refine RunO.at (s := 1) rfl rfl (sl.fr0 hf) rfl rfl h1 (hu i h1) rfl rfl rfl ?_
      refine RunO.call rfl rfl ?_
      refine RunF.mono (hg i h1 _ hf) ?_
      rintro _ h2 ⟨rfl, f2⟩
      refine ⟨_, rfl, RunO.all rfl ?_⟩
      refine RunC.cond rfl (fun ht => ?_) (fun hn => ?_)
      · refine RunC.seq (RunC.region (RunO.all rfl (RunC.ret ⟨_, rfl, hf.quiet f2, .inl ⟨i, h1, rfl, ht, hp⟩⟩)))
      · refine RunC.skip (RunC.region (RunO.all rfl ?_))
        refine ⟨k - 1, by omega, i + 1, by omega, fun j hj => ?_, hf.quiet f2, Le.cons (inc64 (by omega)) (Le.cons rfl (Le.cons rfl (Le.cons rfl (Le.nil _))))⟩
        rcases Nat.lt_or_ge j i with q | q
        · exact hp j q
        · rw [show j = i by omega]; exact hn
    · have hge := of_decide_eq_false hge
      refine RunC.exit ?_
      exact RunC.seq (RunC.region (RunO.all rfl (RunC.ret ⟨_, rfl, hf, .inr ⟨rfl, fun j hj => hp j (by omega)⟩⟩)))
  · exact ⟨0, by omega, fun j hj => absurd hj (Nat.not_lt_zero _), Fr.refl _ _, Le.cons rfl (Le.cons rfl (Le.cons rfl (Le.cons rfl (Le.nil _))))⟩
theorem containsI_ok {h : Heap} {v : Value} {n : Nat} {acs : List Value} (sl : Sl h v 1 n acs) {u : Nat → Value} (hu : ∀ j, j < n → apart prog 3 acs (j * 1) = some (u j)) {g : FuncId} {cap : List Value} {p : Nat → Bool}
    (hg : ∀ j, j < n → ∀ h1, Fr no h h1 → RunF prog g (u j :: cap) h1 (fun v h2 => v = .bool (p j) ∧ Fr no h1 h2)) (hm : n ≤ 4611686018427387904) :
    RunF prog 105 [v, .func (.func g) #[] ⟨cap⟩] h fun r h' => r = .bool (anyI p n) ∧ Fr no h h' := by
  refine RunF.walk func105 rfl rfl ?_
  refine RunC.seq (RunC.region (RunO.all rfl ?_))
  refine RunC.seq (RunC.region (RunO.part 2 rfl ?_))
  refine RunO.callD (indexI_ok sl hu hg hm) rfl rfl rfl ?_
  rintro _ h2 ⟨f2, ⟨i, hi, rfl, hp, _⟩ | ⟨rfl, hp⟩⟩
  · refine RunO.all rfl (RunC.ret ⟨_, rfl, ?_, f2⟩)
    rw [anyI_true hi hp]
    exact congrArg Value.bool (decide_eq_true (Int.natCast_nonneg i))
  · refine RunO.all rfl (RunC.ret ⟨_, rfl, ?_, f2⟩)
    rw [anyI_false hp]; rfl
end Go.Proofs.Ytdcggjkcbheolaa
end
section
set_option linter.unusedVariables false
set_option maxRecDepth 100000
open Go Go.Am Go.RowKit
namespace Go.Proofs.Ytdcggjkcbheolaa
open Go.Proofs.Try
def treeW (L : List Int) (root : Int) : TS := tgo L (L.length / 64) 2 root 0 (List.replicate 512 0, [], false)
/-- Is there a tree at a root of a right device? -/
def treeOk (L : List Int) (root : Int) : Bool := root == 0 || (!(treeW L root).2.2 && !((treeW L root).1.any fun b => (treeW L root).2.1.contains b))
def treeM (L : List Int) (root : Int) : List Int := if root == 0 then List.replicate 512 0 else (treeW L root).1
def treeN (L : List Int) (root : Int) : List Int := if root == 0 then [] else (treeW L root).2.1
theorem treeW_len (L : List Int) (root : Int) : (treeW L root).1.length = 512 := by unfold treeW; rw [tgo_len]; exact List.length_replicate
theorem treeM_len (L : List Int) (root : Int) : (treeM L root).length = 512 := by
  unfold treeM; split
  · exact List.length_replicate
  · exact treeW_len L root
theorem treeW_ns (L : List Int) (root : Int) : (treeW L root).2.1.length ≤ 73 := by
  have := trec_ns L (L.length / 64) 3 root 0 (List.replicate 512 0, [], false)
  have e : rN 3 = 73 := rfl
  rw [e] at this
  have h2 : trec L (L.length / 64) 3 root 0 (List.replicate 512 0, [], false) = treeW L root := rfl
  rw [h2] at this
  simpa using this
theorem treeN_len (L : List Int) (root : Int) : (treeN L root).length ≤ 73 := by
  unfold treeN; split
  · exact Nat.zero_le _
  · exact treeW_ns L root
/-- A walk that is told. -/
def WK (lo : Nat) (h : Heap) (wb : Nat) (iv : Value) (B : Nat) (m ns : List Int) : Prop :=
  ∃ mb nv, lo ≤ wb ∧ lo ≤ mb ∧ Ow h wb (wc iv B (.slice (some ⟨mb, 0, none⟩) 512 (exc 512)) nv false) ∧ Ow h mb (is m) ∧ Row lo h nv 1 ns.length (is ns) ∧ m.length = 512 ∧ ns.length ≤ 73
theorem Row.lo {lo lo' : Nat} {h : Heap} {v : Value} {s n : Nat} {cells : List Value} (r : Row lo h v s n cells) (hl : lo' ≤ lo) : Row lo' h v s n cells := by
  refine ⟨r.1, r.2.imp (fun x => x) ?_⟩
  rintro ⟨b, h1, h2⟩
  exact ⟨b, by omega, h2⟩
theorem treeGoC_ok {h : Heap} {pc wb : Nat} {iv mv nv : Value} {B : Nat} {bad : Bool} {ns : List Int} {lo : Nat} {b : Int} (op : Rd h ⟨pc, 0, none⟩ [.pointer (some ⟨wb, 0, none⟩)]) (ow : Ow h wb (wc iv B mv nv bad)) (row : Row lo h nv 1 ns.length (is ns)) (hl : ns.length ≤ 100000) :
    RunF prog 108 [.int .i64 b, .pointer (some ⟨pc, 0, none⟩)] h fun v h' => v = .bool (ns.contains b) ∧ Fr no h h' := by
  refine RunF.walk func108 rfl rfl ?_
  refine RunC.seq (RunC.region (RunO.all rfl ?_))
  refine RunC.seq (RunC.region ?_)
  refine RunO.load (v := .pointer (some ⟨wb, 0, none⟩)) rfl (op.ld rfl) rfl ?_
  refine RunO.part 2 rfl ?_
  refine RunO.load (v := nv) rfl (ow.ld rfl) rfl ?_
  refine RunO.part 1 rfl ?_
  refine RunO.callD (containsInt_ok (row.sl (by omega)) (by omega)) rfl rfl rfl ?_
  rintro _ _ ⟨rfl, rfl⟩
  exact RunO.all rfl (RunC.ret ⟨_, rfl, rfl, Fr.refl _ _⟩)
set_option maxHeartbeats 4000000 in
theorem treeGo_ok {h : Heap} {iv : Value} {L : List Int} {root : Int} (sl : Sl h iv 1 L.length (us L)) (hb : Byt L) (hd : devOk L.length = true) :
    RunF prog 71 [iv, .int .i64 root] h fun v h' => Fr no h h' ∧ ((treeOk L root = true ∧ ∃ wb, v = .tuple #[.pointer (some ⟨wb, 0, none⟩), .bool true] ∧ WK h.next h' wb iv (L.length / 64) (treeM L root) (treeN L root)) ∨ (treeOk L root = false ∧ v = .tuple #[.pointer none, .bool false])) := by
  have hdl : L.length % 64 = 0 ∧ 4 ≤ L.length / 64 ∧ L.length / 64 ≤ 4096 := by
    unfold devOk at hd
    simpa using hd
  have hm : L.length ≤ 4611686018427387904 := by omega
  refine RunF.walk func71 rfl rfl ?_
  have sl0 := sl
  obtain ⟨A, c, rfl, hc, hA⟩ := sl.form
  have hAlt : ∀ b o c', Value.slice A L.length c = .slice (some ⟨b, o, none⟩) L.length c' → b < h.next := fun b o c' e => by
    obtain ⟨b', o', rfl, rd⟩ := hA (by omega)
    cases e; exact rd.2.1
  refine RunC.seq (RunC.region (RunO.all rfl ?_))
  refine RunC.seq (RunC.region (RunO.part 1 rfl ?_))
  refine RunO.callD (devCheck_ok hm) rfl rfl rfl ?_
  rintro _ _ ⟨rfl, rfl⟩
  rw [hd, if_pos rfl, if_pos rfl]
  refine RunO.all rfl ?_
  obtain ⟨B, hBe⟩ : ∃ B, B = L.length / 64 := ⟨_, rfl⟩
  rw [← hBe] at hdl ⊢
  refine RunC.seq (RunC.region (RunO.part 2 rfl ?_))
  refine RunO.make (m := 512) rfl rfl rfl rfl rfl rfl (by decide) (by decide) rfl ?_
  rw [show reps (cellsOf (Value.int .i64 0)) 512 = is (List.replicate 512 0) by rw [show cellsOf (Value.int .i64 0) = [.int .i64 0] from rfl, reps_one]; unfold is; rw [List.map_replicate]]
  have om := Ow.push h (is (List.replicate 512 0))
  have f1 : Fr no h (h.push ⟨is (List.replicate 512 0), true⟩) := Fr.push _ _ _
  have hn1 : (h.push ⟨is (List.replicate 512 0), true⟩).next = h.next + 1 := rfl
  generalize h.push ⟨is (List.replicate 512 0), true⟩ = h1 at *
  generalize hmb : h.next = mb at om hn1 ⊢
  refine RunO.part 2 (h1 := h1.push ⟨wc (.slice A L.length c) B (.slice (some ⟨mb, 0, none⟩) 512 (exc 512)) (.slice none 0 0) false, true⟩) rfl ?_
  obtain ⟨iv, hiv⟩ : ∃ iv, iv = Value.slice A L.length c := ⟨_, rfl⟩
  rw [← hiv] at sl0 hAlt ⊢
  have ow := Ow.push h1 (wc iv B (.slice (some ⟨mb, 0, none⟩) 512 (exc 512)) (.slice none 0 0) false)
  have f2 : Fr no h1 (h1.push ⟨wc iv B (.slice (some ⟨mb, 0, none⟩) 512 (exc 512)) (.slice none 0 0) false, true⟩) := Fr.push _ _ _
  have hn2 : (h1.push ⟨wc iv B (.slice (some ⟨mb, 0, none⟩) 512 (exc 512)) (.slice none 0 0) false, true⟩).next = h1.next + 1 := rfl
  generalize h1.push ⟨wc iv B (.slice (some ⟨mb, 0, none⟩) 512 (exc 512)) (.slice none 0 0) false, true⟩ = h2 at *
  refine RunO.part 1 (h1 := h2.push ⟨[.pointer none], true⟩) rfl ?_
  refine RunO.store rfl rfl (store1_ow (Ow.push h2 [.pointer none]) rfl rfl rfl (Nat.le_refl 1)) (RunO.nil ?_)
  change RunC _ _ _ _ ((h2.push ⟨[.pointer none], true⟩).put h2.next (some ⟨[.pointer (some ⟨h1.next, 0, none⟩)], true⟩)) _ _ _
  have op : Ow ((h2.push ⟨[.pointer none], true⟩).put h2.next (some ⟨[.pointer (some ⟨h1.next, 0, none⟩)], true⟩)) h2.next [.pointer (some ⟨h1.next, 0, none⟩)] := Ow.put _ (Nat.lt_succ_self _)
  have f3 : Fr no h2 ((h2.push ⟨[.pointer none], true⟩).put h2.next (some ⟨[.pointer (some ⟨h1.next, 0, none⟩)], true⟩)) := (Fr.push _ _ _).trans (Fr.put (m := (· = h2.next)) _ (.inl rfl)) (fun j hj => .inr (by omega))
  have hn3 : ((h2.push ⟨[.pointer none], true⟩).put h2.next (some ⟨[.pointer (some ⟨h1.next, 0, none⟩)], true⟩)).next = h2.next + 1 := rfl
  replace om := (om.fr f2 (fun g => g)).fr f3 (fun g => g)
  replace ow := ow.fr f3 (fun g => g)
  have f13 := (f1.same f2).same f3
  generalize (h2.push ⟨[.pointer none], true⟩).put h2.next (some ⟨[.pointer (some ⟨h1.next, 0, none⟩)], true⟩) = h3 at *
  generalize h2.next = pc at *
  generalize h1.next = wb at *
  have hmB : B * 64 ≤ L.length := by omega
  have tm : ∀ b o c', iv = .slice (some ⟨b, o, none⟩) L.length c' → ¬ TM h3.next wb mb b := fun b o c' e => by
    have := hAlt b o c' e
    rintro (e | e | e) <;> omega
  have tw : TW h3.next h3 iv B wb mb (.slice none 0 0) (List.replicate 512 0, [], false) := ⟨ow, om, Row.nil _ _ _, List.length_replicate, by omega, by omega, by omega, Nat.le_refl _⟩
  have sl3 := sl0.fr0 f13
  refine RunC.seq (RunC.seq (RunC.region (RunO.all rfl ?_)))
  by_cases hr : root = 0
  · have h1 : treeOk L root = true := by unfold treeOk; rw [hr]; rfl
    have h2 : treeM L root = List.replicate 512 0 := by unfold treeM; rw [hr]; rfl
    have h3' : treeN L root = [] := by unfold treeN; rw [hr]; rfl
    rw [h1, h2, h3']
    subst hr
    refine RunC.cond rfl (fun _ => ?_) (fun g => by cases g)
    refine RunC.seq (RunC.region ?_)
    refine RunO.load (v := .pointer (some ⟨wb, 0, none⟩)) rfl (op.ld rfl) rfl (RunO.all rfl ?_)
    exact RunC.ret ⟨_, rfl, f13, .inl ⟨rfl, wb, rfl, mb, _, by omega, by omega, ow, om, Row.nil _ _ _, List.length_replicate, Nat.zero_le _⟩⟩
  rw [show (root == 0) = false from beq_eq_false_iff_ne.2 hr]
  refine RunC.cond rfl (fun g => by cases g) (fun _ => RunC.skip ?_)
  have hTok : treeOk L root = (!(treeW L root).2.2 && !((treeW L root).1.any fun b => (treeW L root).2.1.contains b)) := by unfold treeOk; rw [show (root == 0) = false from beq_eq_false_iff_ne.2 hr]; rfl
  have hTm : treeM L root = (treeW L root).1 := by unfold treeM; rw [show (root == 0) = false from beq_eq_false_iff_ne.2 hr]; rfl
  have hTn : treeN L root = (treeW L root).2.1 := by unfold treeN; rw [show (root == 0) = false from beq_eq_false_iff_ne.2 hr]; rfl
  rw [hTok, hTm, hTn]
  refine RunC.seq (RunC.region ?_)
  refine RunO.load (v := .pointer (some ⟨wb, 0, none⟩)) rfl (op.ld rfl) rfl ?_
  refine RunO.part 1 rfl ?_
  refine RunO.callD (treeGoes_ok hb hmB (by omega) hm tm 2 (by decide) (at_ := root) (from_ := 0) sl3 tw (by decide) (by decide) rfl) rfl rfl rfl ?_
  rintro _ h4 ⟨rfl, nv, t4, F4⟩
  have htw : tgo L B 2 root 0 (List.replicate 512 0, [], false) = treeW L root := by rw [hBe]; rfl
  rw [htw] at t4
  have hwl := treeW_len L root
  have hns := treeW_ns L root
  generalize treeW L root = w at *
  obtain ⟨m, ns, bad⟩ := w
  simp only at hwl hns
  obtain ⟨ow4, om4, row4, _, _, _, _, _⟩ := t4
  simp only at ow4 om4 row4
  have op4 := op.fr F4 (by rintro (e | e | e) <;> omega)
  have F04 : Fr no h h4 := (f13.trans F4 (fun i g => .inr (by rcases g with e | e | e <;> omega)))
  refine RunO.all rfl ?_
  have row0 : Row mb h4 nv 1 ns.length (is ns) := Row.lo row4 (by omega)
  refine RunC.seq (RunC.seq (RunC.region ?_))
  refine RunO.load (v := .pointer (some ⟨wb, 0, none⟩)) rfl (op4.ld rfl) rfl ?_
  refine RunO.part 2 rfl ?_
  refine RunO.load (v := .bool bad) rfl (ow4.ld rfl) rfl ?_
  refine RunO.part 1 rfl ?_
  cases bad with
  | true =>
    refine RunO.all rfl ?_
    refine RunC.cond rfl (fun _ => ?_) (fun g => by cases g)
    exact RunC.seq (RunC.region (RunO.all rfl (RunC.ret ⟨_, rfl, F04, .inr ⟨rfl, rfl⟩⟩)))
  | false =>
    refine RunO.loadG (v := .pointer (some ⟨wb, 0, none⟩)) rfl rfl (op4.ld rfl) rfl ?_
    refine RunO.part 2 rfl ?_
    refine RunO.loadG (v := .slice (some ⟨mb, 0, none⟩) 512 (exc 512)) rfl rfl (ow4.ld rfl) rfl ?_
    refine RunO.part 1 rfl ?_
    have slm : Sl h4 (.slice (some ⟨mb, 0, none⟩) 512 (exc 512)) 1 512 (is m) := om4.all.sl (by rw [is_len, hwl]) (by decide) (Cp.exc (Nat.le_refl _))
    refine RunO.callDG rfl (containsI_ok slm (u := fun j => .int .i64 (m.getD j 0)) (fun j hj => ?_) (p := fun j => ns.contains (m.getD j 0)) (fun j hj h5 f5 => ?_) (by decide)) rfl rfl rfl ?_
    · have hj2 : j < m.length := by omega
      rw [is_part hj2, List.getD_eq_getElem?_getD, List.getElem?_eq_getElem hj2]; rfl
    · exact treeGoC_ok (pc := pc) (op4.all.fr f5 (fun g => g)) (ow4.fr f5 (fun g => g)) (row4.fr f5 (fun _ _ _ g => g)) (by omega)
    rintro _ h5 ⟨rfl, f5⟩
    rw [← hwl, anyI_list (q := fun b => ns.contains b) (fun j x hx => by rw [List.getD_eq_getElem?_getD, hx]; rfl)]
    have ow5 := ow4.fr f5 (fun g => g)
    have om5 := om4.fr f5 (fun g => g)
    have op5 := op4.fr f5 (fun g => g)
    have row5 := row0.fr f5 (fun _ _ _ g => g)
    have F05 := F04.same f5
    refine RunO.all rfl ?_
    cases hc : m.any fun b => ns.contains b with
    | true =>
      refine RunC.cond rfl (fun _ => ?_) (fun g => by cases g)
      exact RunC.seq (RunC.region (RunO.all rfl (RunC.ret ⟨_, rfl, F05, .inr ⟨rfl, rfl⟩⟩)))
    | false =>
      refine RunC.cond rfl (fun g => by cases g) (fun _ => RunC.skip ?_)
      refine RunC.seq (RunC.region ?_)
      refine RunO.load (v := .pointer (some ⟨wb, 0, none⟩)) rfl (op5.ld rfl) rfl (RunO.all rfl ?_)
      exact RunC.ret ⟨_, rfl, F05, .inl ⟨rfl, wb, rfl, mb, nv, by omega, by omega, ow5, om5, row5, hwl, hns⟩⟩
end Go.Proofs.Ytdcggjkcbheolaa
end
section
set_option linter.unusedVariables false
namespace Go.Am
open Go.RowKit
section
variable {P : Program} {n : Nat} {ops rest : List Oper} {E E1 : Env} {h h1 : Heap} {Q : Env → Heap → Prop}
theorem upd3_le {E : Env} {d d2 d3 : Tmp} {v w u : Value} (h1 : E d = none) (h2 : E d2 = none) : Le (upd E d3 u) (upd (upd (upd E d v) d2 w) d3 u) := by
  intro t x hx
  unfold upd at hx ⊢
  cases e3 : Nat.beq t d3 with
  | true => rw [e3] at hx; exact hx
  | false =>
    rw [e3] at hx
    have hx : E t = some x := hx
    show (cond (Nat.beq t d2) (some w) (cond (Nat.beq t d) (some v) (E t))) = some x
    cases e2 : Nat.beq t d2 with
    | true => have := Nat.eq_of_beq_eq_true e2; subst this; rw [h2] at hx; cases hx
    | false =>
      cases e1 : Nat.beq t d with
      | true => have := Nat.eq_of_beq_eq_true e1; subst this; rw [h1] at hx; cases hx
      | false => exact hx
/-- A field of an element looked at: its address, the field's, a load. -/
theorem RunO.fldG {d d2 d3 : Tmp} {t ty ty2 ty3 e st : TypeId} {x i : Operand} {f : Nat} {pos pos2 pos3 : String} {after after2 after3 : Array Edge} {gd gd2 gd3 : Option (Nat × Bool)} {v : Value} {m s k off : Nat} {ik : IntKind} {cells : List Value} {u : Value}
    (hw : ewanted ops E ⟨some d, .indexAddr t x i, ty, pos, after, gd⟩ = some true) (hw2 : ∀ p, ewanted ops (upd E d (.pointer p)) ⟨some d2, .fieldAddr st (.tmp d) f, ty2, pos2, after2, gd2⟩ = some true) (hw3 : ∀ p q, ewanted ops (upd (upd E d (.pointer p)) d2 (.pointer q)) ⟨some d3, .load e (.tmp d2), ty3, pos3, after3, gd3⟩ = some true)
    (hx : gE E x = some v) (hi : gE E i = some (.int ik (k : Int))) (sl : Sl h v s m cells) (hu : P.underlying t = some (.slice st)) (hs : sizeOf P st = some s) (hk : k < m)
    (hf : ∀ b o, afieldAddr P st (.pointer (some ⟨b, o, none⟩)) f = some (.pointer (some ⟨b, o + off, none⟩))) (hv : apart P e cells (k * s + off) = some u)
    (hd : Nat.ble (Nat.succ d) n = true) (hd2 : Nat.ble (Nat.succ d2) n = true) (hd3 : Nat.ble (Nat.succ d3) n = true) (hE : E d = none) (hE2 : E d2 = none)
    (r : RunO P n ops rest (upd E d3 u) h Q) : RunO P n ops (⟨some d, .indexAddr t x i, ty, pos, after, gd⟩ :: ⟨some d2, .fieldAddr st (.tmp d) f, ty2, pos2, after2, gd2⟩ :: ⟨some d3, .load e (.tmp d2), ty3, pos3, after3, gd3⟩ :: rest) E h Q := by
  obtain ⟨b, o, c, rfl, hc, rd⟩ := sl.nz (by omega)
  have hi' : gE E i = some (.int ik (.ofNat k)) := hi
  refine RunO.oneG (h1 := h) (v := .pointer (some ⟨b, o + k * s, none⟩)) (E1 := upd E d (.pointer (some ⟨b, o + k * s, none⟩))) hw ?_ (by simp only [eput, hd, cond_true]) ?_
  · simp only [eop, hx, hi', aindexAddr, hu, hs, Nat.ble_eq_true_of_le (show Nat.succ k ≤ m from hk), cond_true]
    rfl
  have hg : gE (upd E d (.pointer (some ⟨b, o + k * s, none⟩))) (.tmp d) = some (.pointer (some ⟨b, o + k * s, none⟩)) := by show upd E d _ d = _; unfold upd; rw [Nat.beq_refl]; rfl
  refine RunO.oneG (h1 := h) (v := .pointer (some ⟨b, o + k * s + off, none⟩)) (E1 := upd (upd E d (.pointer (some ⟨b, o + k * s, none⟩))) d2 (.pointer (some ⟨b, o + k * s + off, none⟩))) (hw2 _) ?_ (by simp only [eput, hd2, cond_true]) ?_
  · have := hf b (o + k * s)
    simp only [eop, hg, this]
    rfl
  have hv' : aload P h e ⟨b, o + k * s + off, none⟩ = some u := by
    have := rd.part hv
    rw [← Nat.add_assoc] at this
    exact this
  refine RunO.loadG (v := u) (a := ⟨b, o + k * s + off, none⟩) (hw3 _ _) (by show upd _ d2 _ d2 = _; unfold upd; rw [Nat.beq_refl]; rfl) hv' hd3 ?_
  exact r.le (upd3_le hE hE2)
end
end Go.Am
end
section
set_option linter.unusedVariables false
namespace Go.Am
open Go.RowKit
section
variable {P : Program} {n : Nat} {ops rest : List Oper} {E E1 : Env} {h h1 : Heap} {Q : Env → Heap → Prop}
theorem Rd.sub {b o : Nat} {cs : List Value} (r : Rd h ⟨b, o, none⟩ cs) {k j : Nat} (hk : k + j ≤ cs.length) : Rd h ⟨b, o + k, none⟩ ((cs.drop k).take j) := by
  obtain ⟨h1, h2, ob, ho, he⟩ := r
  refine ⟨rfl, h2, ob, ho, ?_⟩
  simp only at he ⊢
  have hl : ((cs.drop k).take j).length = j := by rw [List.length_take, List.length_drop]; omega
  rw [hl]
  conv => rhs; rw [← he]
  rw [List.drop_take, List.drop_drop, List.take_take]
  congr 1
  omega
/-- A bound of a slice. -/
inductive Bd : Option Value → Nat → Nat → Prop where
  | none (d : Nat) : Bd none d d
  | some (k : IntKind) (d m : Nat) : Bd (some (.int k (m : Int))) d m
theorem slice_gen {t e : TypeId} {v : Value} {s len k m : Nat} {cells : List Value} {lo hi : Option Value} (hu : P.underlying t = some (.slice e)) (hs : sizeOf P e = some s) (sl : Sl h v s len cells) (hlo : Bd lo 0 k) (hhi : Bd hi len m) (hk : k ≤ m) (hm : m ≤ len) :
    ∃ v', aslice P t v lo hi none = some v' ∧ Sl h v' s (m - k) ((cells.drop (k * s)).take ((m - k) * s)) := by
  have key : ∀ cap, len ≤ cap → abounds len cap lo hi none = some (k, m, cap) := by
    intro cap hc
    have a1 : ∀ (j : IntKind) (x c : Nat), x ≤ c → abound (.int j (x : Int)) c = some x := fun j x c hx => by
      show cond (Nat.ble x c) (some x) none = _
      rw [Nat.ble_eq_true_of_le hx]; rfl
    unfold abounds
    cases hhi with
    | none =>
      cases hlo with
      | none => rfl
      | some j _ _ => simp only [a1 j k _ hk]
    | some j2 _ _ =>
      cases hlo with
      | none => simp only [a1 j2 m cap (by omega)]
      | some j _ _ => simp only [a1 j2 m cap (by omega), a1 j k m hk]
  obtain ⟨hl, hn, ⟨rfl, rfl⟩ | ⟨b, o, c, rfl, hc, rd⟩⟩ := sl
  · obtain rfl : m = 0 := by omega
    obtain rfl : k = 0 := by omega
    refine ⟨.slice none 0 0, ?_, by simp, by omega, .inl ⟨rfl, rfl⟩⟩
    simp only [aslice, hu, hs, key 0 (Nat.le_refl _)]
  · have hms : (m - k) * s + k * s ≤ len * s := by rw [← Nat.add_mul]; exact Nat.mul_le_mul_right _ (by omega)
    have hsub : Rd h ⟨b, o + k * s, none⟩ ((cells.drop (k * s)).take ((m - k) * s)) := rd.sub (by rw [hl]; omega)
    have hlen : ((cells.drop (k * s)).take ((m - k) * s)).length = (m - k) * s := by rw [List.length_take, List.length_drop, hl]; omega
    have hmn : m - k ≤ 9223372036854775807 := by omega
    rcases hc with ⟨h1, h2⟩ | ⟨h1, h2⟩
    · refine ⟨.slice (some ⟨b, o + k * s, none⟩) (m - k) c, ?_, hlen, hmn, .inr ⟨b, o + k * s, c, rfl, .inl ⟨h1, h2⟩, hsub⟩⟩
      simp only [aslice, hu, hs, h1, cond_true, h2, Nat.beq_refl, key len (Nat.le_refl _)]
      rfl
    · by_cases hck : half c = k
      · refine ⟨.slice (some ⟨b, o, none⟩) (m - k) (exc (half c - k)), ?_, hlen, hmn, .inr ⟨b, o, _, rfl, Cp.exc (by omega), ?_⟩⟩
        · simp only [aslice, hu, hs, h1, cond_false, key (half c) h2, beqT hck, cond_true]
          rfl
        · have : (m - k) * s = 0 := by rw [show m - k = 0 by omega, Nat.zero_mul]
          rw [this, List.take_zero]
          obtain ⟨r1, r2, ob, ho, he⟩ := rd
          exact ⟨rfl, r2, ob, ho, rfl⟩
      · refine ⟨.slice (some ⟨b, o + k * s, none⟩) (m - k) (exc (half c - k)), ?_, hlen, hmn, .inr ⟨b, o + k * s, _, rfl, Cp.exc (by omega), hsub⟩⟩
        simp only [aslice, hu, hs, h1, cond_false, key (half c) h2, beqF hck]
        rfl
theorem RunO.sliceSlG {d : Tmp} {t ty e : TypeId} {x : Operand} {y z : Option Operand} {pos : String} {after : Array Edge} {gd : Option (Nat × Bool)} {v : Value} {lo hi : Option Value} {s len k m : Nat} {cells : List Value}
    (hw : ewanted ops E ⟨some d, .slice t x y z none, ty, pos, after, gd⟩ = some true) (hx : gE E x = some v) (hy : go (gE E) y = some lo) (hz : go (gE E) z = some hi) (hu : P.underlying t = some (.slice e)) (hs : sizeOf P e = some s) (sl : Sl h v s len cells) (hlo : Bd lo 0 k) (hhi : Bd hi len m) (hk : k ≤ m) (hm : m ≤ len) (hd : Nat.ble (Nat.succ d) n = true)
    (r : ∀ v', Sl h v' s (m - k) ((cells.drop (k * s)).take ((m - k) * s)) → RunO P n ops rest (upd E d v') h Q) : RunO P n ops (⟨some d, .slice t x y z none, ty, pos, after, gd⟩ :: rest) E h Q := by
  obtain ⟨v', e1, e2⟩ := slice_gen (P := P) hu hs sl hlo hhi hk hm
  refine RunO.oneG hw (v := v') (h1 := h) ?_ (by simp only [eput, hd, cond_true]) (r v' e2)
  have hg : go (gE E) none = some none := rfl
  simp only [eop, hx, hy, hz, hg, e1, pureR]
theorem RunO.sliceSl {d : Tmp} {t ty e : TypeId} {x : Operand} {y z : Option Operand} {pos : String} {after : Array Edge} {v : Value} {lo hi : Option Value} {s len k m : Nat} {cells : List Value}
    (hx : gE E x = some v) (hy : go (gE E) y = some lo) (hz : go (gE E) z = some hi) (hu : P.underlying t = some (.slice e)) (hs : sizeOf P e = some s) (sl : Sl h v s len cells) (hlo : Bd lo 0 k) (hhi : Bd hi len m) (hk : k ≤ m) (hm : m ≤ len) (hd : Nat.ble (Nat.succ d) n = true)
    (r : ∀ v', Sl h v' s (m - k) ((cells.drop (k * s)).take ((m - k) * s)) → RunO P n ops rest (upd E d v') h Q) : RunO P n ops (⟨some d, .slice t x y z none, ty, pos, after, none⟩ :: rest) E h Q :=
  RunO.sliceSlG rfl hx hy hz hu hs sl hlo hhi hk hm hd r
/-- An element of an array that is a value. -/
theorem RunO.indexV {d : Tmp} {t ty e : TypeId} {x i : Operand} {pos : String} {after : Array Edge} {len k s : Nat} {ik : IntKind} {cs : List Value} {u : Value}
    (hx : gE E x = some (.agg ⟨cs⟩)) (hi : gE E i = some (.int ik (k : Int))) (hu : P.underlying t = some (.array len e)) (hs : sizeOf P e = some s) (hk : k < len) (hv : apart P e cs (k * s) = some u) (hd : Nat.ble (Nat.succ d) n = true)
    (r : RunO P n ops rest (upd E d u) h Q) : RunO P n ops (⟨some d, .index t x i, ty, pos, after, none⟩ :: rest) E h Q := by
  refine RunO.one rfl (v := u) (h1 := h) ?_ (by simp only [eput, hd, cond_true]) r
  have hi : gE E i = some (.int ik (.ofNat k)) := hi
  have hv : apart P e cs (Nat.mul k s) = some u := hv
  simp only [eop, hx, hi, aindex, hu, hs, Nat.ble_eq_true_of_le (show Nat.succ k ≤ len from hk), cond_true, hv, pureR]
theorem RunQ.sliceSl {d : Tmp} {t ty e : TypeId} {x : Operand} {y z : Option Operand} {pos : String} {after : Array Edge} {gd : Option (Nat × Bool)} {v : Value} {lo hi : Option Value} {s len k m : Nat} {cells : List Value}
    (hw : ewanted ops E ⟨some d, .slice t x y z none, ty, pos, after, gd⟩ = some true) (hx : gE E x = some v) (hy : go (gE E) y = some lo) (hz : go (gE E) z = some hi) (hu : P.underlying t = some (.slice e)) (hs : sizeOf P e = some s) (sl : Sl h v s len cells) (hlo : Bd lo 0 k) (hhi : Bd hi len m) (hk : k ≤ m) (hm : m ≤ len) (hd : Nat.ble (Nat.succ d) n = true)
    (r : ∀ v', Sl h v' s (m - k) ((cells.drop (k * s)).take ((m - k) * s)) → RunQ P n ops rest (upd E d v') h Q) : RunQ P n ops (⟨some d, .slice t x y z none, ty, pos, after, gd⟩ :: rest) E h Q := by
  obtain ⟨v', e1, e2⟩ := slice_gen (P := P) hu hs sl hlo hhi hk hm
  refine RunQ.oneG (v := v') (f := .none) (h1 := h.lo h.next) hw ?_ (fun _ => rfl) rfl (Fr.refl _ _) (by simp only [eput, hd, cond_true]) (r v' e2).lo
  have hg : go (gE E) none = some none := rfl
  simp only [eop, hx, hy, hz, hg, e1, pureR]
/-- A row copied into one's own block, from a place on. -/
theorem RunO.copyAt {d : Tmp} {t t2 ty e : TypeId} {x y : Operand} {pos : String} {after : Array Edge} {b o dn dc sn k : Nat} {src : Value} {cs news : List Value}
    (hx : gE E x = some (.slice (some ⟨b, o, none⟩) dn dc)) (hy : gE E y = some src) (hu : P.underlying t = some (.slice e)) (hs : sizeOf P e = some 1) (ow : Ow h b cs) (sl : Sl h src 1 sn news) (ha : allCells news = true) (hm : min sn dn = k) (hc : o + k ≤ cs.length) (hd : Nat.ble (Nat.succ d) n = true)
    (r : ∀ h', Ow h' b (cs.take o ++ news.take k ++ cs.drop (o + k)) → Fr (· = b) h h' → h'.next = h.next → RunO P n ops rest (upd E d (goInt k)) h' Q) : RunO P n ops (⟨some d, .call ⟨.builtin .copy, #[x, y], #[t, t2]⟩, ty, pos, after, none⟩ :: rest) E h Q := by
  obtain ⟨h', e1, e2, e3, e4⟩ := copy_sl (P := P) (t := t) (dc := dc) hu hs ow sl ha hm hc
  refine RunO.one rfl (v := goInt k) (h1 := h') ?_ (by simp only [eput, hd, cond_true]) (r h' e2 e3 e4)
  simp only [eop, gs, hx, hy, abuiltin, e1]
end
theorem Sl.frm {h h' : Heap} {v : Value} {s n : Nat} {cs : List Value} {M : Nat → Prop} (sl : Sl h v s n cs) (hn : ∀ b o c, v = .slice (some ⟨b, o, none⟩) n c → ¬ M b) (f : Fr M h h') : Sl h' v s n cs := by
  refine ⟨sl.1, sl.2.1, sl.2.2.imp (fun y => y) ?_⟩
  rintro ⟨b, o, c, h1, h2, h3⟩
  exact ⟨b, o, c, h1, h2, h3.fr f (hn b o c h1)⟩
theorem Sl.lt {h : Heap} {v : Value} {s n : Nat} {cs : List Value} (sl : Sl h v s n cs) : ∀ b o c, v = .slice (some ⟨b, o, none⟩) n c → b < h.next := by
  intro b o c e
  rcases sl.2.2 with ⟨g1, _⟩ | ⟨b', o', c', g1, _, rd⟩
  · rw [e] at g1; cases g1
  · rw [e] at g1; cases g1; exact rd.2.1
theorem Row.frm {lo : Nat} {h h' : Heap} {v : Value} {s n : Nat} {cells : List Value} {M : Nat → Prop} (r : Row lo h v s n cells) (f : Fr M h h') (hm : ∀ b, At v b → ¬ M b) : Row lo h' v s n cells := by
  refine ⟨r.1, r.2.imp (fun x => x) ?_⟩
  rintro ⟨b, h1, h2, h3⟩
  exact ⟨b, h1, h2, h3.fr f (hm b ⟨n, _, h2⟩)⟩
/-- The same slice in every memory where the row can be read. -/
theorem slice_all {P : Program} {h : Heap} {t e : TypeId} {v : Value} {s len k m : Nat} {cells : List Value} {lo hi : Option Value} (hu : P.underlying t = some (.slice e)) (hs : sizeOf P e = some s) (sl : Sl h v s len cells) (hlo : Bd lo 0 k) (hhi : Bd hi len m) (hk : k ≤ m) (hm : m ≤ len) :
    ∃ v', aslice P t v lo hi none = some v' ∧ ∀ h', Sl h' v s len cells → Sl h' v' s (m - k) ((cells.drop (k * s)).take ((m - k) * s)) := by
  obtain ⟨v', e1, _⟩ := slice_gen (P := P) hu hs sl hlo hhi hk hm
  refine ⟨v', e1, fun h' sl' => ?_⟩
  obtain ⟨v2, e2, e3⟩ := slice_gen (P := P) hu hs sl' hlo hhi hk hm
  rw [e1] at e2
  cases e2
  exact e3
theorem RunO.sliceAll {P : Program} {n : Nat} {ops rest : List Oper} {E : Env} {h : Heap} {Q : Env → Heap → Prop} {d : Tmp} {t ty e : TypeId} {x : Operand} {y z : Option Operand} {pos : String} {after : Array Edge} {v : Value} {lo hi : Option Value} {s len k m : Nat} {cells : List Value}
    (hx : gE E x = some v) (hy : go (gE E) y = some lo) (hz : go (gE E) z = some hi) (hu : P.underlying t = some (.slice e)) (hs : sizeOf P e = some s) (sl : Sl h v s len cells) (hlo : Bd lo 0 k) (hhi : Bd hi len m) (hk : k ≤ m) (hm : m ≤ len) (hd : Nat.ble (Nat.succ d) n = true)
    (r : ∀ v', (∀ h', Sl h' v s len cells → Sl h' v' s (m - k) ((cells.drop (k * s)).take ((m - k) * s))) → RunO P n ops rest (upd E d v') h Q) : RunO P n ops (⟨some d, .slice t x y z none, ty, pos, after, none⟩ :: rest) E h Q := by
  obtain ⟨v', e1, e2⟩ := slice_all (P := P) hu hs sl hlo hhi hk hm
  refine RunO.one rfl (v := v') (h1 := h) ?_ (by simp only [eput, hd, cond_true]) (r v' e2)
  have hg : go (gE E) none = some none := rfl
  simp only [eop, hx, hy, hz, hg, e1, pureR]
end Go.Am
end
section
set_option linter.unusedVariables false
set_option maxRecDepth 100000
open Go Go.Am Go.RowKit
namespace Go.Proofs.Ytdcggjkcbheolaa
open Go.Proofs.Try
/-- So many places has a level. -/
def lvN (l : Nat) : Nat := 8 ^ (2 - l)
/-- The cells of a maker. -/
def kc (iv : Value) (B : Nat) (ov mv : Value) (ws js : Nat → Value) (fv : Value) : List Value := [iv, .int .i64 (B : Int), ov, mv, ws 0, ws 1, ws 2, js 0, js 1, js 2, fv]
def slz (b n : Nat) : Value := .slice (some ⟨b, 0, none⟩) n (exc n)
theorem kc_w {iv ov mv fv : Value} {B : Nat} {ws js : Nat → Value} {l : Nat} (hl : l < 3) : nth (kc iv B ov mv ws js fv) (4 + l * 1) = some (ws l) := by
  obtain rfl | rfl | rfl : l = 0 ∨ l = 1 ∨ l = 2 := by omega
  all_goals rfl
theorem kc_j {iv ov mv fv : Value} {B : Nat} {ws js : Nat → Value} {l : Nat} (hl : l < 3) : nth (kc iv B ov mv ws js fv) (7 + l * 1) = some (js l) := by
  obtain rfl | rfl | rfl : l = 0 ∨ l = 1 ∨ l = 2 := by omega
  all_goals rfl
/-- Rows of one's own, level by level. -/
def WS (h : Heap) (wb : Nat → Nat) (W : Nat → List Int) : Prop := ∀ l, l < 3 → Ow h (wb l) (is (W l)) ∧ (W l).length = lvN l
def WM (wb : Nat → Nat) : Nat → Prop := fun b => ∃ l, l < 3 ∧ b = wb l
theorem WS.fr {h h' : Heap} {wb : Nat → Nat} {W : Nat → List Int} {M : Nat → Prop} (w : WS h wb W) (f : Fr M h h') (hM : ∀ l, l < 3 → ¬ M (wb l)) : WS h' wb W := fun l hl => ⟨(w l hl).1.fr f (hM l hl), (w l hl).2⟩
theorem slW {h : Heap} {wb : Nat → Nat} {W : Nat → List Int} (w : WS h wb W) {l : Nat} (hl : l < 3) : Sl h (slz (wb l) (lvN l)) 1 (lvN l) (is (W l)) := by
  have hb : lvN l ≤ 64 := by
    obtain rfl | rfl | rfl : l = 0 ∨ l = 1 ∨ l = 2 := by omega
    all_goals decide
  exact (w l hl).1.all.sl (by rw [is_len, (w l hl).2, Nat.mul_one]) (by omega) (Cp.exc (Nat.le_refl _))
theorem lvN_le {l : Nat} (hl : l < 3) : lvN l ≤ 64 := by
  obtain rfl | rfl | rfl : l = 0 ∨ l = 1 ∨ l = 2 := by omega
  all_goals decide
/-- One place of a level is set. -/
def setW (W : Nat → List Int) (l p : Nat) (x : Int) : Nat → List Int := fun k => if k = l then (W k).set p x else W k
theorem setW_at (W : Nat → List Int) (l p : Nat) (x : Int) {k j : Nat} (hp : k = l → p < (W l).length) : (setW W l p x k).getD j 0 = if k = l ∧ j = p then x else (W k).getD j 0 := by
  unfold setW
  by_cases e : k = l
  · subst e
    rw [if_pos rfl, getD_set _ _ _ _ (hp rfl)]
    by_cases c : j = p
    · rw [if_pos c, if_pos ⟨rfl, c⟩]
    · rw [if_neg c, if_neg (fun g => c g.2)]
  · rw [if_neg e, if_neg (fun g => e g.1)]
theorem WS.set {h : Heap} {wb : Nat → Nat} {W : Nat → List Int} (w : WS h wb W) (hi : ∀ l k, l < 3 → k < 3 → wb l = wb k → l = k) {l p : Nat} (hl : l < 3) (hp : p < lvN l) (x : Int) :
    astore prog h 3 ⟨wb l, 0 + p * 1, none⟩ (.int .i64 x) = some (h.put (wb l) (some ⟨is ((W l).set p x), true⟩)) ∧ WS (h.put (wb l) (some ⟨is ((W l).set p x), true⟩)) wb (setW W l p x) ∧ Fr (· = wb l) h (h.put (wb l) (some ⟨is ((W l).set p x), true⟩)) := by
  have f : Fr (· = wb l) h (h.put (wb l) (some ⟨is ((W l).set p x), true⟩)) := Fr.put _ (.inl rfl)
  refine ⟨?_, fun k hk => ?_, f⟩
  · refine (store1_ow (w l hl).1 rfl rfl rfl (by rw [is_len, (w l hl).2]; omega)).trans ?_
    rw [Nat.zero_add, Nat.mul_one]; unfold is; rw [List.map_set]
  · unfold setW
    by_cases e : k = l
    · subst e
      rw [if_pos rfl]
      exact ⟨Ow.put _ (w k hk).1.1, by rw [List.length_set]; exact (w k hk).2⟩
    · rw [if_neg e]
      exact ⟨(w k hk).1.fr f (fun g => e (hi k l hk hl g)), (w k hk).2⟩
def LearnOk (L : List Int) (B kb : Nat) (iv ov mv fv : Value) (wb : Nat → Nat) (js : Nat → Value) (lv : Nat) : Prop := ∀ {h : Heap} {W : Nat → List Int} {at_ : Int} {p : Nat},
    Sl h iv 1 L.length (us L) → Ow h kb (kc iv B ov mv (fun l => slz (wb l) (lvN l)) js fv) → WS h wb W → p < lvN lv → (∀ l, l ≤ lv → ∀ j, j / 8 ^ (lv - l) = p → (W l).getD j 0 = 0) →
    RunF prog 110 [.pointer (some ⟨kb, 0, none⟩), .int .i64 at_, .int .i64 (lv : Int), .int .i64 (p : Int)] h fun v h' => v = .tuple #[] ∧ Fr (WM wb) h h' ∧ ∃ W', WS h' wb W' ∧ ∀ l j, (W' l).getD j 0 = if l ≤ lv ∧ j / 8 ^ (lv - l) = p then look L B (lv - l) at_ (j % 8 ^ (lv - l)) else (W l).getD j 0
theorem divmod8 (j d : Nat) : j / 8 ^ (d + 1) = j / 8 ^ d / 8 ∧ (j % 8 ^ (d + 1)) / 8 ^ d = (j / 8 ^ d) % 8 ∧ (j % 8 ^ (d + 1)) % 8 ^ d = j % 8 ^ d := by
  refine ⟨by rw [Nat.pow_succ, Nat.div_div_eq_div_mul], ?_, ?_⟩
  · rw [Nat.pow_succ, Nat.mod_mul_right_div_self]
  · rw [Nat.pow_succ, Nat.mod_mul_right_mod]
set_option maxHeartbeats 16000000 in
theorem learn_body {L : List Int} {B kb : Nat} {iv ov mv fv : Value} {wb : Nat → Nat} {js : Nat → Value} (hb : Byt L) (hB : B * 64 ≤ L.length) (hm : L.length ≤ 4611686018427387904) (hi : ∀ l k, l < 3 → k < 3 → wb l = wb k → l = k) (hk : ∀ l, l < 3 → wb l ≠ kb)
    (hiv : ∀ b o c, iv = .slice (some ⟨b, o, none⟩) L.length c → ∀ l, l < 3 → b ≠ wb l) {lv : Nat} (hlv : lv < 3) (hrec : ∀ k, lv = k + 1 → LearnOk L B kb iv ov mv fv wb js k) : LearnOk L B kb iv ov mv fv wb js lv := by
  intro h W at_ p sl ow ws hp hz
  refine RunF.walk func110 rfl rfl ?_
  refine RunC.seq (RunC.seq (RunC.region (RunO.all rfl ?_)))
  by_cases ha : at_ = 0
  · rw [show (at_ == 0) = true from beq_iff_eq.2 ha]
    refine RunC.cond rfl (fun _ => RunC.ret ⟨_, rfl, rfl, Fr.refl _ _, W, ws, fun l j => ?_⟩) (fun g => by cases g)
    split
    · rename_i c; rw [hz l c.1 j c.2, ha, look_zero]
    · rfl
  rw [show (at_ == 0) = false from beq_eq_false_iff_ne.2 ha]
  refine RunC.cond rfl (fun g => by cases g) (fun _ => RunC.skip ?_)
  obtain ⟨e1, ws1, f1⟩ := ws.set hi hlv hp at_
  refine RunC.seq (RunC.region (RunO.part 4 rfl ?_))
  refine RunO.indexA (s := 1) (k := lv) rfl rfl rfl rfl rfl hlv rfl ?_
  refine RunO.load (v := slz (wb lv) (lvN lv)) rfl (ow.ld (kc_w hlv)) rfl ?_
  refine RunO.part 2 rfl ?_
  refine RunO.index (s := 1) (k := p) rfl rfl rfl rfl hp rfl ?_
  refine RunO.store rfl rfl e1 (RunO.nil ?_)
  replace ow := ow.fr f1 (fun e => hk lv hlv e.symm)
  replace sl : Sl (h.put (wb lv) (some ⟨is ((W lv).set p at_), true⟩)) iv 1 L.length (us L) := by
    refine ⟨sl.1, sl.2.1, sl.2.2.imp (fun y => y) ?_⟩
    rintro ⟨b, o, c, h1, h2, h3⟩
    exact ⟨b, o, c, h1, h2, h3.fr f1 (hiv b o c h1 lv hlv)⟩
  replace f1 : Fr (WM wb) h (h.put (wb lv) (some ⟨is ((W lv).set p at_), true⟩)) := f1.weak (fun b e => .inl ⟨lv, hlv, e⟩)
  have hW1 : ∀ l j, (setW W lv p at_ l).getD j 0 = if l = lv ∧ j = p then at_ else (W l).getD j 0 := fun l j => setW_at W lv p at_ (fun _ => by rw [(ws lv hlv).2]; exact hp)
  clear ws e1
  generalize h.put (wb lv) (some ⟨is ((W lv).set p at_), true⟩) = h1 at *
  generalize setW W lv p at_ = W1 at *
  refine RunC.seq (RunC.seq (RunC.region (RunO.all rfl ?_)))
  cases lv with
  | zero =>
    refine RunC.cond rfl (fun _ => RunC.ret ⟨_, rfl, rfl, f1, W1, ws1, fun l j => ?_⟩) (fun g => by cases g)
    rw [hW1]
    by_cases c : l = 0 ∧ j = p
    · obtain ⟨rfl, rfl⟩ := c
      rw [if_pos ⟨rfl, rfl⟩, if_pos ⟨Nat.le_refl _, by simp⟩]; rfl
    · rw [if_neg c, if_neg ?_]
      rintro ⟨c1, c2⟩
      obtain rfl : l = 0 := by omega
      exact c ⟨rfl, by simpa using c2⟩
  | succ k =>
    rw [show (((k + 1 : Nat) : Int) == 0) = false from beq_eq_false_iff_ne.2 (by omega)]
    refine RunC.cond rfl (fun g => by cases g) (fun _ => RunC.skip ?_)
    refine RunC.seq (RunC.draw0 rfl ?_)
    refine RunO.part 3 rfl ?_
    refine RunO.load (v := iv) rfl (ow.ld rfl) rfl ?_
    refine RunO.part 3 rfl ?_
    refine RunO.load (v := .int .i64 (B : Int)) rfl (ow.ld rfl) rfl ?_
    refine RunO.part 2 rfl ?_
    refine RunO.callD (treeAt_ok sl hb hB hm) rfl rfl rfl ?_
    rintro _ h2 ⟨rfl, f2⟩
    have hpl := atV_len L B at_
    have hlook : ∀ d s, look L B (d + 1) at_ s = look L B d ((atV L B at_).2.getD (s / 8 ^ d) 0) (s % 8 ^ d) := fun d s => by show (if at_ = 0 then 0 else _) = _; rw [if_neg ha]
    generalize atV L B at_ = nd at *
    obtain ⟨nl, ps⟩ := nd
    simp only at hpl hlook
    replace ow := ow.fr f2 (fun g => g)
    replace sl := sl.fr0 f2
    replace ws1 := ws1.fr f2 (fun _ _ g => g)
    replace f1 := f1.quiet f2
    refine RunO.part 4 (h1 := h2.push ⟨nc 0 nZero, true⟩) rfl ?_
    refine RunO.store rfl rfl (nc_store (lv := nl) (ps := ps) (Ow.push h2 (nc 0 nZero)) rfl hpl rfl) (RunO.all rfl ?_)
    have on : Ow ((h2.push ⟨nc 0 nZero, true⟩).put h2.next (some ⟨nc nl ps, true⟩)) h2.next (nc nl ps) := Ow.put _ (Nat.lt_succ_self _)
    have f4 : Fr no h2 ((h2.push ⟨nc 0 nZero, true⟩).put h2.next (some ⟨nc nl ps, true⟩)) := (Fr.push _ _ _).trans (Fr.put (m := (· = h2.next)) _ (.inl rfl)) (fun j hj => .inr (by omega))
    generalize (h2.push ⟨nc 0 nZero, true⟩).put h2.next (some ⟨nc nl ps, true⟩) = h4 at *
    generalize h2.next = qn at *
    replace ow := ow.fr f4 (fun g => g)
    replace sl := sl.fr0 f4
    replace ws1 := ws1.fr f4 (fun _ _ g => g)
    replace f1 := f1.quiet f4
    clear f2 f4
    refine RunC.seq (RunC.region (RunO.part 1 rfl ?_))
    refine RunO.load (v := .agg ⟨is ps⟩) rfl (nc_ptrs hpl on) rfl (RunO.all rfl ?_)
    refine RunC.block ?_
    have hp64 := Nat.lt_of_lt_of_le hp (lvN_le hlv)
    have hlN : lvN k = lvN (k + 1) * 8 := by
      obtain rfl | rfl : k = 0 ∨ k = 1 := by omega
      all_goals rfl
    let I : Nat → Env → Heap → Prop := fun d E h' => ∃ (i : Nat) (Wi : Nat → List Int), i + d = 8 ∧ Sl h' iv 1 L.length (us L) ∧ Ow h' kb (kc iv B ov mv (fun l => slz (wb l) (lvN l)) js fv) ∧ WS h' wb Wi ∧ Fr (WM wb) h h' ∧
      (∀ l j, (Wi l).getD j 0 = if l ≤ k ∧ p * 8 ≤ j / 8 ^ (k - l) ∧ j / 8 ^ (k - l) < p * 8 + i then look L B (k - l) (ps.getD (j / 8 ^ (k - l) - p * 8) 0) (j % 8 ^ (k - l)) else (W1 l).getD j 0) ∧
      Le (upd (upd (upd (upd (upd E0 0 (.pointer (some ⟨kb, 0, none⟩))) 2 (.int .i64 ((k + 1 : Nat) : Int))) 3 (.int .i64 (p : Int))) 40 (.agg ⟨is ps⟩)) 41 (.int .i64 (i : Int))) E
    refine RunC.loop I ?_ (k := 8) ?_
    · rintro d E h5 ⟨i, Wi, hid, sl5, ow5, ws5, F5, hWi, hE⟩
      refine RunC.le hE ?_
      clear hE
      refine RunC.seq (RunC.region (RunO.all rfl ?_))
      refine RunC.seq (RunC.cond rfl (fun hlt => RunC.skip ?_) (fun hge => ?_))
      · have hlt := of_decide_eq_true hlt
        have hi8 : i < 8 := by omega
        have hps : i < ps.length := by omega
        have hpi : ps.getD i 0 = ps[i] := by rw [List.getD_eq_getElem?_getD, List.getElem?_eq_getElem hps]; rfl
        have hz5 : ∀ l, l ≤ k → ∀ j, j / 8 ^ (k - l) = p * 8 + i → (Wi l).getD j 0 = 0 := by
          intro l hl j hj
          rw [hWi, if_neg (by omega), hW1, if_neg (by omega)]
          refine hz l (by omega) j ?_
          rw [show k + 1 - l = (k - l) + 1 by omega, (divmod8 j (k - l)).1, hj]; omega
        refine RunC.seq (RunC.block ?_)
        refine RunC.seq (RunC.region (RunO.part 1 rfl ?_))
        refine RunO.indexV (s := 1) (k := i) rfl rfl rfl rfl hi8 (is_part hps) rfl (RunO.all rfl ?_)
        refine RunC.region (RunO.part 4 rfl ?_)
        rw [fw64 (x := ((k + 1 : Nat) : Int) - 1) (by omega) (by omega), show ((k + 1 : Nat) : Int) - 1 = (k : Int) by omega]
        refine RunO.part 2 rfl ?_
        rw [fw64 (x := (p : Int) * 8) (by omega) (by omega)]
        refine RunO.part 2 rfl ?_
        rw [fw64 (x := (p : Int) * 8 + (i : Int)) (by omega) (by omega), show (p : Int) * 8 + (i : Int) = ((p * 8 + i : Nat) : Int) by omega]
        refine RunO.callD (hrec k rfl (at_ := ps[i]) (p := p * 8 + i) sl5 ow5 ws5 (by omega) hz5) rfl rfl rfl ?_
        rintro _ h6 ⟨rfl, f6, W6, ws6, hW6⟩
        refine RunO.nil ?_
        refine RunC.region (RunO.all rfl ?_)
        refine ⟨d - 1, by omega, i + 1, W6, by omega, ?_, ow5.fr f6 ?_, ws6, F5.same f6, fun l j => ?_, Le.cons (inc64 (by omega)) (Le.cons rfl (Le.cons rfl (Le.cons rfl (Le.cons rfl (Le.nil _)))))⟩
        · refine ⟨sl5.1, sl5.2.1, sl5.2.2.imp (fun y => y) ?_⟩
          rintro ⟨b, o, c, h1, h2, h3⟩
          exact ⟨b, o, c, h1, h2, h3.fr f6 (by rintro ⟨l, hl, e⟩; exact hiv b o c h1 l hl e)⟩
        · rintro ⟨l, hl, e⟩; exact hk l hl e.symm
        · rw [hW6, hWi]
          by_cases c : l ≤ k ∧ j / 8 ^ (k - l) = p * 8 + i
          · rw [if_pos c, if_pos (by omega), c.2, show p * 8 + i - p * 8 = i by omega, hpi]
          · rw [if_neg c]
            by_cases c2 : l ≤ k ∧ p * 8 ≤ j / 8 ^ (k - l) ∧ j / 8 ^ (k - l) < p * 8 + i
            · rw [if_pos c2, if_pos (by omega)]
            · rw [if_neg c2, if_neg (by omega)]
      · have hge := of_decide_eq_false hge
        obtain rfl : i = 8 := by omega
        refine RunC.exit ⟨_, rfl, rfl, F5, Wi, ws5, fun l j => ?_⟩
        rw [hWi]
        by_cases c : l ≤ k
        · obtain ⟨d1, d2, d3⟩ := divmod8 j (k - l)
          rw [show k + 1 - l = (k - l) + 1 by omega, d1]
          by_cases c2 : j / 8 ^ (k - l) / 8 = p
          · rw [if_pos (by omega), if_pos (by omega), hlook, d2, d3]
            congr 2
            omega
          · rw [if_neg (by omega), if_neg (by omega), hW1, if_neg (by omega)]
        · rw [if_neg (by omega), hW1]
          by_cases c2 : l = k + 1
          · subst c2
            rw [Nat.sub_self, Nat.pow_zero, Nat.div_one]
            by_cases c3 : j = p
            · rw [if_pos ⟨rfl, c3⟩, if_pos ⟨Nat.le_refl _, c3⟩]; rfl
            · rw [if_neg (fun g => c3 g.2), if_neg (fun g => c3 g.2)]
          · rw [if_neg (fun g => c2 g.1), if_neg (by omega)]
    · refine ⟨0, W1, by omega, sl, ow, ws1, f1, fun l j => ?_, Le.cons rfl (Le.cons rfl (Le.cons rfl (Le.cons rfl (Le.cons rfl (Le.nil _)))))⟩
      rw [if_neg (by omega)]
theorem learn_ok {L : List Int} {B kb : Nat} {iv ov mv fv : Value} {wb : Nat → Nat} {js : Nat → Value} (hb : Byt L) (hB : B * 64 ≤ L.length) (hm : L.length ≤ 4611686018427387904) (hi : ∀ l k, l < 3 → k < 3 → wb l = wb k → l = k) (hk : ∀ l, l < 3 → wb l ≠ kb)
    (hiv : ∀ b o c, iv = .slice (some ⟨b, o, none⟩) L.length c → ∀ l, l < 3 → b ≠ wb l) : ∀ lv, lv < 3 → LearnOk L B kb iv ov mv fv wb js lv := by
  intro lv
  induction lv with
  | zero => intro h; exact learn_body hb hB hm hi hk hiv h (fun j e => by cases e)
  | succ k ih => intro h; exact learn_body hb hB hm hi hk hiv h (fun j e => by cases e; exact ih (by omega))
end Go.Proofs.Ytdcggjkcbheolaa
end
section
set_option linter.unusedVariables false
set_option maxRecDepth 100000
open Go Go.Am Go.RowKit
namespace Go.Proofs.Ytdcggjkcbheolaa
open Go.Proofs.Try
/-- Why there is no tree. -/
def treeE (L : List Int) (root : Int) : Int := if devOk L.length then (if treeOk L root then 0 else 6) else 2
theorem treeChecked_ok {h : Heap} {iv : Value} {L : List Int} {root : Int} (sl : Sl h iv 1 L.length (us L)) (hb : Byt L) (hm : L.length ≤ 4611686018427387904) :
    RunF prog 58 [iv, .int .i64 root] h fun v h' => Fr no h h' ∧ ((treeE L root = 0 ∧ ∃ wb, v = .tuple #[.pointer (some ⟨wb, 0, none⟩), .int .i64 0] ∧ WK h.next h' wb iv (L.length / 64) (treeM L root) (treeN L root)) ∨ (treeE L root ≠ 0 ∧ v = .tuple #[.pointer none, .int .i64 (treeE L root)])) := by
  refine RunF.walk func58 rfl rfl ?_
  have sl0 := sl
  obtain ⟨A, c, rfl, hc, hA⟩ := sl.form
  refine RunC.seq (RunC.region (RunO.all rfl ?_))
  refine RunC.seq (RunC.region (RunO.part 1 rfl ?_))
  refine RunO.callD (devCheck_ok hm) rfl rfl rfl ?_
  rintro _ _ ⟨rfl, rfl⟩
  refine RunO.all rfl ?_
  have hE : treeE L root = if devOk L.length then (if treeOk L root then 0 else 6) else 2 := rfl
  rw [hE]
  cases hd : devOk L.length with
  | false =>
    refine RunC.seq (RunC.seq (RunC.region (RunO.all rfl (RunC.cond rfl (fun _ => ?_) (fun g => by cases g)))))
    exact RunC.seq (RunC.region (RunO.all rfl (RunC.ret ⟨_, rfl, Fr.refl _ _, .inr ⟨by rw [if_neg Bool.false_ne_true]; decide, rfl⟩⟩)))
  | true =>
    refine RunC.seq (RunC.seq (RunC.region (RunO.all rfl (RunC.cond rfl (fun g => by cases g) (fun _ => RunC.skip ?_)))))
    refine RunC.seq (RunC.region (RunO.part 2 rfl ?_))
    refine RunO.callD (treeGo_ok (root := root) sl0 hb hd) rfl rfl rfl ?_
    rintro v h1 ⟨f1, ⟨hok, wb, rfl, wk⟩ | ⟨hok, rfl⟩⟩
    · rw [hok]
      refine RunO.all rfl ?_
      refine RunC.seq (RunC.seq (RunC.region (RunO.all rfl (RunC.cond rfl (fun g => by cases g) (fun _ => RunC.skip ?_)))))
      exact RunC.seq (RunC.region (RunO.all rfl (RunC.ret ⟨_, rfl, f1, .inl ⟨rfl, wb, rfl, wk⟩⟩)))
    · rw [hok]
      refine RunO.all rfl ?_
      refine RunC.seq (RunC.seq (RunC.region (RunO.all rfl (RunC.cond rfl (fun _ => ?_) (fun g => by cases g)))))
      exact RunC.seq (RunC.region (RunO.all rfl (RunC.ret ⟨_, rfl, f1, .inr ⟨by decide, rfl⟩⟩)))
theorem treeMap_ok {h : Heap} {iv : Value} {L : List Int} {root : Int} (sl : Sl h iv 1 L.length (us L)) (hb : Byt L) (hm : L.length ≤ 4611686018427387904) :
    RunF prog 31 [iv, .int .i64 root] h fun v h' => Fr no h h' ∧ ((treeE L root = 0 ∧ ∃ mb, h.next ≤ mb ∧ v = .tuple #[.slice (some ⟨mb, 0, none⟩) 512 (exc 512), .int .i64 0] ∧ Ow h' mb (is (treeM L root))) ∨ (treeE L root ≠ 0 ∧ v = .tuple #[.slice none 0 0, .int .i64 (treeE L root)])) := by
  refine RunF.walk func31 rfl rfl ?_
  refine RunC.seq (RunC.region (RunO.all rfl ?_))
  refine RunC.seq (RunC.region (RunO.part 2 rfl ?_))
  refine RunO.callD (treeChecked_ok (root := root) sl hb hm) rfl rfl rfl ?_
  rintro v h1 ⟨f1, ⟨he, wb, rfl, mb, nv, h2, h3, ow, om, row, hl, hn⟩ | ⟨he, rfl⟩⟩
  · refine RunO.all rfl ?_
    refine RunC.seq (RunC.seq (RunC.region (RunO.all rfl (RunC.cond rfl (fun g => by cases g) (fun _ => RunC.skip ?_)))))
    refine RunC.seq (RunC.region (RunO.part 3 rfl ?_))
    refine RunO.load (v := .slice (some ⟨mb, 0, none⟩) 512 (exc 512)) rfl (ow.ld rfl) rfl (RunO.all rfl ?_)
    exact RunC.ret ⟨_, rfl, f1, .inl ⟨he, mb, h3, rfl, om⟩⟩
  · refine RunO.all rfl ?_
    refine RunC.seq (RunC.seq (RunC.region (RunO.all rfl ?_)))
    rw [show (treeE L root != 0) = true from bne_iff_ne.2 he]
    refine RunC.cond rfl (fun _ => ?_) (fun g => by cases g)
    exact RunC.seq (RunC.region (RunO.all rfl (RunC.ret ⟨_, rfl, f1, .inr ⟨he, rfl⟩⟩)))
def secOk (s : Int) : Bool := !(decide (s < 0) || decide (s ≥ 512))
/-- Why a sector has no block. -/
def sectorE (L : List Int) (root s : Int) : Int := if treeE L root = 0 then (if secOk s then 0 else 3) else treeE L root
def sectorV (L : List Int) (root s : Int) : Int := if treeE L root = 0 then (if secOk s then (treeM L root).getD s.toNat 0 else 0) else 0
def offMap (B b : Int) : Bool := b != 0 && (decide (b < 2) || decide (b ≥ B))
/-- Why a map is none. -/
def mapE (m : List Int) (B : Int) : Int := if m.length = 512 then (if m.any (offMap B) then 1 else 0) else 2
theorem treeCheckC_ok {h : Heap} {q : Nat} {B b : Int} (rd : Rd h ⟨q, 0, none⟩ [.int .i64 B]) : RunF prog 106 [.int .i64 b, .pointer (some ⟨q, 0, none⟩)] h fun v h' => v = .bool (offMap B b) ∧ Fr no h h' := by
  refine RunF.walk func106 rfl rfl ?_
  refine RunC.seq (RunC.region (RunO.all rfl ?_))
  refine RunC.seq (RunC.region (RunO.part 3 rfl ?_))
  unfold offMap
  cases (b != 0) with
  | false => exact RunO.all rfl (RunC.ret ⟨_, rfl, rfl, Fr.refl _ _⟩)
  | true =>
    refine RunO.part 3 rfl ?_
    cases decide (b < 2) with
    | true => exact RunO.all rfl (RunC.ret ⟨_, rfl, rfl, Fr.refl _ _⟩)
    | false =>
      refine RunO.part 1 rfl ?_
      refine RunO.loadG (v := .int .i64 B) rfl rfl (rd.ld rfl) rfl ?_
      exact RunO.all rfl (RunC.ret ⟨_, rfl, rfl, Fr.refl _ _⟩)
theorem treeCheck_ok {h : Heap} {v : Value} {m : List Int} {B : Int} (sl : Sl h v 1 m.length (is m)) : RunF prog 70 [v, .int .i64 B] h fun r h' => r = .int .i64 (mapE m B) ∧ Fr no h h' := by
  refine RunF.walk func70 rfl rfl ?_
  have sl0 := sl
  obtain ⟨A, c, rfl, hc, hA⟩ := sl.form
  refine RunC.seq (RunC.region (RunO.all (h1 := h.push ⟨[.int .i64 B], true⟩) rfl ?_))
  have oq : Ow (h.push ⟨[.int .i64 B], true⟩) h.next [.int .i64 B] := Ow.push _ _
  have f1 : Fr no h (h.push ⟨[.int .i64 B], true⟩) := Fr.push _ _ _
  have s1 := sl0.fr0 f1
  generalize h.push ⟨[.int .i64 B], true⟩ = h1 at *
  generalize h.next = q at *
  have hE : mapE m B = if m.length = 512 then (if m.any (offMap B) then 1 else 0) else 2 := rfl
  rw [hE]
  refine RunC.seq (RunC.seq (RunC.region (RunO.all rfl ?_)))
  by_cases hl : m.length = 512
  case neg =>
    rw [if_neg hl, show ((m.length : Int) != 512) = true from bne_iff_ne.2 (by omega)]
    refine RunC.cond rfl (fun _ => ?_) (fun g => by cases g)
    exact RunC.seq (RunC.region (RunO.all rfl (RunC.ret ⟨_, rfl, rfl, f1⟩)))
  rw [if_pos hl, show ((m.length : Int) != 512) = false by simp; omega]
  refine RunC.cond rfl (fun g => by cases g) (fun _ => RunC.skip ?_)
  refine RunC.seq (RunC.seq (RunC.region (RunO.part 2 rfl ?_)))
  refine RunO.callD (containsI_ok s1 (u := fun j => .int .i64 (m.getD j 0)) (fun j hj => ?_) (p := fun j => offMap B (m.getD j 0)) (fun j hj h5 f5 => ?_) (by omega)) rfl rfl rfl ?_
  · rw [is_part hj, List.getD_eq_getElem?_getD, List.getElem?_eq_getElem hj]; rfl
  · exact treeCheckC_ok (oq.all.fr f5 (fun g => g))
  rintro _ h2 ⟨rfl, f2⟩
  rw [anyI_list (q := offMap B) (fun j x hx => by rw [List.getD_eq_getElem?_getD, hx]; rfl)]
  refine RunO.all rfl ?_
  cases m.any (offMap B) with
  | true =>
    refine RunC.cond rfl (fun _ => ?_) (fun g => by cases g)
    exact RunC.seq (RunC.region (RunO.all rfl (RunC.ret ⟨_, rfl, rfl, f1.same f2⟩)))
  | false =>
    refine RunC.cond rfl (fun g => by cases g) (fun _ => RunC.skip ?_)
    exact RunC.seq (RunC.region (RunO.all rfl (RunC.ret ⟨_, rfl, rfl, f1.same f2⟩)))
end Go.Proofs.Ytdcggjkcbheolaa
end
section
set_option linter.unusedVariables false
set_option maxRecDepth 100000
open Go Go.Am Go.RowKit
namespace Go.Proofs.Ytdcggjkcbheolaa
open Go.Proofs.Try
theorem beq_takeI {l m : List Int} {i : Nat} (hi : i < l.length) (hm : i < m.length) (h : l.take i = m.take i) (he : l[i] = m[i]) : l.take (i + 1) = m.take (i + 1) := by
  rw [List.take_succ_eq_append_getElem hi, List.take_succ_eq_append_getElem hm, h, he]
set_option maxHeartbeats 4000000 in
theorem equalI_ok {h : Heap} {v w : Value} {l m : List Int} (sl : Sl h v 1 l.length (is l)) (sm : Sl h w 1 m.length (is m)) (hm : l.length ≤ 4611686018427387904) :
    RunF prog 136 [v, w] h fun v h' => v = .bool (l == m) ∧ h = h' := by
  refine RunF.walk func136 rfl rfl ?_
  have sl0 := sl
  have sm0 := sm
  obtain ⟨A, c, rfl, hc, _⟩ := sl.form
  obtain ⟨B, d, rfl, hd, _⟩ := sm.form
  refine RunC.seq (RunC.region (RunO.all rfl ?_))
  refine RunC.seq (RunC.seq (RunC.region (RunO.all rfl ?_)))
  by_cases hl : l.length = m.length
  case neg =>
    have e : (l == m) = false := beq_eq_false_iff_ne.2 (fun g => hl (by rw [g]))
    rw [show ((l.length : Int) != (m.length : Int)) = true by simp; omega, e]
    refine RunC.cond rfl (fun _ => ?_) (fun g => by cases g)
    exact RunC.seq (RunC.region (RunO.all rfl (RunC.ret ⟨_, rfl, rfl, rfl⟩)))
  rw [show ((l.length : Int) != (m.length : Int)) = false by simp; omega]
  refine RunC.cond rfl (fun g => by cases g) (fun _ => RunC.skip ?_)
  refine RunC.seq (RunC.seq (RunC.region (RunO.all rfl ?_)))
  refine RunC.block ?_
  let I : Nat → Env → Heap → Prop := fun k E h' => ∃ i : Nat, i + k = l.length ∧ l.take i = m.take i ∧ h = h' ∧ Le (upd (upd (upd (upd E0 0 (.slice A l.length c)) 1 (.slice B m.length d)) 12 (.int .i64 (l.length : Int))) 13 (.int .i64 i)) E
  refine RunC.loop I ?_ (k := l.length) ?_
  · rintro k E h' ⟨i, hi, ht, rfl, hE⟩
    refine RunC.le hE ?_
    clear hE
    refine RunC.seq (RunC.region (RunO.all rfl ?_))
    refine RunC.seq (RunC.cond rfl (fun hlt => RunC.skip ?_) (fun hge => ?_))
    · have hlt := of_decide_eq_true hlt
      have h1 : i < l.length := by omega
      have h2 : i < m.length := by omega
      refine RunC.seq (RunC.block ?_)
      refine RunC.seq (RunC.region (RunO.all rfl ?_))
      refine RunC.seq (RunC.draw0 rfl (RunO.part 2 rfl ?_))
      refine RunO.at (s := 1) rfl rfl sl rfl rfl h1 (is_part h1) rfl rfl rfl ?_
      refine RunO.part 2 rfl ?_
      refine RunO.at (s := 1) rfl rfl sm rfl rfl h2 (is_part h2) rfl rfl rfl ?_
      refine RunO.all rfl ?_
      refine RunC.cond rfl (fun hne => ?_) (fun heq => ?_)
      · have hne : l[i] ≠ m[i] := by simpa using hne
        have e : (l == m) = false := beq_eq_false_iff_ne.2 (fun g => hne (by subst g; rfl))
        rw [e]
        exact RunC.seq (RunC.region (RunO.all rfl (RunC.ret ⟨_, rfl, rfl, rfl⟩)))
      · have heq : l[i] = m[i] := by simpa using heq
        refine RunC.skip (RunC.region (RunO.all rfl ?_))
        exact ⟨k - 1, by omega, i + 1, by omega, beq_takeI h1 h2 ht heq, rfl, Le.cons (inc64 (by omega)) (Le.cons rfl (Le.cons rfl (Le.cons rfl (Le.nil _))))⟩
    · have hge := of_decide_eq_false hge
      refine RunC.exit ?_
      have hi2 : i = l.length := by omega
      have e : l = m := by
        rw [hi2, List.take_length] at ht
        rw [ht, hl, List.take_length]
      rw [show (l == m) = true by rw [e]; exact beq_self_eq_true _]
      exact RunC.seq (RunC.region (RunO.all rfl (RunC.ret ⟨_, rfl, rfl, rfl⟩)))
  · exact ⟨0, by omega, rfl, rfl, Le.cons rfl (Le.cons rfl (Le.cons rfl (Le.cons rfl (Le.nil _))))⟩
theorem keptC_ok {h : Heap} {b : Int} : RunF prog 135 [.int .i64 b] h fun v h' => v = .bool (b != 0) ∧ Fr no h h' := by
  refine RunF.walk func135 rfl rfl ?_
  refine RunC.seq (RunC.region (RunO.all rfl ?_))
  exact RunC.seq (RunC.region (RunO.all rfl (RunC.ret ⟨_, rfl, rfl, Fr.refl _ _⟩)))
/-- What stands under a node of a level. -/
def part (m : List Int) (l p : Nat) : List Int := (m.drop (p * 8 ^ (l + 1))).take (8 ^ (l + 1))
def zrB (m : List Int) (l p : Nat) : Bool := !(part m l p).any (· != 0)
def smB (m o : List Int) (l p : Nat) : Bool := part m l p == part o l p
theorem lv_span {l p : Nat} (hl : l < 3) (hp : p < lvN l) : p * 8 ^ (l + 1) + 8 ^ (l + 1) ≤ 512 ∧ 8 ^ (l + 1) ≤ 512 := by
  unfold lvN at hp
  obtain rfl | rfl | rfl : l = 0 ∨ l = 1 ∨ l = 2 := by omega
  all_goals simp at hp ⊢
  all_goals omega
theorem part_len {m : List Int} (hm : m.length = 512) {l p : Nat} (hl : l < 3) (hp : p < lvN l) : (part m l p).length = 8 ^ (l + 1) := by
  have := lv_span hl hp
  unfold part
  rw [List.length_take, List.length_drop, hm]; omega
/-- An old tree's walk, from which only is read. -/
def KO (h : Heap) (ov : Value) (o ns : List Int) : Prop := ∃ ob mb iv B nv, ov = .pointer (some ⟨ob, 0, none⟩) ∧ Ow h ob (wc iv B (.slice (some ⟨mb, 0, none⟩) 512 (exc 512)) nv false) ∧ Ow h mb (is o) ∧ o.length = 512 ∧ Sl h nv 1 ns.length (is ns)
theorem sl_span {h : Heap} {v : Value} {m : List Int} {l p : Nat} (hl : l < 3) (hp : p < lvN l) (hm : m.length = 512)
    (sl : Sl h v 1 (p * 8 ^ (l + 1) + 8 ^ (l + 1) - p * 8 ^ (l + 1)) (((is m).drop (p * 8 ^ (l + 1) * 1)).take ((p * 8 ^ (l + 1) + 8 ^ (l + 1) - p * 8 ^ (l + 1)) * 1))) : Sl h v 1 (part m l p).length (is (part m l p)) := by
  rw [part_len hm hl hp]
  rw [Nat.mul_one, Nat.mul_one, Nat.add_sub_cancel_left] at sl
  unfold part is at *
  rw [List.map_take, List.map_drop]
  exact sl
set_option maxHeartbeats 8000000 in
theorem kept_ok {h : Heap} {kb B : Nat} {iv ov mv fv : Value} {wb : Nat → Nat} {js : Nat → Value} {W : Nat → List Int} {m o ns : List Int} {l p : Nat} (ow : Ow h kb (kc iv B ov mv (fun l => slz (wb l) (lvN l)) js fv)) (ws : WS h wb W) (sm : Sl h mv 1 512 (is m)) (hml : m.length = 512) (ko : KO h ov o ns) (hl : l < 3) (hp : p < lvN l) :
    RunF prog 111 [.pointer (some ⟨kb, 0, none⟩), .int .i64 (l : Int), .int .i64 (p : Int)] h fun v h' => v = .tuple #[.int .i64 (if zrB m l p then 0 else (W l).getD p 0), .bool (zrB m l p || smB m o l p)] ∧ Fr no h h' := by
  refine RunF.walk func111 rfl rfl ?_
  obtain ⟨s1, s2⟩ := lv_span hl hp
  have hpl := part_len hml hl hp
  have hp64 := Nat.lt_of_lt_of_le hp (lvN_le hl)
  refine RunC.seq (RunC.region (RunO.all rfl ?_))
  refine RunC.seq (RunC.region (RunO.part 3 rfl ?_))
  rw [fw64 (x := (l : Int) + 1) (by omega) (by omega), show (l : Int) + 1 = ((l + 1 : Nat) : Int) by omega]
  refine RunO.callD (nodUnder_ok (k := l + 1) (by omega)) rfl rfl rfl ?_
  rintro _ _ ⟨rfl, rfl⟩
  refine RunO.part 1 rfl ?_
  have hmul : (p : Int) * ((8 ^ (l + 1) : Nat) : Int) = ((p * 8 ^ (l + 1) : Nat) : Int) := by rw [Int.natCast_mul]
  rw [hmul, fw64 (x := ((p * 8 ^ (l + 1) : Nat) : Int)) (by omega) (by omega)]
  refine RunO.all rfl ?_
  refine RunC.seq (RunC.region (RunO.part 3 rfl ?_))
  rw [fw64 (x := (l : Int) + 1) (by omega) (by omega), show (l : Int) + 1 = ((l + 1 : Nat) : Int) by omega]
  refine RunO.callD (nodUnder_ok (k := l + 1) (by omega)) rfl rfl rfl ?_
  rintro _ _ ⟨rfl, rfl⟩
  refine RunO.part 1 rfl ?_
  rw [fw64 (x := ((p * 8 ^ (l + 1) : Nat) : Int) + ((8 ^ (l + 1) : Nat) : Int)) (by omega) (by omega), show ((p * 8 ^ (l + 1) : Nat) : Int) + ((8 ^ (l + 1) : Nat) : Int) = ((p * 8 ^ (l + 1) + 8 ^ (l + 1) : Nat) : Int) by omega]
  refine RunO.all rfl ?_
  refine RunC.seq (RunC.region (RunO.part 3 rfl ?_))
  refine RunO.load (v := mv) rfl (ow.ld rfl) rfl ?_
  refine RunO.part 2 rfl ?_
  refine RunO.sliceSl (s := 1) (len := 512) rfl rfl rfl rfl rfl sm (.some _ _ _) (.some _ _ _) (Nat.le_add_right _ _) s1 rfl ?_
  intro pv sp
  replace sp := sl_span hl hp hml sp
  refine RunO.all rfl ?_
  refine RunC.seq (RunC.seq (RunC.region (RunO.part 1 rfl ?_)))
  refine RunO.callD (containsI_ok sp (u := fun j => .int .i64 ((part m l p).getD j 0)) (fun j hj => ?_) (g := 135) (cap := []) (p := fun j => (part m l p).getD j 0 != 0) (fun j hj h5 f5 => keptC_ok) (by omega)) rfl rfl rfl ?_
  · rw [is_part hj, List.getD_eq_getElem?_getD, List.getElem?_eq_getElem hj]; rfl
  rintro _ h2 ⟨rfl, f2⟩
  rw [anyI_list (q := fun x => x != 0) (fun j x hx => by rw [List.getD_eq_getElem?_getD, hx]; rfl)]
  have hzd : zrB m l p = !(part m l p).any (· != 0) := rfl
  rw [hzd]
  replace ow := ow.fr f2 (fun g => g)
  replace ws := ws.fr f2 (fun _ _ g => g)
  obtain ⟨ob, mb, iv2, B2, nv, rfl, oo, om, hol, sn⟩ := ko
  replace oo := oo.fr f2 (fun g => g)
  replace om := om.fr f2 (fun g => g)
  replace sp := sp.fr0 f2
  refine RunO.all rfl ?_
  cases hany : (part m l p).any (· != 0) with
  | false =>
    refine RunC.cond rfl (fun _ => ?_) (fun g => by cases g)
    exact RunC.seq (RunC.region (RunO.all rfl (RunC.ret ⟨_, rfl, rfl, f2⟩)))
  | true =>
    refine RunC.cond rfl (fun g => by cases g) (fun _ => RunC.skip ?_)
    have hwl : p < (W l).length := by rw [(ws l hl).2]; exact hp
    have slo : Sl h2 (.slice (some ⟨mb, 0, none⟩) 512 (exc 512)) 1 512 (is o) := om.all.sl (by rw [is_len, hol]) (by decide) (Cp.exc (Nat.le_refl _))
    refine RunC.seq (RunC.drawQ rfl ?_)
    refine RunQ.part 4 rfl ?_
    refine RunQ.indexA (s := 1) (k := l) rfl rfl rfl rfl rfl hl rfl ?_
    refine RunQ.load (v := slz (wb l) (lvN l)) rfl rfl (ow.ld (kc_w hl)) rfl ?_
    refine RunQ.part 1 rfl ?_
    refine RunQ.at (s := 1) (k := p) (u := .int .i64 ((W l).getD p 0)) rfl (fun _ => rfl) rfl rfl (slW ws hl) rfl rfl hp (by rw [is_part hwl, List.getD_eq_getElem?_getD, List.getElem?_eq_getElem hwl]; rfl) rfl rfl rfl ?_
    refine RunQ.part 4 rfl ?_
    refine RunQ.load (v := .pointer (some ⟨ob, 0, none⟩)) rfl rfl (ow.ld rfl) rfl ?_
    refine RunQ.part 2 rfl ?_
    refine RunQ.load (v := .slice (some ⟨mb, 0, none⟩) 512 (exc 512)) rfl rfl (oo.ld rfl) rfl ?_
    refine RunQ.part 2 rfl ?_
    refine RunQ.sliceSl (s := 1) (len := 512) rfl rfl rfl rfl rfl rfl slo (.some _ _ _) (.some _ _ _) (Nat.le_add_right _ _) s1 rfl ?_
    intro qv sq
    replace sq := sl_span hl hp hol sq
    refine RunQ.call rfl (equalI_ok (h := h2.lo h2.next) sp sq (by omega)) (fun v h1 q => by obtain ⟨_, rfl⟩ := q; exact Fr.refl _ _) rfl rfl rfl ?_
    rintro _ _ ⟨rfl, rfl⟩
    refine RunQ.lo ?_
    refine RunQ.all rfl ?_
    intro lw F
    exact RunC.ret ⟨_, rfl, rfl, f2.same F⟩
end Go.Proofs.Ytdcggjkcbheolaa
end
section
set_option linter.unusedVariables false
set_option maxRecDepth 100000
open Go Go.Am Go.RowKit
namespace Go.Proofs.Ytdcggjkcbheolaa
open Go.Proofs.Try
theorem many_ok {h : Heap} {l : Nat} (hl : l < 3) : RunF prog 109 [.int .i64 (l : Int)] h fun v h' => v = .int .i64 (lvN l : Nat) ∧ h = h' := by
  refine RunF.walk func109 rfl rfl ?_
  refine RunC.seq (RunC.region (RunO.all rfl ?_))
  refine RunC.seq (RunC.region (RunO.part 2 rfl ?_))
  rw [fw64 (x := (l : Int) + 1) (by omega) (by omega), show (l : Int) + 1 = ((l + 1 : Nat) : Int) by omega]
  refine RunO.callD (nodUnder_ok (k := l + 1) (by omega)) rfl rfl rfl ?_
  rintro _ _ ⟨rfl, rfl⟩
  obtain rfl | rfl | rfl : l = 0 ∨ l = 1 ∨ l = 2 := by omega
  all_goals exact RunO.all rfl (RunC.ret ⟨_, rfl, rfl, rfl⟩)
theorem kc_setw {iv ov mv fv : Value} {B : Nat} {ws js : Nat → Value} {l : Nat} (hl : l < 3) (v : Value) : (kc iv B ov mv ws js fv).set (4 + l * 1) v = kc iv B ov mv (fun k => if k = l then v else ws k) js fv := by
  obtain rfl | rfl | rfl : l = 0 ∨ l = 1 ∨ l = 2 := by omega
  all_goals rfl
theorem kc_setj {iv ov mv fv : Value} {B : Nat} {ws js : Nat → Value} {l : Nat} (hl : l < 3) (v : Value) : (kc iv B ov mv ws js fv).set (7 + l * 1) v = kc iv B ov mv ws (fun k => if k = l then v else js k) fv := by
  obtain rfl | rfl | rfl : l = 0 ∨ l = 1 ∨ l = 2 := by omega
  all_goals rfl
theorem kc_congr {iv ov mv fv : Value} {B : Nat} {ws js ws' js' : Nat → Value} (h1 : ∀ l, l < 3 → ws l = ws' l) (h2 : ∀ l, l < 3 → js l = js' l) : kc iv B ov mv ws js fv = kc iv B ov mv ws' js' fv := by
  unfold kc
  rw [h1 0 (by decide), h1 1 (by decide), h1 2 (by decide), h2 0 (by decide), h2 1 (by decide), h2 2 (by decide)]
/-- Is a node of the new tree a new one? -/
def newB (m o : List Int) (l p : Nat) : Bool := !(zrB m l p || smB m o l p)
def isI (W : Nat → List Int) (m : List Int) (l p : Nat) : Int := if zrB m l p then 0 else (W l).getD p 0
def news (m o : List Int) (l n : Nat) : List Nat := (List.range n).filter (newB m o l)
/-- The new nodes of the levels below one, and of its first places. -/
def freP (m o : List Int) (l n : Nat) : List (Nat × Nat) := ((List.range l).flatMap fun k => (news m o k (lvN k)).map fun p => (k, p)) ++ (news m o l n).map fun p => (l, p)
def fl (F : List (Nat × Nat)) : List Int := F.flatMap fun x => [(x.1 : Int), (x.2 : Int)]
def isT (W : Nat → List Int) (m : List Int) (l n k : Nat) : List Int := (List.range (lvN k)).map fun p => if k < l ∨ (k = l ∧ p < n) then isI W m k p else 0
theorem freP_succ (m o : List Int) (l n : Nat) : freP m o l (n + 1) = freP m o l n ++ (if newB m o l n then [(l, n)] else []) := by
  unfold freP news
  rw [List.range_succ, List.filter_append, List.map_append, List.append_assoc]
  congr 2
  cases h : newB m o l n <;> simp [h]
theorem freP_next (m o : List Int) (l : Nat) : freP m o l (lvN l) = freP m o (l + 1) 0 := by
  unfold freP
  rw [List.range_succ, List.flatMap_append]
  simp [news]
theorem fl_app (a b : List (Nat × Nat)) : fl (a ++ b) = fl a ++ fl b := List.flatMap_append
theorem fl_len (F : List (Nat × Nat)) : (fl F).length = 2 * F.length := by
  induction F with
  | nil => rfl
  | cons x F ih => show (_ :: _ :: fl F).length = _; rw [List.length_cons, List.length_cons, ih, List.length_cons]; omega
theorem freP_le (m o : List Int) (l n : Nat) (hl : l ≤ 3) (hn : n ≤ 64) : (freP m o l n).length ≤ 256 := by
  have hc : ∀ k n, (news m o k n).length ≤ n := fun k n => by unfold news; have := List.length_filter_le (newB m o k) (List.range n); rwa [List.length_range] at this
  have e0 : ∀ k, k ≤ 3 → ((List.range k).flatMap fun k => (news m o k (lvN k)).map fun p => (k, p)).length ≤ k * 64 := by
    intro k
    induction k with
    | zero => intro _; exact Nat.le_refl _
    | succ k ih =>
      intro hk
      rw [List.range_succ, List.flatMap_append, List.length_append]
      have h1 := ih (by omega)
      have h2 := hc k (lvN k)
      have h3 := lvN_le (show k < 3 by omega)
      simp only [List.flatMap_cons, List.flatMap_nil, List.append_nil, List.length_map]
      omega
  unfold freP
  rw [List.length_append, List.length_map]
  have := e0 l hl
  have := hc l n
  omega
theorem isT_len (W : Nat → List Int) (m : List Int) (l n k : Nat) : (isT W m l n k).length = lvN k := by unfold isT; rw [List.length_map, List.length_range]
theorem isT_get (W : Nat → List Int) (m : List Int) (l n k : Nat) {p : Nat} (hp : p < lvN k) : (isT W m l n k)[p]? = some (if k < l ∨ (k = l ∧ p < n) then isI W m k p else 0) := by
  unfold isT; rw [List.getElem?_map, List.getElem?_range hp]; rfl
theorem isT_succ (W : Nat → List Int) (m : List Int) {l n : Nat} (hn : n < lvN l) : setW (isT W m l n) l n (isI W m l n) = isT W m l (n + 1) := by
  funext k
  unfold setW
  apply List.ext_getElem?
  intro p
  by_cases hp : p < lvN k
  · rw [isT_get _ _ _ _ _ hp]
    by_cases e : k = l
    · subst e
      rw [if_pos rfl, List.getElem?_set, isT_len]
      by_cases c : n = p
      · subst c; rw [if_pos rfl, if_pos hn, if_pos (by omega)]
      · rw [if_neg c, isT_get _ _ _ _ _ hp]
        by_cases c2 : p < n
        · rw [if_pos (by omega), if_pos (by omega)]
        · rw [if_neg (by omega), if_neg (by omega)]
    · rw [if_neg e, isT_get _ _ _ _ _ hp]
      by_cases c2 : k < l
      · rw [if_pos (by omega), if_pos (by omega)]
      · rw [if_neg (by omega), if_neg (by omega)]
  · have h1 : (if k = l then (isT W m l n k).set n (isI W m l n) else isT W m l n k).length = lvN k := by
      split
      · rw [List.length_set, isT_len]
      · rw [isT_len]
    rw [List.getElem?_eq_none (by omega), List.getElem?_eq_none (by rw [isT_len]; omega)]
theorem isT_next (W : Nat → List Int) (m : List Int) (l : Nat) : isT W m l (lvN l) = isT W m (l + 1) 0 := by
  funext k
  unfold isT
  apply List.map_congr_left
  intro p hp
  rw [List.mem_range] at hp
  by_cases c : k < l ∨ k = l ∧ p < lvN l
  · rw [if_pos c, if_pos (by omega)]
  · rw [if_neg c, if_neg ?_]
    intro g
    rcases g with g | g
    · by_cases e : k = l
      · subst e; exact c (.inr ⟨rfl, hp⟩)
      · omega
    · omega
/-- A maker that has planned. -/
structure KW (lo : Nat) (h : Heap) (kb : Nat) (iv : Value) (B : Nat) (ov mv : Value) (wb jb : Nat → Nat) (fv : Value) (W J : Nat → List Int) (F : List (Nat × Nat)) : Prop where
  ow : Ow h kb (kc iv B ov mv (fun l => slz (wb l) (lvN l)) (fun l => slz (jb l) (lvN l)) fv)
  ws : WS h wb W
  js : WS h jb J
  row : Row lo h fv 1 (fl F).length (is (fl F))
  ln : lo ≤ h.next
/-- Its blocks lie apart. -/
structure KS (lo0 lo kb : Nat) (wb jb : Nat → Nat) : Prop where
  wi : ∀ l k, l < 3 → k < 3 → wb l = wb k → l = k
  ji : ∀ l k, l < 3 → k < 3 → jb l = jb k → l = k
  wj : ∀ l k, l < 3 → k < 3 → wb l ≠ jb k
  w0 : ∀ l, l < 3 → lo0 ≤ wb l ∧ wb l < lo ∧ wb l ≠ kb
  j0 : ∀ l, l < 3 → lo0 ≤ jb l ∧ jb l < lo ∧ jb l ≠ kb
  k0 : kb < lo
end Go.Proofs.Ytdcggjkcbheolaa
end
section
set_option linter.unusedVariables false
set_option maxRecDepth 100000
open Go Go.Am
namespace Go.Proofs.Ytdcggjkcbheolaa
open Go.Proofs.Try
theorem indexIo_ok {h : Heap} {v : Value} {n : Nat} {acs : List Value} (sl : Sl h v 3 n acs) {u : Nat → Value} (hu : ∀ j, j < n → apart prog 69 acs (j * 3) = some (u j)) {g : FuncId} {cap : List Value} {p : Nat → Bool}
    (hg : ∀ j, j < n → ∀ h1, Fr no h h1 → RunF prog g (u j :: cap) h1 (fun v h2 => v = .bool (p j) ∧ Fr no h1 h2)) (hm : n ≤ 4611686018427387904) :
    RunF prog 117 [v, .func (.func g) #[] ⟨cap⟩] h fun r h' => Fr no h h' ∧ ((∃ i : Nat, i < n ∧ r = .int .i64 (i : Int) ∧ p i = true ∧ ∀ j, j < i → p j = false) ∨ (r = .int .i64 (-1) ∧ ∀ j, j < n → p j = false)) := by
  refine RunF.walk func117 rfl rfl ?_
  obtain ⟨A, c, rfl, hc, _⟩ := sl.form
  refine RunC.seq (RunC.region (RunO.all rfl ?_))
  refine RunC.seq (RunC.seq (RunC.region (RunO.all rfl ?_)))
  refine RunC.block ?_
  let I : Nat → Env → Heap → Prop := fun k E h' => ∃ i : Nat, i + k = n ∧ (∀ j, j < i → p j = false) ∧ Fr no h h' ∧ Le (upd (upd (upd (upd E0 0 (.slice A n c)) 1 (.func (.func g) #[] ⟨cap⟩)) 7 (.int .i64 n)) 8 (.int .i64 i)) E
  refine RunC.loop I ?_ (k := n) ?_
  · rintro k E h' ⟨i, hi, hp, hf, hE⟩
    refine RunC.le hE ?_
    clear hE
    refine RunC.seq (RunC.region (RunO.all rfl ?_))
    refine RunC.seq (RunC.cond rfl (fun hlt => ?_) (fun hge => ?_))
    · have hlt := of_decide_eq_true hlt
      have h1 : i < n := by omega
      refine RunC.skip ?_
      refine RunC.seq (RunC.block ?_)
      refine RunC.seq (RunC.region (RunO.all rfl ?_))
      refine RunC.seq (RunC.region (RunO.part 3 rfl ?_))
      refine RunO.at (s := 3) rfl rfl (sl.fr0 hf) rfl rfl h1 (hu i h1) rfl rfl rfl ?_
      refine RunO.call rfl rfl ?_
      refine RunF.mono (hg i h1 _ hf) ?_
      rintro _ h2 ⟨rfl, f2⟩
      refine ⟨_, rfl, RunO.all rfl ?_⟩
      refine RunC.cond rfl (fun ht => ?_) (fun hn => ?_)
      · refine RunC.seq (RunC.region (RunO.all rfl (RunC.ret ⟨_, rfl, hf.quiet f2, .inl ⟨i, h1, rfl, ht, hp⟩⟩)))
      · refine RunC.skip (RunC.region (RunO.all rfl ?_))
        refine ⟨k - 1, by omega, i + 1, by omega, fun j hj => ?_, hf.quiet f2, Le.cons (inc64 (by omega)) (Le.cons rfl (Le.cons rfl (Le.cons rfl (Le.nil _))))⟩
        rcases Nat.lt_or_ge j i with q | q
        · exact hp j q
        · rw [show j = i by omega]; exact hn
    · have hge := of_decide_eq_false hge
      refine RunC.exit ?_
      exact RunC.seq (RunC.region (RunO.all rfl (RunC.ret ⟨_, rfl, hf, .inr ⟨rfl, fun j hj => hp j (by omega)⟩⟩)))
  · exact ⟨0, by omega, fun j hj => absurd hj (Nat.not_lt_zero _), Fr.refl _ _, Le.cons rfl (Le.cons rfl (Le.cons rfl (Le.cons rfl (Le.nil _))))⟩
theorem containsIo_ok {h : Heap} {v : Value} {n : Nat} {acs : List Value} (sl : Sl h v 3 n acs) {u : Nat → Value} (hu : ∀ j, j < n → apart prog 69 acs (j * 3) = some (u j)) {g : FuncId} {cap : List Value} {p : Nat → Bool}
    (hg : ∀ j, j < n → ∀ h1, Fr no h h1 → RunF prog g (u j :: cap) h1 (fun v h2 => v = .bool (p j) ∧ Fr no h1 h2)) (hm : n ≤ 4611686018427387904) :
    RunF prog 82 [v, .func (.func g) #[] ⟨cap⟩] h fun r h' => r = .bool (anyI p n) ∧ Fr no h h' := by
  refine RunF.walk func82 rfl rfl ?_
  refine RunC.seq (RunC.region (RunO.all rfl ?_))
  refine RunC.seq (RunC.region (RunO.part 2 rfl ?_))
  refine RunO.callD (indexIo_ok sl hu hg hm) rfl rfl rfl ?_
  rintro _ h2 ⟨f2, ⟨i, hi, rfl, hp, _⟩ | ⟨rfl, hp⟩⟩
  · refine RunO.all rfl (RunC.ret ⟨_, rfl, ?_, f2⟩)
    rw [anyI_true hi hp]
    exact congrArg Value.bool (decide_eq_true (Int.natCast_nonneg i))
  · refine RunO.all rfl (RunC.ret ⟨_, rfl, ?_, f2⟩)
    rw [anyI_false hp]; rfl
end Go.Proofs.Ytdcggjkcbheolaa
end
section
set_option linter.unusedVariables false
set_option maxRecDepth 100000
open Go Go.Am
namespace Go.Proofs.Ytdcggjkcbheolaa
open Go.Proofs.Try
abbrev IoT := Int × Int × List Int × Unit
/-- A device step's cells. -/
def IoK (h : Heap) (x : IoT) (cs : List Value) : Prop := ∃ dv, cs = [.int .i64 x.1, .int .i64 x.2.1, dv] ∧ Sl h dv 1 x.2.2.1.length (us x.2.2.1) ∧ Byt x.2.2.1
/-- A slice of device steps. -/
def Ios (h : Heap) (v : Value) (l : List IoT) : Prop := ∃ acs, Sl h v 3 l.length acs ∧ ∀ (j : Nat) (x : IoT), l[j]? = some x → IoK h x ((acs.drop (j * 3)).take 3)
theorem IoK.ex {h h' : Heap} {x : IoT} {cs : List Value} (k : IoK h x cs) (e : Ex h h') : IoK h' x cs := by
  obtain ⟨dv, h1, h2, h3⟩ := k
  exact ⟨dv, h1, h2.ex e, h3⟩
theorem Ios.ex {h h' : Heap} {v : Value} {l : List IoT} (k : Ios h v l) (e : Ex h h') : Ios h' v l := by
  obtain ⟨acs, h1, h2⟩ := k
  exact ⟨acs, h1.ex e, fun j x hx => (h2 j x hx).ex e⟩
theorem Ios.fr0 {h h' : Heap} {v : Value} {l : List IoT} (k : Ios h v l) (f : Fr no h h') : Ios h' v l := k.ex f.ex
theorem clone8_ok {h : Heap} {v : Value} {l : List Int} (sl : Sl h v 1 l.length (us l)) (hb : 2 * l.length ≤ 281474976710656) :
    RunF prog 56 [v] h fun r h' => Osl h.next h' r 1 l.length (us l) ∧ Fr no h h' ∧ (l.length = 0 → h.next ≤ h'.next) := by
  refine RunF.walk func56 rfl rfl ?_
  refine RunC.seq (RunC.region (RunO.all rfl ?_))
  obtain ⟨hl, hm, ⟨rfl, h0⟩ | ⟨b, o, c, rfl, hc, rd⟩⟩ := sl
  · refine RunC.seq (RunC.seq (RunC.region (RunO.all rfl ?_)))
    refine RunC.cond rfl (fun _ => ?_) (fun g => by cases g)
    exact RunC.seq (RunC.region (RunO.all rfl (RunC.ret ⟨_, rfl, ⟨hl, hm, .inl ⟨rfl, h0⟩⟩, Fr.refl _ _, fun _ => Nat.le_refl _⟩)))
  · refine RunC.seq (RunC.seq (RunC.region (RunO.all rfl ?_)))
    refine RunC.cond rfl (fun g => by cases g) (fun _ => RunC.skip ?_)
    refine RunC.seq (RunC.region (RunO.part 2 (h1 := h.push ⟨[], true⟩) rfl ?_))
    have f1 : Fr no h (h.push ⟨[], true⟩) := Fr.push _ _ _
    have ow : Ow (h.push ⟨[], true⟩) h.next [] := Ow.push _ _
    by_cases hz : l.length = 0
    · have hn : l = [] := List.eq_nil_of_length_eq_zero hz
      subst hn
      have key : aappend prog (h.push ⟨[], true⟩) 23 23 (.slice (some ⟨h.next, 0, none⟩) 0 (exc 0)) (.slice (some ⟨b, o, none⟩) 0 c) = some (.slice (some ⟨h.next, 0, none⟩) 0 (exc 0), h.push ⟨[], true⟩) := by
        have hs : asrc (h.push ⟨[], true⟩) 1 (.slice (some ⟨b, o, none⟩) 0 c) = some (0, []) := ((rd.fr f1 (fun g => g)).sl (s := 1) (n := 0) rfl (Nat.zero_le _) hc).src0
        show (match asrc (h.push ⟨[], true⟩) 1 (.slice (some ⟨b, o, none⟩) 0 c) with
          | some (0, _) => some (Value.slice (some ⟨h.next, 0, none⟩) 0 (exc 0), h.push ⟨[], true⟩)
          | some (m + 1, news) => _
          | none => none) = _
        rw [hs]
      refine RunO.one rfl (v := .slice (some ⟨h.next, 0, none⟩) 0 (exc 0)) (h1 := h.push ⟨[], true⟩) (abuiltin_app key) rfl ?_
      exact RunO.all rfl (RunC.ret ⟨_, rfl, ⟨rfl, hm, .inr ⟨h.next, exc 0, Nat.le_refl _, rfl, Cp.exc (Nat.le_refl _), ow⟩⟩, f1, fun _ => Nat.le_succ _⟩)
    · have key := append_full (P := prog) (t := 23) (e := 5) (s := 1) (k := 0) (m := l.length) (c := exc 0) (c' := c) (olds := []) (news := us l) (b := ⟨h.next, 0, none⟩) (a := ⟨b, o, none⟩) rfl rfl rfl rfl rfl (Nat.le_refl 1) ow.all rfl rfl (by show 0 < 0 + l.length; omega) (rd.fr f1 (fun g => g)) (by rw [us_len, Nat.mul_one]) (by omega)
        (by show 2 * (0 + l.length) * 1 ≤ _; omega) (by omega)
      rw [Nat.zero_add, List.nil_append] at key
      refine RunO.one rfl (abuiltin_app key) rfl ?_
      refine RunO.all rfl (RunC.ret ⟨_, rfl, ⟨hl, hm, .inr ⟨_, _, Nat.le_succ _, rfl, Cp.unkc _ _, Ow.push _ _⟩⟩, f1.same (Fr.push _ _ _), fun _ => Nat.le_succ_of_le (Nat.le_succ _)⟩)
/-- Is a step right? -/
def ioR (k a : Int) (n : Nat) (b : Int) : Bool := if (k == 1) = true then decide (a ≥ 0) && (decide (a < b) && ((n : Int) == 64)) else if (k == 2) = true then a == 0 && ((n : Int) == 0) else false
theorem devRight_ok {h : Heap} {k a b : Int} {A : Option Addr} {n c : Nat} : RunF prog 84 [.agg ⟨[.int .i64 k, .int .i64 a, .slice A n c]⟩, .int .i64 b] h fun v h' => v = .bool (ioR k a n b) ∧ Fr no h h' := by
  refine RunF.walk func84 rfl rfl ?_
  refine RunC.seq (RunC.region (RunO.all (h1 := h.push ⟨[.int .i64 k, .int .i64 a, .slice A n c], true⟩) rfl ?_))
  have ow : Ow (h.push ⟨[.int .i64 k, .int .i64 a, .slice A n c], true⟩) h.next [.int .i64 k, .int .i64 a, .slice A n c] := Ow.push _ _
  have f1 : Fr no h (h.push ⟨[.int .i64 k, .int .i64 a, .slice A n c], true⟩) := Fr.push _ _ _
  generalize h.push ⟨[.int .i64 k, .int .i64 a, .slice A n c], true⟩ = h1 at *
  generalize h.next = p at *
  refine RunC.seq (RunC.seq (RunC.region (RunO.part 1 rfl ?_)))
  refine RunO.load (v := .int .i64 k) rfl (ow.all.cell1 (k := 0) rfl rfl) rfl (RunO.nil ?_)
  refine RunC.block ?_
  refine RunC.seq (RunC.region (RunO.all rfl ?_))
  unfold ioR
  cases (k == 1) with
  | true =>
    refine RunC.cond rfl (fun _ => ?_) (fun g => by cases g)
    refine RunC.seq (RunC.region (RunO.part 1 rfl ?_))
    refine RunO.load (v := .int .i64 a) rfl (ow.all.cell1 (k := 1) rfl rfl) rfl ?_
    refine RunO.part 2 rfl ?_
    cases decide (a ≥ 0) with
    | false => exact RunO.all rfl (RunC.ret ⟨_, rfl, rfl, f1⟩)
    | true =>
      refine RunO.part 1 rfl ?_
      refine RunO.loadG (v := .int .i64 a) rfl rfl (ow.all.cell1 (k := 1) rfl rfl) rfl ?_
      refine RunO.part 4 rfl ?_
      cases decide (a < b) with
      | false => exact RunO.all rfl (RunC.ret ⟨_, rfl, rfl, f1⟩)
      | true =>
        refine RunO.part 1 rfl ?_
        refine RunO.loadG (v := .slice A n c) rfl rfl (ow.all.cell1 (k := 2) rfl rfl) rfl ?_
        exact RunO.all rfl (RunC.ret ⟨_, rfl, rfl, f1⟩)
  | false =>
    refine RunC.cond rfl (fun g => by cases g) (fun _ => ?_)
    refine RunC.seq (RunC.region (RunO.all rfl ?_))
    cases (k == 2) with
    | false =>
      refine RunC.cond rfl (fun g => by cases g) (fun _ => RunC.skip ?_)
      exact RunC.seq (RunC.region (RunO.all rfl (RunC.ret ⟨_, rfl, rfl, f1⟩)))
    | true =>
      refine RunC.cond rfl (fun _ => ?_) (fun g => by cases g)
      refine RunC.seq (RunC.region (RunO.part 1 rfl ?_))
      refine RunO.load (v := .int .i64 a) rfl (ow.all.cell1 (k := 1) rfl rfl) rfl ?_
      refine RunO.part 2 rfl ?_
      cases (a == 0) with
      | false => exact RunO.all rfl (RunC.ret ⟨_, rfl, rfl, f1⟩)
      | true =>
        refine RunO.part 1 rfl ?_
        refine RunO.loadG (v := .slice A n c) rfl rfl (ow.all.cell1 (k := 2) rfl rfl) rfl ?_
        exact RunO.all rfl (RunC.ret ⟨_, rfl, rfl, f1⟩)
theorem devRightC_ok {h : Heap} {k a b : Int} {A : Option Addr} {n c q : Nat} (rd : Rd h ⟨q, 0, none⟩ [.int .i64 b]) : RunF prog 83 [.agg ⟨[.int .i64 k, .int .i64 a, .slice A n c]⟩, .pointer (some ⟨q, 0, none⟩)] h fun v h' => v = .bool (!ioR k a n b) ∧ Fr no h h' := by
  refine RunF.walk func83 rfl rfl ?_
  refine RunC.seq (RunC.region (RunO.all (h1 := h.push ⟨[.int .i64 k, .int .i64 a, .slice A n c], true⟩) rfl ?_))
  have ow : Ow (h.push ⟨[.int .i64 k, .int .i64 a, .slice A n c], true⟩) h.next [.int .i64 k, .int .i64 a, .slice A n c] := Ow.push _ _
  have f1 : Fr no h (h.push ⟨[.int .i64 k, .int .i64 a, .slice A n c], true⟩) := Fr.push _ _ _
  have rd1 := rd.fr f1 (fun g => g)
  generalize h.push ⟨[.int .i64 k, .int .i64 a, .slice A n c], true⟩ = h1 at *
  generalize h.next = p at *
  refine RunC.seq (RunC.region ?_)
  refine RunO.load (v := .agg ⟨[.int .i64 k, .int .i64 a, .slice A n c]⟩) rfl (ow.all.part (k := 0) rfl) rfl ?_
  refine RunO.load (v := .int .i64 b) rfl (rd1.cell1 (k := 0) rfl rfl) rfl ?_
  refine RunO.callD devRight_ok rfl rfl rfl ?_
  rintro _ h2 ⟨rfl, f2⟩
  exact RunO.all rfl (RunC.ret ⟨_, rfl, rfl, f1.same f2⟩)
/-- Why steps are not a device's. -/
def stepsE (n : Nat) (l : List IoT) : Int := if devOk n then (if decide ((l.length : Int) > 1048576) then 2 else if l.any (fun x => !ioR x.1 x.2.1 x.2.2.1.length (n / 64 : Nat)) then 1 else 0) else 2
theorem io_part {acs : List Value} {n j : Nat} (hl : acs.length = n * 3) (hj : j < n) : apart prog 69 acs (j * 3) = some (.agg ⟨(acs.drop (j * 3)).take 3⟩) := by
  show (match takeN 3 (dropN (j * 3) acs) with | some l => some (Value.agg ⟨l⟩) | none => none) = _
  rw [takeN_eq, dropN_eq, if_pos (by rw [List.length_drop]; omega)]
theorem devSteps_ok {h : Heap} {A : Option Addr} {c n : Nat} {v : Value} {l : List IoT} (il : Ios h v l) (hm : n ≤ 4611686018427387904) (hm2 : l.length ≤ 4611686018427387904) :
    RunF prog 55 [.slice A n c, v] h fun r h' => r = .int .i64 (stepsE n l) ∧ Fr no h h' := by
  obtain ⟨acs, sl, hk⟩ := il
  refine RunF.walk func55 rfl rfl ?_
  refine RunC.seq (RunC.region (RunO.all rfl ?_))
  refine RunC.seq (RunC.region (RunO.part 1 rfl ?_))
  refine RunO.callD (devCheck_ok hm) rfl rfl rfl ?_
  rintro _ _ ⟨rfl, rfl⟩
  have hsE : stepsE n l = if devOk n then (if decide ((l.length : Int) > 1048576) then 2 else if l.any (fun x => !ioR x.1 x.2.1 x.2.2.1.length (n / 64 : Nat)) then 1 else 0) else 2 := rfl
  rw [hsE]
  refine RunO.part 4 (h1 := h.push ⟨[.int .i64 0], true⟩) rfl ?_
  refine RunO.store rfl rfl (store1_ow (Ow.push h [.int .i64 0]) rfl rfl rfl (Nat.le_refl 1)) ?_
  change RunO _ _ _ _ _ ((h.push ⟨[.int .i64 0], true⟩).put h.next (some ⟨[.int .i64 (if devOk n then (n / 64 : Nat) else (0 : Nat))], true⟩)) _
  have ow : Ow ((h.push ⟨[.int .i64 0], true⟩).put h.next (some ⟨[.int .i64 (if devOk n then (n / 64 : Nat) else (0 : Nat))], true⟩)) h.next [.int .i64 (if devOk n then (n / 64 : Nat) else (0 : Nat))] := Ow.put _ (Nat.lt_succ_self _)
  have f1 : Fr no h ((h.push ⟨[.int .i64 0], true⟩).put h.next (some ⟨[.int .i64 (if devOk n then (n / 64 : Nat) else (0 : Nat))], true⟩)) := (Fr.push _ _ _).trans (Fr.put (m := (· = h.next)) _ (.inl rfl)) (fun j hj => .inr (by omega))
  generalize (h.push ⟨[.int .i64 0], true⟩).put h.next (some ⟨[.int .i64 (if devOk n then (n / 64 : Nat) else (0 : Nat))], true⟩) = h1 at *
  generalize h.next = p at *
  have sl1 := sl.fr0 f1
  refine RunO.all rfl ?_
  cases hd0 : devOk n with
  | false =>
    refine RunC.seq (RunC.block ?_)
    refine RunC.seq (RunC.region (RunO.all rfl (RunC.cond rfl (fun _ => ?_) (fun g => by cases g))))
    exact RunC.seq (RunC.region (RunO.all rfl (RunC.ret ⟨_, rfl, rfl, f1⟩)))
  | true =>
  rw [hd0, if_pos rfl] at ow
  refine RunC.seq (RunC.block ?_)
  refine RunC.seq (RunC.region (RunO.all rfl (RunC.cond rfl (fun g => by cases g) (fun _ => ?_))))
  obtain ⟨B, d, rfl, hd, _⟩ := sl.form
  refine RunC.seq (RunC.region (RunO.all rfl ?_))
  cases decide ((l.length : Int) > 1048576) with
  | true =>
    refine RunC.cond rfl (fun _ => ?_) (fun g => by cases g)
    exact RunC.seq (RunC.region (RunO.all rfl (RunC.ret ⟨_, rfl, rfl, f1⟩)))
  | false =>
    refine RunC.cond rfl (fun g => by cases g) (fun _ => ?_)
    refine RunC.seq (RunC.region (RunO.part 2 rfl ?_))
    refine RunO.callD (containsIo_ok sl1 (u := fun j => .agg ⟨(acs.drop (j * 3)).take 3⟩) (fun j hj => io_part sl.1 hj) (p := fun j => match l[j]? with | some x => !ioR x.1 x.2.1 x.2.2.1.length (n / 64 : Nat) | none => false) (fun j hj h2 f2 => ?_) hm2) rfl rfl rfl ?_
    · obtain ⟨dv, e1, e2, _⟩ := hk j _ (List.getElem?_eq_getElem hj)
      rw [e1]
      obtain ⟨D, dc, rfl, _, _⟩ := e2.form
      have := devRightC_ok (h := h2) (k := (l[j]).1) (a := (l[j]).2.1) (b := (n / 64 : Nat)) (A := D) (n := (l[j]).2.2.1.length) (c := dc) (q := p) ((ow.fr f2 (fun g => g)).all)
      simp only [List.getElem?_eq_getElem hj]
      exact this
    rintro _ h2 ⟨rfl, f2⟩
    rw [anyI_list (q := fun x : IoT => !ioR x.1 x.2.1 x.2.2.1.length (n / 64 : Nat)) (fun j x hx => by simp only [hx])]
    refine RunO.all rfl ?_
    cases l.any (fun x => !ioR x.1 x.2.1 x.2.2.1.length (n / 64 : Nat)) with
    | true =>
      refine RunC.cond rfl (fun _ => ?_) (fun g => by cases g)
      exact RunC.seq (RunC.region (RunO.all rfl (RunC.ret ⟨_, rfl, rfl, f1.same f2⟩)))
    | false =>
      refine RunC.cond rfl (fun g => by cases g) (fun _ => RunC.skip ?_)
      exact RunC.seq (RunC.region (RunO.all rfl (RunC.ret ⟨_, rfl, rfl, f1.same f2⟩)))
end Go.Proofs.Ytdcggjkcbheolaa
end
