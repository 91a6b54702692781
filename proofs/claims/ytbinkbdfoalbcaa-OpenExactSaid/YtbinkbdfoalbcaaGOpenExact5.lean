/- OpenExact: a calculus over an abstract machine that stands beside the model, and contracts of functions by it (part 5).
Conditions: what each theorem says of its arguments. -/
import Derived.Test.YtbinkbdfoalbcaaGOpenExact4
section
set_option linter.unusedVariables false
set_option maxRecDepth 100000
open Go Go.Am Go.RowKit
namespace Go.Proofs.Ytbinkbdfoalbcaa
open Go.Proofs.Try
theorem nd_sub {α : Type} [DecidableEq α] : ∀ (l d : List α), l.Nodup → (∀ x ∈ l, x ∈ d) → l.length ≤ d.length
  | [], d, _, _ => Nat.zero_le _
  | x :: l, d, hn, hs => by
    obtain ⟨h1, h2⟩ := List.nodup_cons.1 hn
    have hx : x ∈ d := hs x (List.mem_cons_self ..)
    have := nd_sub l (d.erase x) h2 (fun y hy => (List.mem_erase_of_ne (fun e => h1 (by rw [← e]; exact hy))).2 (hs y (List.mem_cons_of_mem _ hy)))
    rw [List.length_erase_of_mem hx] at this
    have : 0 < d.length := List.length_pos_of_mem hx
    rw [List.length_cons]; omega
theorem nd_blocks {B : Nat} {l : List Int} (h : l.Nodup) (hr : ∀ x ∈ l, 2 ≤ x ∧ x < (B : Int)) : l.length ≤ B - 2 := by
  have := nd_sub l ((List.range (B - 2)).map fun (j : Nat) => (j : Int) + 2) h (fun x hx => by
    obtain ⟨a, b⟩ := hr x hx
    refine List.mem_map.2 ⟨(x - 2).toNat, List.mem_range.2 (by omega), by omega⟩)
  rwa [List.length_map, List.length_range] at this
theorem idsN {lo s k n c kb tb : Nat} {h : Heap} {lv : Value} {cells : List Value} (r : Row lo h lv s k cells) (h1 : ∀ b, At lv b → b ≠ kb) (h2 : tb ≠ kb) : fpOk (.wr (idsOf [lv, .slice (some ⟨tb, 0, none⟩) n c])) (.rd kb) = true := by
  have key : ∀ l : List Nat, ¬ kb ∈ l → memN kb l = false := by
    intro l
    induction l with
    | nil => intro _; rfl
    | cons x l ih =>
      intro g
      simp only [List.mem_cons, not_or] at g
      unfold memN
      rw [show Nat.beq kb x = false from by cases e : Nat.beq kb x with | false => rfl | true => exact absurd (Nat.eq_of_beq_eq_true e) g.1]
      simpa using ih g.2
  show (!memN kb _) = true
  rw [key]
  · rfl
  · rcases r.2 with ⟨rfl, _⟩ | ⟨b, _, rfl, _⟩
    · simp only [idsOf, List.mem_cons, List.not_mem_nil, or_false]
      omega
    · have := h1 b ⟨_, _, rfl⟩
      simp only [idsOf, List.mem_cons, List.not_mem_nil, or_false]
      omega
/-- A chain of records, followed: what was met, and the block that is none of them. -/
def folB (B : Nat) (bs : List Int) (a : Int) : Bool := (decide (a < 2) || decide (a ≥ (B : Int))) || bs.contains a
def fol (L : List Int) (B : Nat) : Nat → Int → List R8 → List Int → Nat → List R8 × List Int × Nat × Int
  | 0, a, l, bs, w => (l, bs, w, a)
  | f + 1, a, l, bs, w => if a = 0 then (l, bs, w, 0) else if folB B bs a then (l, bs, w, a) else
    if (rCode (blkI L a.toNat) != 0) || !mayR l w (rPar (blkI L a.toNat)) then (l, bs, w, a) else
      fol L B f (rPar (blkI L a.toNat)).nx (l ++ [rPar (blkI L a.toNat)]) (bs ++ [a]) (if (rPar (blkI L a.toNat)).ki == 0 then w + 1 else w)
def folOf (L : List Int) (a : Int) : List R8 × List Int × Nat × Int := fol L (L.length / 64) (L.length / 64) a [] [] 0
theorem fol_end (L : List Int) (B f : Nat) (l : List R8) (bs : List Int) (w : Nat) : fol L B f 0 l bs w = (l, bs, w, 0) := by
  cases f with
  | zero => rfl
  | succ f => show (if (0 : Int) = 0 then _ else _) = _; rw [if_pos rfl]
/-- What follow leaves in memory. -/
def FolR (lo : Nat) (h : Heap) (kb : Nat) (x : List R8 × List Int × Nat × Int) : Prop :=
  ∃ lv bv, lo ≤ kb ∧ Ow h kb [lv, bv, .int .i64 (x.2.2.1 : Int), .int .i64 x.2.2.2] ∧ Row lo h lv 8 x.1.length (recCs x.1) ∧ Row lo h bv 1 x.2.1.length (is x.2.1)
set_option maxHeartbeats 32000000 in
theorem openFollow_ok {h : Heap} {iv : Value} {L : List Int} {a : Int} (sl : Sl h iv 1 L.length (us L)) (hb : Byt L) (hd : devOk L.length = true) :
    RunF prog 44 [iv, .int .i64 a] h fun v h' => Fr no h h' ∧ ∃ kb, v = .pointer (some ⟨kb, 0, none⟩) ∧ FolR h.next h' kb (folOf L a) := by
  have hdl : L.length % 64 = 0 ∧ 4 ≤ L.length / 64 ∧ L.length / 64 ≤ 4096 := by
    unfold devOk at hd
    simpa using hd
  have hm : L.length ≤ 4611686018427387904 := by omega
  refine RunF.walk func44 rfl rfl ?_
  have sl0 := sl
  obtain ⟨A, c, rfl, hc, hA⟩ := sl.form
  refine RunC.seq (RunC.region (RunO.all rfl ?_))
  refine RunC.seq (RunC.region (RunO.part 1 rfl ?_))
  refine RunO.callD (devCheck_ok hm) rfl rfl rfl ?_
  rintro _ _ ⟨rfl, rfl⟩
  rw [hd, if_pos rfl]
  have hB : ∃ B, B = L.length / 64 := ⟨_, rfl⟩
  have hfo : folOf L a = fol L (L.length / 64) (L.length / 64) a [] [] 0 := rfl
  obtain ⟨B, hB⟩ := hB
  rw [← hB] at hfo hdl ⊢
  refine RunO.all rfl ?_
  refine RunC.seq (RunC.region (RunO.all (h1 := h.push ⟨[.slice none 0 0, .slice none 0 0, .int .i64 0, .int .i64 0], true⟩) rfl ?_))
  have ok := Ow.push h [.slice none 0 0, .slice none 0 0, .int .i64 0, .int .i64 0]
  have f1 : Fr no h (h.push ⟨[.slice none 0 0, .slice none 0 0, .int .i64 0, .int .i64 0], true⟩) := Fr.push _ _ _
  generalize h.push ⟨[.slice none 0 0, .slice none 0 0, .int .i64 0, .int .i64 0], true⟩ = h1 at *
  obtain ⟨kb, hkb⟩ : ∃ q, q = h.next := ⟨_, rfl⟩
  rw [← hkb] at ok ⊢
  refine RunC.seq (RunC.seq (RunC.region (RunO.all rfl ?_)))
  refine RunC.block ?_
  refine RunC.loop (fun d E h' => ∃ (at_ : Int) (l : List R8) (bs : List Int) (w : Nat) (lv bv : Value), d + bs.length = B ∧ l.length = bs.length ∧ bs.Nodup ∧ (∀ x ∈ bs, 2 ≤ x ∧ x < (B : Int)) ∧ w ≤ bs.length ∧ folOf L a = fol L B d at_ l bs w ∧
      Fr no h h' ∧ Ow h' kb [lv, bv, .int .i64 (w : Int), .int .i64 0] ∧ Row kb h' lv 8 l.length (recCs l) ∧ Row kb h' bv 1 bs.length (is bs) ∧ (∀ b, At lv b → b ≠ kb ∧ ¬ At bv b) ∧ (∀ b, At bv b → b ≠ kb) ∧
      Le (upd (upd (upd (upd E0 0 (.slice A L.length c)) 5 (.int .i64 (B : Int))) 7 (.pointer (some ⟨kb, 0, none⟩))) 8 (.int .i64 at_)) E) ?st (k := B) ?ini
  case ini => exact ⟨a, [], [], 0, _, _, by simp, rfl, List.nodup_nil, fun x hx => absurd hx List.not_mem_nil, Nat.le_refl 0, hfo, f1, ok, Row.nil _ _ _, Row.nil _ _ _, (fun b g => by obtain ⟨_, _, e⟩ := g; cases e), (fun b g => by obtain ⟨_, _, e⟩ := g; cases e), Le.cons rfl (Le.cons rfl (Le.cons rfl (Le.cons rfl (Le.nil _))))⟩
  rintro d E g1 ⟨at_, l, bs, w, lv, bv, hdb, hll, hnd, hbr, hw, hfo, fg, ow, rl, rb, hx, hy, hE⟩
  refine RunC.le hE ?_
  clear hE
  refine RunC.seq (RunC.seq (RunC.region (RunO.all rfl ?_)))
  by_cases ha0 : at_ = 0
  · subst ha0
    refine RunC.cond rfl (fun g => by cases g) (fun _ => RunC.exit ?_)
    rw [fol_end] at hfo
    refine RunC.seq (RunC.region (RunO.all rfl (RunC.ret ⟨_, rfl, fg, kb, rfl, ?_⟩)))
    rw [hfo]
    exact ⟨lv, bv, Nat.le_refl _, ow, rl, rb⟩
  rw [show (at_ != 0) = true from bne_iff_ne.2 ha0]
  refine RunC.cond rfl (fun _ => RunC.skip ?_) (fun g => by cases g)
  have hbl := nd_blocks hnd hbr
  obtain ⟨f, rfl⟩ : ∃ f, d = f + 1 := ⟨d - 1, by omega⟩
  have hstep : fol L B (f + 1) at_ l bs w = if folB B bs at_ then (l, bs, w, at_) else
    if (rCode (blkI L at_.toNat) != 0) || !mayR l w (rPar (blkI L at_.toNat)) then (l, bs, w, at_) else
      fol L B f (rPar (blkI L at_.toNat)).nx (l ++ [rPar (blkI L at_.toNat)]) (bs ++ [at_]) (if (rPar (blkI L at_.toNat)).ki == 0 then w + 1 else w) := by
    show (if at_ = 0 then _ else _) = _
    rw [if_neg ha0]
  rw [hstep] at hfo
  refine RunC.block ?_
  -- the block is noted
  refine RunC.seq (RunC.region (RunO.part 4 rfl ?_))
  refine RunO.store rfl rfl (store1_ow ow rfl rfl rfl (Nat.le_of_ble_eq_true rfl)) (RunO.nil ?_)
  have ow2 : Ow (g1.put kb (some ⟨[lv, bv, .int .i64 (w : Int), .int .i64 at_], true⟩)) kb [lv, bv, .int .i64 (w : Int), .int .i64 at_] := Ow.put _ ow.1
  have fp : Fr (· = kb) g1 (g1.put kb (some ⟨[lv, bv, .int .i64 (w : Int), .int .i64 at_], true⟩)) := Fr.put _ (.inl rfl)
  have rl2 := rl.frm fp (fun b g e => (hx b g).1 e)
  have rb2 := rb.frm fp (fun b g e => hy b g e)
  have fg2 : Fr no h (g1.put kb (some ⟨[lv, bv, .int .i64 (w : Int), .int .i64 at_], true⟩)) := fg.trans fp (fun b e => .inr (by omega))
  show RunC prog _ _ _ (g1.put kb (some ⟨[lv, bv, .int .i64 (w : Int), .int .i64 at_], true⟩)) _ _ _
  generalize g1.put kb (some ⟨[lv, bv, .int .i64 (w : Int), .int .i64 at_], true⟩) = g2 at *
  have hret : FolR kb g2 kb (l, bs, w, at_) := ⟨lv, bv, Nat.le_refl _, ow2, rl2, rb2⟩
  have slb := rb2.sl (by omega)
  have sll := rl2.sl (by omega)
  refine RunC.seq (RunC.seq (RunC.region (RunO.part 3 rfl ?_)))
  have hF : folB B bs at_ = ((decide (at_ < 2) || decide (at_ ≥ (B : Int))) || bs.contains at_) := rfl
  cases h2 : decide (at_ < 2) with
  | true =>
    rw [hF, h2, Bool.true_or, Bool.true_or, if_pos rfl] at hfo
    refine RunO.all rfl (RunC.cond rfl (fun _ => ?_) (fun g => by cases g))
    exact RunC.seq (RunC.region (RunO.all rfl (RunC.ret ⟨_, rfl, fg2, kb, rfl, by rw [hfo]; exact hret⟩)))
  | false =>
  refine RunO.part 3 rfl ?_
  cases h3 : decide (at_ ≥ (B : Int)) with
  | true =>
    rw [hF, h2, h3, Bool.false_or, Bool.true_or, if_pos rfl] at hfo
    refine RunO.all rfl (RunC.cond rfl (fun _ => ?_) (fun g => by cases g))
    exact RunC.seq (RunC.region (RunO.all rfl (RunC.ret ⟨_, rfl, fg2, kb, rfl, by rw [hfo]; exact hret⟩)))
  | false =>
  refine RunO.part 5 rfl ?_
  refine RunO.loadG (v := bv) rfl rfl (ow2.ld rfl) rfl ?_
  refine RunO.part 1 rfl ?_
  refine RunO.callDG rfl (containsInt_ok slb (by omega)) rfl rfl rfl ?_
  rintro _ _ ⟨rfl, rfl⟩
  cases h4 : bs.contains at_ with
  | true =>
    rw [hF, h2, h3, h4, Bool.false_or, Bool.false_or, if_pos rfl] at hfo
    refine RunO.all rfl (RunC.cond rfl (fun _ => ?_) (fun g => by cases g))
    exact RunC.seq (RunC.region (RunO.all rfl (RunC.ret ⟨_, rfl, fg2, kb, rfl, by rw [hfo]; exact hret⟩)))
  | false =>
  rw [hF, h2, h3, h4, Bool.false_or, Bool.false_or, if_neg Bool.false_ne_true] at hfo
  refine RunO.all rfl (RunC.cond rfl (fun g => by cases g) (fun _ => RunC.skip ?_))
  have h2 := of_decide_eq_false h2
  have h3 := of_decide_eq_false h3
  -- the record
  obtain ⟨an, han⟩ := Int.eq_ofNat_of_zero_le (show 0 ≤ at_ by omega)
  subst han
  rw [Int.toNat_natCast] at hfo
  have haL : (an + 1) * 64 ≤ L.length := by
    have : an + 1 ≤ B := by omega
    have := Nat.mul_le_mul_right 64 this
    omega
  obtain ⟨ib, io, rfl, rd⟩ := hA (by omega)
  have rdb : Rd g2 ⟨ib, io, none⟩ (us L) := rd.fr fg2 (fun g => g)
  refine RunC.seq (RunC.region (RunO.part 2 rfl ?_))
  refine RunO.callD (devOf_ok (o := io) haL hm hc) rfl rfl rfl ?_
  rintro _ _ ⟨⟨c', hc', rfl⟩, rfl⟩
  have hbl2 := blkI_len haL
  have hparse := recParse_ok (h := g2) (A := some ⟨ib, io + an * 64, none⟩) (c := c') (l := blkI L an) (fun _ => ⟨_, rfl, rdBlk rdb haL⟩) (byt_blk hb an) (by rw [hbl2]; exact hc')
  rw [hbl2, rCells_eq] at hparse
  refine RunO.callD hparse rfl rfl rfl ?_
  rintro _ g3 ⟨rfl, f3⟩
  generalize rPar (blkI L an) = r at *
  generalize rCode (blkI L an) = rcd at *
  have ow3 := ow2.fr f3 (fun g => g)
  have rl3 := rl2.fr f3 (fun _ _ _ g => g)
  have rb3 := rb2.fr f3 (fun _ _ _ g => g)
  have fg3 := fg2.same f3
  refine RunO.part 4 (h1 := g3.push ⟨rc8 ⟨0, 0, 0, 0, 0, 0, 0, 0⟩, true⟩) rfl ?_
  refine RunO.store rfl rfl (store_ow (s := 8) (Ow.push g3 (rc8 ⟨0, 0, 0, 0, 0, 0, 0, 0⟩)) rfl rfl rfl (Nat.le_refl 8)) (RunO.all rfl ?_)
  have e8 : (rc8 ⟨0, 0, 0, 0, 0, 0, 0, 0⟩).take 0 ++ cellsOf (.agg ⟨rc8 r⟩) ++ (rc8 ⟨0, 0, 0, 0, 0, 0, 0, 0⟩).drop (0 + 8) = rc8 r := rfl
  rw [e8]
  have on : Ow ((g3.push ⟨rc8 ⟨0, 0, 0, 0, 0, 0, 0, 0⟩, true⟩).put g3.next (some ⟨rc8 r, true⟩)) g3.next (rc8 r) := Ow.put _ (Nat.lt_succ_self _)
  have f4 : Fr no g3 ((g3.push ⟨rc8 ⟨0, 0, 0, 0, 0, 0, 0, 0⟩, true⟩).put g3.next (some ⟨rc8 r, true⟩)) := (Fr.push _ _ _).trans (Fr.put (m := (· = g3.next)) _ (.inl rfl)) (fun j hj => .inr (by omega))
  have hkl := ow3.1
  have hlx : ∀ b, At lv b → b < g3.next := fun b g => (rl3.at g).2
  have hbx : ∀ b, At bv b → b < g3.next := fun b g => (rb3.at g).2
  replace ow3 := ow3.fr f4 (fun g => g)
  replace rl3 := rl3.fr f4 (fun _ _ _ g => g)
  replace rb3 := rb3.fr f4 (fun _ _ _ g => g)
  replace fg3 := fg3.same f4
  generalize (g3.push ⟨rc8 ⟨0, 0, 0, 0, 0, 0, 0, 0⟩, true⟩).put g3.next (some ⟨rc8 r, true⟩) = g4 at *
  obtain ⟨pb, hpb⟩ : ∃ q, q = g3.next := ⟨_, rfl⟩
  rw [← hpb] at on hkl hlx hbx ⊢
  have hret4 : FolR kb g4 kb (l, bs, w, (an : Int)) := ⟨lv, bv, Nat.le_refl _, ow3, rl3, rb3⟩
  have sll4 := rl3.sl (by omega)
  refine RunC.seq (RunC.seq (RunC.region (RunO.part 3 rfl ?_)))
  by_cases hc0 : rcd = 0
  case neg =>
    rw [show (rcd != 0) = true from bne_iff_ne.2 hc0, Bool.true_or, if_pos rfl] at hfo
    rw [show (rcd != 0) = true from bne_iff_ne.2 hc0]
    refine RunO.all rfl (RunC.cond rfl (fun _ => ?_) (fun g => by cases g))
    exact RunC.seq (RunC.region (RunO.all rfl (RunC.ret ⟨_, rfl, fg3, kb, rfl, by rw [hfo]; exact hret4⟩)))
  subst hc0
  rw [show ((0 : Int) != 0) = false from rfl, Bool.false_or] at hfo
  refine RunO.part 1 rfl ?_
  refine RunO.loadG (v := .agg ⟨rc8 r⟩) rfl rfl (on.ld rfl) rfl ?_
  refine RunO.callDG rfl (openMay_ok (r := r) ow3 sll4 (by omega)) rfl rfl rfl ?_
  rintro _ g5 ⟨rfl, f5⟩
  replace on := on.fr f5 (fun g => g)
  replace ow3 := ow3.fr f5 (fun g => g)
  replace rl3 := rl3.fr f5 (fun _ _ _ g => g)
  replace rb3 := rb3.fr f5 (fun _ _ _ g => g)
  replace fg3 := fg3.same f5
  cases hmay : mayR l w r with
  | false =>
    rw [hmay, if_pos (by rfl)] at hfo
    refine RunO.all rfl (RunC.cond rfl (fun _ => ?_) (fun g => by cases g))
    exact RunC.seq (RunC.region (RunO.all rfl (RunC.ret ⟨_, rfl, fg3, kb, rfl, by rw [hfo]; exact ⟨lv, bv, Nat.le_refl _, ow3, rl3, rb3⟩⟩)))
  | true =>
  rw [hmay, if_neg (by simp)] at hfo
  refine RunO.all rfl (RunC.cond rfl (fun g => by cases g) (fun _ => RunC.skip ?_))
  -- how many are whole
  have hpk : pb ≠ kb := by omega
  obtain ⟨w2, hw2⟩ : ∃ w2, w2 = if r.ki == 0 then w + 1 else w := ⟨_, rfl⟩
  have hw2l : w2 ≤ w + 1 := by rw [hw2]; split <;> omega
  rw [← hw2] at hfo
  refine RunC.seqc (fun E' h' => Ow h' kb [lv, bv, .int .i64 (w2 : Int), .int .i64 (an : Int)] ∧ Fr (· = kb) g5 h' ∧ Le (upd (upd (upd (upd (upd E0 0 (.slice (some ⟨ib, io, none⟩) L.length c)) 5 (.int .i64 (B : Int))) 7 (.pointer (some ⟨kb, 0, none⟩))) 8 (.int .i64 (an : Int))) 9 (.pointer (some ⟨pb, 0, none⟩))) E') ?wh ?go
  case wh =>
    refine RunC.seq (RunC.region (RunO.part 1 rfl ?_))
    refine RunO.load (v := .int .i64 r.ki) rfl (on.ld rfl) rfl (RunO.all rfl ?_)
    cases hk : (r.ki == 0) with
    | true =>
      rw [hk, if_pos rfl] at hw2
      refine RunC.cond rfl (fun _ => ?_) (fun g => by cases g)
      refine RunC.region (RunO.part 3 rfl ?_)
      refine RunO.load (v := .int .i64 (w : Int)) rfl (ow3.ld rfl) rfl ?_
      refine RunO.part 1 rfl ?_
      rw [fw64 (x := (w : Int) + 1) (by omega) (by omega), show (w : Int) + 1 = (w2 : Int) by omega]
      refine RunO.part 2 rfl ?_
      refine RunO.store rfl rfl (store1_ow ow3 rfl rfl rfl (Nat.le_of_ble_eq_true rfl)) (RunO.nil ?_)
      exact ⟨Ow.put _ ow3.1, Fr.put _ (.inl rfl), Le.cons rfl (Le.cons rfl (Le.cons rfl (Le.cons rfl (Le.cons rfl (Le.nil _)))))⟩
    | false =>
      rw [hk, if_neg Bool.false_ne_true] at hw2
      subst hw2
      exact RunC.cond rfl (fun g => by cases g) (fun _ => RunC.skip ⟨ow3, Fr.refl _ _, Le.cons rfl (Le.cons rfl (Le.cons rfl (Le.cons rfl (Le.cons rfl (Le.nil _)))))⟩)
  rintro E' g6 ⟨ow6, f6, hE⟩
  refine RunC.le hE ?_
  clear hE
  have on6 := on.fr f6 hpk
  have rl6 := rl3.frm f6 (fun b g e => (hx b g).1 e)
  have rb6 := rb3.frm f6 (fun b g e => hy b g e)
  have fg6 : Fr no h g6 := fg3.trans f6 (fun b e => .inr (by omega))
  have slx := rl6.sl (by omega)
  have hkl6 := ow6.1
  have hpl6 := on6.1
  have hlx6 : ∀ b, At lv b → b < g6.next := fun b g => (rl6.at g).2
  have hbx6 : ∀ b, At bv b → b < g6.next := fun b g => (rb6.at g).2
  have hpl : ¬ At lv pb := fun g => by have := hlx pb g; omega
  have hpb2 : ¬ At bv pb := fun g => by have := hbx pb g; omega
  refine RunC.seq (RunC.drawW (fun b => b = kb ∨ At lv b ∨ At bv b) (p := (9, 13)) (ps := []) rfl ?_)
  refine RunW.pure rfl rfl (fun _ => rfl) rfl ?_
  refine RunW.pure rfl rfl (fun _ => rfl) rfl ?_
  refine RunW.pure rfl rfl (fun _ => rfl) rfl ?_
  refine RunW.pure rfl rfl (fun _ => rfl) rfl ?_
  refine RunW.pure rfl rfl (fun _ => rfl) rfl ?_
  refine RunW.pure rfl rfl (fun _ => rfl) rfl ?_
  refine RunW.load (v := lv) rfl rfl (ow6.ld rfl) rfl ?_
  refine RunW.load (v := .agg ⟨rc8 r⟩) rfl rfl (on6.ld rfl) rfl ?_
  refine RunW.new (ob := ⟨rc8 r, true⟩) rfl rfl (fun _ => rfl) rfl ?_
  have ot := Ow.push g6 (rc8 r)
  have f7 : Fr no g6 (g6.push ⟨rc8 r, true⟩) := Fr.push _ _ _
  have rl7 := rl6.fr f7 (fun _ _ _ g => g)
  have rb7 := rb6.fr f7 (fun _ _ _ g => g)
  have ow7 := ow6.fr f7 (fun g => g)
  have on7 := on6.fr f7 (fun g => g)
  have hn7 : g6.next < (g6.push ⟨rc8 r, true⟩).next := ot.1
  generalize g6.push ⟨rc8 r, true⟩ = g7 at *
  obtain ⟨tb, htb⟩ : ∃ q, q = (g6.lo g6.next).next := ⟨_, rfl⟩
  have htb2 : tb = g6.next := htb
  rw [← htb]
  rw [← htb2] at ot hn7
  refine RunW.append2 (s := 8) (j := 1) rfl rfl rfl rfl rfl rfl rfl rfl rfl (by decide) rl7 ot.all rfl (Nat.le_refl 1) rfl (by show 2 * (_ + 1) * 64 ≤ _; omega) (by omega) (fun b g => .inr (.inl g)) ?_
  intro lv2 g8 rl8 f8
  have ow8 := ow7.fr f8 (fun g => (hx kb g).1 rfl)
  have on8 := on7.fr f8 hpl
  have rb8 := rb7.frm f8 (fun b g e => (hx b e).2 g)
  refine RunW.pure rfl rfl (fun _ => rfl) rfl ?_
  refine RunW.pure rfl rfl (fun _ => rfl) rfl ?_
  refine RunW.pure rfl rfl (fun _ => rfl) rfl ?_
  refine RunW.load (v := bv) rfl rfl (ow8.ld rfl) rfl ?_
  refine RunW.pure rfl rfl (fun _ => rfl) rfl ?_
  refine RunW.new (ob := ⟨is [(an : Int)], true⟩) rfl rfl (fun _ => rfl) rfl ?_
  have ot2 := Ow.push g8 (is [(an : Int)])
  have f9 : Fr no g8 (g8.push ⟨is [(an : Int)], true⟩) := Fr.push _ _ _
  have rl9 := rl8.fr f9 (fun _ _ _ g => g)
  have rb9 := rb8.fr f9 (fun _ _ _ g => g)
  have ow9 := ow8.fr f9 (fun g => g)
  have on9 := on8.fr f9 (fun g => g)
  have hn9 : g8.next < (g8.push ⟨is [(an : Int)], true⟩).next := ot2.1
  generalize g8.push ⟨is [(an : Int)], true⟩ = g9 at *
  refine RunW.append2 (s := 1) (j := 1) rfl rfl rfl rfl rfl rfl rfl rfl rfl (by decide) rb9 ot2.all rfl (Nat.le_refl 1) rfl (by show 2 * (_ + 1) * 8 ≤ _; omega) (by omega) (fun b g => .inr (.inr g)) ?_
  intro bv2 ga rba fa
  have hn8 := f8.next
  have hl2 : ∀ b, At lv2 b → g7.next ≤ b ∧ b < g8.next := fun b g => rl8.at g
  have hb2 : ∀ b, At bv2 b → g9.next ≤ b ∧ b < ga.next := fun b g => rba.at g
  have hbo : ∀ b, At bv b → b < g7.next := fun b g => (rb7.at g).2
  have owa := ow9.fr fa (fun g => hy kb g rfl)
  have ona := on9.fr fa hpb2
  have rla := rl9.frm fa (fun b g e => by have := hl2 b g; have := hbo b e; omega)
  refine RunW.pure rfl rfl (fun _ => rfl) rfl ?_
  refine RunW.pure rfl rfl (fun _ => rfl) rfl ?_
  have hkg7 : kb < g7.next := by omega
  have hn9a := fa.next
  have hkg9 : kb < g9.next := by omega
  have fsb : Fr (· = kb) (ga.lo ga.next) ((ga.lo ga.next).put kb (some ⟨[lv2, bv, .int .i64 (w2 : Int), .int .i64 (an : Int)], true⟩)) := Fr.put _ (.inl rfl)
  have owb : Ow ((ga.lo ga.next).put kb (some ⟨[lv2, bv, .int .i64 (w2 : Int), .int .i64 (an : Int)], true⟩)) kb [lv2, bv, .int .i64 (w2 : Int), .int .i64 (an : Int)] := Ow.put _ owa.1
  have onb := Ow.fr (h := ga.lo ga.next) ona fsb hpk
  have rlb := Row.frm (h := ga.lo ga.next) rla fsb (fun b g e => by have := hl2 b g; have e : b = kb := e; omega)
  have rbb := Row.frm (h := ga.lo ga.next) rba fsb (fun b g e => by have := hb2 b g; have e : b = kb := e; omega)
  refine RunW.store rfl rfl rfl (store1_ow (h := ga.lo ga.next) owa rfl (rl8.cell).1 (rl8.cell).2 (Nat.le_of_ble_eq_true rfl)) (Fr.put _ (.inl (.inl rfl))) ?_
  show RunW prog _ _ _ _ _ ((ga.lo ga.next).put kb (some ⟨[lv2, bv, .int .i64 (w2 : Int), .int .i64 (an : Int)], true⟩)) _
  generalize (ga.lo ga.next).put kb (some ⟨[lv2, bv, .int .i64 (w2 : Int), .int .i64 (an : Int)], true⟩) = gb at *
  refine RunW.pure rfl rfl (fun _ => rfl) rfl ?_
  refine RunW.pure rfl rfl (fun _ => rfl) rfl ?_
  have fsc : Fr (· = kb) (gb.lo gb.next) ((gb.lo gb.next).put kb (some ⟨[lv2, bv2, .int .i64 (w2 : Int), .int .i64 (an : Int)], true⟩)) := Fr.put _ (.inl rfl)
  have owc : Ow ((gb.lo gb.next).put kb (some ⟨[lv2, bv2, .int .i64 (w2 : Int), .int .i64 (an : Int)], true⟩)) kb [lv2, bv2, .int .i64 (w2 : Int), .int .i64 (an : Int)] := Ow.put _ owb.1
  have onc := Ow.fr (h := gb.lo gb.next) onb fsc hpk
  have rlc := Row.frm (h := gb.lo gb.next) rlb fsc (fun b g e => by have := hl2 b g; have e : b = kb := e; omega)
  have rbc := Row.frm (h := gb.lo gb.next) rbb fsc (fun b g e => by have := hb2 b g; have e : b = kb := e; omega)
  refine RunW.store rfl rfl rfl (store1_ow (h := gb.lo gb.next) owb rfl (rba.cell).1 (rba.cell).2 (Nat.le_of_ble_eq_true rfl)) (Fr.put _ (.inl (.inl rfl))) ?_
  show RunW prog _ _ _ _ _ ((gb.lo gb.next).put kb (some ⟨[lv2, bv2, .int .i64 (w2 : Int), .int .i64 (an : Int)], true⟩)) _
  generalize (gb.lo gb.next).put kb (some ⟨[lv2, bv2, .int .i64 (w2 : Int), .int .i64 (an : Int)], true⟩) = gc at *
  refine RunW.pure rfl rfl (fun _ => rfl) rfl ?_
  refine RunW.pure rfl rfl (fun _ => rfl) rfl ?_
  have fsd : Fr (· = kb) (gc.lo gc.next) ((gc.lo gc.next).put kb (some ⟨[lv2, bv2, .int .i64 (w2 : Int), .int .i64 0], true⟩)) := Fr.put _ (.inl rfl)
  have owd : Ow ((gc.lo gc.next).put kb (some ⟨[lv2, bv2, .int .i64 (w2 : Int), .int .i64 0], true⟩)) kb [lv2, bv2, .int .i64 (w2 : Int), .int .i64 0] := Ow.put _ owc.1
  have ond := Ow.fr (h := gc.lo gc.next) onc fsd hpk
  have rld := Row.frm (h := gc.lo gc.next) rlc fsd (fun b g e => by have := hl2 b g; have e : b = kb := e; omega)
  have rbd := Row.frm (h := gc.lo gc.next) rbc fsd (fun b g e => by have := hb2 b g; have e : b = kb := e; omega)
  refine RunW.store rfl rfl rfl (store1_ow (h := gc.lo gc.next) owc rfl rfl rfl (Nat.le_of_ble_eq_true rfl)) (Fr.put _ (.inl (.inl rfl))) ?_
  show RunW prog _ _ _ _ _ ((gc.lo gc.next).put kb (some ⟨[lv2, bv2, .int .i64 (w2 : Int), .int .i64 0], true⟩)) _
  generalize (gc.lo gc.next).put kb (some ⟨[lv2, bv2, .int .i64 (w2 : Int), .int .i64 0], true⟩) = gd at *
  refine RunW.nil ⟨?_, fun lw F => ?_⟩
  · show cond (fpOk (.wr (idsOf [lv, .slice (some ⟨tb, 0, none⟩) 1 (exc 1)])) (.rd kb)) true false = true
    rw [idsN rl7 (fun b g => (hx b g).1) (by omega)]; rfl
  have owz : Ow (gd.lo lw) kb [lv2, bv2, .int .i64 (w2 : Int), .int .i64 0] := owd
  have onz : Ow (gd.lo lw) pb (rc8 r) := ond
  have rlz : Row kb (gd.lo lw) lv2 8 (l ++ [r]).length (recCs (l ++ [r])) := by
    have e1 : recCs l ++ rc8 r = recCs (l ++ [r]) := by rw [recCs_app]; show _ = _ ++ (rc8 r ++ []); rw [List.append_nil]
    have rld : Row g7.next (gd.lo lw) lv2 8 (l.length + 1) (recCs l ++ rc8 r) := rld
    rw [e1] at rld
    rw [List.length_append]
    exact Row.lo rld (by omega)
  have rbz : Row kb (gd.lo lw) bv2 1 (bs ++ [(an : Int)]).length (is (bs ++ [(an : Int)])) := by
    have e1 : is bs ++ is [(an : Int)] = is (bs ++ [(an : Int)]) := (List.map_append ..).symm
    have rbd : Row g9.next (gd.lo lw) bv2 1 (bs.length + 1) (is bs ++ is [(an : Int)]) := rbd
    rw [e1] at rbd
    rw [List.length_append]
    exact Row.lo rbd (by omega)
  refine RunC.region (RunO.part 1 rfl ?_)
  refine RunO.load (v := .int .i64 r.nx) rfl (onz.ld rfl) rfl (RunO.all rfl ?_)
  refine ⟨f, by omega, r.nx, l ++ [r], bs ++ [(an : Int)], w2, lv2, bv2, ?_, ?_, nodup_snoc hnd ?_, ?_, ?_, hfo, fg6.trans F (fun b g => .inr ?_), owz, rlz, rbz, ?_, ?_, Le.cons rfl (Le.cons rfl (Le.cons rfl (Le.cons rfl (Le.nil _))))⟩
  · rw [List.length_append, List.length_singleton]; omega
  · rw [List.length_append, List.length_append, hll]; rfl
  · intro g
    rw [List.contains_iff_mem.2 g] at h4; cases h4
  · intro x g
    rcases List.mem_append.1 g with g | g
    · exact hbr x g
    · rw [List.mem_singleton.1 g]; omega
  · rw [List.length_append, List.length_singleton]; omega
  · rcases g with g | g | g
    · omega
    · have := (rl.at g).1; omega
    · have := (rb.at g).1; omega
  · intro b g
    have h8 := hl2 b g
    exact ⟨by omega, fun g2 => by have := hb2 b g2; omega⟩
  · intro b g
    have := hb2 b g; omega
end Go.Proofs.Ytbinkbdfoalbcaa
end
section
set_option linter.unusedVariables false
set_option linter.unusedSectionVars false
set_option maxRecDepth 100000
open Go Go.Am Go.RowKit
namespace Go.Proofs.Ytbinkbdfoalbcaa
open Go.Proofs.Try
def bo (l : List Bool) : List Value := l.map Value.bool
theorem bo_len (l : List Bool) : (bo l).length = l.length := List.length_map _
theorem bo_part {l : List Bool} {i : Nat} (h : i < l.length) : apart prog 4 (bo l) (i * 1) = some (.bool (l.getD i false)) := by
  show nth (bo l) (i * 1) = _
  rw [Nat.mul_one, nth_eq, bo, List.getElem?_map, List.getElem?_eq_getElem h, List.getD_eq_getElem?_getD, List.getElem?_eq_getElem h]; rfl
theorem bo_set (l : List Bool) (i : Nat) (x : Bool) : (bo l).set (0 + i * 1) (.bool x) = bo (l.set i x) := by unfold bo; rw [List.map_set, Nat.zero_add, Nat.mul_one]
theorem getD_setBo (l : List Bool) {k : Nat} (hk : k < l.length) (v : Bool) (s : Nat) : (l.set k v).getD s false = if s = k then v else l.getD s false := by
  rw [List.getD_eq_getElem?_getD, List.getElem?_set]
  by_cases e : s = k
  · subst e; rw [if_pos rfl, if_pos rfl, if_pos hk]; rfl
  · rw [if_neg (Ne.symm e), if_neg e, List.getD_eq_getElem?_getD]
theorem cont_succ {l : List Int} {i : Nat} (h : i < l.length) (x : Int) : (l.take (i + 1)).contains x = (decide (x = l[i]) || (l.take i).contains x) := by
  rw [Bool.eq_iff_iff, List.contains_iff_mem, List.take_succ_eq_append_getElem h, List.mem_append, List.mem_singleton, Bool.or_eq_true, decide_eq_true_eq, List.contains_iff_mem]
  exact ⟨fun g => g.symm, fun g => g.symm⟩
/-- A tree that was walked: its block, its map, its nodes. -/
abbrev Tr3 : Type := Nat × List Int × List Int
def tps (l : List Tr3) : List Value := l.map fun t => .pointer (some ⟨t.1, 0, none⟩)
theorem tps_part {l : List Tr3} {i : Nat} (h : i < l.length) : apart prog 122 (tps l) (i * 1) = some (.pointer (some ⟨l[i].1, 0, none⟩)) := by
  show nth (tps l) (i * 1) = _
  rw [Nat.mul_one, nth_eq, tps, List.getElem?_map, List.getElem?_eq_getElem h]; rfl
/-- It reads so, and is in range. -/
def TrOk (B : Nat) (h : Heap) (t : Tr3) : Prop :=
  ∃ iv mv nv, Ow h t.1 (wc iv B mv nv false) ∧ Sl h mv 1 t.2.1.length (is t.2.1) ∧ Sl h nv 1 t.2.2.length (is t.2.2) ∧ t.2.1.length = 512 ∧ t.2.2.length ≤ 100000 ∧ (∀ x ∈ t.2.1, 0 ≤ x ∧ x < (B : Int)) ∧ ∀ x ∈ t.2.2, 0 ≤ x ∧ x < (B : Int)
theorem TrOk.fr0 {B : Nat} {h h' : Heap} {t : Tr3} (r : TrOk B h t) (f : Fr no h h') : TrOk B h' t := by
  obtain ⟨iv, mv, nv, h1, h2, h3, h4⟩ := r
  exact ⟨iv, mv, nv, h1.fr f (fun g => g), h2.fr0 f, h3.fr0 f, h4⟩
/-- The marks. -/
structure CW (h : Heap) (B pb nb rb sb : Nat) (N R S : List Bool) : Prop where
  op : Ow h pb [.slice (some ⟨nb, 0, none⟩) B (exc B), .slice (some ⟨rb, 0, none⟩) B (exc B), .slice (some ⟨sb, 0, none⟩) B (exc B)]
  on : Ow h nb (bo N)
  or : Ow h rb (bo R)
  os : Ow h sb (bo S)
  ln : N.length = B
  lr : R.length = B
  ls : S.length = B
structure CD (pb nb rb sb : Nat) : Prop where
  pn : pb ≠ nb
  pr : pb ≠ rb
  ps : pb ≠ sb
  nr : nb ≠ rb
  ns : nb ≠ sb
  rs : rb ≠ sb
section
variable {h : Heap} {B pb nb rb sb : Nat} {N R S : List Bool} (d : CD pb nb rb sb) (t : CW h B pb nb rb sb N R S)
include d t
theorem CW.putR {i : Nat} (x : Bool) : CW (h.put rb (some ⟨bo (R.set i x), true⟩)) B pb nb rb sb N (R.set i x) S := by
  have f : Fr (· = rb) h (h.put rb (some ⟨bo (R.set i x), true⟩)) := Fr.put _ (.inl rfl)
  exact ⟨t.op.fr f d.pr, t.on.fr f d.nr, Ow.put _ t.or.1, t.os.fr f (fun e => d.rs e.symm), t.ln, by rw [List.length_set]; exact t.lr, t.ls⟩
theorem CW.putN {i : Nat} (x : Bool) : CW (h.put nb (some ⟨bo (N.set i x), true⟩)) B pb nb rb sb (N.set i x) R S := by
  have f : Fr (· = nb) h (h.put nb (some ⟨bo (N.set i x), true⟩)) := Fr.put _ (.inl rfl)
  exact ⟨t.op.fr f d.pn, Ow.put _ t.on.1, t.or.fr f (fun e => d.nr e.symm), t.os.fr f (fun e => d.ns e.symm), by rw [List.length_set]; exact t.ln, t.lr, t.ls⟩
theorem CW.putS {i : Nat} (x : Bool) : CW (h.put sb (some ⟨bo (S.set i x), true⟩)) B pb nb rb sb N R (S.set i x) := by
  have f : Fr (· = sb) h (h.put sb (some ⟨bo (S.set i x), true⟩)) := Fr.put _ (.inl rfl)
  exact ⟨t.op.fr f d.ps, t.on.fr f d.ns, t.or.fr f d.rs, Ow.put _ t.os.1, t.ln, t.lr, by rw [List.length_set]; exact t.ls⟩
end
/-- What a block is of two kinds. -/
def isN (TL : List Tr3) (j : Nat) : Bool := TL.any fun t => t.2.2.contains (j : Int)
def isS (TL : List Tr3) (j : Nat) : Bool := TL.any fun t => decide (j ≠ 0) && t.2.1.contains (j : Int)
def clP (bl : List Int) (TL : List Tr3) (j : Nat) : Bool := (isS TL j && (isN TL j || bl.contains (j : Int))) || (isN TL j && bl.contains (j : Int))
theorem any_snoc {α : Type} {l : List α} {i : Nat} (h : i < l.length) (p : α → Bool) : (l.take (i + 1)).any p = ((l.take i).any p || p l[i]) := by
  rw [List.take_succ_eq_append_getElem h, List.any_append, List.any_cons, List.any_nil, Bool.or_false]
def imC (s5 : List Value) (sl : Value) (rv bv tv : Value) : List Value := s5 ++ [sl, rv, bv, tv]
end Go.Proofs.Ytbinkbdfoalbcaa
end
section
set_option linter.unusedVariables false
set_option linter.unusedSectionVars false
set_option maxRecDepth 100000
open Go Go.Am Go.RowKit
namespace Go.Proofs.Ytbinkbdfoalbcaa
open Go.Proofs.Try
theorem reps_bo (n : Nat) : reps (cellsOf (Value.bool false)) n = bo (List.replicate n false) := by
  rw [show cellsOf (Value.bool false) = [.bool false] from rfl, reps_one]; unfold bo; rw [List.map_replicate]
theorem rep_false (n j : Nat) : (List.replicate n false).getD j false = false := by
  rw [List.getD_eq_getElem?_getD, List.getElem?_replicate]; split <;> rfl
/-- The cells of an open image. -/
def imc (s : S5) (slot : Int) (rv bv tv : Value) : List Value := sc5 s ++ [.int .i64 slot, rv, bv, tv]
set_option maxHeartbeats 32000000 in
theorem openClash_ok {h : Heap} {xb B : Nat} {s : S5} {slot : Int} {rv bv tv : Value} {bl : List Int} {TL : List Tr3} (ox : Ow h xb (imc s slot rv bv tv)) (sbl : Sl h bv 1 bl.length (is bl)) (stl : Sl h tv 1 TL.length (tps TL))
    (htr : ∀ t ∈ TL, TrOk B h t) (hbr : ∀ x ∈ bl, 0 ≤ x ∧ x < (B : Int)) (hB : B ≤ 100000) (hbl : bl.length ≤ 100000) (hTL : TL.length ≤ 100000) :
    RunF prog 74 [.pointer (some ⟨xb, 0, none⟩), .int .i64 (B : Int)] h fun v h' => Fr no h h' ∧ ((∃ i : Nat, i < B ∧ v = .int .i64 (i : Int) ∧ clP bl TL i = true ∧ ∀ j, j < i → clP bl TL j = false) ∨ (v = .int .i64 0 ∧ ∀ j, j < B → clP bl TL j = false)) := by
  refine RunF.walk func74 rfl rfl ?_
  obtain ⟨bA, bc, rfl, _, _⟩ := sbl.form
  obtain ⟨tA, tc, rfl, _, _⟩ := stl.form
  refine RunC.seq (RunC.region (RunO.all rfl ?_))
  refine RunC.seq (RunC.draw0 rfl ?_)
  refine RunO.part 1 rfl ?_
  refine RunO.make (m := B) rfl rfl rfl rfl rfl rfl (show 1 * B ≤ _ by omega) (by omega) rfl ?_
  rw [reps_bo]
  have on := Ow.push h (bo (List.replicate B false))
  have f1 : Fr no h (h.push ⟨bo (List.replicate B false), true⟩) := Fr.push _ _ _
  generalize h.push ⟨bo (List.replicate B false), true⟩ = h1 at *
  obtain ⟨nb, hnb⟩ : ∃ q, q = h.next := ⟨_, rfl⟩
  rw [← hnb] at on ⊢
  have hn1 := on.1
  refine RunO.part 1 rfl ?_
  refine RunO.make (m := B) rfl rfl rfl rfl rfl rfl (show 1 * B ≤ _ by omega) (by omega) rfl ?_
  rw [reps_bo]
  have or := Ow.push h1 (bo (List.replicate B false))
  have f2 : Fr no h1 (h1.push ⟨bo (List.replicate B false), true⟩) := Fr.push _ _ _
  replace on := on.fr f2 (fun g => g)
  generalize h1.push ⟨bo (List.replicate B false), true⟩ = h2 at *
  obtain ⟨rb, hrb⟩ : ∃ q, q = h1.next := ⟨_, rfl⟩
  rw [← hrb] at or ⊢
  have hn2 := or.1
  refine RunO.part 1 rfl ?_
  refine RunO.make (m := B) rfl rfl rfl rfl rfl rfl (show 1 * B ≤ _ by omega) (by omega) rfl ?_
  rw [reps_bo]
  have os := Ow.push h2 (bo (List.replicate B false))
  have f3 : Fr no h2 (h2.push ⟨bo (List.replicate B false), true⟩) := Fr.push _ _ _
  replace on := on.fr f3 (fun g => g)
  replace or := or.fr f3 (fun g => g)
  generalize h2.push ⟨bo (List.replicate B false), true⟩ = h3 at *
  obtain ⟨sb, hsb⟩ : ∃ q, q = h2.next := ⟨_, rfl⟩
  rw [← hsb] at os ⊢
  have hn3 := os.1
  refine RunO.part 2 (h1 := h3.push ⟨[.slice none 0 0, .slice none 0 0, .slice none 0 0], true⟩) rfl ?_
  refine RunO.store rfl rfl (store_ow (s := 3) (Ow.push h3 [.slice none 0 0, .slice none 0 0, .slice none 0 0]) rfl rfl rfl (Nat.le_refl 3)) (RunO.nil ?_)
  have e3 : [Value.slice none 0 0, .slice none 0 0, .slice none 0 0].take 0 ++ cellsOf (.agg ⟨[.slice (some ⟨nb, 0, none⟩) B (exc B), .slice (some ⟨rb, 0, none⟩) B (exc B), .slice (some ⟨sb, 0, none⟩) B (exc B)]⟩) ++ [Value.slice none 0 0, .slice none 0 0, .slice none 0 0].drop (0 + 3) = [.slice (some ⟨nb, 0, none⟩) B (exc B), .slice (some ⟨rb, 0, none⟩) B (exc B), .slice (some ⟨sb, 0, none⟩) B (exc B)] := rfl
  have op : Ow ((h3.push ⟨[.slice none 0 0, .slice none 0 0, .slice none 0 0], true⟩).put h3.next (some ⟨[.slice (some ⟨nb, 0, none⟩) B (exc B), .slice (some ⟨rb, 0, none⟩) B (exc B), .slice (some ⟨sb, 0, none⟩) B (exc B)], true⟩)) h3.next _ := Ow.put _ (Nat.lt_succ_self _)
  have f4 : Fr no h3 ((h3.push ⟨[.slice none 0 0, .slice none 0 0, .slice none 0 0], true⟩).put h3.next (some ⟨[.slice (some ⟨nb, 0, none⟩) B (exc B), .slice (some ⟨rb, 0, none⟩) B (exc B), .slice (some ⟨sb, 0, none⟩) B (exc B)], true⟩)) := (Fr.push _ _ _).trans (Fr.put (m := (· = h3.next)) _ (.inl rfl)) (fun j hj => .inr (by omega))
  replace on := on.fr f4 (fun g => g)
  replace or := or.fr f4 (fun g => g)
  replace os := os.fr f4 (fun g => g)
  show RunC prog _ _ _ ((h3.push ⟨[.slice none 0 0, .slice none 0 0, .slice none 0 0], true⟩).put h3.next (some ⟨[.slice (some ⟨nb, 0, none⟩) B (exc B), .slice (some ⟨rb, 0, none⟩) B (exc B), .slice (some ⟨sb, 0, none⟩) B (exc B)], true⟩)) _ _ _
  generalize (h3.push ⟨[.slice none 0 0, .slice none 0 0, .slice none 0 0], true⟩).put h3.next (some ⟨[.slice (some ⟨nb, 0, none⟩) B (exc B), .slice (some ⟨rb, 0, none⟩) B (exc B), .slice (some ⟨sb, 0, none⟩) B (exc B)], true⟩) = h4 at *
  obtain ⟨pb, hpb⟩ : ∃ q, q = h3.next := ⟨_, rfl⟩
  rw [← hpb] at op ⊢
  have F4 : Fr no h h4 := ((f1.same f2).same f3).same f4
  have cd : CD pb nb rb sb := ⟨by omega, by omega, by omega, by omega, by omega, by omega⟩
  have cw : CW h4 B pb nb rb sb (List.replicate B false) (List.replicate B false) (List.replicate B false) := ⟨op, on, or, os, List.length_replicate, List.length_replicate, List.length_replicate⟩
  have hge : h.next ≤ nb ∧ h.next ≤ rb ∧ h.next ≤ sb := by omega
  clear op on or os f1 f2 f3 f4
  -- the records
  refine RunC.seq ?_
  refine RunC.seq (RunC.region (RunO.part 3 rfl ?_))
  refine RunO.load (v := .slice bA bl.length bc) rfl ((ox.fr F4 (fun g => g)).ld rfl) rfl (RunO.all rfl ?_)
  refine RunC.block ?_
  refine RunC.loop (fun d E h' => ∃ (i : Nat) (R : List Bool), i + d = bl.length ∧ CW h' B pb nb rb sb (List.replicate B false) R (List.replicate B false) ∧ (∀ j, j < B → R.getD j false = (bl.take i).contains (j : Int)) ∧ Fr no h h' ∧
    Le (upd (upd (upd (upd (upd (upd E0 0 (.pointer (some ⟨xb, 0, none⟩))) 1 (.int .i64 (B : Int))) 5 (.pointer (some ⟨pb, 0, none⟩))) 25 (.slice bA bl.length bc)) 26 (.int .i64 (bl.length : Int))) 27 (.int .i64 (i : Int))) E) ?st1 (k := bl.length) ?ini1
  case ini1 => exact ⟨0, _, by omega, cw, fun j _ => by rw [rep_false]; simp, F4, Le.cons rfl (Le.cons rfl (Le.cons rfl (Le.cons rfl (Le.cons rfl (Le.cons rfl (Le.nil _))))))⟩
  rintro d E g1 ⟨i, R, hi, cw, hR, fg, hE⟩
  refine RunC.le hE ?_
  clear hE
  refine RunC.seq (RunC.region (RunO.all rfl ?_))
  refine RunC.seq (RunC.cond rfl (fun hlt => RunC.skip ?go1) (fun hge => RunC.exit ?ex1))
  case go1 =>
    have hlt := of_decide_eq_true hlt
    have hlt : i < bl.length := by omega
    obtain ⟨x0, xB⟩ := hbr bl[i] (List.getElem_mem hlt)
    obtain ⟨q, hq⟩ := Int.eq_ofNat_of_zero_le x0
    have hqB : q < B := by omega
    have hcs := fun x => cont_succ hlt x
    refine RunC.seq (RunC.block ?_)
    refine RunC.seq (RunC.region ?_)
    refine RunO.at (s := 1) (k := i) rfl rfl (sbl.fr0 fg) rfl rfl hlt (is_part hlt) rfl rfl rfl (RunO.all rfl ?_)
    rw [hq] at hcs ⊢
    refine RunC.region (RunO.part 1 rfl ?_)
    refine RunO.load (v := .slice (some ⟨rb, 0, none⟩) B (exc B)) rfl (cw.op.ld rfl) rfl ?_
    refine RunO.part 1 rfl ?_
    refine RunO.index (s := 1) (k := q) rfl rfl rfl rfl hqB rfl ?_
    refine RunO.store rfl rfl (store1_ow cw.or rfl rfl rfl (by rw [bo_len, cw.lr]; omega)) (RunO.nil ?_)
    rw [bo_set]
    refine RunC.region (RunO.all rfl ?_)
    refine ⟨d - 1, by omega, i + 1, _, by omega, cw.putR cd true, fun j hj => ?_, fg.trans (Fr.put (m := (· = rb)) _ (.inl rfl)) (fun b e => .inr (by omega)), Le.cons (inc64 (by omega)) (Le.cons rfl (Le.cons rfl (Le.cons rfl (Le.cons rfl (Le.cons rfl (Le.nil _))))))⟩
    rw [getD_setBo R (by rw [cw.lr]; omega), hcs, hR j hj]
    by_cases e : j = q
    · rw [if_pos e, decide_eq_true (by omega)]; rfl
    · rw [if_neg e, decide_eq_false (by omega)]; rfl
  have hge1 := of_decide_eq_false hge
  obtain rfl : i = bl.length := by omega
  rw [List.take_length] at hR
  -- the trees
  refine RunC.seq ?_
  refine RunC.seq (RunC.region (RunO.part 3 rfl ?_))
  refine RunO.load (v := .slice tA TL.length tc) rfl ((ox.fr fg (fun g => g)).ld rfl) rfl (RunO.all rfl ?_)
  refine RunC.block ?_
  refine RunC.loop (fun d E h' => ∃ (i : Nat) (N S : List Bool), i + d = TL.length ∧ CW h' B pb nb rb sb N R S ∧ (∀ j, j < B → N.getD j false = isN (TL.take i) j) ∧ (∀ j, j < B → S.getD j false = isS (TL.take i) j) ∧ Fr no h h' ∧
    Le (upd (upd (upd (upd (upd (upd E0 0 (.pointer (some ⟨xb, 0, none⟩))) 1 (.int .i64 (B : Int))) 5 (.pointer (some ⟨pb, 0, none⟩))) 39 (.slice tA TL.length tc)) 40 (.int .i64 (TL.length : Int))) 41 (.int .i64 (i : Int))) E) ?st2 (k := TL.length) ?ini2
  case ini2 => exact ⟨0, _, _, by omega, cw, fun j _ => by rw [rep_false]; rfl, fun j _ => by rw [rep_false]; rfl, fg, Le.cons rfl (Le.cons rfl (Le.cons rfl (Le.cons rfl (Le.cons rfl (Le.cons rfl (Le.nil _))))))⟩
  rintro d2 E g2 ⟨ti, N, S, hti, cw, hN, hS, fg2, hE⟩
  refine RunC.le hE ?_
  clear hE
  refine RunC.seq (RunC.region (RunO.all rfl ?_))
  refine RunC.seq (RunC.cond rfl (fun hlt => RunC.skip ?go2) (fun hge => RunC.exit ?ex2))
  case go2 =>
    have hlt := of_decide_eq_true hlt
    have hlt : ti < TL.length := by omega
    have hNs : ∀ j, isN (TL.take (ti + 1)) j = (isN (TL.take ti) j || TL[ti].2.2.contains (j : Int)) := fun j => any_snoc hlt _
    have hSs : ∀ j, isS (TL.take (ti + 1)) j = (isS (TL.take ti) j || (decide (j ≠ 0) && TL[ti].2.1.contains (j : Int))) := fun j => any_snoc hlt _
    have htk := htr TL[ti] (List.getElem_mem hlt)
    have htp := tps_part hlt
    generalize TL[ti] = T at *
    obtain ⟨wb, tm, tn⟩ := T
    obtain ⟨tiv, tmv, tnv, ow, slm, sln, tml, tnl, tmr, tnr⟩ := htk
    simp only at ow slm sln tml tnl tmr tnr htp hNs hSs
    obtain ⟨mA, mc, rfl, _, _⟩ := slm.form
    obtain ⟨nA, nc_, rfl, _, _⟩ := sln.form
    refine RunC.seq (RunC.block ?_)
    refine RunC.seq (RunC.region ?_)
    refine RunO.at (s := 1) (k := ti) rfl rfl (stl.fr0 fg2) rfl rfl hlt htp rfl rfl rfl (RunO.all rfl ?_)
    -- its nodes
    refine RunC.seq ?_
    refine RunC.seq (RunC.region (RunO.part 3 rfl ?_))
    refine RunO.load (v := .slice nA tn.length nc_) rfl ((ow.fr fg2 (fun g => g)).ld rfl) rfl (RunO.all rfl ?_)
    refine RunC.block ?_
    refine RunC.loop (fun d E h' => ∃ (i : Nat) (N : List Bool), i + d = tn.length ∧ CW h' B pb nb rb sb N R S ∧ (∀ j, j < B → N.getD j false = (isN (TL.take ti) j || (tn.take i).contains (j : Int))) ∧ Fr no h h' ∧
      Le ((upd (upd (upd (upd (upd (upd (upd (upd (upd (upd E0 0 (.pointer (some ⟨xb, 0, none⟩))) 1 (.int .i64 (B : Int))) 5 (.pointer (some ⟨pb, 0, none⟩))) 39 (.slice tA TL.length tc)) 40 (.int .i64 (TL.length : Int))) 41 (.int .i64 (ti : Int))) 9 (.pointer (some ⟨wb, 0, none⟩))) 48 (.slice nA tn.length nc_)) 49 (.int .i64 (tn.length : Int))) 50 (.int .i64 (i : Int)))) E) ?st3 (k := tn.length) ?ini3
    case ini3 => exact ⟨0, _, by omega, cw, fun j hj => by rw [hN j hj]; simp, fg2, Le.cons rfl (Le.cons rfl (Le.cons rfl (Le.cons rfl (Le.cons rfl (Le.cons rfl (Le.cons rfl (Le.cons rfl (Le.cons rfl (Le.cons rfl (Le.nil _))))))))))⟩
    rintro d3 E g3 ⟨i, N3, hi, cw, hN3, fg3, hE⟩
    refine RunC.le hE ?_
    clear hE
    refine RunC.seq (RunC.region (RunO.all rfl ?_))
    refine RunC.seq (RunC.cond rfl (fun hlt => RunC.skip ?go3) (fun hge => RunC.exit ?ex3))
    case go3 =>
      have hlt := of_decide_eq_true hlt
      have hlt : i < tn.length := by omega
      obtain ⟨x0, xB⟩ := tnr tn[i] (List.getElem_mem hlt)
      obtain ⟨q, hq⟩ := Int.eq_ofNat_of_zero_le x0
      have hqB : q < B := by omega
      have hcs := fun x => cont_succ hlt x
      refine RunC.seq (RunC.block ?_)
      refine RunC.seq (RunC.region ?_)
      refine RunO.at (s := 1) (k := i) rfl rfl (sln.fr0 fg3) rfl rfl hlt (is_part hlt) rfl rfl rfl (RunO.all rfl ?_)
      rw [hq] at hcs ⊢
      refine RunC.region (RunO.part 1 rfl ?_)
      refine RunO.load (v := .slice (some ⟨nb, 0, none⟩) B (exc B)) rfl (cw.op.ld rfl) rfl ?_
      refine RunO.part 1 rfl ?_
      refine RunO.index (s := 1) (k := q) rfl rfl rfl rfl hqB rfl ?_
      refine RunO.store rfl rfl (store1_ow cw.on rfl rfl rfl (by rw [bo_len, cw.ln]; omega)) (RunO.nil ?_)
      rw [bo_set]
      refine RunC.region (RunO.all rfl ?_)
      refine ⟨d3 - 1, by omega, i + 1, _, by omega, cw.putN cd true, fun j hj => ?_, fg3.trans (Fr.put (m := (· = nb)) _ (.inl rfl)) (fun b e => .inr (by omega)), Le.cons (inc64 (by omega)) (Le.cons rfl (Le.cons rfl (Le.cons rfl (Le.cons rfl (Le.cons rfl (Le.cons rfl (Le.cons rfl (Le.cons rfl (Le.cons rfl (Le.nil _))))))))))⟩
      rw [getD_setBo N3 (by rw [cw.ln]; omega), hcs, hN3 j hj]
      by_cases e : j = q
      · rw [if_pos e, decide_eq_true (by omega), Bool.true_or, Bool.or_true]
      · rw [if_neg e, decide_eq_false (by omega), Bool.false_or]
    have hge3 := of_decide_eq_false hge
    obtain rfl : i = tn.length := by omega
    rw [List.take_length] at hN3
    -- its map
    refine RunC.seq (RunC.region (RunO.part 3 rfl ?_))
    refine RunO.load (v := .slice mA tm.length mc) rfl ((ow.fr fg3 (fun g => g)).ld rfl) rfl (RunO.all rfl ?_)
    refine RunC.block ?_
    refine RunC.loop (fun d E h' => ∃ (i : Nat) (S : List Bool), i + d = tm.length ∧ CW h' B pb nb rb sb N3 R S ∧ (∀ j, j < B → S.getD j false = (isS (TL.take ti) j || (decide (j ≠ 0) && (tm.take i).contains (j : Int)))) ∧ Fr no h h' ∧
      Le ((upd (upd (upd (upd (upd (upd (upd (upd (upd (upd E0 0 (.pointer (some ⟨xb, 0, none⟩))) 1 (.int .i64 (B : Int))) 5 (.pointer (some ⟨pb, 0, none⟩))) 39 (.slice tA TL.length tc)) 40 (.int .i64 (TL.length : Int))) 41 (.int .i64 (ti : Int))) 9 (.pointer (some ⟨wb, 0, none⟩))) 62 (.slice mA tm.length mc)) 63 (.int .i64 (tm.length : Int))) 64 (.int .i64 (i : Int)))) E) ?st4 (k := tm.length) ?ini4
    case ini4 => exact ⟨0, _, by omega, cw, fun j hj => by rw [hS j hj]; simp, fg3, Le.cons rfl (Le.cons rfl (Le.cons rfl (Le.cons rfl (Le.cons rfl (Le.cons rfl (Le.cons rfl (Le.cons rfl (Le.cons rfl (Le.cons rfl (Le.nil _))))))))))⟩
    rintro d4 E g4 ⟨i, S4, hi, cw, hS4, fg4, hE⟩
    refine RunC.le hE ?_
    clear hE
    refine RunC.seq (RunC.region (RunO.all rfl ?_))
    refine RunC.seq (RunC.cond rfl (fun hlt => RunC.skip ?go4) (fun hge => RunC.exit ?ex4))
    case go4 =>
      have hlt := of_decide_eq_true hlt
      have hlt : i < tm.length := by omega
      obtain ⟨x0, xB⟩ := tmr tm[i] (List.getElem_mem hlt)
      obtain ⟨q, hq⟩ := Int.eq_ofNat_of_zero_le x0
      have hqB : q < B := by omega
      have hcs := fun x => cont_succ hlt x
      refine RunC.seq (RunC.block ?_)
      refine RunC.seq (RunC.region ?_)
      refine RunO.at (s := 1) (k := i) rfl rfl (slm.fr0 fg4) rfl rfl hlt (is_part hlt) rfl rfl rfl (RunO.all rfl ?_)
      rw [hq] at hcs ⊢
      have hfin : ∀ x : Bool, x = (S4.getD q false || decide (q ≠ 0)) → ∀ j, j < B → (S4.set q x).getD j false = (isS (TL.take ti) j || (decide (j ≠ 0) && (tm.take (i + 1)).contains (j : Int))) := fun x hx j hj => by
        rw [getD_setBo S4 (by rw [cw.ls]; omega), hcs]
        by_cases e : j = q
        · rw [if_pos e, hx, hS4 q hqB, e, decide_eq_true (p := ((q : Int)) = (q : Int)) rfl, Bool.true_or, Bool.and_true]
          cases isS (TL.take ti) q <;> cases (decide (q ≠ 0)) <;> cases ((tm.take i).contains (q : Int)) <;> rfl
        · rw [if_neg e, hS4 j hj, decide_eq_false (p := ((j : Int)) = (q : Int)) (by omega), Bool.false_or]
      have sls : Sl g4 (.slice (some ⟨sb, 0, none⟩) B (exc B)) 1 B (bo S4) := cw.os.all.sl (by rw [bo_len, cw.ls, Nat.mul_one]) (by omega) (Cp.exc (Nat.le_refl _))
      refine RunC.draw0 rfl ?_
      refine RunO.part 1 rfl ?_
      refine RunO.load (v := .slice (some ⟨sb, 0, none⟩) B (exc B)) rfl (cw.op.ld rfl) rfl ?_
      refine RunO.part 2 rfl ?_
      refine RunO.load (v := .slice (some ⟨sb, 0, none⟩) B (exc B)) rfl (cw.op.ld rfl) rfl ?_
      refine RunO.part 1 rfl ?_
      refine RunO.at (s := 1) (k := q) rfl rfl sls rfl rfl hqB (bo_part (by rw [cw.ls]; exact hqB)) rfl rfl rfl ?_
      have fput : ∀ x : Bool, Fr no h (g4.put sb (some ⟨bo (S4.set q x), true⟩)) := fun x => fg4.trans (Fr.put (m := (· = sb)) _ (.inl rfl)) (fun b e => .inr (by omega))
      have hsl : 0 + q * 1 < (bo S4).length := by rw [bo_len, cw.ls]; omega
      cases hx : S4.getD q false with
      | true =>
        refine RunO.part 4 rfl ?_
        refine RunO.index (s := 1) (k := q) rfl rfl rfl rfl hqB rfl ?_
        refine RunO.store rfl rfl (store1_ow cw.os rfl rfl rfl hsl) (RunO.nil ?_)
        rw [bo_set]
        refine RunC.region (RunO.all rfl ?_)
        exact ⟨d4 - 1, by omega, i + 1, _, by omega, cw.putS cd true, hfin true (by rw [hx]; rfl), fput true, Le.cons (inc64 (by omega)) (Le.cons rfl (Le.cons rfl (Le.cons rfl (Le.cons rfl (Le.cons rfl (Le.cons rfl (Le.cons rfl (Le.cons rfl (Le.cons rfl (Le.nil _))))))))))⟩
      | false =>
        refine RunO.part 3 rfl ?_
        rw [show ((q : Int) != 0) = decide (q ≠ 0) by rw [Bool.eq_iff_iff, bne_iff_ne, decide_eq_true_eq]; omega]
        refine RunO.part 1 rfl ?_
        refine RunO.index (s := 1) (k := q) rfl rfl rfl rfl hqB rfl ?_
        refine RunO.store rfl rfl (store1_ow cw.os rfl rfl rfl hsl) (RunO.nil ?_)
        rw [bo_set]
        refine RunC.region (RunO.all rfl ?_)
        exact ⟨d4 - 1, by omega, i + 1, _, by omega, cw.putS cd _, hfin _ (by rw [hx]; rfl), fput _, Le.cons (inc64 (by omega)) (Le.cons rfl (Le.cons rfl (Le.cons rfl (Le.cons rfl (Le.cons rfl (Le.cons rfl (Le.cons rfl (Le.cons rfl (Le.cons rfl (Le.nil _))))))))))⟩
    have hge4 := of_decide_eq_false hge
    obtain rfl : i = tm.length := by omega
    rw [List.take_length] at hS4
    refine RunC.region (RunO.all rfl ?_)
    exact ⟨d2 - 1, by omega, ti + 1, _, _, by omega, cw, fun j hj => by rw [hN3 j hj, hNs], fun j hj => by rw [hS4 j hj, hSs], fg4, Le.cons (inc64 (by omega)) (Le.cons rfl (Le.cons rfl (Le.cons rfl (Le.cons rfl (Le.cons rfl (Le.nil _))))))⟩
  have hge2 := of_decide_eq_false hge
  obtain rfl : ti = TL.length := by omega
  rw [List.take_length] at hN hS
  have hP : ∀ j, j < B → clP bl TL j = ((S.getD j false && (N.getD j false || R.getD j false)) || (N.getD j false && R.getD j false)) := fun j hj => by
    rw [hN j hj, hS j hj, hR j hj]; rfl
  -- the first one
  refine RunC.seq ?_
  refine RunC.seq (RunC.region (RunO.all rfl ?_))
  refine RunC.block ?_
  refine RunC.loop (fun d E h' => ∃ i : Nat, i + d = B ∧ (∀ j, j < i → clP bl TL j = false) ∧ h' = g2 ∧
    Le ((upd (upd (upd (upd E0 1 (.int .i64 (B : Int))) 5 (.pointer (some ⟨pb, 0, none⟩))) 83 (.int .i64 (B : Int))) 84 (.int .i64 (i : Int)))) E) ?st5 (k := B) ?ini5
  case ini5 => exact ⟨0, by omega, fun j hj => absurd hj (Nat.not_lt_zero _), rfl, Le.cons rfl (Le.cons rfl (Le.cons rfl (Le.cons rfl (Le.nil _))))⟩
  rintro d5 E g5 ⟨i, hi, hno, rfl, hE⟩
  refine RunC.le hE ?_
  clear hE
  refine RunC.seq (RunC.region (RunO.all rfl ?_))
  refine RunC.seq (RunC.cond rfl (fun hlt => RunC.skip ?go5) (fun hge => RunC.exit ?ex5))
  case go5 =>
    have hlt := of_decide_eq_true hlt
    have hlt : i < B := by omega
    have sls : Sl g5 (.slice (some ⟨sb, 0, none⟩) B (exc B)) 1 B (bo S) := cw.os.all.sl (by rw [bo_len, cw.ls, Nat.mul_one]) (by omega) (Cp.exc (Nat.le_refl _))
    have sln : Sl g5 (.slice (some ⟨nb, 0, none⟩) B (exc B)) 1 B (bo N) := cw.on.all.sl (by rw [bo_len, cw.ln, Nat.mul_one]) (by omega) (Cp.exc (Nat.le_refl _))
    have slr : Sl g5 (.slice (some ⟨rb, 0, none⟩) B (exc B)) 1 B (bo R) := cw.or.all.sl (by rw [bo_len, cw.lr, Nat.mul_one]) (by omega) (Cp.exc (Nat.le_refl _))
    have hPi := hP i hlt
    refine RunC.seq (RunC.block ?_)
    refine RunC.seq (RunC.region (RunO.all rfl ?_))
    refine RunC.seq (RunC.region (RunO.part 1 rfl ?_))
    refine RunO.load (v := .slice (some ⟨sb, 0, none⟩) B (exc B)) rfl (cw.op.ld rfl) rfl ?_
    refine RunO.part 1 rfl ?_
    refine RunO.at (s := 1) (k := i) rfl rfl sls rfl rfl hlt (bo_part (by rw [cw.ls]; exact hlt)) rfl rfl rfl ?_
    cases ha : S.getD i false with
    | true =>
      rw [ha] at hPi
      refine RunO.part 1 rfl ?_
      refine RunO.part 1 rfl ?_
      refine RunO.loadG (v := .slice (some ⟨nb, 0, none⟩) B (exc B)) rfl rfl (cw.op.ld rfl) rfl ?_
      refine RunO.part 1 rfl ?_
      refine RunO.atG (s := 1) (k := i) rfl (fun _ => rfl) rfl rfl sln rfl rfl hlt (bo_part (by rw [cw.ln]; exact hlt)) rfl rfl rfl ?_
      cases hb : N.getD i false with
      | true =>
        rw [hb] at hPi
        refine RunO.part 1 rfl ?_
        refine RunO.all rfl (RunC.cond rfl (fun _ => ?_) (fun g => by cases g))
        exact RunC.seq (RunC.region (RunO.all rfl (RunC.ret ⟨_, rfl, fg2, .inl ⟨i, hlt, rfl, hPi, hno⟩⟩)))
      | false =>
        rw [hb] at hPi
        refine RunO.part 1 rfl ?_
        refine RunO.part 1 rfl ?_
        refine RunO.loadG (v := .slice (some ⟨rb, 0, none⟩) B (exc B)) rfl rfl (cw.op.ld rfl) rfl ?_
        refine RunO.part 1 rfl ?_
        refine RunO.atG (s := 1) (k := i) rfl (fun _ => rfl) rfl rfl slr rfl rfl hlt (bo_part (by rw [cw.lr]; exact hlt)) rfl rfl rfl ?_
        cases hc : R.getD i false with
        | true =>
          rw [hc] at hPi
          refine RunO.all rfl (RunC.cond rfl (fun _ => ?_) (fun g => by cases g))
          exact RunC.seq (RunC.region (RunO.all rfl (RunC.ret ⟨_, rfl, fg2, .inl ⟨i, hlt, rfl, hPi, hno⟩⟩)))
        | false =>
          rw [hc] at hPi
          refine RunO.part 3 rfl ?_
          refine RunO.part 1 rfl ?_
          refine RunO.loadG (v := .slice (some ⟨nb, 0, none⟩) B (exc B)) rfl rfl (cw.op.ld rfl) rfl ?_
          refine RunO.part 1 rfl ?_
          refine RunO.atG (s := 1) (k := i) rfl (fun _ => rfl) rfl rfl sln rfl rfl hlt (bo_part (by rw [cw.ln]; exact hlt)) rfl rfl rfl ?_
          rw [hb]
          refine RunO.all rfl (RunC.cond rfl (fun g => by cases g) (fun _ => RunC.skip ?_))
          refine RunC.region (RunO.all rfl ?_)
          exact ⟨d5 - 1, by omega, i + 1, by omega, fun j hj => by rcases Nat.lt_or_ge j i with e | e; exact hno j e; rw [show j = i by omega]; exact hPi, rfl, Le.cons (inc64 (by omega)) (Le.cons rfl (Le.cons rfl (Le.cons rfl (Le.nil _))))⟩
    | false =>
      rw [ha] at hPi
      refine RunO.part 15 rfl ?_
      refine RunO.part 1 rfl ?_
      refine RunO.loadG (v := .slice (some ⟨nb, 0, none⟩) B (exc B)) rfl rfl (cw.op.ld rfl) rfl ?_
      refine RunO.part 1 rfl ?_
      refine RunO.atG (s := 1) (k := i) rfl (fun _ => rfl) rfl rfl sln rfl rfl hlt (bo_part (by rw [cw.ln]; exact hlt)) rfl rfl rfl ?_
      cases hb : N.getD i false with
      | true =>
        rw [hb] at hPi
        refine RunO.part 1 rfl ?_
        refine RunO.part 1 rfl ?_
        refine RunO.loadG (v := .slice (some ⟨rb, 0, none⟩) B (exc B)) rfl rfl (cw.op.ld rfl) rfl ?_
        refine RunO.part 1 rfl ?_
        refine RunO.atG (s := 1) (k := i) rfl (fun _ => rfl) rfl rfl slr rfl rfl hlt (bo_part (by rw [cw.lr]; exact hlt)) rfl rfl rfl ?_
        cases hc : R.getD i false with
        | true =>
          rw [hc] at hPi
          refine RunO.all rfl (RunC.cond rfl (fun _ => ?_) (fun g => by cases g))
          exact RunC.seq (RunC.region (RunO.all rfl (RunC.ret ⟨_, rfl, fg2, .inl ⟨i, hlt, rfl, hPi, hno⟩⟩)))
        | false =>
          rw [hc] at hPi
          refine RunO.all rfl (RunC.cond rfl (fun g => by cases g) (fun _ => RunC.skip ?_))
          refine RunC.region (RunO.all rfl ?_)
          exact ⟨d5 - 1, by omega, i + 1, by omega, fun j hj => by rcases Nat.lt_or_ge j i with e | e; exact hno j e; rw [show j = i by omega]; exact hPi, rfl, Le.cons (inc64 (by omega)) (Le.cons rfl (Le.cons rfl (Le.cons rfl (Le.nil _))))⟩
      | false =>
        rw [hb] at hPi
        refine RunO.all rfl (RunC.cond rfl (fun g => by cases g) (fun _ => RunC.skip ?_))
        refine RunC.region (RunO.all rfl ?_)
        exact ⟨d5 - 1, by omega, i + 1, by omega, fun j hj => by rcases Nat.lt_or_ge j i with e | e; exact hno j e; rw [show j = i by omega]; exact hPi, rfl, Le.cons (inc64 (by omega)) (Le.cons rfl (Le.cons rfl (Le.cons rfl (Le.nil _))))⟩
  have hge5 := of_decide_eq_false hge
  exact RunC.seq (RunC.region (RunO.all rfl (RunC.ret ⟨_, rfl, fg2, .inr ⟨rfl, fun j hj => hno j (by omega)⟩⟩)))
end Go.Proofs.Ytbinkbdfoalbcaa
end
section
set_option linter.unusedVariables false
set_option maxRecDepth 100000
open Go Go.Am Go.RowKit
namespace Go.Proofs.Ytbinkbdfoalbcaa
open Go.Proofs.Try
/-- Why there is no tree. -/
def treeE (L : List Int) (root : Int) : Int := if devOk L.length then (if treeOk L root then 0 else 6) else 2
def secOk (s : Int) : Bool := !(decide (s < 0) || decide (s ≥ 512))
/-- Why a sector has no block. -/
def sectorE (L : List Int) (root s : Int) : Int := if treeE L root = 0 then (if secOk s then 0 else 3) else treeE L root
def sectorV (L : List Int) (root s : Int) : Int := if treeE L root = 0 then (if secOk s then (treeM L root).getD s.toNat 0 else 0) else 0
def offMap (B b : Int) : Bool := b != 0 && (decide (b < 2) || decide (b ≥ B))
/-- Why a map is none. -/
def mapE (m : List Int) (B : Int) : Int := if m.length = 512 then (if m.any (offMap B) then 1 else 0) else 2
end Go.Proofs.Ytbinkbdfoalbcaa
end
section
set_option linter.unusedVariables false
set_option maxRecDepth 100000
open Go Go.Am
namespace Go.Proofs.Ytbinkbdfoalbcaa
open Go.Proofs.Try
end Go.Proofs.Ytbinkbdfoalbcaa
end
section
set_option linter.unusedVariables false
set_option maxRecDepth 100000
open Go Go.Am
namespace Go.Proofs.Ytbinkbdfoalbcaa
open Go.Proofs.Try
abbrev IoT := Int × Int × List Int × Unit
/-- A device step's cells. -/
def IoK (h : Heap) (x : IoT) (cs : List Value) : Prop := ∃ dv, cs = [.int .i64 x.1, .int .i64 x.2.1, dv] ∧ Sl h dv 1 x.2.2.1.length (us x.2.2.1) ∧ Byt x.2.2.1
/-- A slice of device steps. -/
def Ios (h : Heap) (v : Value) (l : List IoT) : Prop := ∃ acs, Sl h v 3 l.length acs ∧ ∀ (j : Nat) (x : IoT), l[j]? = some x → IoK h x ((acs.drop (j * 3)).take 3)
/-- Is a step right? -/
def ioR (k a : Int) (n : Nat) (b : Int) : Bool := if (k == 1) = true then decide (a ≥ 0) && (decide (a < b) && ((n : Int) == 64)) else if (k == 2) = true then a == 0 && ((n : Int) == 0) else false
/-- Why steps are not a device's. -/
def stepsE (n : Nat) (l : List IoT) : Int := if devOk n then (if decide ((l.length : Int) > 1048576) then 2 else if l.any (fun x => !ioR x.1 x.2.1 x.2.2.1.length (n / 64 : Nat)) then 1 else 0) else 2
end Go.Proofs.Ytbinkbdfoalbcaa
end
section
set_option linter.unusedVariables false
set_option maxRecDepth 100000
open Go Go.Am
namespace Go.Proofs.Ytbinkbdfoalbcaa
open Go.Proofs.Try
/-- A block written over. -/
def setBlk (o : List Int) (i : Nat) (d : List Int) : List Int := o.take (i * 64) ++ d ++ o.drop (i * 64 + 64)
def applyStep (o : List Int) (x : IoT) : List Int := if (x.1 == 1) = true then setBlk o x.2.1.toNat x.2.2.1 else o
def applyL (o : List Int) (l : List IoT) : List Int := l.foldl applyStep o
/-- A step that is right. -/
def ioOk (n : Nat) (x : IoT) : Prop := x.1 = 1 ∧ (∃ a : Nat, x.2.1 = (a : Int) ∧ a < n / 64) ∧ x.2.2.1.length = 64 ∨ x.1 = 2 ∧ x.2.1 = 0 ∧ x.2.2.1 = []
end Go.Proofs.Ytbinkbdfoalbcaa
end
section
set_option linter.unusedVariables false
set_option maxRecDepth 100000
open Go Go.Am Go.RowKit
namespace Go.Proofs.Ytbinkbdfoalbcaa
open Go.Proofs.Try
theorem byt_zeros (n : Nat) : Byt (List.replicate n 0) := fun x hx => by rw [List.eq_of_mem_replicate hx]; omega
/-- A node of one pointer. -/
def oneP (k : Nat) (p : Int) : List Int := nZero.set k p
/-- A device with a tree of one sector, so many nodes of it written: its bytes, what the next one leads to. -/
def chainI (B at_ sec : Nat) (data : Int) : Nat → List Int × Int
  | 0 => (List.replicate (B * 64) 0, data)
  | i + 1 => (setBlk (chainI B at_ sec data i).1 (at_ + i) (nodBlock i (oneP (sec / 8 ^ i % 8) (chainI B at_ sec data i).2)), ((at_ + i : Nat) : Int))
def chain (B at_ sec : Nat) (data : Int) : List Int := (chainI B at_ sec data 3).1
end Go.Proofs.Ytbinkbdfoalbcaa
end
section
set_option linter.unusedVariables false
set_option maxRecDepth 100000
open Go Go.Am Go.RowKit
namespace Go.Proofs.Ytbinkbdfoalbcaa
open Go.Proofs.Try
theorem devOk_iff {n : Nat} : devOk n = true ↔ n % 64 = 0 ∧ 4 ≤ n / 64 ∧ n / 64 ≤ 4096 := by
  unfold devOk
  simp
theorem devOk_mul {B : Nat} (h4 : 4 ≤ B) (hB : B ≤ 4096) : devOk (B * 64) = true := devOk_iff.2 ⟨by omega, by omega, by omega⟩
theorem us_zeros (n : Nat) : us (List.replicate n 0) = List.replicate n (Value.int .u8 0) := by unfold us; rw [List.map_replicate]
theorem reps_us (n : Nat) : reps (cellsOf (Value.int .u8 0)) n = us (List.replicate n 0) := by rw [us_zeros]; exact reps_one _ _
theorem reps_is (n : Nat) : reps (cellsOf (Value.int .i64 0)) n = is (List.replicate n 0) := by rw [show cellsOf (Value.int .i64 0) = [.int .i64 0] from rfl, reps_one]; unfold is; rw [List.map_replicate]
end Go.Proofs.Ytbinkbdfoalbcaa
end
section
open Go Go.Am Go.RowKit
namespace Go.Proofs.Ytbinkbdfoalbcaa
open Go.Proofs.Try
theorem mixed : prog.follows .mixedOrders = true := by kernel_rfl
theorem routines : noRoutine prog = true := by kernel_rfl
end Go.Proofs.Ytbinkbdfoalbcaa
end
section
set_option linter.unusedVariables false
set_option maxRecDepth 100000
open Go Go.Am Go.RowKit
namespace Go.Proofs.Ytbinkbdfoalbcaa
open Go.Proofs.Try
theorem sl_own {h : Heap} {b c n : Nat} {l : List Int} (ow : Ow h b (us l)) (hl : l.length = n) (hc : Cp 1 n c) (hn : n ≤ 9223372036854775807) : Sl h (.slice (some ⟨b, 0, none⟩) n c) 1 l.length (us l) := by
  subst hl
  exact ow.all.sl (by rw [us_len, Nat.mul_one]) hn hc
end Go.Proofs.Ytbinkbdfoalbcaa
end
section
set_option linter.unusedVariables false
set_option maxRecDepth 100000
open Go Go.Am Go.RowKit
namespace Go.Proofs.Ytbinkbdfoalbcaa
open Go.Proofs.Try
end Go.Proofs.Ytbinkbdfoalbcaa
end
section
set_option linter.unusedVariables false
set_option maxRecDepth 100000
open Go Go.Am Go.RowKit
namespace Go.Proofs.Ytbinkbdfoalbcaa
open Go.Proofs.Try
/-- What a tree that is one says of its map. -/
theorem tree_spec {L : List Int} {root : Int} (hr : root ≠ 0) (h : treeOk L root = true) : TSpec L (L.length / 64) 2 root 0 (List.replicate 512 0, [], false) (treeM L root, treeN L root, false) := by
  unfold treeOk at h
  rw [show (root == 0) = false from beq_eq_false_iff_ne.2 hr, Bool.false_or, Bool.and_eq_true, Bool.not_eq_true', Bool.not_eq_true'] at h
  have hm : treeM L root = (treeW L root).1 := by unfold treeM; rw [show (root == 0) = false from beq_eq_false_iff_ne.2 hr]; rfl
  have hn : treeN L root = (treeW L root).2.1 := by unfold treeN; rw [show (root == 0) = false from beq_eq_false_iff_ne.2 hr]; rfl
  have := tgo_spec L (L.length / 64) 2 root 0 (List.replicate 512 0, [], false) (by decide) List.length_replicate rfl (fun s _ _ => by
    rw [List.getD_eq_getElem?_getD, List.getElem?_replicate]; split <;> rfl) h.1
  change TSpec L (L.length / 64) 2 root 0 (List.replicate 512 0, [], false) (treeW L root) at this
  rw [hm, hn]
  generalize treeW L root = w at *
  obtain ⟨a, b, c⟩ := w
  have hc : c = false := h.1
  subst hc
  exact this
theorem tree_at {L : List Int} {root : Int} (hr : root ≠ 0) (h : treeOk L root = true) {s : Nat} (hs : s < 512) : (treeM L root).getD s 0 = look L (L.length / 64) 3 root s := by
  have := (tree_spec hr h).m s hs
  rw [if_pos ⟨Nat.zero_le _, by simpa using hs⟩, Nat.sub_zero] at this
  exact this
end Go.Proofs.Ytbinkbdfoalbcaa
end
section
set_option linter.unusedVariables false
set_option maxRecDepth 100000
open Go Go.Am Go.RowKit
namespace Go.Proofs.Ytbinkbdfoalbcaa
open Go.Proofs.Try
theorem keepBytesS_ok {h : Heap} {v w : Value} {l m : List Int} (sl : Sl h v 1 l.length (us l)) (sm : Sl h w 1 m.length (us m)) (hm : l.length ≤ 4611686018427387904) :
    RunF prog 19 [v, w] h fun v h' => v = .bool (l == m) ∧ h = h' := by
  obtain ⟨A, c, rfl, _, hA⟩ := sl.form
  obtain ⟨B, d, rfl, _, hB⟩ := sm.form
  exact keepBytes_ok (fun hl => by obtain ⟨b, o, rfl, rd⟩ := hA hl; exact ⟨_, rfl, rd⟩) (fun hl => by obtain ⟨b, o, rfl, rd⟩ := hB hl; exact ⟨_, rfl, rd⟩) hm
def mapG (L : List Int) (root : Int) : List Int := if treeE L root = 0 then treeM L root else []
def nodG (L : List Int) (root : Int) : List Int := if treeE L root = 0 then treeN L root else []
end Go.Proofs.Ytbinkbdfoalbcaa
end
section
set_option linter.unusedVariables false
set_option maxRecDepth 100000
open Go Go.Am Go.RowKit
namespace Go.Proofs.Ytbinkbdfoalbcaa
open Go.Proofs.Try
/-- A node's pointers; of no node none. -/
def ptrsL (L : List Int) (B : Nat) (p : Int) : List Int := if p = 0 then nZero else (atV L B p).2
theorem ptrsL_len (L : List Int) (B : Nat) (p : Int) : (ptrsL L B p).length = 8 := by
  unfold ptrsL; split
  · rfl
  · exact atV_len L B p
theorem nz_get (i : Nat) : nZero.getD i 0 = 0 := by
  show (List.replicate 8 (0 : Int)).getD i 0 = 0
  rw [List.getD_eq_getElem?_getD, List.getElem?_replicate]; split <;> rfl
theorem look_suc (L : List Int) (B k : Nat) (p : Int) (s : Nat) : look L B (k + 1) p s = look L B k ((ptrsL L B p).getD (s / 8 ^ k) 0) (s % 8 ^ k) := by
  show (if p = 0 then 0 else _) = _
  unfold ptrsL
  by_cases e : p = 0
  · rw [if_pos e, if_pos e, nz_get, look_zero]
  · rw [if_neg e, if_neg e]
/-- One level more, at the end of the way. -/
theorem look_last (L : List Int) (B : Nat) : ∀ (k : Nat) (p : Int) (s : Nat), s < 8 ^ (k + 1) → look L B (k + 1) p s = (ptrsL L B (look L B k p (s / 8))).getD (s % 8) 0
  | 0, p, s, h => by
    rw [look_suc]
    show (ptrsL L B p).getD (s / 8 ^ 0) 0 = (ptrsL L B p).getD (s % 8) 0
    rw [Nat.pow_zero, Nat.div_one, Nat.mod_eq_of_lt (by simpa using h)]
  | k + 1, p, s, h => by
    have hpos : 0 < 8 ^ k := Nat.pow_pos (by decide)
    have hp : 8 ^ (k + 1) = 8 ^ k * 8 := Nat.pow_succ ..
    rw [look_suc, look_last L B k _ _ (Nat.mod_lt _ (by omega)), look_suc L B k p (s / 8)]
    have e1 : s / 8 ^ (k + 1) = s / 8 / 8 ^ k := by rw [hp, Nat.mul_comm, Nat.div_div_eq_div_mul]
    have e2 : s % 8 ^ (k + 1) / 8 = s / 8 % 8 ^ k := by rw [hp, Nat.mul_comm, Nat.mod_mul_right_div_self]
    have e3 : s % 8 ^ (k + 1) % 8 = s % 8 := by rw [hp, Nat.mul_comm, Nat.mod_mul_right_mod]
    rw [e1, e2, e3]
/-- The nodes under a pointer, from the top. -/
def nodL (L : List Int) (B : Nat) : Nat → Int → List Int
  | 0, _ => []
  | k + 1, p => if p = 0 then [] else p :: (List.range 8).flatMap fun i => nodL L B k ((ptrsL L B p).getD i 0)
theorem nodL_zero (L : List Int) (B k : Nat) : nodL L B k 0 = [] := by cases k <;> rfl
/-- Under a pointer each node is one, of its level. -/
def okA (L : List Int) (B k : Nat) (p : Int) : Prop := ∀ s, s < 8 ^ k → pathOk L B k p s
theorem okA_at {L : List Int} {B k : Nat} {p : Int} (h : okA L B (k + 1) p) (hp : p ≠ 0) : atIs L B p (k : Int) = true := (h 0 (Nat.pow_pos (by decide)) hp).1
theorem okA_zero (L : List Int) (B k : Nat) : okA L B k 0 := by
  intro s hs
  cases k with
  | zero => trivial
  | succ k => exact fun e => absurd rfl e
theorem okA_child {L : List Int} {B k : Nat} {p : Int} (h : okA L B (k + 1) p) {i : Nat} (hi : i < 8) : okA L B k ((ptrsL L B p).getD i 0) := by
  by_cases hp : p = 0
  · have : (ptrsL L B p).getD i 0 = 0 := by unfold ptrsL; rw [if_pos hp, nz_get]
    rw [this]; exact okA_zero L B k
  · intro s hs
    have hpos : 0 < 8 ^ k := Nat.pow_pos (by decide)
    have hlt : i * 8 ^ k + s < 8 ^ (k + 1) := by
      have : i * 8 ^ k + 8 ^ k ≤ 8 ^ k * 8 := by rw [← Nat.succ_mul, Nat.mul_comm]; exact Nat.mul_le_mul_left _ hi
      rw [Nat.pow_succ]; omega
    have := (h _ hlt hp).2
    have e1 : (i * 8 ^ k + s) / 8 ^ k = i := by rw [Nat.add_comm, Nat.add_mul_div_right _ _ hpos, Nat.div_eq_of_lt hs, Nat.zero_add]
    have e2 : (i * 8 ^ k + s) % 8 ^ k = s := by rw [Nat.add_comm, Nat.add_mul_mod_self_right, Nat.mod_eq_of_lt hs]
    rw [e1, e2] at this
    unfold ptrsL
    rw [if_neg hp]
    exact this
/-- A walk that ends well has met just the nodes under its pointer. -/
def NodAt (L : List Int) (B lv : Nat) : Prop := ∀ (a : Int) (f : Nat) (w : TS), w.2.2 = false → (tgo L B lv a f w).2.2 = false → (tgo L B lv a f w).2.1 = w.2.1 ++ nodL L B (lv + 1) a
theorem nod_body {L : List Int} {B lv : Nat} (hrec : ∀ k, lv = k + 1 → NodAt L B k) : NodAt L B lv := by
  intro a f w hw h
  obtain ⟨m, ns, bd⟩ := w
  simp only at hw
  subst hw
  rw [tgo_eq] at h ⊢
  unfold tbody at h ⊢
  by_cases hc : (!atIs L B a (lv : Int) || ns.contains a) = true
  · rw [if_pos hc] at h; cases h
  rw [if_neg hc] at h ⊢
  rw [Bool.or_eq_true, not_or, Bool.not_eq_true, Bool.not_eq_true, Bool.not_eq_false'] at hc
  have ha := atIs_ne hc.1
  have ha0 : a ≠ 0 := by omega
  have hp : ptrsL L B a = (atV L B a).2 := by unfold ptrsL; rw [if_neg ha0]
  have hn : nodL L B (lv + 1) a = a :: (List.range 8).flatMap fun i => nodL L B lv ((ptrsL L B a).getD i 0) := by show (if a = 0 then _ else _) = _; rw [if_neg ha0]
  rw [hn]
  change ((List.range 8).foldl (tst L B lv (atV L B a).2 f) (m, ns ++ [a], false)).2.2 = false at h
  show ((List.range 8).foldl (tst L B lv (atV L B a).2 f) (m, ns ++ [a], false)).2.1 = _
  have key : ∀ i, i ≤ 8 → ((List.range i).foldl (tst L B lv (atV L B a).2 f) (m, ns ++ [a], false)).2.1 = ns ++ a :: (List.range i).flatMap fun i => nodL L B lv ((ptrsL L B a).getD i 0) := by
    intro i
    induction i with
    | zero => intro _; rfl
    | succ i ih =>
      intro hi
      have hnb := fold_pre h (i := i) (by omega)
      have hnb1 := fold_pre h (i := i + 1) hi
      have ih := ih (by omega)
      have hstep : (List.range (i + 1)).foldl (tst L B lv (atV L B a).2 f) (m, ns ++ [a], false) = tst L B lv (atV L B a).2 f ((List.range i).foldl (tst L B lv (atV L B a).2 f) (m, ns ++ [a], false)) i := by rw [List.range_succ, List.foldl_append]; rfl
      rw [hstep] at hnb1 ⊢
      have hfl : (List.range (i + 1)).flatMap (fun i => nodL L B lv ((ptrsL L B a).getD i 0)) = (List.range i).flatMap (fun i => nodL L B lv ((ptrsL L B a).getD i 0)) ++ nodL L B lv ((ptrsL L B a).getD i 0) := by rw [List.range_succ, List.flatMap_append]; simp
      rw [hfl]
      generalize (List.range i).foldl (tst L B lv (atV L B a).2 f) (m, ns ++ [a], false) = W at *
      rw [hp] at ih ⊢
      unfold tst tstep at hnb1 ⊢
      rw [hnb, if_neg Bool.false_ne_true] at hnb1 ⊢
      generalize hpi : (atV L B a).2.getD i 0 = p at *
      have fin : ∀ X : List Int, X = W.2.1 ++ nodL L B lv p → X = ns ++ a :: ((List.range i).flatMap (fun i => nodL L B lv ((atV L B a).2.getD i 0)) ++ nodL L B lv p) := fun X e => by rw [e, ih, List.append_assoc, List.cons_append]
      by_cases hB : decide (p ≥ (B : Int)) = true
      · rw [if_pos hB] at hnb1; cases hnb1
      rw [if_neg hB] at hnb1 ⊢
      cases lv with
      | zero =>
        refine fin _ ?_
        show _ = W.2.1 ++ []
        rw [List.append_nil]
        split
        · rfl
        · split <;> rfl
      | succ k =>
        rw [if_neg (by simp)] at hnb1 ⊢
        by_cases hp0 : p = 0
        · rw [if_neg (by simp [hp0])]
          refine fin _ ?_
          rw [hp0, nodL_zero, List.append_nil]
        · rw [if_pos (bne_iff_ne.2 hp0)] at hnb1 ⊢
          exact fin _ (hrec k rfl p (f + i * 8 ^ (k + 1)) W hnb hnb1)
  exact key 8 (Nat.le_refl 8)
theorem tgo_nod (L : List Int) (B : Nat) : ∀ lv, NodAt L B lv := by
  intro lv
  induction lv with
  | zero => exact nod_body (fun k e => by cases e)
  | succ k ih => exact nod_body (fun j e => by cases e; exact ih)
/-- A walk ends well. -/
def FineAt (L : List Int) (B lv : Nat) : Prop := ∀ (a : Int) (f : Nat) (w : TS), w.2.2 = false → a ≠ 0 → okA L B (lv + 1) a → (w.2.1 ++ nodL L B (lv + 1) a).Nodup → (∀ s, s < 8 ^ (lv + 1) → look L B (lv + 1) a s < B) → (tgo L B lv a f w).2.2 = false
/-- What a tree is. -/
structure TreeIs (L : List Int) (root : Int) (m : List Int) : Prop where
  len : m.length = 512
  ok : okA L (L.length / 64) 3 root
  nd : (nodL L (L.length / 64) 3 root).Nodup
  map : ∀ s, s < 512 → look L (L.length / 64) 3 root s = m.getD s 0
  lt : ∀ s, s < 512 → m.getD s 0 < (L.length / 64 : Nat)
  out : ∀ s, s < 512 → ¬ m.getD s 0 ∈ nodL L (L.length / 64) 3 root
theorem TreeIs.of {L : List Int} {root : Int} (hB : 0 < L.length / 64) (h : treeOk L root = true) : TreeIs L root (treeM L root) ∧ treeN L root = nodL L (L.length / 64) 3 root := by
  by_cases hr : root = 0
  · subst hr
    have hz : ∀ s, (treeM L 0).getD s 0 = 0 := fun s => by
      show (List.replicate 512 (0 : Int)).getD s 0 = 0
      rw [List.getD_eq_getElem?_getD, List.getElem?_replicate]; split <;> rfl
    exact ⟨⟨treeM_len L 0, okA_zero _ _ _, by rw [nodL_zero]; exact List.nodup_nil, fun s _ => by rw [hz, look_zero], fun s _ => by rw [hz]; omega, fun s _ => by rw [nodL_zero]; simp⟩, by rw [nodL_zero]; rfl⟩
  · have S := tree_spec hr h
    have hn : treeN L root = (treeW L root).2.1 := by unfold treeN; rw [show (root == 0) = false from beq_eq_false_iff_ne.2 hr]; rfl
    have hm : treeM L root = (treeW L root).1 := by unfold treeM; rw [show (root == 0) = false from beq_eq_false_iff_ne.2 hr]; rfl
    have h2 := h
    unfold treeOk at h2
    rw [show (root == 0) = false from beq_eq_false_iff_ne.2 hr, Bool.false_or, Bool.and_eq_true, Bool.not_eq_true', Bool.not_eq_true'] at h2
    have hnod : treeN L root = nodL L (L.length / 64) 3 root := by
      have := tgo_nod L (L.length / 64) 2 root 0 (List.replicate 512 0, [], false) rfl h2.1
      rw [hn]
      exact this.trans (List.nil_append _)
    have hml := treeM_len L root
    have hmem : ∀ s, s < 512 → (treeM L root).getD s 0 ∈ treeM L root := fun s hs => by
      rw [List.getD_eq_getElem?_getD, List.getElem?_eq_getElem (by omega)]
      exact List.getElem_mem _
    refine ⟨⟨hml, fun s hs => S.path s hs, ?_, fun s hs => (tree_at hr h hs).symm, fun s hs => ?_, fun s hs c => ?_⟩, hnod⟩
    · rw [← hnod]; exact S.nd List.nodup_nil
    · rcases S.bnd _ (hmem s hs) with g | g | g
      · have := (List.mem_replicate.1 g).2; omega
      · omega
      · exact g
    · rw [← hnod] at c
      have := List.any_eq_false.1 h2.2 _ (by rw [← hm]; exact hmem s hs)
      rw [← hn] at this
      exact this (by simpa using c)
end Go.Proofs.Ytbinkbdfoalbcaa
end
section
set_option linter.unusedVariables false
set_option maxRecDepth 100000
open Go Go.Am Go.RowKit
namespace Go.Proofs.Ytbinkbdfoalbcaa
open Go.Proofs.Try
/-- The places of a tree's nodes: so far down, so far along. -/
def posL : Nat → List (Nat × Nat)
  | 0 => []
  | k + 1 => (0, 0) :: (List.range 8).flatMap fun i => (posL k).map fun x => (x.1 + 1, i * 8 ^ x.1 + x.2)
theorem posL_lt : ∀ (k : Nat) (x : Nat × Nat), x ∈ posL k → x.1 < k ∧ x.2 < 8 ^ x.1
  | 0, x, h => by cases h
  | k + 1, x, h => by
    rcases List.mem_cons.1 h with rfl | h
    · exact ⟨Nat.succ_pos _, by decide⟩
    · obtain ⟨i, hi, h⟩ := List.mem_flatMap.1 h
      obtain ⟨y, hy, rfl⟩ := List.mem_map.1 h
      rw [List.mem_range] at hi
      obtain ⟨h1, h2⟩ := posL_lt k y hy
      refine ⟨by omega, ?_⟩
      show i * 8 ^ y.1 + y.2 < 8 ^ (y.1 + 1)
      have : i * 8 ^ y.1 + 8 ^ y.1 ≤ 8 ^ y.1 * 8 := by rw [← Nat.succ_mul, Nat.mul_comm]; exact Nat.mul_le_mul_left _ hi
      rw [Nat.pow_succ]; omega
theorem posL_mem : ∀ (k d q : Nat), d < k → q < 8 ^ d → (d, q) ∈ posL k
  | 0, d, q, h, _ => absurd h (Nat.not_lt_zero _)
  | k + 1, 0, q, _, h2 => by
    have : q = 0 := by simpa using h2
    subst this
    exact List.mem_cons_self ..
  | k + 1, d + 1, q, h1, h2 => by
    have hpos : 0 < 8 ^ d := Nat.pow_pos (by decide)
    refine List.mem_cons_of_mem _ (List.mem_flatMap.2 ⟨q / 8 ^ d, List.mem_range.2 (by rw [Nat.div_lt_iff_lt_mul hpos]; rw [Nat.pow_succ, Nat.mul_comm] at h2; exact h2), List.mem_map.2 ⟨(d, q % 8 ^ d), posL_mem k d _ (by omega) (Nat.mod_lt _ hpos), ?_⟩⟩)
    show (d + 1, q / 8 ^ d * 8 ^ d + q % 8 ^ d) = _
    rw [Nat.div_add_mod']
theorem look_at {L : List Int} {B d i q : Nat} {p : Int} (hi : i < 8) (hq : q < 8 ^ d) : look L B (d + 1) p (i * 8 ^ d + q) = look L B d ((ptrsL L B p).getD i 0) q := by
  have hpos : 0 < 8 ^ d := Nat.pow_pos (by decide)
  rw [look_suc]
  have e1 : (i * 8 ^ d + q) / 8 ^ d = i := by rw [Nat.add_comm, Nat.add_mul_div_right _ _ hpos, Nat.div_eq_of_lt hq, Nat.zero_add]
  have e2 : (i * 8 ^ d + q) % 8 ^ d = q := by rw [Nat.add_comm, Nat.add_mul_mod_self_right, Nat.mod_eq_of_lt hq]
  rw [e1, e2]
theorem filter_flat {α β : Type} (f : α → List β) (p : β → Bool) : ∀ l : List α, (l.flatMap f).filter p = l.flatMap fun x => (f x).filter p
  | [] => rfl
  | x :: l => by rw [List.flatMap_cons, List.filter_append, filter_flat f p l, List.flatMap_cons]
theorem nodL_pos (L : List Int) (B : Nat) : ∀ (k : Nat) (p : Int), nodL L B k p = ((posL k).map fun x => look L B x.1 p x.2).filter (· != 0)
  | 0, p => rfl
  | k + 1, p => by
    by_cases hp : p = 0
    · subst hp
      rw [nodL_zero]
      symm
      rw [List.filter_eq_nil_iff]
      intro x hx
      obtain ⟨y, _, rfl⟩ := List.mem_map.1 hx
      rw [look_zero]; simp
    · show (if p = 0 then _ else _) = _
      rw [if_neg hp]
      show _ = List.filter _ (List.map _ ((0, 0) :: _))
      rw [List.map_cons, List.filter_cons_of_pos (by show (p != 0) = true; exact bne_iff_ne.2 hp)]
      show p :: _ = p :: _
      congr 1
      rw [List.map_flatMap, filter_flat]
      have key : ∀ l : List Nat, (∀ i ∈ l, i < 8) → (l.flatMap fun i => nodL L B k ((ptrsL L B p).getD i 0)) = l.flatMap fun i => List.filter (· != 0) (List.map (fun x => look L B x.1 p x.2) (List.map (fun x => (x.1 + 1, i * 8 ^ x.1 + x.2)) (posL k))) := by
        intro l
        induction l with
        | nil => intro _; rfl
        | cons i l ih =>
          intro hl
          rw [List.flatMap_cons, List.flatMap_cons, ih (fun j hj => hl j (List.mem_cons_of_mem _ hj)), nodL_pos L B k]
          congr 2
          rw [List.map_map]
          apply List.map_congr_left
          intro x hx
          exact (look_at (hl i (List.mem_cons_self ..)) (posL_lt k x hx).2).symm
      exact key _ (fun i hi => List.mem_range.1 hi)
theorem nodL_mem {L : List Int} {B k : Nat} {p x : Int} : x ∈ nodL L B k p ↔ x ≠ 0 ∧ ∃ d q, d < k ∧ q < 8 ^ d ∧ look L B d p q = x := by
  rw [nodL_pos, List.mem_filter, List.mem_map, bne_iff_ne]
  constructor
  · rintro ⟨⟨y, hy, rfl⟩, h0⟩
    exact ⟨h0, y.1, y.2, (posL_lt k y hy).1, (posL_lt k y hy).2, rfl⟩
  · rintro ⟨h0, d, q, hd, hq, rfl⟩
    exact ⟨⟨(d, q), posL_mem k d q hd hq, rfl⟩, h0⟩
end Go.Proofs.Ytbinkbdfoalbcaa
end
section
set_option linter.unusedVariables false
set_option linter.unusedSectionVars false
set_option maxRecDepth 100000
open Go Go.Am Go.RowKit
namespace Go.Proofs.Ytbinkbdfoalbcaa
open Go.Proofs.Try
/- An open image: what the page says of the parts. -/
theorem ptr_ge {L : List Int} {B : Nat} {p lv : Int} (h : atIs L B p lv = true) {i : Nat} (hi : i < 8) : (ptrsL L B p).getD i 0 = 0 ∨ (2 ≤ (ptrsL L B p).getD i 0 ∧ (ptrsL L B p).getD i 0 < 4096) := by
  have hp := (atIs_ne h).1
  unfold atIs at h
  rw [Bool.and_eq_true, Bool.and_eq_true, beq_iff_eq] at h
  have hv : ptrsL L B p = nPs (blkI L p.toNat) := by
    unfold ptrsL atV nodV
    rw [if_neg (by omega), if_pos h.1, if_pos h.2.1]
  have hok : nodOk (nLv (blkI L p.toNat)) (nPs (blkI L p.toNat)) = true := by
    have hc := h.2.1
    unfold nCode at hc
    split at hc
    · split at hc
      · assumption
      · cases hc
    · rename_i h1; exact absurd hc h1
  have hl := ptrsL_len L B p
  unfold nodOk at hok
  rw [Bool.and_eq_true, List.all_eq_true] at hok
  have hx := hok.1 ((ptrsL L B p).getD i 0) (by rw [← hv, List.getD_eq_getElem?_getD, List.getElem?_eq_getElem (by omega)]; exact List.getElem_mem _)
  unfold ptrB at hx
  simp only [Bool.or_eq_true, beq_iff_eq, Bool.and_eq_true, decide_eq_true_eq] at hx
  omega
theorem okA_lk {L : List Int} {B : Nat} : ∀ (k : Nat) (p : Int) (d q : Nat), okA L B k p → d < k → q < 8 ^ d → look L B d p q ≠ 0 → atIs L B (look L B d p q) ((k - 1 - d : Nat) : Int) = true
  | 0, p, d, q, _, h, _, _ => absurd h (Nat.not_lt_zero _)
  | k + 1, p, 0, q, h, _, hq, h0 => okA_at h h0
  | k + 1, p, d + 1, q, h, hd, hq, h0 => by
    have hpos : 0 < 8 ^ d := Nat.pow_pos (by decide)
    have hq8 : q / 8 ^ d < 8 := by rw [Nat.div_lt_iff_lt_mul hpos]; rw [Nat.pow_succ, Nat.mul_comm] at hq; exact hq
    rw [look_suc] at h0 ⊢
    have := okA_lk k _ d _ (okA_child h hq8) (by omega) (Nat.mod_lt _ hpos) h0
    rwa [show k + 1 - 1 - (d + 1) = k - 1 - d by omega]
theorem tree_rng {L : List Int} {root : Int} (hd : devOk L.length = true) (h : treeOk L root = true) : (∀ x ∈ treeM L root, 0 ≤ x ∧ x < (L.length / 64 : Nat)) ∧ (∀ x ∈ treeN L root, 2 ≤ x ∧ x < (L.length / 64 : Nat)) := by
  have hdl : L.length % 64 = 0 ∧ 4 ≤ L.length / 64 ∧ L.length / 64 ≤ 4096 := by
    unfold devOk at hd
    simpa using hd
  obtain ⟨t, tn⟩ := TreeIs.of (by omega) h
  constructor
  · intro x hx
    obtain ⟨s, hs, rfl⟩ := List.mem_iff_getElem.1 hx
    have hs5 : s < 512 := by rw [← t.len]; exact hs
    have hg : (treeM L root)[s] = (treeM L root).getD s 0 := by rw [List.getD_eq_getElem?_getD, List.getElem?_eq_getElem hs]; rfl
    rw [hg]
    refine ⟨?_, t.lt s hs5⟩
    rw [← t.map s hs5, look_last _ _ 2 root s (by simpa using hs5)]
    by_cases h0 : look L (L.length / 64) 2 root (s / 8) = 0
    · rw [h0]
      unfold ptrsL
      rw [if_pos rfl, nz_get]; exact Int.le_refl _
    · have := ptr_ge (okA_lk 3 root 2 (s / 8) t.ok (by decide) (by have : (8 : Nat) ^ 2 = 64 := rfl; omega) h0) (i := s % 8) (by omega)
      omega
  · intro x hx
    rw [tn] at hx
    obtain ⟨h0, d, q, hd3, hq, hl⟩ := nodL_mem.1 hx
    have := atIs_ne (okA_lk 3 root d q t.ok hd3 hq (by rw [hl]; exact h0))
    rw [hl] at this
    exact this
/-- A record is right. -/
def r8Ok (r : R8) : Bool := recOk r.nx r.id r.pa r.ro r.sz r.ki r.fr r.di
theorem rPar_ok {l : List Int} (h : rCode l = 0) : r8Ok (rPar l) = true := by
  unfold rPar
  rw [if_pos h]
  unfold rCode at h
  split at h
  · split at h
    · rename_i h2; exact h2
    · cases h
  · rename_i h1; exact absurd h h1
theorem r8_sz {r : R8} (h : r8Ok r = true) : 0 ≤ r.sz ∧ r.sz ≤ 512 := by
  have key : recIs r.nx r.id r.pa r.ro r.sz = true := by
    unfold r8Ok recOk at h
    split at h
    · rw [Bool.and_eq_true, Bool.and_eq_true] at h; exact h.1.1
    · split at h
      · rw [Bool.and_eq_true, Bool.and_eq_true] at h; exact h.1.1
      · cases h
  unfold recIs at key
  rw [Bool.and_eq_true] at key
  exact (inB_iff _ _ _).1 key.2
theorem fol_ok {L : List Int} {B : Nat} : ∀ (f : Nat) (a : Int) (l : List R8) (bs : List Int) (w : Nat), (∀ r ∈ l, r8Ok r = true) → (∀ x ∈ bs, 2 ≤ x ∧ x < (B : Int)) → l.length = bs.length → (∀ r ∈ (fol L B f a l bs w).1, r8Ok r = true) ∧ (∀ x ∈ (fol L B f a l bs w).2.1, 2 ≤ x ∧ x < (B : Int)) ∧ (fol L B f a l bs w).1.length = (fol L B f a l bs w).2.1.length ∧ (fol L B f a l bs w).2.1.length ≤ bs.length + f
  | 0, a, l, bs, w, h1, h2, h3 => ⟨h1, h2, h3, Nat.le_refl _⟩
  | f + 1, a, l, bs, w, h1, h2, h3 => by
    unfold fol
    split
    · exact ⟨h1, h2, h3, Nat.le_add_right _ _⟩
    split
    · exact ⟨h1, h2, h3, Nat.le_add_right _ _⟩
    rename_i ha hf
    split
    · exact ⟨h1, h2, h3, Nat.le_add_right _ _⟩
    rename_i hc
    rw [Bool.not_eq_true, Bool.or_eq_false_iff, bne_eq_false_iff_eq] at hc
    unfold folB at hf
    rw [Bool.not_eq_true, Bool.or_eq_false_iff, Bool.or_eq_false_iff, decide_eq_false_iff_not, decide_eq_false_iff_not] at hf
    have := fol_ok (L := L) (B := B) f (rPar (blkI L a.toNat)).nx (l ++ [rPar (blkI L a.toNat)]) (bs ++ [a]) (if (rPar (blkI L a.toNat)).ki == 0 then w + 1 else w) (fun r hr => by
      rcases List.mem_append.1 hr with g | g
      · exact h1 r g
      · rw [List.mem_singleton.1 g]; exact rPar_ok hc.1) (fun x hx => by
      rcases List.mem_append.1 hx with g | g
      · exact h2 x g
      · rw [List.mem_singleton.1 g]; omega) (by rw [List.length_append, List.length_append, h3]; rfl)
    refine ⟨this.1, this.2.1, this.2.2.1, ?_⟩
    have h4 := this.2.2.2
    rw [List.length_append, List.length_singleton] at h4
    omega
/-- The superblock that stands. -/
theorem pick_is {L : List Int} (h : (pickS L).2.2 = true) : ∃ i, i < 2 ∧ (pickS L).1 = sVal (blkI L i) ∧ (pickS L).2.1 = (i : Int) ∧ sCode (blkI L i) = 0 ∧ (pickS L).1.2.1 = ((L.length / 64 : Nat) : Int) := by
  have key : ∀ (st : S5 × Int × Bool) (i : Nat), i < 2 → (st.2.2 = true → ∃ i, i < 2 ∧ st.1 = sVal (blkI L i) ∧ st.2.1 = (i : Int) ∧ sCode (blkI L i) = 0 ∧ st.1.2.1 = ((L.length / 64 : Nat) : Int)) → ((pickStep L st i).2.2 = true → ∃ j, j < 2 ∧ (pickStep L st i).1 = sVal (blkI L j) ∧ (pickStep L st i).2.1 = (j : Int) ∧ sCode (blkI L j) = 0 ∧ (pickStep L st i).1.2.1 = ((L.length / 64 : Nat) : Int)) := by
    intro st i hi hs
    unfold pickStep
    split
    · rename_i hc
      rw [Bool.and_eq_true, beq_iff_eq, Bool.and_eq_true, beq_iff_eq] at hc
      exact fun _ => ⟨i, hi, rfl, rfl, hc.1, hc.2.1⟩
    · exact hs
  exact key _ 1 (by decide) (key _ 0 (by decide) (fun g => by cases g)) h
end Go.Proofs.Ytbinkbdfoalbcaa
end
section
set_option linter.unusedVariables false
namespace Go.Am
open Go.RowKit
/-- A slice that grows by append: a row, or one that is full. -/
def Gr (lo : Nat) (h : Heap) (v : Value) (s n : Nat) (cells : List Value) : Prop :=
  cells.length = n * s ∧ ((v = .slice none 0 0 ∧ n = 0) ∨ ∃ b c, lo ≤ b ∧ v = .slice (some ⟨b, 0, none⟩) n c ∧ (c = unkc s ∨ c = exc n) ∧ Ow h b cells)
theorem Row.gr {lo : Nat} {h : Heap} {v : Value} {s n : Nat} {cells : List Value} (r : Row lo h v s n cells) : Gr lo h v s n cells :=
  ⟨r.1, r.2.imp (fun x => x) (fun ⟨b, h1, h2, h3⟩ => ⟨b, _, h1, h2, .inl rfl, h3⟩)⟩
theorem Gr.full {lo n s b : Nat} {h : Heap} {cells : List Value} (ow : Ow h b cells) (hl : cells.length = n * s) (hb : lo ≤ b) : Gr lo h (.slice (some ⟨b, 0, none⟩) n (exc n)) s n cells := ⟨hl, .inr ⟨b, _, hb, rfl, .inr rfl, ow⟩⟩
theorem Gr.sl {lo : Nat} {h : Heap} {v : Value} {s n : Nat} {cells : List Value} (r : Gr lo h v s n cells) (hm : n ≤ 9223372036854775807) : Sl h v s n cells := by
  obtain ⟨h1, ⟨rfl, rfl⟩ | ⟨b, c, _, rfl, hc, ow⟩⟩ := r
  · exact ⟨h1, hm, .inl ⟨rfl, rfl⟩⟩
  · refine ⟨h1, hm, .inr ⟨b, 0, _, rfl, ?_, ow.all⟩⟩
    rcases hc with rfl | rfl
    · exact Cp.unkc _ _
    · exact Cp.exc (Nat.le_refl _)
theorem Gr.at {lo : Nat} {h : Heap} {v : Value} {s n b : Nat} {cells : List Value} (r : Gr lo h v s n cells) (a : At v b) : lo ≤ b ∧ b < h.next := by
  obtain ⟨m, c, rfl⟩ := a
  rcases r.2 with ⟨e, _⟩ | ⟨b', c', h1, h2, _, h3⟩
  · cases e
  · cases h2; exact ⟨h1, h3.1⟩
theorem Gr.frm {lo : Nat} {h h' : Heap} {v : Value} {s n : Nat} {cells : List Value} {M : Nat → Prop} (r : Gr lo h v s n cells) (f : Fr M h h') (hm : ∀ b, At v b → ¬ M b) : Gr lo h' v s n cells := by
  refine ⟨r.1, r.2.imp (fun x => x) ?_⟩
  rintro ⟨b, c, h1, h2, h3, h4⟩
  exact ⟨b, c, h1, h2, h3, h4.fr f (hm b ⟨_, _, h2⟩)⟩
theorem Gr.fr0 {lo : Nat} {h h' : Heap} {v : Value} {s n : Nat} {cells : List Value} (r : Gr lo h v s n cells) (f : Fr no h h') : Gr lo h' v s n cells := r.frm f (fun _ _ g => g)
theorem Gr.lo {lo lo' : Nat} {h : Heap} {v : Value} {s n : Nat} {cells : List Value} (r : Gr lo h v s n cells) (hl : lo' ≤ lo) : Gr lo' h v s n cells := by
  refine ⟨r.1, r.2.imp (fun x => x) ?_⟩
  rintro ⟨b, c, h1, h2⟩
  exact ⟨b, c, Nat.le_trans hl h1, h2⟩
section
variable {P : Program} {n : Nat} {ops rest : List Oper} {m : Nat → Prop} {E E1 : Env} {h h1 : Heap}
theorem append_gr {t e : TypeId} {i : TypeInfo} {z : Value} {lo s k j c' : Nat} {xv : Value} {cells news : List Value} {a : Addr}
    (hu : P.underlying t = some (.slice e)) (hi : P.info? e = some i) (hz : zeroOf P e = some z) (hlz : lenIs (cellsOf z) i.size = true) (hs : i.size = s) (hs1 : 1 ≤ s) (row : Gr lo h xv s k cells)
    (rd : Rd h a news) (hn : news.length = j * s) (hm : 1 ≤ j) (ha : allCells news = true) (hb : 2 * (k + j) * i.bytes ≤ 281474976710656) (hb2 : k + j ≤ 9223372036854775807) :
    ∃ v' h', aappend P h t t xv (.slice (some a) j c') = some (v', h') ∧ Row h.next h' v' s (k + j) (cells ++ news) ∧ Fr (At xv) h h' := by
  rcases row.2 with ⟨rfl, hk⟩ | ⟨b, c, hb1, rfl, hc, ow⟩
  · exact append_row2 (lo := lo) hu hi hz hlz hs hs1 ⟨row.1, .inl ⟨rfl, hk⟩⟩ rd hn hm ha hb hb2
  · rcases hc with rfl | rfl
    · exact append_row2 (lo := lo) hu hi hz hlz hs hs1 ⟨row.1, .inr ⟨b, hb1, rfl, ow⟩⟩ rd hn hm ha hb hb2
    · refine ⟨_, _, append_full hu hi hz hlz hs hs1 ow.all row.1 ?_ ?_ rd hn hm hb hb2, ⟨by rw [List.length_append, row.1, hn, Nat.add_mul], .inr ⟨_, Nat.le_refl _, rfl, Ow.push _ _⟩⟩, Fr.push _ _ _⟩
      · unfold isUnk exc
        show Nat.beq (2 * k % 2) 1 = false
        rw [show 2 * k % 2 = 0 by omega]; rfl
      · unfold half exc
        show 2 * k / 2 < k + j
        omega
theorem RunW.appendG {Q : Env → Heap → List Fp → Prop} {d : Tmp} {t ty e : TypeId} {x y : Operand} {pos : String} {after : Array Edge} {gd : Option (Nat × Bool)} {i : TypeInfo} {z : Value} {lo s k j c' : Nat} {xv : Value} {cells news : List Value} {a : Addr}
    (hw : ewanted ops E ⟨some d, .call ⟨.builtin .append, #[x, y], #[t, t]⟩, ty, pos, after, gd⟩ = some true) (hx : gE E x = some xv) (hy : gE E y = some (.slice (some a) j c')) (hd : Nat.ble (Nat.succ d) n = true)
    (hu : P.underlying t = some (.slice e)) (hi : P.info? e = some i) (hz : zeroOf P e = some z) (hlz : lenIs (cellsOf z) i.size = true) (hs : i.size = s) (hs1 : 1 ≤ s) (row : Gr lo h xv s k cells)
    (rd : Rd h a news) (hn : news.length = j * s) (hm : 1 ≤ j) (ha : allCells news = true) (hb : 2 * (k + j) * i.bytes ≤ 281474976710656) (hb2 : k + j ≤ 9223372036854775807) (hmm : ∀ b, At xv b → m b)
    (r : ∀ v' h', Row h.next h' v' s (k + j) (cells ++ news) → Fr (At xv) h h' → RunW P n ops rest m (upd E d v') h' (fun E' h' fs => Q E' h' (.wr (idsOf [xv, .slice (some a) j c']) :: fs))) : RunW P n ops (⟨some d, .call ⟨.builtin .append, #[x, y], #[t, t]⟩, ty, pos, after, gd⟩ :: rest) m E h Q := by
  obtain ⟨v', h', h1, h2, h3⟩ := append_gr (h := h.lo h.next) (c' := c') hu hi hz hlz hs hs1 row rd hn hm ha hb hb2
  refine RunW.oneG (v := v') (f := .wr (idsOf [xv, .slice (some a) j c'])) (h1 := h') (E1 := upd E d v') hw ?_ ?_ (h3.weak (fun b g => .inl (hmm b g))) (by simp only [eput, hd, cond_true]) (r v' h' h2 ?_)
  · simp only [eop, gs, hx, hy, abuiltin, h1]
  · intro q; simp only [fpE, gs, hx, hy, Array.toList]
  · exact ⟨h3.next, h3.get, fun l a b c => h3.low l b b c⟩
end
end Go.Am
end
section
set_option linter.unusedVariables false
set_option linter.unusedSectionVars false
set_option maxRecDepth 100000
open Go Go.Am Go.RowKit
namespace Go.Proofs.Ytbinkbdfoalbcaa
open Go.Proofs.Try
def bey (m : List Int) (k : Int) : Bool := (m.drop k.toNat).any (· != 0)
theorem beyondC_ok {h : Heap} {b : Int} : RunF prog 106 [.int .i64 b] h fun v h' => v = .bool (b != 0) ∧ Fr no h h' := by
  refine RunF.walk func106 rfl rfl ?_
  refine RunC.seq (RunC.region (RunO.all rfl ?_))
  exact RunC.seq (RunC.region (RunO.all rfl (RunC.ret ⟨_, rfl, rfl, Fr.refl _ _⟩)))
theorem openBeyond_ok {h : Heap} {mv : Value} {m : List Int} {k : Nat} (sl : Sl h mv 1 512 (is m)) (hm : m.length = 512) (hk : k ≤ 512) : RunF prog 73 [mv, .int .i64 (k : Int)] h fun v h' => v = .bool (bey m (k : Int)) ∧ Fr no h h' := by
  refine RunF.walk func73 rfl rfl ?_
  have sl0 := sl
  obtain ⟨A, c, rfl, _, _⟩ := sl.form
  refine RunC.seq (RunC.region (RunO.all rfl ?_))
  refine RunC.seq (RunC.region (RunO.part 2 rfl ?_))
  refine RunO.sliceSl (s := 1) (len := 512) rfl rfl rfl rfl rfl sl0 (.some _ _ _) (.none _) hk (Nat.le_refl _) rfl ?_
  intro tv st
  have hdl : (m.drop k).length = 512 - k := by rw [List.length_drop, hm]
  have st : Sl h tv 1 (m.drop k).length (is (m.drop k)) := by
    rw [hdl]
    rw [Nat.mul_one, Nat.mul_one] at st
    have e : is (m.drop k) = ((is m).drop k).take (512 - k) := by
      unfold is
      rw [← List.map_drop, List.take_of_length_le (by rw [List.length_map, hdl]; exact Nat.le_refl _)]
    rw [e]; exact st
  refine RunO.callD (containsI_ok st (u := fun j => .int .i64 ((m.drop k).getD j 0)) (cap := []) (fun j hj => ?_) (p := fun j => (m.drop k).getD j 0 != 0) (fun j hj h5 f5 => ?_) (by omega)) rfl rfl rfl ?_
  · rw [is_part hj, List.getD_eq_getElem?_getD, List.getElem?_eq_getElem hj]; rfl
  · exact beyondC_ok
  rintro _ h2 ⟨rfl, f2⟩
  rw [anyI_list (l := m.drop k) (q := (· != 0)) (fun j x hx => by rw [List.getD_eq_getElem?_getD, hx]; rfl)]
  exact RunO.all rfl (RunC.ret ⟨_, rfl, rfl, f2⟩)
/- What Look tells. -/
def lkS (L : List Int) : S5 := (pickS L).1
def lkF (L : List Int) : List R8 × List Int × Nat × Int := folOf L (lkS L).2.2.2.2
def lkR (L : List Int) : List (Int × Int) := ((lkS L).2.2.1, (lkS L).2.2.2.1) :: (lkF L).1.map fun r => (r.ro, r.sz)
def lkX (L : List Int) (p : Int × Int) : Bool := !treeOk L p.1 || bey (treeM L p.1) p.2
def lkT (L : List Int) : List (List Int × List Int) := (lkR L).map fun p => (treeM L p.1, treeN L p.1)
def clV (B : Nat) (bl : List Int) (T : List (List Int × List Int)) : Int := match (List.range B).find? (clP bl (T.map fun t => (0, t))) with
  | some i => (i : Int)
  | none => 0
def lkC (L : List Int) : Int := clV (L.length / 64) (lkF L).2.1 (lkT L)
def lkM (L : List Int) : Int × Int := match (lkR L).find? (lkX L) with
  | some p => (p.1, 6)
  | none => (lkC L, if lkC L = 0 then 0 else 6)
def lk (L : List Int) : Int × Int := if devOk L.length then (if (pickS L).2.2 then (if (lkF L).2.2.2 = 0 then lkM L else ((lkF L).2.2.2, 7)) else (0, 8)) else (0, 2)
/-- An open image in memory. -/
def LkR (lo : Nat) (h : Heap) (xb : Nat) (L : List Int) : Prop :=
  ∃ rv bv tv TL, lo ≤ xb ∧ Ow h xb (imc (lkS L) (pickS L).2.1 rv bv tv) ∧ Row lo h rv 8 (lkF L).1.length (recCs (lkF L).1) ∧ Row lo h bv 1 (lkF L).2.1.length (is (lkF L).2.1) ∧ Sl h tv 1 TL.length (tps TL) ∧ TL.map (·.2) = lkT L ∧ ∀ t ∈ TL, TrOk (L.length / 64) h t
theorem clP_snd (bl : List Int) (TL : List Tr3) (j : Nat) : clP bl TL j = clP bl ((TL.map (·.2)).map fun t => (0, t)) j := by
  have e1 : isS TL j = isS ((TL.map (·.2)).map fun t => (0, t)) j := by
    unfold isS; rw [List.map_map, List.any_map]; rfl
  have e2 : isN TL j = isN ((TL.map (·.2)).map fun t => (0, t)) j := by
    unfold isN; rw [List.map_map, List.any_map]; rfl
  unfold clP
  rw [e1, e2]
/-- A tree's blocks, apart from what Look writes. -/
def TrW (B : Nat) (h : Heap) (xb : Nat) (tv : Value) (t : Tr3) : Prop :=
  ∃ iv mb nv, Ow h t.1 (wc iv B (.slice (some ⟨mb, 0, none⟩) 512 (exc 512)) nv false) ∧ Ow h mb (is t.2.1) ∧ Row 0 h nv 1 t.2.2.length (is t.2.2) ∧ t.2.1.length = 512 ∧ t.2.2.length ≤ 73 ∧ (∀ x ∈ t.2.1, 0 ≤ x ∧ x < (B : Int)) ∧ (∀ x ∈ t.2.2, 2 ≤ x ∧ x < (B : Int)) ∧
    (t.1 ≠ xb ∧ ¬ At tv t.1) ∧ (mb ≠ xb ∧ ¬ At tv mb) ∧ ∀ b, At nv b → b ≠ xb ∧ ¬ At tv b
theorem TrW.ok {B : Nat} {h : Heap} {xb : Nat} {tv : Value} {t : Tr3} (r : TrW B h xb tv t) : TrOk B h t := by
  obtain ⟨iv, mb, nv, h1, h2, h3, h4, h5, h6, h7, _⟩ := r
  exact ⟨iv, _, nv, h1, by rw [h4]; exact h2.all.sl (by rw [is_len, h4]) (by decide) (Cp.exc (Nat.le_refl _)), h3.sl (by omega), h4, by omega, h6, fun x hx => by have := h7 x hx; omega⟩
theorem TrW.step {B : Nat} {h h' : Heap} {xb : Nat} {tv tv' : Value} {t : Tr3} (r : TrW B h xb tv t) (f : Fr (fun b => b = xb ∨ At tv b) h h') (hn : ∀ b, At tv' b → h.next ≤ b) : TrW B h' xb tv' t := by
  obtain ⟨iv, mb, nv, h1, h2, h3, h4, h5, h6, h7, ⟨g1, g2⟩, ⟨g3, g4⟩, g5⟩ := r
  refine ⟨iv, mb, nv, h1.fr f (fun g => g.elim g1 g2), h2.fr f (fun g => g.elim g3 g4), h3.frm f (fun b g e => e.elim (g5 b g).1 (g5 b g).2), h4, h5, h6, h7, ⟨g1, fun g => ?_⟩, ⟨g3, fun g => ?_⟩, fun b g => ⟨(g5 b g).1, fun e => ?_⟩⟩
  · have := hn _ g; have := h1.1; omega
  · have := hn _ g; have := h2.1; omega
  · have := hn _ e; have := (h3.at g).2; omega
theorem idsG {lo s k n c kb tb : Nat} {h : Heap} {lv : Value} {cells : List Value} (r : Gr lo h lv s k cells) (h1 : ∀ b, At lv b → b ≠ kb) (h2 : tb ≠ kb) : fpOk (.wr (idsOf [lv, .slice (some ⟨tb, 0, none⟩) n c])) (.rd kb) = true := by
  have key : ∀ l : List Nat, ¬ kb ∈ l → memN kb l = false := by
    intro l
    induction l with
    | nil => intro _; rfl
    | cons x l ih =>
      intro g
      simp only [List.mem_cons, not_or] at g
      unfold memN
      rw [show Nat.beq kb x = false from by cases e : Nat.beq kb x with | false => rfl | true => exact absurd (Nat.eq_of_beq_eq_true e) g.1]
      simpa using ih g.2
  show (!memN kb _) = true
  rw [key]
  · rfl
  · rcases r.2 with ⟨rfl, _⟩ | ⟨b, _, _, rfl, _⟩
    · simp only [idsOf, List.mem_cons, List.not_mem_nil, or_false]
      omega
    · have := h1 b ⟨_, _, rfl⟩
      simp only [idsOf, List.mem_cons, List.not_mem_nil, or_false]
      omega
theorem find_first {α : Type} {p : α → Bool} : ∀ {l : List α} {i : Nat} (hi : i < l.length), (∀ j (hj : j < l.length), j < i → p l[j] = false) → p l[i] = true → l.find? p = some l[i]
  | x :: l, 0, hi, _, h => by
    have h : p x = true := h
    rw [List.find?_cons_of_pos h]; rfl
  | x :: l, i + 1, hi, ha, h => by
    have h0 : p x = false := ha 0 (Nat.zero_lt_succ _) (Nat.zero_lt_succ _)
    rw [List.find?_cons_of_neg (by rw [h0]; simp)]
    exact find_first (l := l) (i := i) (by simpa using hi) (fun j hj hji => ha (j + 1) (by simpa using hj) (by omega)) h
theorem clV_some {B : Nat} {bl : List Int} {TL : List Tr3} {i : Nat} (hi : i < B) (h : clP bl TL i = true) (hn : ∀ j, j < i → clP bl TL j = false) : clV B bl (TL.map (·.2)) = (i : Int) := by
  unfold clV
  have := find_first (p := clP bl ((TL.map (·.2)).map fun t => (0, t))) (l := List.range B) (i := i) (by rw [List.length_range]; exact hi) (fun j hj hji => by rw [List.getElem_range, ← clP_snd]; exact hn j hji) (by rw [List.getElem_range, ← clP_snd]; exact h)
  rw [this, List.getElem_range]
theorem clV_none {B : Nat} {bl : List Int} {TL : List Tr3} (hn : ∀ j, j < B → clP bl TL j = false) : clV B bl (TL.map (·.2)) = 0 := by
  unfold clV
  rw [List.find?_eq_none.2 (fun j hj => by rw [← clP_snd, hn j (List.mem_range.1 hj)]; simp)]
theorem clP_zero {bl : List Int} {TL : List Tr3} (hb : ∀ x ∈ bl, 2 ≤ x) (hn : ∀ t ∈ TL, ∀ x ∈ t.2.2, 2 ≤ x) : clP bl TL 0 = false := by
  have e1 : isS TL 0 = false := by
    unfold isS
    rw [List.any_eq_false]
    intro t _; simp
  have e2 : isN TL 0 = false := by
    unfold isN
    rw [List.any_eq_false]
    intro t ht g
    have := hn t ht _ (List.contains_iff_mem.1 g)
    omega
  unfold clP
  rw [e1, e2]; rfl
theorem Gr.ge {lo s n : Nat} {h : Heap} {v : Value} {cells : List Value} (r : Gr lo h v s n cells) : ∀ b o m c, v = .slice (some ⟨b, o, none⟩) m c → lo ≤ b := by
  intro b o m c e
  rcases r.2 with ⟨rfl, _⟩ | ⟨b', c', h1, rfl, _, _⟩
  · cases e
  · cases e; exact h1
theorem ix_at {l : List Int} {i : Nat} {x : Int} (h : l[i]? = some x) : apart prog 3 (is l) (i * 1) = some (.int .i64 x) := by
  have hi : i < l.length := (List.getElem?_eq_some_iff.1 h).1
  have hx : l[i] = x := (List.getElem?_eq_some_iff.1 h).2
  rw [is_part hi, hx]
theorem TrW.fr0 {B : Nat} {h h' : Heap} {xb : Nat} {tv : Value} {t : Tr3} (r : TrW B h xb tv t) (f : Fr no h h') : TrW B h' xb tv t := by
  obtain ⟨iv, mb, nv, h1, h2, h3, h4, h5, h6, h7, h8⟩ := r
  exact ⟨iv, mb, nv, h1.fr f (fun g => g), h2.fr f (fun g => g), h3.fr f (fun _ _ _ g => g), h4, h5, h6, h7, h8⟩
end Go.Proofs.Ytbinkbdfoalbcaa
end
section
set_option linter.unusedVariables false
set_option linter.unusedSectionVars false
set_option maxRecDepth 100000
open Go Go.Am Go.RowKit
namespace Go.Proofs.Ytbinkbdfoalbcaa
open Go.Proofs.Try
theorem lkS_sz {L : List Int} (h : (pickS L).2.2 = true) : 0 ≤ (lkS L).2.2.2.1 ∧ (lkS L).2.2.2.1 ≤ 512 := by
  obtain ⟨i, hi, e, _, hc, _⟩ := pick_is h
  unfold lkS
  rw [e]
  unfold sVal
  rw [if_pos hc]
  unfold sCode at hc
  split at hc
  · split at hc
    · rename_i h2
      exact ((superOk_iff _ _ _ _ _).1 h2).2.2.1
    · cases hc
  · rename_i h1; exact absurd hc h1
theorem lkR_sz {L : List Int} (h : (pickS L).2.2 = true) : ∀ p ∈ lkR L, 0 ≤ p.2 ∧ p.2 ≤ 512 := by
  intro p hp
  rcases List.mem_cons.1 hp with e | g
  · rw [e]; exact lkS_sz h
  · obtain ⟨r, hr, rfl⟩ := List.mem_map.1 g
    have := (fol_ok (L := L) (B := L.length / 64) (L.length / 64) (lkS L).2.2.2.2 [] [] 0 (fun r h => absurd h List.not_mem_nil) (fun x h => absurd h List.not_mem_nil) rfl).1 r hr
    exact r8_sz this
set_option maxHeartbeats 64000000 in
theorem openLook_ok {h : Heap} {iv : Value} {L : List Int} (sl : Sl h iv 1 L.length (us L)) (hb : Byt L) (hm : L.length ≤ 4611686018427387904) :
    RunF prog 45 [iv] h fun v h' => Fr no h h' ∧ (((lk L).2 = 0 ∧ ∃ xb, v = .tuple #[.pointer (some ⟨xb, 0, none⟩), .int .i64 0, .int .i64 0] ∧ LkR h.next h' xb L) ∨ ((lk L).2 ≠ 0 ∧ v = .tuple #[.pointer none, .int .i64 (lk L).1, .int .i64 (lk L).2])) := by
  refine RunF.walk func45 rfl rfl ?_
  have sl0 := sl
  obtain ⟨A, c, rfl, hc, hA⟩ := sl.form
  have hlk : lk L = if devOk L.length then (if (pickS L).2.2 then (if (lkF L).2.2.2 = 0 then lkM L else ((lkF L).2.2.2, 7)) else (0, 8)) else (0, 2) := rfl
  refine RunC.seq (RunC.region (RunO.all rfl ?_))
  refine RunC.seq (RunC.region (RunO.part 1 rfl ?_))
  refine RunO.callD (devCheck_ok hm) rfl rfl rfl ?_
  rintro _ _ ⟨rfl, rfl⟩
  refine RunO.all rfl ?_
  cases hd : devOk L.length with
  | false =>
    rw [hd, if_neg Bool.false_ne_true] at hlk
    rw [hlk]
    refine RunC.seq (RunC.seq (RunC.region (RunO.all rfl (RunC.cond rfl (fun _ => ?_) (fun g => by cases g)))))
    exact RunC.seq (RunC.region (RunO.all rfl (RunC.ret ⟨_, rfl, Fr.refl _ _, .inr ⟨by decide, rfl⟩⟩)))
  | true =>
  rw [hd, if_pos rfl] at hlk
  have hdl : L.length % 64 = 0 ∧ 4 ≤ L.length / 64 ∧ L.length / 64 ≤ 4096 := by
    unfold devOk at hd
    simpa using hd
  obtain ⟨B, hB⟩ : ∃ B, B = L.length / 64 := ⟨_, rfl⟩
  rw [if_pos rfl, if_pos rfl, ← hB]
  refine RunC.seq (RunC.seq (RunC.region (RunO.all rfl (RunC.cond rfl (fun g => by cases g) (fun _ => RunC.skip ?_)))))
  -- the image's struct
  refine RunC.seq (RunC.region (RunO.all (h1 := h.push ⟨imc (0, 0, 0, 0, 0) 0 (.slice none 0 0) (.slice none 0 0) (.slice none 0 0), true⟩) rfl ?_))
  have ox := Ow.push h (imc (0, 0, 0, 0, 0) 0 (.slice none 0 0) (.slice none 0 0) (.slice none 0 0))
  have f1 : Fr no h (h.push ⟨imc (0, 0, 0, 0, 0) 0 (.slice none 0 0) (.slice none 0 0) (.slice none 0 0), true⟩) := Fr.push _ _ _
  generalize h.push ⟨imc (0, 0, 0, 0, 0) 0 (.slice none 0 0) (.slice none 0 0) (.slice none 0 0), true⟩ = h1 at *
  obtain ⟨xb, hxb⟩ : ∃ q, q = h.next := ⟨_, rfl⟩
  rw [← hxb] at ox ⊢
  -- the superblock
  refine RunC.seq (RunC.region (RunO.part 3 rfl ?_))
  refine RunO.callD (superPick_ok (fun g => by obtain ⟨b, o, e, rd⟩ := hA (by omega); exact ⟨_, e, rd.fr f1 (fun g => g)⟩) hb hc hm) rfl rfl rfl ?_
  rintro _ h2 ⟨rfl, f2⟩
  have hpc : pickCode L = if (pickS L).2.2 then 0 else 8 := by unfold pickCode; rw [hd, if_pos rfl]
  replace ox := ox.fr f2 (fun g => g)
  have F2 := f1.same f2
  cases hpk : (pickS L).2.2 with
  | false =>
    rw [hpk, if_neg Bool.false_ne_true] at hpc hlk
    rw [hpc, hlk]
    refine RunO.part 7 rfl ?_
    refine RunO.store rfl rfl (store_ow (s := 5) ox rfl rfl rfl (Nat.le_of_ble_eq_true rfl)) ?_
    have ox2 : Ow (h2.put xb (some ⟨imc (0, 0, 0, 0, 0) 0 (.slice none 0 0) (.slice none 0 0) (.slice none 0 0), true⟩)) xb (imc (0, 0, 0, 0, 0) 0 (.slice none 0 0) (.slice none 0 0) (.slice none 0 0)) := Ow.put _ ox.1
    have g2 : Fr no h (h2.put xb (some ⟨imc (0, 0, 0, 0, 0) 0 (.slice none 0 0) (.slice none 0 0) (.slice none 0 0), true⟩)) := F2.trans (Fr.put (m := (· = xb)) _ (.inl rfl)) (fun b e => .inr (by omega))
    show RunO prog _ _ _ _ (h2.put xb (some ⟨imc (0, 0, 0, 0, 0) 0 (.slice none 0 0) (.slice none 0 0) (.slice none 0 0), true⟩)) _
    generalize h2.put xb (some ⟨imc (0, 0, 0, 0, 0) 0 (.slice none 0 0) (.slice none 0 0) (.slice none 0 0), true⟩) = h3 at *
    refine RunO.part 3 rfl ?_
    refine RunO.store rfl rfl (store1_ow ox2 rfl rfl rfl (Nat.le_of_ble_eq_true rfl)) ?_
    have g3 : ∀ x, Fr no h (h3.put xb x) := fun x => g2.trans (Fr.put (m := (· = xb)) _ (.inl rfl)) (fun b e => .inr (by omega))
    refine RunO.all rfl ?_
    refine RunC.seq (RunC.seq (RunC.region (RunO.all rfl (RunC.cond rfl (fun _ => ?_) (fun g => by cases g)))))
    exact RunC.seq (RunC.region (RunO.all rfl (RunC.ret ⟨_, rfl, g3 _, .inr ⟨by decide, rfl⟩⟩)))
  | true =>
  rw [hpk, if_pos rfl] at hpc hlk
  rw [hpc, if_pos rfl, if_pos rfl]
  have hsz := lkR_sz hpk
  have hlkF : lkF L = folOf L (lkS L).2.2.2.2 := rfl
  have hS : (pickS L).1 = lkS L := rfl
  rw [hS]
  obtain ⟨s, hs⟩ : ∃ s, s = lkS L := ⟨_, rfl⟩
  obtain ⟨slot, hsl⟩ : ∃ s, s = (pickS L).2.1 := ⟨_, rfl⟩
  rw [← hs] at hlkF ⊢
  rw [← hsl]
  refine RunO.part 7 rfl ?_
  refine RunO.store rfl rfl (store_ow (s := 5) ox rfl rfl rfl (Nat.le_of_ble_eq_true rfl)) ?_
  have ox2 : Ow (h2.put xb (some ⟨imc s 0 (.slice none 0 0) (.slice none 0 0) (.slice none 0 0), true⟩)) xb (imc s 0 (.slice none 0 0) (.slice none 0 0) (.slice none 0 0)) := Ow.put _ ox.1
  have F3 : Fr no h (h2.put xb (some ⟨imc s 0 (.slice none 0 0) (.slice none 0 0) (.slice none 0 0), true⟩)) := F2.trans (Fr.put (m := (· = xb)) _ (.inl rfl)) (fun b e => .inr (by omega))
  show RunO prog _ _ _ _ (h2.put xb (some ⟨imc s 0 (.slice none 0 0) (.slice none 0 0) (.slice none 0 0), true⟩)) _
  generalize h2.put xb (some ⟨imc s 0 (.slice none 0 0) (.slice none 0 0) (.slice none 0 0), true⟩) = h3 at *
  refine RunO.part 3 rfl ?_
  refine RunO.store rfl rfl (store1_ow ox2 rfl rfl rfl (Nat.le_of_ble_eq_true rfl)) ?_
  have ox3 : Ow (h3.put xb (some ⟨imc s slot (.slice none 0 0) (.slice none 0 0) (.slice none 0 0), true⟩)) xb (imc s slot (.slice none 0 0) (.slice none 0 0) (.slice none 0 0)) := Ow.put _ ox2.1
  have F4 : Fr no h (h3.put xb (some ⟨imc s slot (.slice none 0 0) (.slice none 0 0) (.slice none 0 0), true⟩)) := F3.trans (Fr.put (m := (· = xb)) _ (.inl rfl)) (fun b e => .inr (by omega))
  show RunO prog _ _ _ _ (h3.put xb (some ⟨imc s slot (.slice none 0 0) (.slice none 0 0) (.slice none 0 0), true⟩)) _
  generalize h3.put xb (some ⟨imc s slot (.slice none 0 0) (.slice none 0 0) (.slice none 0 0), true⟩) = h4 at *
  clear ox ox2 F3 F2
  refine RunO.all rfl ?_
  refine RunC.seq (RunC.seq (RunC.region (RunO.all rfl (RunC.cond rfl (fun g => by cases g) (fun _ => RunC.skip ?_)))))
  -- the records
  refine RunC.seq (RunC.region (RunO.part 6 rfl ?_))
  refine RunO.load (v := .int .i64 s.2.2.2.2) rfl (ox3.ld rfl) rfl ?_
  refine RunO.callD (openFollow_ok (a := s.2.2.2.2) (sl0.fr0 F4) hb hd) rfl rfl rfl ?_
  rintro _ h5 ⟨f5, kb, rfl, lv, bv, hkb, ok, rl, rb⟩
  have hkx : xb < h4.next := ox3.1
  replace ox3 := ox3.fr f5 (fun g => g)
  have F5 := F4.same f5
  rw [← hlkF] at ok rl rb
  -- more
  obtain ⟨lr, hlr⟩ : ∃ x, x = (lkF L).1 := ⟨_, rfl⟩
  obtain ⟨lb, hlb⟩ : ∃ x, x = (lkF L).2.1 := ⟨_, rfl⟩
  have hff := fol_ok (L := L) (B := L.length / 64) (L.length / 64) s.2.2.2.2 [] [] 0 (fun r h => absurd h List.not_mem_nil) (fun x h => absurd h List.not_mem_nil) rfl
  have hff : (∀ x ∈ lb, 2 ≤ x ∧ x < (B : Int)) ∧ lr.length = lb.length ∧ lb.length ≤ B := by
    rw [hlr, hlb, hlkF, hB]
    unfold folOf
    refine ⟨hff.2.1, hff.2.2.1, ?_⟩
    have := hff.2.2.2
    simpa using this
  obtain ⟨hlbr, hlrl, hlbl⟩ := hff
  rw [← hlr] at rl
  rw [← hlb] at rb
  have slr := rl.sl (by omega)
  obtain ⟨lA, lc, rfl, _, _⟩ := slr.form
  refine RunO.all rfl ?_
  refine RunC.seq (RunC.seq (RunC.region (RunO.part 3 rfl ?_)))
  refine RunO.load (v := .int .i64 (lkF L).2.2.2) rfl (ok.ld rfl) rfl (RunO.all rfl ?_)
  by_cases hbad : (lkF L).2.2.2 = 0
  case neg =>
    rw [if_neg hbad] at hlk
    rw [hlk, show ((lkF L).2.2.2 != 0) = true from bne_iff_ne.2 hbad]
    refine RunC.cond rfl (fun _ => ?_) (fun g => by cases g)
    refine RunC.seq (RunC.draw0 rfl (RunO.part 3 rfl ?_))
    refine RunO.load (v := .int .i64 (lkF L).2.2.2) rfl (ok.ld rfl) rfl (RunO.all rfl ?_)
    exact RunC.ret ⟨_, rfl, F5, .inr ⟨by show (7 : Int) ≠ 0; decide, rfl⟩⟩
  rw [if_pos hbad] at hlk
  rw [show ((lkF L).2.2.2 != 0) = false from by rw [hbad]; rfl]
  refine RunC.cond rfl (fun g => by cases g) (fun _ => RunC.skip ?_)
  have hkk : kb ≠ xb := by omega
  have hlx : ∀ b, At (.slice lA lr.length lc) b → b ≠ xb := fun b g => by have := (rl.at g).1; omega
  have hbx : ∀ b, At bv b → b ≠ xb := fun b g => by have := (rb.at g).1; omega
  refine RunC.seq (RunC.draw0 rfl (RunO.part 5 rfl ?_))
  refine RunO.load (v := .slice lA lr.length lc) rfl (ok.ld rfl) rfl ?_
  refine RunO.part 3 rfl ?_
  refine RunO.load (v := bv) rfl (ok.ld rfl) rfl ?_
  refine RunO.part 3 rfl ?_
  refine RunO.store rfl rfl (store1_ow ox3 rfl (rl.cell).1 (rl.cell).2 (Nat.le_of_ble_eq_true rfl)) ?_
  have ox4 : Ow (h5.put xb (some ⟨imc s slot (.slice lA lr.length lc) (.slice none 0 0) (.slice none 0 0), true⟩)) xb (imc s slot (.slice lA lr.length lc) (.slice none 0 0) (.slice none 0 0)) := Ow.put _ ox3.1
  have fp1 : Fr (· = xb) h5 (h5.put xb (some ⟨imc s slot (.slice lA lr.length lc) (.slice none 0 0) (.slice none 0 0), true⟩)) := Fr.put _ (.inl rfl)
  show RunO prog _ _ _ _ (h5.put xb (some ⟨imc s slot (.slice lA lr.length lc) (.slice none 0 0) (.slice none 0 0), true⟩)) _
  generalize h5.put xb (some ⟨imc s slot (.slice lA lr.length lc) (.slice none 0 0) (.slice none 0 0), true⟩) = h6 at *
  refine RunO.part 2 rfl ?_
  refine RunO.store rfl rfl (store1_ow ox4 rfl (rb.cell).1 (rb.cell).2 (Nat.le_of_ble_eq_true rfl)) (RunO.nil ?_)
  have ox5 : Ow (h6.put xb (some ⟨imc s slot (.slice lA lr.length lc) bv (.slice none 0 0), true⟩)) xb (imc s slot (.slice lA lr.length lc) bv (.slice none 0 0)) := Ow.put _ ox4.1
  have fp2 : Fr (· = xb) h6 (h6.put xb (some ⟨imc s slot (.slice lA lr.length lc) bv (.slice none 0 0), true⟩)) := Fr.put _ (.inl rfl)
  show RunC prog _ _ _ (h6.put xb (some ⟨imc s slot (.slice lA lr.length lc) bv (.slice none 0 0), true⟩)) _ _ _
  generalize h6.put xb (some ⟨imc s slot (.slice lA lr.length lc) bv (.slice none 0 0), true⟩) = h7 at *
  have fp := fp1.same fp2
  replace ok := ok.fr fp hkk
  replace rl := rl.frm fp (fun b g e => hlx b g e)
  replace rb := rb.frm fp (fun b g e => hbx b g e)
  have F7 : Fr no h h7 := F5.trans fp (fun b e => .inr (by have e : b = xb := e; omega))
  clear ox3 ox4 fp1 fp2 fp F5 F4 slr
  have slr := rl.sl (by omega)
  -- the roots, the sizes
  refine RunC.seq (RunC.draw0 rfl (RunO.part 5 rfl ?_))
  refine RunO.load (v := .int .i64 s.2.2.1) rfl (ox5.ld rfl) rfl ?_
  refine RunO.part 1 (h1 := h7.push ⟨is [s.2.2.1], true⟩) rfl ?_
  have or := Ow.push h7 (is [s.2.2.1])
  have f8 : Fr no h7 (h7.push ⟨is [s.2.2.1], true⟩) := Fr.push _ _ _
  generalize h7.push ⟨is [s.2.2.1], true⟩ = h8 at *
  have hxq := ox5.1
  obtain ⟨rq, hrq⟩ : ∃ q, q = h7.next := ⟨_, rfl⟩
  rw [← hrq] at or ⊢
  have hr8 := or.1
  refine RunO.part 5 rfl ?_
  refine RunO.load (v := .int .i64 s.2.2.2.1) rfl ((ox5.fr f8 (fun g => g)).ld rfl) rfl ?_
  refine RunO.part 1 (h1 := h8.push ⟨is [s.2.2.2.1], true⟩) rfl ?_
  have oz := Ow.push h8 (is [s.2.2.2.1])
  have f9 : Fr no h8 (h8.push ⟨is [s.2.2.2.1], true⟩) := Fr.push _ _ _
  replace or := or.fr f9 (fun g => g)
  generalize h8.push ⟨is [s.2.2.2.1], true⟩ = h9 at *
  obtain ⟨zq, hzq⟩ : ∃ q, q = h8.next := ⟨_, rfl⟩
  rw [← hzq] at oz ⊢
  refine RunO.all rfl ?_
  have f79 := f8.same f9
  have hR : lkR L = (s.2.2.1, s.2.2.2.1) :: lr.map fun r => (r.ro, r.sz) := by rw [hlr, hs]; rfl
  have hRl : (lkR L).length = lr.length + 1 := by rw [hR, List.length_cons, List.length_map]
  have hRg : ∀ i (hi : i < lr.length), (lkR L).take (i + 1 + 1) = (lkR L).take (i + 1) ++ [(lr[i].ro, lr[i].sz)] := fun i hi => by
    rw [List.take_succ_eq_append_getElem (by omega)]
    congr 2
    simp [hR]
  obtain ⟨RS, hRS⟩ : ∃ x, x = lkR L := ⟨_, rfl⟩
  have hR1 : RS.take 1 = [(s.2.2.1, s.2.2.2.1)] := by rw [hRS, hR]; rfl
  rw [← hRS] at hRl hRg hsz
  refine RunC.seq ?_
  refine RunC.seq (RunC.region (RunO.part 3 rfl ?_))
  refine RunO.load (v := .slice lA lr.length lc) rfl ((ok.fr f79 (fun g => g)).ld rfl) rfl (RunO.all rfl ?_)
  refine RunC.block ?_
  refine RunC.loop (fun d E h' => ∃ (i : Nat) (rov zov : Value), i + d = lr.length ∧ Gr rq h' rov 1 (i + 1) (is ((RS.take (i + 1)).map (·.1))) ∧ Gr rq h' zov 1 (i + 1) (is ((RS.take (i + 1)).map (·.2))) ∧ (∀ b, At rov b → ¬ At zov b) ∧ Fr no h7 h' ∧ rq < h'.next ∧
    Le ((upd (upd (upd (upd (upd (upd (upd (upd E0 0 (.slice A L.length c)) 2 (.pointer (some ⟨xb, 0, none⟩))) 5 (.int .i64 (B : Int))) 91 (.slice lA lr.length lc)) 92 (.int .i64 (lr.length : Int))) 7 (rov)) 8 (zov)) 93 (.int .i64 (i : Int)))) E) ?st1 (k := lr.length) ?ini1
  case ini1 =>
    refine ⟨0, .slice (some ⟨rq, 0, none⟩) 1 (exc 1), .slice (some ⟨zq, 0, none⟩) 1 (exc 1), by omega, ?_, ?_, ?_, f79, or.1, Le.cons rfl (Le.cons rfl (Le.cons rfl (Le.cons rfl (Le.cons rfl (Le.cons rfl (Le.cons rfl (Le.cons rfl (Le.nil _))))))))⟩
    · rw [hR1]; exact Gr.full or rfl (Nat.le_refl _)
    · rw [hR1]; exact Gr.full oz rfl (by omega)
    · rintro b ⟨_, _, e⟩ ⟨_, _, e2⟩
      injection e with e
      injection e with e
      injection e with e
      injection e2 with e2
      injection e2 with e2
      injection e2 with e2
      omega
  rintro d E g1 ⟨i, rov, zov, hi, gr, gz, hrz, fg, hrg, hE⟩
  refine RunC.le hE ?_
  clear hE
  refine RunC.seq (RunC.region (RunO.all rfl ?_))
  refine RunC.seq (RunC.cond rfl (fun hlt => RunC.skip ?go1) (fun hge => RunC.exit ?ex1))
  case go1 =>
    have hlt := of_decide_eq_true hlt
    have hlt : i < lr.length := by omega
    have hgi := hRg i hlt
    have hpt := recCs_part hlt
    generalize lr[i] = r at *
    refine RunC.seq (RunC.block ?_)
    refine RunC.seq (RunC.region ?_)
    refine RunO.at (s := 8) (k := i) rfl rfl (slr.fr0 fg) rfl rfl hlt hpt rfl rfl rfl ?_
    refine RunO.part 1 (h1 := g1.push ⟨rc8 ⟨0, 0, 0, 0, 0, 0, 0, 0⟩, true⟩) rfl ?_
    refine RunO.store rfl rfl (store_ow (s := 8) (Ow.push g1 (rc8 ⟨0, 0, 0, 0, 0, 0, 0, 0⟩)) rfl rfl rfl (Nat.le_refl 8)) (RunO.nil ?_)
    have e8 : (rc8 ⟨0, 0, 0, 0, 0, 0, 0, 0⟩).take 0 ++ cellsOf (.agg ⟨rc8 r⟩) ++ (rc8 ⟨0, 0, 0, 0, 0, 0, 0, 0⟩).drop (0 + 8) = rc8 r := rfl
    rw [e8]
    have on : Ow ((g1.push ⟨rc8 ⟨0, 0, 0, 0, 0, 0, 0, 0⟩, true⟩).put g1.next (some ⟨rc8 r, true⟩)) g1.next (rc8 r) := Ow.put _ (Nat.lt_succ_self _)
    have f2 : Fr no g1 ((g1.push ⟨rc8 ⟨0, 0, 0, 0, 0, 0, 0, 0⟩, true⟩).put g1.next (some ⟨rc8 r, true⟩)) := (Fr.push _ _ _).trans (Fr.put (m := (· = g1.next)) _ (.inl rfl)) (fun j hj => .inr (by omega))
    have hrx : ∀ b, At rov b → rq ≤ b ∧ b < g1.next := fun b g => gr.at g
    have hzx : ∀ b, At zov b → rq ≤ b ∧ b < g1.next := fun b g => gz.at g
    replace gr := gr.fr0 f2
    replace gz := gz.fr0 f2
    have fg2 := fg.same f2
    generalize (g1.push ⟨rc8 ⟨0, 0, 0, 0, 0, 0, 0, 0⟩, true⟩).put g1.next (some ⟨rc8 r, true⟩) = g2 at *
    obtain ⟨pb, hpb⟩ : ∃ q, q = g1.next := ⟨_, rfl⟩
    rw [← hpb] at on hrx hzx ⊢
    have hpr : ¬ At rov pb := fun g => by have := hrx pb g; omega
    have hpz : ¬ At zov pb := fun g => by have := hzx pb g; omega
    refine RunC.drawW (fun b => At rov b ∨ At zov b) (p := (4, 7)) (ps := []) rfl ?_
    refine RunW.pure rfl rfl (fun _ => rfl) rfl ?_
    refine RunW.pure rfl rfl (fun _ => rfl) rfl ?_
    refine RunW.load (v := .int .i64 r.ro) rfl rfl (on.ld rfl) rfl ?_
    refine RunW.new (ob := ⟨is [r.ro], true⟩) rfl rfl (fun _ => rfl) rfl ?_
    have ot := Ow.push g2 (is [r.ro])
    have f3 : Fr no g2 (g2.push ⟨is [r.ro], true⟩) := Fr.push _ _ _
    have gr3 := gr.fr0 f3
    have gz3 := gz.fr0 f3
    have on3 := on.fr f3 (fun g => g)
    have hpl2 := on.1
    generalize g2.push ⟨is [r.ro], true⟩ = g3 at *
    obtain ⟨tb, htb⟩ : ∃ q, q = (g2.lo g2.next).next := ⟨_, rfl⟩
    have htb2 : tb = g2.next := htb
    rw [← htb]
    rw [← htb2] at ot hpl2
    refine RunW.appendG (s := 1) (j := 1) rfl rfl rfl rfl rfl rfl rfl rfl rfl (by decide) gr3 ot.all rfl (Nat.le_refl 1) rfl (by show 2 * (_ + 1) * 8 ≤ _; omega) (by omega) (fun b g => .inl g) ?_
    intro rov2 g4 r4 f4
    have on4 := on3.fr f4 hpr
    have gz4 := gz3.frm f4 (fun b g e => hrz b e g)
    refine RunW.pure rfl rfl (fun _ => rfl) rfl ?_
    refine RunW.pure rfl rfl (fun _ => rfl) rfl ?_
    refine RunW.load (v := .int .i64 r.sz) rfl rfl (on4.ld rfl) rfl ?_
    refine RunW.new (ob := ⟨is [r.sz], true⟩) rfl rfl (fun _ => rfl) rfl ?_
    have ot2 := Ow.push g4 (is [r.sz])
    have f5 : Fr no g4 (g4.push ⟨is [r.sz], true⟩) := Fr.push _ _ _
    have r5 := r4.gr.fr0 f5
    have gz5 := gz4.fr0 f5
    have hn5 : g4.next < (g4.push ⟨is [r.sz], true⟩).next := ot2.1
    generalize g4.push ⟨is [r.sz], true⟩ = g5 at *
    refine RunW.appendG (s := 1) (j := 1) rfl rfl rfl rfl rfl rfl rfl rfl rfl (by decide) gz5 ot2.all rfl (Nat.le_refl 1) rfl (by show 2 * (_ + 1) * 8 ≤ _; omega) (by omega) (fun b g => .inr g) ?_
    intro zov2 g6 z6 f6
    have hr2 : ∀ b, At rov2 b → g3.next ≤ b ∧ b < g4.next := fun b g => r4.at g
    have hz2 : ∀ b, At zov2 b → g5.next ≤ b ∧ b < g6.next := fun b g => z6.at g
    have hzo : ∀ b, At zov b → b < g3.next := fun b g => (gz3.at g).2
    have r6 := r5.frm f6 (fun b g e => by have := hr2 b g; have := hzo b e; omega)
    have hn3 : g2.next ≤ g3.next := f3.next
    have hn4 := f4.next
    have hn6 := f6.next
    have hn2 := f2.next
    refine RunW.pure rfl rfl (fun _ => rfl) rfl ?_
    refine RunW.pure rfl rfl (fun _ => rfl) rfl ?_
    refine RunW.nil ⟨?_, fun lw F => ?_⟩
    · show cond (fpOk (.wr (idsOf [rov, .slice (some ⟨tb, 0, none⟩) 1 (exc 1)])) (.rd pb)) true false = true
      rw [idsG gr3 (fun b g e => hpr (by rw [← e]; exact g)) (by omega)]; rfl
    have f27 : Fr no h7 (g6.lo lw) := fg2.trans F (fun b g => .inr (by rcases g with g | g; have := hrx b g; omega; have := hzx b g; omega))
    refine RunC.region (RunO.all rfl ?_)
    refine ⟨d - 1, by omega, i + 1, rov2, zov2, by omega, ?_, ?_, ?_, f27, ?_, Le.cons (inc64 (by omega)) (Le.cons rfl (Le.cons rfl (Le.cons rfl (Le.cons rfl (Le.cons rfl (Le.cons rfl (Le.cons rfl (Le.nil _))))))))⟩
    · have e1 : is ((RS.take (i + 1)).map (·.1)) ++ is [r.ro] = is ((RS.take (i + 1 + 1)).map (·.1)) := by
        rw [hgi, List.map_append]; exact (List.map_append ..).symm
      have q : Gr g3.next (g6.lo lw) rov2 1 (i + 1 + 1) (is ((RS.take (i + 1)).map (·.1)) ++ is [r.ro]) := r6
      rw [e1] at q
      exact q.lo (by omega)
    · have e1 : is ((RS.take (i + 1)).map (·.2)) ++ is [r.sz] = is ((RS.take (i + 1 + 1)).map (·.2)) := by
        rw [hgi, List.map_append]; exact (List.map_append ..).symm
      have q : Gr g5.next (g6.lo lw) zov2 1 (i + 1 + 1) (is ((RS.take (i + 1)).map (·.2)) ++ is [r.sz]) := z6.gr
      rw [e1] at q
      exact q.lo (by omega)
    · intro b x y
      have := hr2 b x; have := hz2 b y; omega
    · show rq < g6.next; omega
  have hge1 := of_decide_eq_false hge
  obtain rfl : i = lr.length := by omega
  have hRt : RS.take (lr.length + 1) = RS := List.take_of_length_le (by omega)
  rw [hRt] at gr gz
  have grge := Gr.ge gr
  have gzge := Gr.ge gz
  have slro := gr.sl (by omega)
  have slzo := gz.sl (by omega)
  obtain ⟨rA, rc_, rfl, _, _⟩ := slro.form
  obtain ⟨zA, zc, rfl, _, _⟩ := slzo.form
  have ox6 := ox5.fr fg (fun g => g)
  have hxg : xb < g1.next := ox6.1
  have rl6 := rl.fr fg (fun _ _ _ g => g)
  have rb6 := rb.fr fg (fun _ _ _ g => g)
  have F8 := F7.same fg
  clear ox5 f79 or oz
  -- the trees
  refine RunC.seq ?_
  refine RunC.seq (RunC.region (RunO.all rfl ?_))
  refine RunC.block ?_
  refine RunC.loop (fun d E h' => ∃ (i : Nat) (TL : List Tr3) (tv : Value), i + d = lr.length + 1 ∧ TL.length = i ∧ TL.map (·.2) = (RS.take i).map (fun p => (treeM L p.1, treeN L p.1)) ∧ (∀ j (hj : j < RS.length), j < i → lkX L RS[j] = false) ∧ (∀ t ∈ TL, TrW B h' xb tv t) ∧
      Ow h' xb (imc s slot (.slice lA lr.length lc) bv tv) ∧ Row g1.next h' tv 1 TL.length (tps TL) ∧ Fr (· = xb) g1 h' ∧
    Le ((upd (upd (upd (upd (upd (upd (upd E0 0 (.slice A L.length c)) 2 (.pointer (some ⟨xb, 0, none⟩))) 5 (.int .i64 (B : Int))) 8 (.slice zA (lr.length + 1) zc)) 108 (.slice rA (lr.length + 1) rc_)) 109 (.int .i64 ((lr.length + 1 : Nat) : Int))) 110 (.int .i64 (i : Int)))) E) ?st2 (k := lr.length + 1) ?ini2
  case ini2 => exact ⟨0, [], _, by omega, rfl, rfl, fun j _ hj => absurd hj (Nat.not_lt_zero _), fun t ht => absurd ht List.not_mem_nil, ox6, Row.nil _ _ _, Fr.refl _ _, Le.cons rfl (Le.cons rfl (Le.cons rfl (Le.cons rfl (Le.cons rfl (Le.cons rfl (Le.cons rfl (Le.nil _)))))))⟩
  rintro d2 E g2 ⟨i, TL, tv, hi2, hTl, hTm, hX, hTW, ox, rt, fg2, hE⟩
  refine RunC.le hE ?_
  clear hE
  refine RunC.seq (RunC.region (RunO.all rfl ?_))
  refine RunC.seq (RunC.cond rfl (fun hlt => RunC.skip ?go2) (fun hge => RunC.exit ?ex2))
  case go2 =>
    have hlt := of_decide_eq_true hlt
    have hlt : i < lr.length + 1 := by omega
    have hiR : i < RS.length := by omega
    have slr2 : Sl g2 (.slice rA (lr.length + 1) rc_) 1 (lr.length + 1) (is (RS.map (·.1))) := slro.frm (fun b o c_ e g => by have g : b = xb := g; have := grge b o _ c_ e; omega) fg2
    have slz2 : Sl g2 (.slice zA (lr.length + 1) zc) 1 (lr.length + 1) (is (RS.map (·.2))) := slzo.frm (fun b o c_ e g => by have g : b = xb := g; have := gzge b o _ c_ e; omega) fg2
    have F9 : Fr no h g2 := F8.trans fg2 (fun b e => .inr (by have e : b = xb := e; omega))
    have hr1 : (RS.map (·.1))[i]? = some RS[i].1 := by rw [List.getElem?_map, List.getElem?_eq_getElem hiR]; rfl
    have hz1 : (RS.map (·.2))[i]? = some RS[i].2 := by rw [List.getElem?_map, List.getElem?_eq_getElem hiR]; rfl
    obtain ⟨hz0, hz5⟩ := hsz RS[i] (List.getElem_mem hiR)
    have hfind := fun h => find_first (p := lkX L) hiR hX h
    have hlkM : lkX L RS[i] = true → lkM L = (RS[i].1, 6) := fun h => by
      unfold lkM
      rw [← hRS, hfind h]
    have hTk : RS.take (i + 1) = RS.take i ++ [RS[i]] := List.take_succ_eq_append_getElem hiR
    have hXn : lkX L RS[i] = false → ∀ j (hj : j < RS.length), j < i + 1 → lkX L RS[j] = false := fun h j hj hji => by
      rcases Nat.lt_or_ge j i with q | q
      · exact hX j hj q
      · have e : j = i := by omega
        subst e; exact h
    generalize RS[i] = p at *
    obtain ⟨root, sz⟩ := p
    simp only at hr1 hz1 hz0 hz5 hlkM
    have hXe : lkX L (root, sz) = (!treeOk L root || bey (treeM L root) sz) := rfl
    rw [hXe] at hlkM hXn
    refine RunC.seq (RunC.block ?_)
    refine RunC.seq (RunC.region (RunO.part 1 rfl ?_))
    refine RunO.at (s := 1) (k := i) rfl rfl slr2 rfl rfl hlt (ix_at hr1) rfl rfl rfl (RunO.all rfl ?_)
    refine RunC.seq (RunC.region (RunO.part 2 rfl ?_))
    refine RunO.callD (treeGo_ok (root := root) (sl0.fr0 F9) hb hd) rfl rfl rfl ?_
    rintro _ g3 ⟨f3, ⟨hok, wb, rfl, mb, nv, w1, w2, ow, om, row, hml, hnl⟩ | ⟨hok, rfl⟩⟩
    case inr =>
      rw [hok] at hlkM
      have hlkM := hlkM rfl
      rw [hlkM] at hlk
      rw [hlk]
      refine RunO.all rfl ?_
      refine RunC.seq (RunC.seq (RunC.draw0 rfl (RunO.all rfl ?_)))
      refine RunC.cond rfl (fun _ => ?_) (fun g => by cases g)
      exact RunC.seq (RunC.region (RunO.all rfl (RunC.ret ⟨_, rfl, F9.same f3, .inr ⟨by show (6 : Int) ≠ 0; decide, rfl⟩⟩)))
    rw [hok, show (!true) = false from rfl, Bool.false_or] at hlkM hXn
    obtain ⟨hmr, hnr⟩ := tree_rng hd hok
    rw [← hB] at ow hmr hnr
    obtain ⟨k, hk⟩ := Int.eq_ofNat_of_zero_le hz0
    subst hk
    refine RunO.all rfl ?_
    refine RunC.seq (RunC.seq (RunC.draw0 rfl (RunO.part 6 rfl ?_)))
    refine RunO.loadG (v := .slice (some ⟨mb, 0, none⟩) 512 (exc 512)) rfl rfl (ow.ld rfl) rfl ?_
    refine RunO.part 2 rfl ?_
    refine RunO.atG (s := 1) (k := i) rfl (fun _ => rfl) rfl rfl (slz2.fr0 f3) rfl rfl hlt (ix_at hz1) rfl rfl rfl ?_
    refine RunO.callDG rfl (openBeyond_ok (om.all.sl (by rw [is_len, hml]) (by decide) (Cp.exc (Nat.le_refl 512))) hml (by omega)) rfl rfl rfl ?_
    rintro _ g4 ⟨rfl, f4⟩
    cases hbe : bey (treeM L root) (k : Int) with
    | true =>
      have hlkM := hlkM hbe
      rw [hlkM] at hlk
      rw [hlk]
      refine RunO.all rfl (RunC.cond rfl (fun _ => ?_) (fun g => by cases g))
      exact RunC.seq (RunC.region (RunO.all rfl (RunC.ret ⟨_, rfl, (F9.same f3).same f4, .inr ⟨by show (6 : Int) ≠ 0; decide, rfl⟩⟩)))
    | false =>
    have hXn := hXn hbe
    refine RunO.all rfl (RunC.cond rfl (fun g => by cases g) (fun _ => RunC.skip ?_))
    have hg2x := ox.1
    have htx : ∀ b, At tv b → g1.next ≤ b ∧ b < g2.next := fun b g => rt.at g
    have f34 := f3.same f4
    have tw : TrW B g4 xb tv (wb, treeM L root, treeN L root) := by
      refine ⟨_, mb, nv, ow.fr f4 (fun g => g), om.fr f4 (fun g => g), Row.lo (row.fr f4 (fun _ _ _ g => g)) (Nat.zero_le _), hml, hnl, hmr, hnr, ⟨by omega, fun g => ?_⟩, ⟨by omega, fun g => ?_⟩, fun b g => ⟨?_, fun e => ?_⟩⟩
      · have := htx _ g; omega
      · have := htx _ g; omega
      · have := (row.at g).1; omega
      · have := htx _ e; have := (row.at g).1; omega
    have hTW4 : ∀ t ∈ TL, TrW B g4 xb tv t := fun t ht => (hTW t ht).fr0 f34
    have rt4 := rt.fr f34 (fun _ _ _ g => g)
    have ox4 := ox.fr f34 (fun g => g)
    have F10 := F9.same f34
    have hn34 := f34.next
    refine RunC.region (RunO.part 4 rfl ?_)
    refine RunO.load (v := tv) rfl (ox4.ld rfl) rfl ?_
    refine RunO.part 2 (h1 := g4.push ⟨tps [(wb, treeM L root, treeN L root)], true⟩) rfl ?_
    have ot := Ow.push g4 (tps [(wb, treeM L root, treeN L root)])
    have f5 : Fr no g4 (g4.push ⟨tps [(wb, treeM L root, treeN L root)], true⟩) := Fr.push _ _ _
    have rt5 := rt4.fr f5 (fun _ _ _ g => g)
    have ox5 := ox4.fr f5 (fun g => g)
    have hTW5 : ∀ t ∈ TL ++ [(wb, treeM L root, treeN L root)], TrW B (g4.push ⟨tps [(wb, treeM L root, treeN L root)], true⟩) xb tv t := fun t ht => by
      rcases List.mem_append.1 ht with g | g
      · exact (hTW4 t g).fr0 f5
      · rw [List.mem_singleton.1 g]; exact tw.fr0 f5
    generalize g4.push ⟨tps [(wb, treeM L root, treeN L root)], true⟩ = g5 at *
    refine RunO.append2 (s := 1) (m := 1) rfl rfl rfl rfl rfl rfl rfl rfl (by decide) rt5 ot.all rfl (Nat.le_refl 1) rfl (by show 2 * (_ + 1) * 8 ≤ _; omega) (by omega) ?_
    intro tv2 g6 rt6 f6
    have ox6 := ox5.fr f6 (fun g => by have := htx xb g; omega)
    have htv2 : ∀ b, At tv2 b → g5.next ≤ b := fun b g => (rt6.at g).1
    have hn5 := f5.next
    refine RunO.part 2 rfl ?_
    refine RunO.store rfl rfl (store1_ow ox6 rfl (rt6.cell).1 (rt6.cell).2 (Nat.le_of_ble_eq_true rfl)) (RunO.nil ?_)
    have ox7 : Ow (g6.put xb (some ⟨imc s slot (.slice lA lr.length lc) bv tv2, true⟩)) xb (imc s slot (.slice lA lr.length lc) bv tv2) := Ow.put _ ox6.1
    have f7 : Fr (· = xb) g6 (g6.put xb (some ⟨imc s slot (.slice lA lr.length lc) bv tv2, true⟩)) := Fr.put _ (.inl rfl)
    show RunC prog _ _ _ (g6.put xb (some ⟨imc s slot (.slice lA lr.length lc) bv tv2, true⟩)) _ _ _
    generalize g6.put xb (some ⟨imc s slot (.slice lA lr.length lc) bv tv2, true⟩) = g7 at *
    have f67 : Fr (fun b => b = xb ∨ At tv b) g5 g7 := (f6.weak (fun b g => .inl (.inr g))).trans f7 (fun b g => .inl (.inl g))
    have rt7 := rt6.frm f7 (fun b g e => by have e : b = xb := e; have := htv2 b g; omega)
    refine RunC.region (RunO.all rfl ?_)
    refine ⟨d2 - 1, by omega, i + 1, TL ++ [(wb, treeM L root, treeN L root)], tv2, by omega, by rw [List.length_append, hTl]; rfl, ?_, hXn, fun t ht => (hTW5 t ht).step f67 htv2, ox7, ?_, ((fg2.quiet f34).quiet f5).trans f67 (fun b g => ?_), Le.cons (inc64 (by omega)) (Le.cons rfl (Le.cons rfl (Le.cons rfl (Le.cons rfl (Le.cons rfl (Le.cons rfl (Le.nil _)))))))⟩
    · rw [hTk, List.map_append, List.map_append, hTm]; rfl
    · have e1 : tps TL ++ tps [(wb, treeM L root, treeN L root)] = tps (TL ++ [(wb, treeM L root, treeN L root)]) := (List.map_append ..).symm
      rw [e1] at rt7
      rw [List.length_append]
      exact Row.lo rt7 (by have := fg2.next; omega)
    · rcases g with g | g
      · exact .inl g
      · exact .inr (htx b g).1
  have hge2 := of_decide_eq_false hge
  obtain rfl : i = lr.length + 1 := by omega
  have hfn : RS.find? (lkX L) = none := List.find?_eq_none.2 (fun p hp => by
    obtain ⟨j, hj, rfl⟩ := List.mem_iff_getElem.1 hp
    rw [hX j hj (by omega)]; simp)
  have hlkM : lkM L = (lkC L, if lkC L = 0 then 0 else 6) := by
    unfold lkM
    rw [← hRS, hfn]
  rw [hlkM] at hlk
  rw [hRt] at hTm
  have hT : TL.map (·.2) = lkT L := by rw [hTm, hRS]; rfl
  have hC : lkC L = clV B lb (TL.map (·.2)) := by rw [hT, hlb, hB]; rfl
  have F9 : Fr no h g2 := F8.trans fg2 (fun b e => .inr (by have e : b = xb := e; omega))
  have rl9 := rl6.frm fg2 (fun b g e => hlx b g e)
  have rb9 := rb6.frm fg2 (fun b g e => hbx b g e)
  -- the clash
  refine RunC.seq (RunC.region (RunO.part 2 rfl ?_))
  refine RunO.callD (openClash_ok ox (rb9.sl (by omega)) (rt.sl (by omega)) (fun t ht => (hTW t ht).ok) (fun x hx => by have := hlbr x hx; omega) (by omega) (by omega) (by omega)) rfl rfl rfl ?_
  rintro _ g3 ⟨f3, ⟨j, hj, rfl, hcl, hno⟩ | ⟨rfl, hno⟩⟩
  · have hj0 : j ≠ 0 := fun e => by
      subst e
      rw [clP_zero (fun x hx => (hlbr x hx).1) (fun t ht => by obtain ⟨_, _, _, _, _, _, _, _, _, h7, _⟩ := hTW t ht; exact fun x hx => (h7 x hx).1)] at hcl
      cases hcl
    rw [clV_some hj hcl hno] at hC
    rw [hC, if_neg (by omega)] at hlk
    rw [hlk]
    refine RunO.all rfl ?_
    refine RunC.seq (RunC.seq (RunC.region (RunO.all rfl ?_)))
    rw [show ((j : Int) != 0) = true from bne_iff_ne.2 (by omega)]
    refine RunC.cond rfl (fun _ => ?_) (fun g => by cases g)
    exact RunC.seq (RunC.region (RunO.all rfl (RunC.ret ⟨_, rfl, F9.same f3, .inr ⟨by show (6 : Int) ≠ 0; decide, rfl⟩⟩)))
  · rw [clV_none hno] at hC
    rw [hC, if_pos rfl] at hlk
    rw [hlk]
    refine RunO.all rfl ?_
    refine RunC.seq (RunC.seq (RunC.region (RunO.all rfl (RunC.cond rfl (fun g => by cases g) (fun _ => RunC.skip ?_)))))
    refine RunC.seq (RunC.region (RunO.all rfl (RunC.ret ⟨_, rfl, F9.same f3, .inl ⟨rfl, xb, rfl, ?_⟩⟩)))
    refine ⟨.slice lA lr.length lc, bv, tv, TL, by omega, ?_, ?_, ?_, (rt.sl (by omega)).fr0 f3, hT, fun t ht => ?_⟩
    · rw [← hs, ← hsl]; exact ox.fr f3 (fun g => g)
    · rw [← hlr]; exact Row.lo (rl9.fr f3 (fun _ _ _ g => g)) (by omega)
    · rw [← hlb]; exact Row.lo (rb9.fr f3 (fun _ _ _ g => g)) (by omega)
    · rw [← hB]; exact (hTW t ht).ok.fr0 f3
end Go.Proofs.Ytbinkbdfoalbcaa
end
section
set_option linter.unusedVariables false
set_option linter.unusedSectionVars false
set_option maxRecDepth 100000
open Go Go.Am Go.RowKit
namespace Go.Proofs.Ytbinkbdfoalbcaa
open Go.Proofs.Try
theorem eresults_cell2 {P : Program} {E : Env} {h : Heap} {a b : Tmp} {t : TypeId} {ad : Addr} {v w : Value} (h1 : E a = some (.pointer (some ad))) (h2 : aload P h t ad = some v) (h3 : E b = some w) :
    eresults P [.cell a t, .tmp b] E h = some (.tuple #[v, w]) := by
  simp only [eresults, eres, h1, h2, h3]
def recsE (L : List Int) (a : Int) : Int := if devOk L.length then (if (folOf L a).2.2.2 = 0 then 0 else 7) else 2
theorem openRecords_ok {h : Heap} {iv : Value} {L : List Int} {a : Int} (sl : Sl h iv 1 L.length (us L)) (hb : Byt L) (hm : L.length ≤ 4611686018427387904) :
    RunF prog 15 [iv, .int .i64 a] h fun v h' => Fr no h h' ∧ ((recsE L a = 0 ∧ ∃ lv bv, v = .tuple #[lv, bv, .int .i64 0] ∧ Row h.next h' lv 8 (folOf L a).1.length (recCs (folOf L a).1) ∧ Row h.next h' bv 1 (folOf L a).2.1.length (is (folOf L a).2.1)) ∨ (recsE L a ≠ 0 ∧ v = .tuple #[.slice none 0 0, .slice none 0 0, .int .i64 (recsE L a)])) := by
  refine RunF.walk func15 rfl rfl ?_
  have sl0 := sl
  obtain ⟨A, c, rfl, hc, hA⟩ := sl.form
  have hE : recsE L a = if devOk L.length then (if (folOf L a).2.2.2 = 0 then 0 else 7) else 2 := rfl
  rw [hE]
  refine RunC.seq (RunC.region (RunO.all rfl ?_))
  refine RunC.seq (RunC.region (RunO.part 1 rfl ?_))
  refine RunO.callD (devCheck_ok hm) rfl rfl rfl ?_
  rintro _ _ ⟨rfl, rfl⟩
  refine RunO.all rfl ?_
  cases hd : devOk L.length with
  | false =>
    refine RunC.seq (RunC.seq (RunC.region (RunO.all rfl (RunC.cond rfl (fun _ => ?_) (fun g => by cases g)))))
    exact RunC.seq (RunC.region (RunO.all rfl (RunC.ret ⟨_, rfl, Fr.refl _ _, .inr ⟨by rw [if_neg Bool.false_ne_true]; decide, rfl⟩⟩)))
  | true =>
  rw [if_pos rfl, if_pos rfl, if_pos rfl]
  refine RunC.seq (RunC.seq (RunC.region (RunO.all rfl (RunC.cond rfl (fun g => by cases g) (fun _ => RunC.skip ?_)))))
  refine RunC.seq (RunC.region (RunO.part 2 rfl ?_))
  refine RunO.callD (openFollow_ok (a := a) sl0 hb hd) rfl rfl rfl ?_
  rintro _ h5 ⟨f5, kb, rfl, lv, bv, hkb, ok, rl, rb⟩
  refine RunO.all rfl ?_
  refine RunC.seq (RunC.seq (RunC.region (RunO.part 3 rfl ?_)))
  refine RunO.load (v := .int .i64 (folOf L a).2.2.2) rfl (ok.ld rfl) rfl (RunO.all rfl ?_)
  by_cases hbad : (folOf L a).2.2.2 = 0
  case neg =>
    rw [if_neg hbad, show ((folOf L a).2.2.2 != 0) = true from bne_iff_ne.2 hbad]
    refine RunC.cond rfl (fun _ => ?_) (fun g => by cases g)
    exact RunC.seq (RunC.region (RunO.all rfl (RunC.ret ⟨_, rfl, f5, .inr ⟨by decide, rfl⟩⟩)))
  rw [if_pos hbad, show ((folOf L a).2.2.2 != 0) = false from by rw [hbad]; rfl]
  refine RunC.cond rfl (fun g => by cases g) (fun _ => RunC.skip ?_)
  refine RunC.seq (RunC.draw0 rfl (RunO.part 3 rfl ?_))
  refine RunO.load (v := lv) rfl (ok.ld rfl) rfl ?_
  refine RunO.part 3 rfl ?_
  refine RunO.load (v := bv) rfl (ok.ld rfl) rfl (RunO.all rfl ?_)
  exact RunC.ret ⟨_, rfl, f5, .inl ⟨rfl, lv, bv, rfl, rl, rb⟩⟩
/-- A state's cells. -/
def stc (s : S5) (slot : Int) (rv : Value) : List Value := sc5 s ++ [.int .i64 slot, rv]
theorem openOpen_ok {h : Heap} {iv : Value} {L : List Int} (sl : Sl h iv 1 L.length (us L)) (hb : Byt L) (hm : L.length ≤ 4611686018427387904) :
    RunF prog 16 [iv] h fun v h' => Fr no h h' ∧ (((lk L).2 = 0 ∧ ∃ rv, v = .tuple #[.agg ⟨stc (lkS L) (pickS L).2.1 rv⟩, .int .i64 0] ∧ Row h.next h' rv 8 (lkF L).1.length (recCs (lkF L).1)) ∨ ((lk L).2 ≠ 0 ∧ v = .tuple #[.agg ⟨stc (0, 0, 0, 0, 0) 0 (.slice none 0 0)⟩, .int .i64 (lk L).2])) := by
  refine RunF.walk func16 rfl rfl ?_
  refine RunC.seq (RunC.region (RunO.all (h1 := h.push ⟨stc (0, 0, 0, 0, 0) 0 (.slice none 0 0), true⟩) rfl ?_))
  have oq := Ow.push h (stc (0, 0, 0, 0, 0) 0 (.slice none 0 0))
  have f1 : Fr no h (h.push ⟨stc (0, 0, 0, 0, 0) 0 (.slice none 0 0), true⟩) := Fr.push _ _ _
  generalize h.push ⟨stc (0, 0, 0, 0, 0) 0 (.slice none 0 0), true⟩ = h1 at *
  obtain ⟨qb, hqb⟩ : ∃ q, q = h.next := ⟨_, rfl⟩
  rw [← hqb] at oq ⊢
  have hnx := oq.1
  refine RunC.seq (RunC.region (RunO.part 1 rfl ?_))
  refine RunO.callD (openLook_ok (sl.fr0 f1) hb hm) rfl rfl rfl ?_
  rintro _ h2 ⟨f2, ⟨h0, xb, rfl, rv, bv, tv, TL, hxb, ox, rl, rb, _⟩ | ⟨h0, rfl⟩⟩
  · replace oq := oq.fr f2 (fun g => g)
    refine RunO.all rfl ?_
    refine RunC.seq (RunC.seq (RunC.region (RunO.all rfl (RunC.cond rfl (fun g => by cases g) (fun _ => RunC.skip ?_)))))
    refine RunC.seq (RunC.region (RunO.part 3 rfl ?_))
    refine RunO.load (v := .agg ⟨stc (lkS L) (pickS L).2.1 rv⟩) rfl (ox.ld rfl) rfl ?_
    have hcs : cellsOf (.agg ⟨stc (lkS L) (pickS L).2.1 rv⟩) = stc (lkS L) (pickS L).2.1 rv := rfl
    have hcell : allCells (stc (lkS L) (pickS L).2.1 rv) = true := by
      rcases rl.2 with ⟨e, _⟩ | ⟨b, _, e, _⟩ <;> (rw [e]; rfl)
    refine RunO.store rfl rfl (store_ow (s := 7) oq rfl rfl hcell (Nat.le_of_ble_eq_true rfl)) ?_
    have e7 : (stc (0, 0, 0, 0, 0) 0 (.slice none 0 0)).take 0 ++ cellsOf (.agg ⟨stc (lkS L) (pickS L).2.1 rv⟩) ++ (stc (0, 0, 0, 0, 0) 0 (.slice none 0 0)).drop (0 + 7) = stc (lkS L) (pickS L).2.1 rv := rfl
    rw [e7]
    have oq2 : Ow (h2.put qb (some ⟨stc (lkS L) (pickS L).2.1 rv, true⟩)) qb (stc (lkS L) (pickS L).2.1 rv) := Ow.put _ oq.1
    have f3 : Fr (· = qb) h2 (h2.put qb (some ⟨stc (lkS L) (pickS L).2.1 rv, true⟩)) := Fr.put _ (.inl rfl)
    generalize h2.put qb (some ⟨stc (lkS L) (pickS L).2.1 rv, true⟩) = h3 at *
    have hn := f1.next
    have rl3 := rl.frm f3 (fun b g e => by have := (rl.at g).1; have e : b = qb := e; omega)
    refine RunO.all rfl (RunC.ret ⟨_, eresults_cell2 rfl (oq2.ld rfl) rfl, (f1.same f2).trans f3 (fun b e => .inr (by have e : b = qb := e; omega)), .inl ⟨h0, rv, rfl, Row.lo rl3 (by omega)⟩⟩)
  · replace oq := oq.fr f2 (fun g => g)
    refine RunO.all rfl ?_
    refine RunC.seq (RunC.seq (RunC.region (RunO.all rfl ?_)))
    rw [show ((lk L).2 != 0) = true from bne_iff_ne.2 h0]
    refine RunC.cond rfl (fun _ => ?_) (fun g => by cases g)
    refine RunC.seq (RunC.region (RunO.part 2 rfl ?_))
    refine RunO.store rfl rfl (store_ow (s := 7) oq rfl rfl rfl (Nat.le_of_ble_eq_true rfl)) ?_
    have oq2 : Ow (h2.put qb (some ⟨stc (0, 0, 0, 0, 0) 0 (.slice none 0 0), true⟩)) qb (stc (0, 0, 0, 0, 0) 0 (.slice none 0 0)) := Ow.put _ oq.1
    have f3 : Fr (· = qb) h2 (h2.put qb (some ⟨stc (0, 0, 0, 0, 0) 0 (.slice none 0 0), true⟩)) := Fr.put _ (.inl rfl)
    show RunO prog _ _ _ _ (h2.put qb (some ⟨stc (0, 0, 0, 0, 0) 0 (.slice none 0 0), true⟩)) _
    generalize h2.put qb (some ⟨stc (0, 0, 0, 0, 0) 0 (.slice none 0 0), true⟩) = h3 at *
    exact RunO.all rfl (RunC.ret ⟨_, eresults_cell2 rfl (oq2.ld rfl) rfl, (f1.same f2).trans f3 (fun b e => .inr (by have e : b = qb := e; omega)), .inr ⟨h0, rfl⟩⟩)
/-- Is this the whole record of an id? -/
def fdP (id : Int) (r : R8) : Bool := (r.id == id) && (r.ki == 0)
theorem findC_ok {h : Heap} {q : Nat} {x : R8} {id : Int} (rd : Rd h ⟨q, 0, none⟩ [.int .i64 id]) : RunF prog 47 [.agg ⟨rc8 x⟩, .pointer (some ⟨q, 0, none⟩)] h fun v h' => v = .bool (fdP id x) ∧ Fr no h h' := by
  refine RunF.walk func47 rfl rfl ?_
  refine RunC.seq (RunC.region (RunO.all (h1 := h.push ⟨rc8 x, true⟩) rfl ?_))
  have oq := Ow.push h (rc8 x)
  have f1 : Fr no h (h.push ⟨rc8 x, true⟩) := Fr.push _ _ _
  replace rd := rd.fr f1 (fun g => g)
  generalize h.push ⟨rc8 x, true⟩ = h1 at *
  generalize h.next = p at *
  refine RunC.seq (RunC.region (RunO.part 1 rfl ?_))
  refine RunO.load (v := .int .i64 x.id) rfl (oq.ld rfl) rfl ?_
  refine RunO.load (v := .int .i64 id) rfl (rd.ld rfl) rfl ?_
  refine RunO.part 2 rfl ?_
  unfold fdP
  cases (x.id == id) with
  | false => exact RunO.all rfl (RunC.ret ⟨_, rfl, rfl, f1⟩)
  | true =>
    refine RunO.part 1 rfl ?_
    refine RunO.loadG (v := .int .i64 x.ki) rfl rfl (oq.ld rfl) rfl ?_
    exact RunO.all rfl (RunC.ret ⟨_, rfl, rfl, f1⟩)
theorem openFind_ok {h : Heap} {s : S5} {slot id : Int} {rv : Value} {l : List R8} (sl : Sl h rv 8 l.length (recCs l)) (hl : l.length ≤ 100000) :
    RunF prog 18 [.agg ⟨stc s slot rv⟩, .int .i64 id] h fun v h' => Fr no h h' ∧ ((∃ i, ∃ hi : i < l.length, v = .tuple #[.int .i64 (i : Int), .bool true] ∧ fdP id l[i] = true ∧ ∀ j (hj : j < l.length), j < i → fdP id l[j] = false) ∨ (v = .tuple #[.int .i64 0, .bool false] ∧ ∀ j (hj : j < l.length), fdP id l[j] = false)) := by
  refine RunF.walk func18 rfl rfl ?_
  have sl0 := sl
  obtain ⟨A, c, rfl, _, _⟩ := sl.form
  refine RunC.seq (RunC.region (RunO.part 1 (h1 := h.push ⟨stc s slot (.slice A l.length c), true⟩) rfl ?_))
  have oq := Ow.push h (stc s slot (.slice A l.length c))
  have f1 : Fr no h (h.push ⟨stc s slot (.slice A l.length c), true⟩) := Fr.push _ _ _
  generalize h.push ⟨stc s slot (.slice A l.length c), true⟩ = h1 at *
  obtain ⟨qb, hqb⟩ : ∃ q, q = h.next := ⟨_, rfl⟩
  rw [← hqb] at oq ⊢
  refine RunO.part 1 (h1 := h1.push ⟨[.int .i64 id], true⟩) rfl ?_
  have oi := Ow.push h1 [.int .i64 id]
  have f2 : Fr no h1 (h1.push ⟨[.int .i64 id], true⟩) := Fr.push _ _ _
  replace oq := oq.fr f2 (fun g => g)
  generalize h1.push ⟨[.int .i64 id], true⟩ = h2 at *
  generalize h1.next = ib at *
  have F2 := f1.same f2
  replace sl0 := sl0.fr0 F2
  refine RunO.all rfl ?_
  refine RunC.seq (RunC.region (RunO.part 1 rfl ?_))
  refine RunO.load (v := .slice A l.length c) rfl (oq.ld rfl) rfl ?_
  refine RunO.part 1 rfl ?_
  have hg : ∀ j (hj : j < l.length), l.getD j ⟨0, 0, 0, 0, 0, 0, 0, 0⟩ = l[j] := fun j hj => by rw [List.getD_eq_getElem?_getD, List.getElem?_eq_getElem hj]; rfl
  refine RunO.callD (indexRec_ok sl0 (u := fun j => .agg ⟨rc8 (l.getD j ⟨0, 0, 0, 0, 0, 0, 0, 0⟩)⟩) (fun j hj => by rw [recCs_part hj, hg j hj]) (p := fun j => fdP id (l.getD j ⟨0, 0, 0, 0, 0, 0, 0, 0⟩)) (fun j hj h5 f5 => findC_ok (oi.all.fr f5 (fun g => g))) (by omega)) rfl rfl rfl ?_
  rintro _ h3 ⟨f3, ⟨i, hi, rfl, hp, hn⟩ | ⟨rfl, hn⟩⟩
  · refine RunO.all rfl ?_
    refine RunC.seq (RunC.seq (RunC.region (RunO.all rfl ?_)))
    rw [show decide ((i : Int) < 0) = false from decide_eq_false (by omega)]
    refine RunC.cond rfl (fun g => by cases g) (fun _ => RunC.skip ?_)
    refine RunC.seq (RunC.region (RunO.all rfl (RunC.ret ⟨_, rfl, F2.same f3, .inl ⟨i, hi, rfl, ?_, fun j hj hji => ?_⟩⟩)))
    · rw [← hg i hi]; exact hp
    · rw [← hg j hj]; exact hn j hji
  · refine RunO.all rfl ?_
    refine RunC.seq (RunC.seq (RunC.region (RunO.all rfl (RunC.cond rfl (fun _ => ?_) (fun g => by cases g)))))
    refine RunC.seq (RunC.region (RunO.all rfl (RunC.ret ⟨_, rfl, F2.same f3, .inr ⟨rfl, fun j hj => ?_⟩⟩)))
    rw [← hg j hj]; exact hn j hj
/-- A new image. -/
def newI (B : Nat) : List Int := superBlock 1 (B : Int) 0 0 0 ++ List.replicate (B * 64 - 64) 0
theorem newI_len {B : Nat} (h : 1 ≤ B) : (newI B).length = B * 64 := by unfold newI; rw [List.length_append, superBlock_len, List.length_replicate]; omega
theorem newI_byt (B : Nat) : Byt (newI B) := fun x hx => by
  rcases List.mem_append.1 hx with g | g
  · exact superBlock_byt _ _ _ _ _ x g
  · rw [List.eq_of_mem_replicate g]; omega
theorem ok_new {B : Nat} (h4 : 4 ≤ B) (hB : B ≤ 4096) : superOk 1 (B : Int) 0 0 0 = true := (superOk_iff _ _ _ _ _).2 ⟨by omega, by omega, by omega, .inl rfl, .inl rfl⟩
theorem openNew_ok {h : Heap} {B : Nat} (h4 : 4 ≤ B) (hB : B ≤ 4096) : RunF prog 17 [.int .i64 (B : Int)] h fun v h' => Fr no h h' ∧ ∃ b, h.next ≤ b ∧ v = .tuple #[.slice (some ⟨b, 0, none⟩) (B * 64) (exc (B * 64)), .int .i64 0] ∧ Ow h' b (us (newI B)) := by
  refine RunF.walk func17 rfl rfl ?_
  refine RunC.seq (RunC.region (RunO.all rfl ?_))
  refine RunC.seq (RunC.seq (RunC.region (RunO.part 3 rfl ?_)))
  rw [show decide ((B : Int) < 4) = false from decide_eq_false (by omega)]
  refine RunO.part 2 rfl ?_
  rw [show decide ((B : Int) > 4096) = false from decide_eq_false (by omega)]
  refine RunO.all rfl (RunC.cond rfl (fun g => by cases g) (fun _ => RunC.skip ?_))
  refine RunC.seq (RunC.region (RunO.part 2 rfl ?_))
  rw [fw64 (x := (B : Int) * 64) (by omega) (by omega), show (B : Int) * 64 = ((B * 64 : Nat) : Int) by omega]
  refine RunO.make (m := B * 64) rfl rfl rfl rfl rfl rfl (by show 1 * (B * 64) ≤ _; omega) (by omega) rfl ?_
  rw [reps_us]
  have oi := Ow.push h (us (List.replicate (B * 64) 0))
  have f1 : Fr no h (h.push ⟨us (List.replicate (B * 64) 0), true⟩) := Fr.push _ _ _
  generalize h.push ⟨us (List.replicate (B * 64) 0), true⟩ = h1 at *
  obtain ⟨qi, hqi⟩ : ∃ q, q = h.next := ⟨_, rfl⟩
  rw [← hqi] at oi ⊢
  refine RunO.all rfl ?_
  refine RunC.seq (RunC.region (RunO.part 2 rfl ?_))
  refine RunO.callD (superBytes_ok (g := 1) (bl := (B : Int)) (rt := 0) (sz := 0) (fi := 0)) rfl rfl rfl ?_
  rintro _ h2 ⟨f2, ⟨_, sb, hsb, rfl, os⟩ | ⟨g, _⟩⟩
  case inr => rw [ok_new h4 hB] at g; cases g
  replace oi := oi.fr f2 (fun g => g)
  refine RunO.all rfl ?_
  refine RunC.seq (RunC.region (RunO.part 2 rfl ?_))
  have hsl := superBlock_len 1 (B : Int) 0 0 0
  have sls := sl_own os hsl (Cp.exc (Nat.le_refl 64)) (by decide)
  rw [hsl] at sls
  refine RunO.copy (k := 64) rfl rfl rfl rfl oi sls (allCells_map (fun _ => rfl) _) (by omega) (by rw [us_len, List.length_replicate]; omega) rfl ?_
  intro h3 oi3 f3 hn3
  have e : (us (superBlock 1 (B : Int) 0 0 0)).take 64 ++ (us (List.replicate (B * 64) 0)).drop 64 = us (newI B) := by
    rw [List.take_of_length_le (by rw [us_len, hsl]; exact Nat.le_refl _)]
    unfold newI us
    rw [List.map_append, ← List.map_drop, List.drop_replicate]
  rw [e] at oi3
  refine RunO.all rfl ?_
  refine RunC.seq (RunC.region (RunO.all rfl (RunC.ret ⟨_, rfl, (f1.same f2).trans f3 (fun b g => .inr (by have g : b = qi := g; omega)), qi, by omega, rfl, oi3⟩)))
end Go.Proofs.Ytbinkbdfoalbcaa
end
section
set_option linter.unusedVariables false
set_option linter.unusedSectionVars false
set_option maxRecDepth 100000
open Go Go.Am Go.RowKit
namespace Go.Proofs.Ytbinkbdfoalbcaa
open Go.Proofs.Try
theorem pick_two (L : List Int) : pickS L = pickStep L (pickStep L ((0, 0, 0, 0, 0), 0, false) 0) 1 := rfl
theorem pick_no {L : List Int} {st : S5 × Int × Bool} {i : Nat} (h : sCode (blkI L i) ≠ 0) : pickStep L st i = st := by
  unfold pickStep
  rw [if_neg]
  rw [beq_eq_false_iff_ne.2 h]; exact Bool.false_ne_true
theorem pick_none {L : List Int} (h0 : sCode (blkI L 0) ≠ 0) (h1 : sCode (blkI L 1) ≠ 0) : (pickS L).2.2 = false := by
  rw [pick_two, pick_no h0, pick_no h1]
/-- Slot i has a superblock of this device, the other one none. -/
theorem pick_yes {L : List Int} {st : S5 × Int × Bool} {i : Nat} {g bl rt sz fi : Int} (h : blkI L i = superBlock g bl rt sz fi) (ok : superOk g bl rt sz fi = true) (hbl : bl = ((L.length / 64 : Nat) : Int)) (hst : st.2.2 = false) : pickStep L st i = ((g, bl, rt, sz, fi), (i : Int), true) := by
  obtain ⟨b1, b2⟩ := super_back ok
  unfold pickStep
  rw [h, b1, b2, hst, if_pos]
  show ((0 : Int) == 0 && (bl == _ && (!false || _))) = true
  rw [hbl]; simp
theorem pick_one0 {L : List Int} {g bl rt sz fi : Int} (h : blkI L 0 = superBlock g bl rt sz fi) (ok : superOk g bl rt sz fi = true) (hbl : bl = ((L.length / 64 : Nat) : Int)) (h1 : sCode (blkI L 1) ≠ 0) : pickS L = ((g, bl, rt, sz, fi), 0, true) := by
  rw [pick_two, pick_yes h ok hbl rfl, pick_no h1]; rfl
theorem fol_none (L : List Int) : folOf L 0 = ([], [], 0, 0) := fol_end ..
theorem bey_zero (k : Int) : bey (List.replicate 512 0) k = false := by
  unfold bey
  rw [List.any_eq_false]
  intro x hx
  have := List.eq_of_mem_replicate (List.mem_of_mem_drop hx)
  simp [this]
theorem tree0 (L : List Int) : treeOk L 0 = true ∧ treeM L 0 = List.replicate 512 0 ∧ treeN L 0 = [] := ⟨rfl, rfl, rfl⟩
theorem clV_no {B : Nat} {bl : List Int} {T : List (List Int × List Int)} (h : ∀ j, j < B → clP bl (T.map fun t => (0, t)) j = false) : clV B bl T = 0 := by
  unfold clV
  rw [List.find?_eq_none.2 (fun j hj => by rw [h j (List.mem_range.1 hj)]; simp)]
/-- An image whose head has no tree and that has no records opens. -/
theorem lk_empty {L : List Int} {s : S5} {slot : Int} (hd : devOk L.length = true) (hp : pickS L = (s, slot, true)) (hr : s.2.2.1 = 0) (hf : s.2.2.2.2 = 0) : lk L = (0, 0) ∧ lkF L = ([], [], 0, 0) ∧ lkS L = s := by
  have hS : lkS L = s := by unfold lkS; rw [hp]
  have hF : lkF L = ([], [], 0, 0) := by unfold lkF; rw [hS, hf]; exact fol_none L
  have hR : lkR L = [(0, s.2.2.2.1)] := by unfold lkR; rw [hF, hS, hr]; rfl
  refine ⟨?_, hF, hS⟩
  unfold lk
  rw [hd, hp, hF, if_pos rfl, if_pos rfl, if_pos rfl]
  have hX : lkX L (0, s.2.2.2.1) = false := by
    unfold lkX
    rw [(tree0 L).1, (tree0 L).2.1, bey_zero]; rfl
  unfold lkM
  rw [hR, List.find?_cons_of_neg (by rw [hX]; simp)]
  have hC : lkC L = 0 := by
    unfold lkC
    refine clV_no (fun j hj => ?_)
    unfold lkT
    rw [hR, hF]
    show clP [] [(0, List.replicate 512 0, [])] j = false
    unfold clP isN isS
    simp only [List.any_cons, List.any_nil]
    by_cases h0 : j = 0
    · subst h0; rfl
    · rw [show (List.replicate 512 (0 : Int)).contains (j : Int) = false from Bool.eq_false_iff.2 (fun g => by have := List.eq_of_mem_replicate (List.contains_iff_mem.1 g); omega)]
      simp
  show (lkC L, if lkC L = 0 then (0 : Int) else 6) = _
  rw [hC, if_pos rfl]
theorem newI_blk {B : Nat} (h : 4 ≤ B) : blkI (newI B) 0 = superBlock 1 (B : Int) 0 0 0 ∧ blkI (newI B) 1 = List.replicate 64 0 := by
  have hl := superBlock_len 1 (B : Int) 0 0 0
  unfold blkI newI
  constructor
  · rw [Nat.zero_mul, List.drop_zero, List.take_append_of_le_length (by omega), List.take_of_length_le (by omega)]
  · rw [Nat.one_mul, List.drop_append, List.drop_of_length_le (by omega), List.nil_append, hl, Nat.sub_self, List.drop_zero, List.take_replicate, Nat.min_eq_left (by omega)]
theorem dev_new {B : Nat} (h4 : 4 ≤ B) (hB : B ≤ 4096) : devOk (newI B).length = true := by
  rw [newI_len (by omega)]; exact devOk_mul h4 hB
theorem pick_new {B : Nat} (h4 : 4 ≤ B) (hB : B ≤ 4096) : pickS (newI B) = ((1, (B : Int), 0, 0, 0), 0, true) :=
  pick_one0 (newI_blk h4).1 (ok_new h4 hB) (by rw [newI_len (by omega), Nat.mul_div_cancel _ (by decide)]) (by rw [(newI_blk h4).2, sCode_zeros]; decide)
theorem lk_new {B : Nat} (h4 : 4 ≤ B) (hB : B ≤ 4096) : lk (newI B) = (0, 0) ∧ lkF (newI B) = ([], [], 0, 0) ∧ lkS (newI B) = (1, (B : Int), 0, 0, 0) := lk_empty (dev_new h4 hB) (pick_new h4 hB) rfl rfl
theorem lk_zeros {n : Nat} (hd : devOk n = true) : lk (List.replicate n 0) = (0, 8) := by
  have hd2 : devOk (List.replicate n (0 : Int)).length = true := by rw [List.length_replicate]; exact hd
  have hdl : n % 64 = 0 ∧ 4 ≤ n / 64 ∧ n / 64 ≤ 4096 := by
    unfold devOk at hd
    simpa using hd
  have hb : ∀ i, i < 2 → sCode (blkI (List.replicate n (0 : Int)) i) ≠ 0 := fun i hi => by
    have : blkI (List.replicate n (0 : Int)) i = List.replicate 64 0 := by
      unfold blkI
      rw [List.drop_replicate, List.take_replicate, Nat.min_eq_left (by omega)]
    rw [this, sCode_zeros]; decide
  unfold lk
  rw [hd2, if_pos rfl, pick_none (hb 0 (by decide)) (hb 1 (by decide))]; rfl
end Go.Proofs.Ytbinkbdfoalbcaa
end
section
set_option linter.unusedVariables false
set_option linter.unusedSectionVars false
set_option maxRecDepth 100000
open Go Go.Am Go.RowKit
namespace Go.Proofs.Ytbinkbdfoalbcaa
open Go.Proofs.Try
theorem refHas_ok {h : Heap} {v : Value} {l : List Int} {n : Int} (sl : Sl h v 1 l.length (is l)) (hm : l.length ≤ 1000000000) : RunF prog 52 [v, .int .i64 n] h fun r h' => r = .bool (l.contains n) ∧ h = h' := by
  have sl0 := sl
  obtain ⟨A, c, rfl, _, _⟩ := sl.form
  refine RunF.walk func52 rfl rfl ?_
  refine RunC.seq (RunC.region (RunO.all rfl ?_))
  refine RunC.seq (RunC.seq (RunC.region (RunO.all rfl ?_)))
  refine RunC.block ?_
  refine RunC.loop (fun d E h' => ∃ i : Nat, i + d = l.length ∧ (l.take i).contains n = false ∧ h = h' ∧ Le (upd (upd (upd E0 0 (.slice A l.length c)) 1 (.int .i64 n)) 5 (.int .i64 (i : Int))) E) ?st (k := l.length) ?ini
  case ini => exact ⟨0, by omega, rfl, rfl, Le.cons rfl (Le.cons rfl (Le.cons rfl (Le.nil _)))⟩
  rintro d E _ ⟨i, hi, hc, rfl, hE⟩
  refine RunC.le hE ?_
  clear hE
  refine RunC.seq (RunC.seq (RunC.region (RunO.all rfl ?_)))
  refine RunC.cond rfl (fun hlt => RunC.skip ?go) (fun hge => RunC.exit ?ex)
  case ex =>
    have hge := of_decide_eq_false hge
    obtain rfl : i = l.length := by omega
    rw [List.take_length] at hc
    exact RunC.seq (RunC.region (RunO.all rfl (RunC.ret ⟨_, rfl, by rw [hc], rfl⟩)))
  have hlt := of_decide_eq_true hlt
  have hlt : i < l.length := by omega
  have hpt := is_part hlt
  refine RunC.seq (RunC.block ?_)
  refine RunC.seq (RunC.region (RunO.part 2 rfl ?_))
  refine RunO.atG (s := 1) (k := i) rfl (fun _ => rfl) rfl rfl sl0 rfl rfl hlt hpt rfl rfl rfl ?_
  refine RunO.part 2 rfl ?_
  have ht : (l.take (i + 1)).contains n = (l[i] == n) := by
    rw [List.take_succ_eq_append_getElem hlt, List.contains_eq_any_beq, List.any_append, ← List.contains_eq_any_beq, hc]
    simp [Bool.beq_comm]
  cases hb : (l[i] == n) with
  | true =>
    refine RunO.all rfl (RunC.cond rfl (fun _ => ?_) (fun g => by cases g))
    have hin : l.contains n = true := List.contains_iff_mem.2 (by rw [← beq_iff_eq.1 hb]; exact List.getElem_mem hlt)
    exact RunC.seq (RunC.region (RunO.all rfl (RunC.ret ⟨_, rfl, by rw [hin], rfl⟩)))
  | false =>
    refine RunO.all rfl (RunC.cond rfl (fun g => by cases g) (fun _ => RunC.skip ?_))
    refine RunC.region (RunO.all rfl ?_)
    exact ⟨d - 1, by omega, i + 1, by omega, by rw [ht, hb], rfl, Le.cons (inc64 (by omega)) (Le.cons rfl (Le.cons rfl (Le.nil _)))⟩
theorem pick_ref (L : List Int) : pickS L =
    (if (sCode (blkI L 0) == 0 && (sVal (blkI L 0)).2.1 == ((L.length / 64 : Nat) : Int)) && (!(sCode (blkI L 1) == 0 && (sVal (blkI L 1)).2.1 == ((L.length / 64 : Nat) : Int)) || decide ((sVal (blkI L 0)).1 ≥ (sVal (blkI L 1)).1)) then (sVal (blkI L 0), 0, true)
     else if (sCode (blkI L 1) == 0 && (sVal (blkI L 1)).2.1 == ((L.length / 64 : Nat) : Int)) then (sVal (blkI L 1), 1, true) else ((0, 0, 0, 0, 0), 0, false)) := by
  rw [pick_two]
  unfold pickStep
  generalize ((L.length / 64 : Nat) : Int) = n
  generalize sVal (blkI L 0) = a
  generalize sVal (blkI L 1) = b
  generalize (sCode (blkI L 0) == 0) = p
  generalize (sCode (blkI L 1) == 0) = q
  have e : decide (b.1 > a.1) = !decide (a.1 ≥ b.1) := by
    by_cases c : a.1 ≥ b.1
    · rw [decide_eq_true c, decide_eq_false (by omega)]; rfl
    · rw [decide_eq_false c, decide_eq_true (by omega)]; rfl
  cases p <;> cases q <;> cases h1 : (a.2.1 == n) <;> cases h2 : (b.2.1 == n) <;> cases h3 : decide (a.1 ≥ b.1) <;> rw [h3] at e <;> simp [h1, h2, h3, e]
set_option maxHeartbeats 8000000 in
theorem refPick_ok {h : Heap} {v : Value} {L : List Int} (sl : Sl h v 1 L.length (us L)) (hb : Byt L) (hd : devOk L.length = true) :
    RunF prog 54 [v] h fun r h' => r = .tuple #[.agg ⟨sc5 (pickS L).1⟩, .int .i64 (pickS L).2.1, .bool (pickS L).2.2] ∧ Fr no h h' := by
  have hdl : L.length % 64 = 0 ∧ 4 ≤ L.length / 64 ∧ L.length / 64 ≤ 4096 := by
    unfold devOk at hd
    simpa using hd
  have hm : L.length ≤ 4611686018427387904 := by omega
  have Z : sc5 (0, 0, 0, 0, 0) = sc 0 0 0 0 0 := rfl
  refine RunF.walk func54 rfl rfl ?_
  refine RunC.seq (RunC.region (RunO.all (h1 := h.push ⟨sc5 (0, 0, 0, 0, 0), true⟩) rfl ?_))
  have ow := Ow.push h (sc5 (0, 0, 0, 0, 0))
  have f1 : Fr (fun b => h.next ≤ b) h (h.push ⟨sc5 (0, 0, 0, 0, 0), true⟩) := Fr.push _ _ _
  have s1 := sl.fr0 (Fr.push no h ⟨sc5 (0, 0, 0, 0, 0), true⟩)
  generalize h.push ⟨sc5 (0, 0, 0, 0, 0), true⟩ = h1 at *
  have hp : h.next < h1.next := ow.1
  refine RunC.seq (RunC.region (RunO.part 1 rfl ?_))
  refine RunO.callD (refBlocks_ok s1 hm) rfl rfl rfl ?_
  rintro _ _ ⟨rfl, rfl⟩
  refine RunO.all rfl ?_
  refine RunC.seq (RunC.region (RunO.part 1 rfl ?_))
  refine RunO.callD (refBlock_ok (i := 0) s1 (by omega) hm) rfl rfl rfl ?_
  rintro b0 _ ⟨sb0, rfl⟩
  have hl0 := blkI_len (l := L) (i := 0) (by omega)
  rw [← hl0] at sb0
  refine RunO.callD (refParseSuper_ok sb0 (byt_blk hb 0)) rfl rfl rfl ?_
  rintro _ h1a ⟨rfl, f1a⟩
  rw [sCells_eq]
  refine RunO.part 4 (h1 := h1a.push ⟨sc5 (0, 0, 0, 0, 0), true⟩) rfl ?_
  refine RunO.store rfl rfl (store_ow (s := 5) (Ow.push h1a (sc5 (0, 0, 0, 0, 0))) rfl rfl rfl (Nat.le_refl 5)) (RunO.all rfl ?_)
  have oa0 : Ow ((h1a.push ⟨sc5 (0, 0, 0, 0, 0), true⟩).put h1a.next (some ⟨sc5 (sVal (blkI L 0)), true⟩)) h1a.next (sc5 (sVal (blkI L 0))) := Ow.put _ (Nat.lt_succ_self _)
  have fa0 : Fr no h1a ((h1a.push ⟨sc5 (0, 0, 0, 0, 0), true⟩).put h1a.next (some ⟨sc5 (sVal (blkI L 0)), true⟩)) := (Fr.push _ _ _).trans (Fr.put (m := (· = h1a.next)) _ (.inl rfl)) (fun j hj => .inr (by omega))
  change RunC _ _ _ _ ((h1a.push ⟨sc5 (0, 0, 0, 0, 0), true⟩).put h1a.next (some ⟨sc5 (sVal (blkI L 0)), true⟩)) _ _ _
  generalize (h1a.push ⟨sc5 (0, 0, 0, 0, 0), true⟩).put h1a.next (some ⟨sc5 (sVal (blkI L 0)), true⟩) = h2 at *
  generalize h1a.next = q0 at *
  have fz0 := f1a.same fa0
  have s2 := s1.fr0 fz0
  replace ow := ow.fr fz0 (fun g => g)
  replace f1 := f1.quiet fz0
  refine RunC.seq (RunC.region (RunO.part 1 rfl ?_))
  refine RunO.callD (refBlock_ok (i := 1) s2 (by omega) hm) rfl rfl rfl ?_
  rintro b1 _ ⟨sb1, rfl⟩
  have hl1 := blkI_len (l := L) (i := 1) (by omega)
  rw [← hl1] at sb1
  refine RunO.callD (refParseSuper_ok sb1 (byt_blk hb 1)) rfl rfl rfl ?_
  rintro _ h2a ⟨rfl, f2a⟩
  rw [sCells_eq]
  refine RunO.part 4 (h1 := h2a.push ⟨sc5 (0, 0, 0, 0, 0), true⟩) rfl ?_
  refine RunO.store rfl rfl (store_ow (s := 5) (Ow.push h2a (sc5 (0, 0, 0, 0, 0))) rfl rfl rfl (Nat.le_refl 5)) (RunO.all rfl ?_)
  have oa1 : Ow ((h2a.push ⟨sc5 (0, 0, 0, 0, 0), true⟩).put h2a.next (some ⟨sc5 (sVal (blkI L 1)), true⟩)) h2a.next (sc5 (sVal (blkI L 1))) := Ow.put _ (Nat.lt_succ_self _)
  have fa1 : Fr no h2a ((h2a.push ⟨sc5 (0, 0, 0, 0, 0), true⟩).put h2a.next (some ⟨sc5 (sVal (blkI L 1)), true⟩)) := (Fr.push _ _ _).trans (Fr.put (m := (· = h2a.next)) _ (.inl rfl)) (fun j hj => .inr (by omega))
  change RunC _ _ _ _ ((h2a.push ⟨sc5 (0, 0, 0, 0, 0), true⟩).put h2a.next (some ⟨sc5 (sVal (blkI L 1)), true⟩)) _ _ _
  generalize (h2a.push ⟨sc5 (0, 0, 0, 0, 0), true⟩).put h2a.next (some ⟨sc5 (sVal (blkI L 1)), true⟩) = h3 at *
  generalize h2a.next = q1 at *
  have fz1 := f2a.same fa1
  have s3 := s2.fr0 fz1
  replace ow := ow.fr fz1 (fun g => g)
  replace f1 := f1.quiet fz1
  replace oa0 := oa0.fr fz1 (fun g => g)
  rw [pick_ref]
  generalize sVal (blkI L 0) = a at *
  generalize sVal (blkI L 1) = b at *
  generalize sCode (blkI L 0) = ca at *
  generalize sCode (blkI L 1) = cb at *
  refine RunC.seqc (fun E' h' => h3 = h' ∧ Le (upd (upd (upd (upd (upd E0 2 (.pointer (some ⟨h.next, 0, none⟩))) 7 (.pointer (some ⟨q0, 0, none⟩))) 9 (.pointer (some ⟨q1, 0, none⟩))) 11 (.bool (ca == 0 && a.2.1 == ((L.length / 64 : Nat) : Int)))) 12 (.bool (cb == 0 && b.2.1 == ((L.length / 64 : Nat) : Int)))) E') ?tst ?nxt
  case tst =>
    refine RunC.draw0 rfl ?_
    refine RunO.part 3 rfl ?_
    cases (ca == 0) with
    | false =>
      refine RunO.part 8 rfl ?_
      cases (cb == 0) with
      | false => exact RunO.all rfl ⟨rfl, Le.cons rfl (Le.cons rfl (Le.cons rfl (Le.cons rfl (Le.cons rfl (Le.nil _)))))⟩
      | true =>
        (repeat (first | refine RunO.step rfl ?_ | refine RunO.loadG rfl rfl (Ow.ld (by assumption) (by rfl)) rfl ?_ | refine RunO.nil ?_))
        exact ⟨rfl, Le.cons rfl (Le.cons rfl (Le.cons rfl (Le.cons rfl (Le.cons rfl (Le.nil _)))))⟩
    | true =>
      (repeat (first | refine RunO.step rfl ?_ | refine RunO.loadG rfl rfl (Ow.ld (by assumption) (by rfl)) rfl ?_ | refine RunO.nil ?_))
      cases (cb == 0) with
      | false => exact RunO.all rfl ⟨rfl, Le.cons rfl (Le.cons rfl (Le.cons rfl (Le.cons rfl (Le.cons rfl (Le.nil _)))))⟩
      | true =>
        (repeat (first | refine RunO.step rfl ?_ | refine RunO.loadG rfl rfl (Ow.ld (by assumption) (by rfl)) rfl ?_ | refine RunO.nil ?_))
        exact ⟨rfl, Le.cons rfl (Le.cons rfl (Le.cons rfl (Le.cons rfl (Le.cons rfl (Le.nil _)))))⟩
  rintro E' _ ⟨rfl, hE⟩
  refine RunC.le hE ?_
  clear hE
  generalize (ca == 0 && a.2.1 == ((L.length / 64 : Nat) : Int)) = one
  generalize (cb == 0 && b.2.1 == ((L.length / 64 : Nat) : Int)) = two
  refine RunC.seq (RunC.block ?_)
  cases one with
  | false =>
    refine RunC.seq (RunC.region (RunO.all rfl ?_))
    refine RunC.cond rfl (fun g => by cases g) (fun _ => ?_)
    refine RunC.seq (RunC.region (RunO.all rfl ?_))
    cases two with
    | true =>
      refine RunC.cond rfl (fun _ => ?_) (fun g => by cases g)
      refine RunC.seq (RunC.region ?_)
      refine RunO.load (v := .agg ⟨sc5 b⟩) rfl (oa1.all.part (k := 0) rfl) rfl ?_
      refine RunO.store rfl rfl (store_ow (s := 5) ow rfl rfl rfl (Nat.le_refl 5)) (RunO.all rfl ?_)
      exact RunC.ret ⟨_, Go.Am.eresults_cell2 rfl ((Ow.put (cs := sc5 b) ow.1).all.part (k := 0) rfl) rfl rfl, rfl, frNo (f1.same (Fr.put _ (.inl (Nat.le_refl _))))⟩
    | false =>
      refine RunC.cond rfl (fun g => by cases g) (fun _ => RunC.skip ?_)
      refine RunC.seq (RunC.region (RunO.part 1 rfl ?_))
      refine RunO.store rfl rfl (store_ow (s := 5) ow rfl rfl rfl (Nat.le_refl 5)) (RunO.all rfl ?_)
      exact RunC.ret ⟨_, Go.Am.eresults_cell2 rfl ((Ow.put (cs := sc5 (0, 0, 0, 0, 0)) ow.1).all.part (k := 0) rfl) rfl rfl, rfl, frNo (f1.same (Fr.put _ (.inl (Nat.le_refl _))))⟩
  | true =>
    refine RunC.seqc (fun E' h' => h3 = h' ∧ Le (upd (upd (upd (upd (upd E0 2 (.pointer (some ⟨h.next, 0, none⟩))) 7 (.pointer (some ⟨q0, 0, none⟩))) 9 (.pointer (some ⟨q1, 0, none⟩))) 12 (.bool two)) 46 (.bool (!two || decide (a.1 ≥ b.1)))) E') ?tst2 ?nxt2
    case tst2 =>
      refine RunC.region ?_
      cases two with
      | false => exact RunO.all rfl ⟨rfl, Le.cons rfl (Le.cons rfl (Le.cons rfl (Le.cons rfl (Le.cons rfl (Le.nil _)))))⟩
      | true =>
        (repeat (first | refine RunO.step rfl ?_ | refine RunO.loadG rfl rfl (Ow.ld (by assumption) (by rfl)) rfl ?_ | refine RunO.nil ?_))
        exact ⟨rfl, Le.cons rfl (Le.cons rfl (Le.cons rfl (Le.cons rfl (Le.cons rfl (Le.nil _)))))⟩
    rintro E' _ ⟨rfl, hE⟩
    refine RunC.le hE ?_
    clear hE
    cases hz : (!two || decide (a.1 ≥ b.1)) with
    | true =>
      refine RunC.cond rfl (fun _ => ?_) (fun g => by cases g)
      refine RunC.seq (RunC.region ?_)
      refine RunO.load (v := .agg ⟨sc5 a⟩) rfl (oa0.all.part (k := 0) rfl) rfl ?_
      refine RunO.store rfl rfl (store_ow (s := 5) ow rfl rfl rfl (Nat.le_refl 5)) (RunO.all rfl ?_)
      exact RunC.ret ⟨_, Go.Am.eresults_cell2 rfl ((Ow.put (cs := sc5 a) ow.1).all.part (k := 0) rfl) rfl rfl, rfl, frNo (f1.same (Fr.put _ (.inl (Nat.le_refl _))))⟩
    | false =>
      have h2 : two = true := by cases two with | true => rfl | false => cases hz
      subst h2
      refine RunC.cond rfl (fun g => by cases g) (fun _ => ?_)
      refine RunC.seq (RunC.region (RunO.all rfl ?_))
      refine RunC.cond rfl (fun _ => ?_) (fun g => by cases g)
      refine RunC.seq (RunC.region ?_)
      refine RunO.load (v := .agg ⟨sc5 b⟩) rfl (oa1.all.part (k := 0) rfl) rfl ?_
      refine RunO.store rfl rfl (store_ow (s := 5) ow rfl rfl rfl (Nat.le_refl 5)) (RunO.all rfl ?_)
      exact RunC.ret ⟨_, Go.Am.eresults_cell2 rfl ((Ow.put (cs := sc5 b) ow.1).all.part (k := 0) rfl) rfl rfl, rfl, frNo (f1.same (Fr.put _ (.inl (Nat.le_refl _))))⟩
end Go.Proofs.Ytbinkbdfoalbcaa
end
section
set_option linter.unusedVariables false
set_option maxRecDepth 100000
open Go Go.Am Go.RowKit
namespace Go.Proofs.Ytbinkbdfoalbcaa
open Go.Proofs.Try
theorem link_ptr (p : Int) : (p == 0 || inB p 2 (fwrap .i64 (4096 - 1))) = ptrB p := by
  have e : fwrap .i64 (4096 - 1) = 4095 := rfl
  rw [e]
  unfold ptrB inB
  have : decide (p ≤ 4095) = decide (p < 4096) := by
    by_cases c : p < 4096
    · rw [decide_eq_true c, decide_eq_true (by omega)]
    · rw [decide_eq_false c, decide_eq_false (by omega)]
  rw [this]
set_option maxHeartbeats 1000000 in
theorem refNode_ok {h : Heap} {lv : Int} {ps : List Int} (hp : ps.length = 8) : RunF prog 91 [.agg ⟨nc lv ps⟩] h fun v h' => v = .bool (nodOk lv ps) ∧ Fr no h h' := by
  refine RunF.walk func91 rfl rfl ?_
  refine RunC.seq (RunC.region (RunO.all (h1 := h.push ⟨nc lv ps, true⟩) rfl ?_))
  have ow : Ow (h.push ⟨nc lv ps, true⟩) h.next (nc lv ps) := Ow.push _ _
  have f1 : Fr no h (h.push ⟨nc lv ps, true⟩) := Fr.push _ _ _
  generalize h.push ⟨nc lv ps, true⟩ = h1 at *
  generalize h.next = p at *
  have hok : nodOk lv ps = (inB lv 0 2 && (ps.all ptrB && anyP ps)) := by
    unfold nodOk inB
    have e1 : (!decide (lv < 0)) = decide (lv ≥ 0) := by
      by_cases c : lv < 0
      · rw [decide_eq_true c, decide_eq_false (by omega)]; rfl
      · rw [decide_eq_false c, decide_eq_true (by omega)]; rfl
    have e2 : (!decide (lv > 2)) = decide (lv ≤ 2) := by
      by_cases c : lv > 2
      · rw [decide_eq_true c, decide_eq_false (by omega)]; rfl
      · rw [decide_eq_false c, decide_eq_true (by omega)]; rfl
    rw [e1, e2]
    cases decide (lv ≥ 0) <;> cases decide (lv ≤ 2) <;> cases ps.all ptrB <;> cases anyP ps <;> rfl
  rw [hok]
  refine RunC.seq (RunC.seq (RunC.region ?_))
  (repeat (first | refine RunO.step rfl ?_ | refine RunO.loadG rfl rfl (Ow.ld (by assumption) (by rfl)) rfl ?_ | refine RunO.nil ?_))
  refine RunO.callD refIn_ok rfl rfl rfl ?_
  rintro _ _ ⟨rfl, rfl⟩
  refine RunO.all rfl ?_
  cases inB lv 0 2 with
  | false =>
    refine RunC.cond rfl (fun _ => ?_) (fun g => by cases g)
    exact RunC.seq (RunC.region (RunO.all rfl (RunC.ret ⟨_, rfl, rfl, f1⟩)))
  | true =>
  refine RunC.cond rfl (fun g => by cases g) (fun _ => RunC.skip ?_)
  refine RunC.seq (RunC.region (RunO.all rfl ?_))
  refine RunC.seq (RunC.seq (RunC.region (RunO.all rfl ?_)))
  refine RunC.block ?_
  let I : Nat → Env → Heap → Prop := fun d E h' => ∃ i : Nat, i + d = 8 ∧ (ps.take i).all ptrB = true ∧ h1 = h' ∧ Le (upd (upd (upd E0 1 (.pointer (some ⟨p, 0, none⟩))) 3 (.bool (anyP (ps.take i)))) 4 (.int .i64 (i : Int))) E
  refine RunC.loop I ?_ (k := 8) ?_
  · rintro d E h' ⟨i, hi, hall, rfl, hE⟩
    refine RunC.le hE ?_
    clear hE
    refine RunC.seq (RunC.seq (RunC.region (RunO.all rfl ?_)))
    refine RunC.cond rfl (fun hlt => ?_) (fun hge => ?_)
    · have hlt := of_decide_eq_true hlt
      have hi8 : i < 8 := by omega
      have hi2 : i < ps.length := by omega
      have hat : anyP (ps.take (i + 1)) = (anyP (ps.take i) || ps[i] != 0) := by
        unfold anyP; rw [List.take_succ_eq_append_getElem hi2, List.any_append]; simp
      have hal : (ps.take (i + 1)).all ptrB = ptrB ps[i] := by
        rw [List.take_succ_eq_append_getElem hi2, List.all_append, hall]; simp
      have hmem := List.getElem_mem hi2
      have hld : apart prog 3 (nc lv ps) (1 + i * 1) = some (.int .i64 ps[i]) := by
        show nth (nc lv ps) (1 + i * 1) = _
        rw [Nat.mul_one, Nat.add_comm]; exact is_nth hi2
      generalize ps[i] = x at *
      refine RunC.skip ?_
      refine RunC.seq (RunC.block ?_)
      refine RunC.seq (RunC.seq (RunC.region (RunO.part 2 rfl ?_)))
      refine RunO.indexA (s := 1) rfl rfl rfl rfl rfl hi8 rfl ?_
      refine RunO.load (v := .int .i64 x) rfl (ow.ld hld) rfl ?_
      refine RunO.callD refLink_ok rfl rfl rfl ?_
      rintro _ _ ⟨rfl, rfl⟩
      rw [link_ptr]
      refine RunO.all rfl ?_
      cases hx : ptrB x with
      | false =>
        have : ps.all ptrB = false := List.all_eq_false.2 ⟨x, hmem, by rw [hx]; exact Bool.false_ne_true⟩
        rw [this]
        refine RunC.cond rfl (fun _ => ?_) (fun g => by cases g)
        exact RunC.seq (RunC.region (RunO.all rfl (RunC.ret ⟨_, rfl, rfl, f1⟩)))
      | true =>
        refine RunC.cond rfl (fun g => by cases g) (fun _ => RunC.skip ?_)
        rw [hx] at hal
        refine RunC.region (RunO.part 2 rfl ?_)
        have fin : ∀ E, Le (upd (upd (upd E0 1 (.pointer (some ⟨p, 0, none⟩))) 3 (.bool (anyP (ps.take (i + 1))))) 4 (.int .i64 ((i + 1 : Nat) : Int))) E → ∃ d', d' < d ∧ I d' E h1 := fun E hE => ⟨d - 1, by omega, i + 1, by omega, hal, rfl, hE⟩
        rw [hat] at fin
        generalize anyP (ps.take i) = an at fin ⊢
        cases an with
        | true =>
          refine RunO.all rfl ?_
          exact RunC.region (RunO.all rfl (fin _ (Le.cons (inc64 (by omega)) (Le.cons rfl (Le.cons rfl (Le.nil _))))))
        | false =>
          refine RunO.part 2 rfl ?_
          refine RunO.oneG (v := .pointer (some ⟨p, 0 + 1 + i * 1, none⟩)) (h1 := h1) rfl ?_ rfl ?_
          · show pureR h1 (cond (Nat.ble (Nat.succ i) 8) (some (Value.pointer (some ⟨p, 0 + 1 + Nat.mul i 1, none⟩))) none) = _
            rw [Nat.ble_eq_true_of_le (by omega)]; rfl
          refine RunO.loadG (v := .int .i64 x) rfl rfl (by rw [Nat.zero_add]; exact ow.ld hld) rfl ?_
          refine RunO.all rfl ?_
          exact RunC.region (RunO.all rfl (fin _ (Le.cons (inc64 (by omega)) (Le.cons rfl (Le.cons rfl (Le.nil _))))))
    · have hge := of_decide_eq_false hge
      obtain rfl : i = 8 := by omega
      rw [← hp, List.take_length] at hall
      rw [hall]
      refine RunC.exit ?_
      refine RunC.seq (RunC.region (RunO.all rfl (RunC.ret ⟨_, rfl, ?_, f1⟩)))
      rw [← hp, List.take_length]; rfl
  · exact ⟨0, by omega, rfl, rfl, Le.cons rfl (Le.cons rfl (Le.cons rfl (Le.nil _)))⟩
theorem nLay_end : endF nLay = 40 := rfl
/-- Why bytes are no node, as the page says it. -/
theorem nCode_open {l : List Int} (hb : Byt l) : nCode l = if openE nMag l ≠ 0 then openE nMag l else if (nodOk (nLv l) (nPs l) && zerosN l 40 60) = true then 0 else 1 := by
  unfold nCode
  rw [readB_open, nLay_end]
  by_cases he : openE nMag l ≠ 0
  · rw [if_pos he, if_pos he, if_neg he]
  · rw [if_neg he, if_neg he]
    have hall : nLay.all (okF l) = true := by
      show (((leGet l 4 4).2 == 0) && (((leGet l 8 4).2 == 0) && (((leGet l 12 4).2 == 0) && (((leGet l 16 4).2 == 0) && (((leGet l 20 4).2 == 0) && (((leGet l 24 4).2 == 0) && (((leGet l 28 4).2 == 0) && (((leGet l 32 4).2 == 0) && (((leGet l 36 4).2 == 0) && true))))))))) = true
      rw [ok4 hb, ok4 hb, ok4 hb, ok4 hb, ok4 hb, ok4 hb, ok4 hb, ok4 hb, ok4 hb]; rfl
    rw [hall]
    cases zerosN l 40 60 <;> cases nodOk (nLv l) (nPs l) <;> rfl
end Go.Proofs.Ytbinkbdfoalbcaa
end
section
set_option linter.unusedVariables false
set_option maxRecDepth 100000
open Go Go.Am Go.RowKit
namespace Go.Proofs.Ytbinkbdfoalbcaa
open Go.Proofs.Try
theorem nPs_get (l : List Int) {i : Nat} (hi : i < 8) : (nPs l).getD i 0 = (leGet l (8 + 4 * i) 4).1 := by
  obtain rfl | rfl | rfl | rfl | rfl | rfl | rfl | rfl : i = 0 ∨ i = 1 ∨ i = 2 ∨ i = 3 ∨ i = 4 ∨ i = 5 ∨ i = 6 ∨ i = 7 := by omega
  all_goals rfl
def firstP (ps : List Int) (i : Nat) : List Int := ps.take i ++ List.replicate (8 - i) 0
theorem firstP_len {ps : List Int} (hp : ps.length = 8) {i : Nat} (hi : i ≤ 8) : (firstP ps i).length = 8 := by
  unfold firstP; rw [List.length_append, List.length_take, List.length_replicate]; omega
theorem firstP_set {ps : List Int} (hp : ps.length = 8) {i : Nat} (hi : i < 8) : (firstP ps i).set i (ps.getD i 0) = firstP ps (i + 1) := by
  apply List.ext_getElem?
  intro j
  have hl : i < (firstP ps i).length := by rw [firstP_len hp (by omega)]; exact hi
  rw [List.getElem?_set]
  unfold firstP at hl ⊢
  by_cases e : i = j
  · subst e
    rw [if_pos rfl, if_pos hl, List.getElem?_append_left (by rw [List.length_take]; omega), List.getElem?_take, if_pos (by omega), List.getD_eq_getElem?_getD, List.getElem?_eq_getElem (by omega)]; rfl
  · rw [if_neg e]
    by_cases c : j < i
    · rw [List.getElem?_append_left (by rw [List.length_take]; omega), List.getElem?_append_left (by rw [List.length_take]; omega), List.getElem?_take, List.getElem?_take, if_pos c, if_pos (by omega)]
    · rw [List.getElem?_append_right (by rw [List.length_take]; omega), List.getElem?_append_right (by rw [List.length_take]; omega), List.getElem?_replicate, List.getElem?_replicate, List.length_take, List.length_take]
      by_cases c2 : j < 8
      · rw [if_pos (by omega), if_pos (by omega)]
      · rw [if_neg (by omega), if_neg (by omega)]
theorem nc_cell (lv : Int) (ps : List Int) : (cellsOf (.agg ⟨nc lv ps⟩)).length = ps.length + 1 ∧ allCells (cellsOf (.agg ⟨nc lv ps⟩)) = true := by
  constructor
  · show (nc lv ps).length = _; simp [nc, is_len]
  · show allCells (.int .i64 lv :: is ps) = true; exact allCells_map (f := Value.int .i64) (fun _ => rfl) ps
/-- A whole node stored. -/
theorem nc_store {P : Program} {t : TypeId} {h : Heap} {b : Nat} {lw lv : Int} {qs ps : List Int} (ow : Ow h b (nc lw qs)) (hq : qs.length = 8) (hp : ps.length = 8) (hs : Go.Am.sizeOf P t = some 9) : astore P h t ⟨b, 0, none⟩ (.agg ⟨nc lv ps⟩) = some (h.put b (some ⟨nc lv ps, true⟩)) := by
  have hl : (nc lw qs).length = 9 := by simp [nc, is_len, hq]
  have hl2 : (nc lv ps).length = 9 := by simp [nc, is_len, hp]
  have := store_ow (P := P) (t := t) (v := .agg ⟨nc lv ps⟩) (off := 0) ow hs (by rw [(nc_cell lv ps).1, hp]) (nc_cell lv ps).2 (by omega)
  rw [this]
  congr 4
  show [] ++ nc lv ps ++ (nc lw qs).drop (0 + 9) = _
  rw [List.drop_of_length_le (by omega)]; simp
set_option maxHeartbeats 4000000 in
theorem refParseNode_ok {h : Heap} {v : Value} {l : List Int} (sl : Sl h v 1 l.length (us l)) (hb : Byt l) :
    RunF prog 62 [v] h fun r h' => r = .tuple #[.agg ⟨nc (nodV l).1 (nodV l).2⟩, .int .i64 (nCode l)] ∧ Fr no h h' := by
  refine RunF.walk func62 rfl rfl ?_
  refine RunC.seq (RunC.region (RunO.part 1 (h1 := h.push ⟨nc 0 nZero, true⟩) rfl (RunO.all rfl ?_)))
  have ow : Ow (h.push ⟨nc 0 nZero, true⟩) h.next (nc 0 nZero) := Ow.push _ _
  have f1 : Fr (fun b => h.next ≤ b) h (h.push ⟨nc 0 nZero, true⟩) := Fr.push _ _ _
  have s1 := sl.fr0 (Fr.push no h ⟨nc 0 nZero, true⟩)
  generalize h.push ⟨nc 0 nZero, true⟩ = h1 at *
  have hp : h.next < h1.next := ow.1
  refine RunC.seq (RunC.seq (RunC.region (RunO.part 1 rfl ?_)))
  refine RunO.callD (refOpen_ok (mb := nMag) rfl s1 hb) rfl rfl rfl ?_
  rintro _ _ ⟨rfl, rfl⟩
  refine RunO.all rfl ?_
  refine RunC.seq (RunC.region (RunO.all rfl ?_))
  have hro := nCode_open hb
  have hvd : nodV l = if nCode l = 0 then (nLv l, nPs l) else (0, nZero) := rfl
  rw [hvd]
  by_cases he : openE nMag l ≠ 0
  · rw [if_pos he] at hro
    rw [hro, if_neg he, show (openE nMag l != 0) = true from bne_iff_ne.2 he]
    refine RunC.cond rfl (fun _ => ?_) (fun g => by cases g)
    refine RunC.seq (RunC.region (RunO.part 2 rfl ?_))
    refine RunO.store rfl rfl (nc_store (lv := 0) (ps := nZero) ow rfl rfl rfl) (RunO.all rfl ?_)
    exact RunC.ret ⟨_, eresults_cell rfl (nc_load rfl (Ow.put (nc 0 nZero) ow.1)) rfl, rfl, frNo (f1.same (Fr.put _ (.inl (Nat.le_refl _))))⟩
  have he0 : openE nMag l = 0 := Decidable.not_not.1 he
  have hl : l.length = 64 := by
    unfold openE at he0
    by_cases g : l.length ≠ 64
    · rw [if_pos g] at he0; cases he0
    · exact Decidable.not_not.1 g
  rw [if_neg he] at hro
  rw [he0, hro]
  refine RunC.cond rfl (fun g => by cases g) (fun _ => RunC.skip ?_)
  refine RunC.seq (RunC.region (RunO.part 1 rfl ?_))
  refine RunO.callD (refGet4_ok (k := 4) s1 hb (by omega) (by omega)) rfl rfl rfl ?_
  rintro _ _ ⟨rfl, rfl⟩
  refine RunO.part 2 (h1 := h1.push ⟨nc 0 nZero, true⟩) rfl ?_
  refine RunO.store rfl rfl (nc_store (lv := nLv l) (ps := nZero) (Ow.push h1 (nc 0 nZero)) rfl rfl rfl) (RunO.nil ?_)
  have on : Ow ((h1.push ⟨nc 0 nZero, true⟩).put h1.next (some ⟨nc (nLv l) nZero, true⟩)) h1.next (nc (nLv l) nZero) := Ow.put _ (Nat.lt_succ_self _)
  have f4 : Fr no h1 ((h1.push ⟨nc 0 nZero, true⟩).put h1.next (some ⟨nc (nLv l) nZero, true⟩)) := (Fr.push _ _ _).trans (Fr.put (m := (· = h1.next)) _ (.inl rfl)) (fun j hj => .inr (by omega))
  have hqn : h.next < h1.next := hp
  generalize (h1.push ⟨nc 0 nZero, true⟩).put h1.next (some ⟨nc (nLv l) nZero, true⟩) = h4 at *
  generalize h1.next = q at *
  have ow4 := ow.fr f4 (fun g => g)
  have s4 := s1.fr0 f4
  have f14 := f1.quiet f4
  have hps : (nPs l).length = 8 := rfl
  have hget := fun i hi => nPs_get l (i := i) hi
  generalize nLv l = lv at *
  generalize nPs l = ps at *
  refine RunC.seq (RunC.seq (RunC.region (RunO.all rfl ?_)))
  refine RunC.block ?_
  let I : Nat → Env → Heap → Prop := fun d E h' => ∃ i : Nat, i + d = 8 ∧ Ow h' q (nc lv (firstP ps i)) ∧ Fr (· = q) h4 h' ∧ Le (upd (upd (upd (upd E0 0 v) 2 (.pointer (some ⟨h.next, 0, none⟩))) 5 (.pointer (some ⟨q, 0, none⟩))) 6 (.int .i64 (i : Int))) E
  refine RunC.loop I ?_ (k := 8) ?_
  · rintro d E h5 ⟨i, hi, on5, f5, hE⟩
    refine RunC.le hE ?_
    clear hE
    have s5 : Sl h5 v 1 l.length (us l) := by
      refine ⟨s4.1, s4.2.1, s4.2.2.imp (fun y => y) ?_⟩
      rintro ⟨b, o, c, h1', h2', h3'⟩
      have hbl : b < h.next := by
        rcases sl.2.2 with ⟨e, _⟩ | ⟨b', o', c', e, _, rd⟩
        · rw [h1'] at e; cases e
        · rw [h1'] at e; cases e; exact rd.2.1
      exact ⟨b, o, c, h1', h2', h3'.fr f5 (show ¬ b = q by omega)⟩
    refine RunC.seq (RunC.seq (RunC.region (RunO.all rfl ?_)))
    refine RunC.cond rfl (fun hlt => ?_) (fun hge => ?_)
    · have hlt := of_decide_eq_true hlt
      have hi8 : i < 8 := by omega
      refine RunC.skip ?_
      refine RunC.seq (RunC.block ?_)
      refine RunC.region (RunO.part 4 rfl ?_)
      rw [fw64 (x := 4 * (i : Int)) (by omega) (by omega)]
      refine RunO.part 1 rfl ?_
      rw [fw64 (x := 8 + 4 * (i : Int)) (by omega) (by omega), show 8 + 4 * (i : Int) = ((8 + 4 * i : Nat) : Int) by omega]
      refine RunO.callD (refGet4_ok (k := 8 + 4 * i) s5 hb (by omega) (by omega)) rfl rfl rfl ?_
      rintro _ _ ⟨rfl, rfl⟩
      rw [← hget i hi8]
      refine RunO.part 1 rfl ?_
      refine RunO.indexA (s := 1) rfl rfl rfl rfl rfl hi8 rfl ?_
      have hfl := firstP_len hps (show i ≤ 8 by omega)
      have on6 := Ow.put (h := h5) (b := q) (nc lv (firstP ps (i + 1))) on5.1
      refine RunO.store (h1 := h5.put q (some ⟨nc lv (firstP ps (i + 1)), true⟩)) rfl rfl ?_ (RunO.nil ?_)
      · rw [Nat.mul_one]
        show astore _ _ _ ⟨q, 1 + i, none⟩ _ = _
        rw [Nat.add_comm 1]
        refine (store1_ow on5 rfl rfl rfl (by show _ < (is _).length + 1; rw [is_len, hfl]; omega)).trans ?_
        rw [← firstP_set hps hi8]
        unfold nc
        rw [List.set_cons_succ]
        unfold is
        rw [List.map_set]
      refine RunC.region (RunO.all rfl ?_)
      exact ⟨d - 1, by omega, i + 1, by omega, on6, f5.same (Fr.put _ (.inl rfl)), Le.cons (inc64 (by omega)) (Le.cons rfl (Le.cons rfl (Le.cons rfl (Le.nil _))))⟩
    · have hge := of_decide_eq_false hge
      obtain rfl : i = 8 := by omega
      have hfin : firstP ps 8 = ps := by unfold firstP; rw [← hps, List.take_length, Nat.sub_self]; simp
      rw [hfin] at on5
      have ow5 := ow4.fr f5 (show ¬ h.next = q by omega)
      have f15 : Fr (fun b => h.next ≤ b) h h5 := f14.trans f5 (fun b e => .inl (by omega))
      refine RunC.exit ?_
      refine RunC.seq ?_
      refine RunC.seqc (fun E' h' => Fr no h5 h' ∧ Le (upd (upd (upd (upd E0 0 v) 2 (.pointer (some ⟨h.next, 0, none⟩))) 5 (.pointer (some ⟨q, 0, none⟩))) 35 (.bool (!(nodOk lv ps && zerosN l 40 60)))) E') ?_ ?_
      · refine RunC.region ?_
        refine RunO.load (v := .agg ⟨nc lv ps⟩) rfl (nc_load hps on5) rfl ?_
        refine RunO.callD (refNode_ok hps) rfl rfl rfl ?_
        rintro _ h6 ⟨rfl, f6⟩
        refine RunO.part 2 rfl ?_
        cases nodOk lv ps with
        | false => exact RunO.all rfl ⟨f6, Le.cons rfl (Le.cons rfl (Le.cons rfl (Le.cons rfl (Le.nil _))))⟩
        | true =>
          refine RunO.part 1 rfl ?_
          refine RunO.callDG rfl (refZeros_ok (k := 40) (m := 60) (s5.fr0 f6) (by decide) (by omega) (by omega)) rfl rfl rfl ?_
          rintro _ _ ⟨rfl, rfl⟩
          exact RunO.all rfl ⟨f6, Le.cons rfl (Le.cons rfl (Le.cons rfl (Le.cons rfl (Le.nil _))))⟩
      rintro E' h6 ⟨f6, hE⟩
      refine RunC.le hE ?_
      clear hE
      have ow6 := ow5.fr f6 (fun g => g)
      have on6 := on5.fr f6 (fun g => g)
      have f16 := f15.quiet f6
      cases (nodOk lv ps && zerosN l 40 60) with
      | false =>
        refine RunC.cond rfl (fun _ => ?_) (fun g => by cases g)
        refine RunC.seq (RunC.region (RunO.part 1 rfl ?_))
        refine RunO.store rfl rfl (nc_store (lv := 0) (ps := nZero) ow6 rfl rfl rfl) (RunO.all rfl ?_)
        exact RunC.ret ⟨_, eresults_cell rfl (nc_load rfl (Ow.put (nc 0 nZero) ow6.1)) rfl, rfl, frNo (f16.same (Fr.put _ (.inl (Nat.le_refl _))))⟩
      | true =>
        refine RunC.cond rfl (fun g => by cases g) (fun _ => RunC.skip ?_)
        refine RunC.seq (RunC.region ?_)
        refine RunO.load (v := .agg ⟨nc lv ps⟩) rfl (nc_load hps on6) rfl ?_
        refine RunO.store rfl rfl (nc_store ow6 rfl hps rfl) (RunO.all rfl ?_)
        exact RunC.ret ⟨_, eresults_cell rfl (nc_load hps (Ow.put (nc lv ps) ow6.1)) rfl, rfl, frNo (f16.same (Fr.put _ (.inl (Nat.le_refl _))))⟩
  · exact ⟨0, by omega, on, Fr.refl _ _, Le.cons rfl (Le.cons rfl (Le.cons rfl (Le.cons rfl (Le.nil _))))⟩
end Go.Proofs.Ytbinkbdfoalbcaa
end
