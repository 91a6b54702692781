/- ViewExact: a calculus over an abstract machine that stands beside the model, and contracts of functions by it (part 5).
Conditions: what each theorem says of its arguments. -/
import Derived.Test.YtnokcbenpnmnbaaGViewExact4
section
set_option linter.unusedVariables false
set_option maxRecDepth 100000
open Go Go.Am Go.RowKit
namespace Go.Proofs.Ytnokcbenpnmnbaa
open Go.Proofs.Try
theorem nd_sub {α : Type} [DecidableEq α] : ∀ (l d : List α), l.Nodup → (∀ x ∈ l, x ∈ d) → l.length ≤ d.length
  | [], d, _, _ => Nat.zero_le _
  | x :: l, d, hn, hs => by
    obtain ⟨h1, h2⟩ := List.nodup_cons.1 hn
    have hx : x ∈ d := hs x (List.mem_cons_self ..)
    have := nd_sub l (d.erase x) h2 (fun y hy => (List.mem_erase_of_ne (fun e => h1 (by rw [← e]; exact hy))).2 (hs y (List.mem_cons_of_mem _ hy)))
    rw [List.length_erase_of_mem hx] at this
    have : 0 < d.length := List.length_pos_of_mem hx
    rw [List.length_cons]; omega
theorem nd_blocks {B : Nat} {l : List Int} (h : l.Nodup) (hr : ∀ x ∈ l, 2 ≤ x ∧ x < (B : Int)) : l.length ≤ B - 2 := by
  have := nd_sub l ((List.range (B - 2)).map fun (j : Nat) => (j : Int) + 2) h (fun x hx => by
    obtain ⟨a, b⟩ := hr x hx
    refine List.mem_map.2 ⟨(x - 2).toNat, List.mem_range.2 (by omega), by omega⟩)
  rwa [List.length_map, List.length_range] at this
theorem idsN {lo s k n c kb tb : Nat} {h : Heap} {lv : Value} {cells : List Value} (r : Row lo h lv s k cells) (h1 : ∀ b, At lv b → b ≠ kb) (h2 : tb ≠ kb) : fpOk (.wr (idsOf [lv, .slice (some ⟨tb, 0, none⟩) n c])) (.rd kb) = true := by
  have key : ∀ l : List Nat, ¬ kb ∈ l → memN kb l = false := by
    intro l
    induction l with
    | nil => intro _; rfl
    | cons x l ih =>
      intro g
      simp only [List.mem_cons, not_or] at g
      unfold memN
      rw [show Nat.beq kb x = false from by cases e : Nat.beq kb x with | false => rfl | true => exact absurd (Nat.eq_of_beq_eq_true e) g.1]
      simpa using ih g.2
  show (!memN kb _) = true
  rw [key]
  · rfl
  · rcases r.2 with ⟨rfl, _⟩ | ⟨b, _, rfl, _⟩
    · simp only [idsOf, List.mem_cons, List.not_mem_nil, or_false]
      omega
    · have := h1 b ⟨_, _, rfl⟩
      simp only [idsOf, List.mem_cons, List.not_mem_nil, or_false]
      omega
/-- A chain of records, followed: what was met, and the block that is none of them. -/
def folB (B : Nat) (bs : List Int) (a : Int) : Bool := (decide (a < 2) || decide (a ≥ (B : Int))) || bs.contains a
def fol (L : List Int) (B : Nat) : Nat → Int → List R8 → List Int → Nat → List R8 × List Int × Nat × Int
  | 0, a, l, bs, w => (l, bs, w, a)
  | f + 1, a, l, bs, w => if a = 0 then (l, bs, w, 0) else if folB B bs a then (l, bs, w, a) else
    if (rCode (blkI L a.toNat) != 0) || !mayR l w (rPar (blkI L a.toNat)) then (l, bs, w, a) else
      fol L B f (rPar (blkI L a.toNat)).nx (l ++ [rPar (blkI L a.toNat)]) (bs ++ [a]) (if (rPar (blkI L a.toNat)).ki == 0 then w + 1 else w)
def folOf (L : List Int) (a : Int) : List R8 × List Int × Nat × Int := fol L (L.length / 64) (L.length / 64) a [] [] 0
theorem fol_end (L : List Int) (B f : Nat) (l : List R8) (bs : List Int) (w : Nat) : fol L B f 0 l bs w = (l, bs, w, 0) := by
  cases f with
  | zero => rfl
  | succ f => show (if (0 : Int) = 0 then _ else _) = _; rw [if_pos rfl]
/-- What follow leaves in memory. -/
def FolR (lo : Nat) (h : Heap) (kb : Nat) (x : List R8 × List Int × Nat × Int) : Prop :=
  ∃ lv bv, lo ≤ kb ∧ Ow h kb [lv, bv, .int .i64 (x.2.2.1 : Int), .int .i64 x.2.2.2] ∧ Row lo h lv 8 x.1.length (recCs x.1) ∧ Row lo h bv 1 x.2.1.length (is x.2.1)
set_option maxHeartbeats 32000000 in
theorem openFollow_ok {h : Heap} {iv : Value} {L : List Int} {a : Int} (sl : Sl h iv 1 L.length (us L)) (hb : Byt L) (hd : devOk L.length = true) :
    RunF prog 71 [iv, .int .i64 a] h fun v h' => Fr no h h' ∧ ∃ kb, v = .pointer (some ⟨kb, 0, none⟩) ∧ FolR h.next h' kb (folOf L a) := by
  have hdl : L.length % 64 = 0 ∧ 4 ≤ L.length / 64 ∧ L.length / 64 ≤ 4096 := by
    unfold devOk at hd
    simpa using hd
  have hm : L.length ≤ 4611686018427387904 := by omega
  refine RunF.walk func71 rfl rfl ?_
  have sl0 := sl
  obtain ⟨A, c, rfl, hc, hA⟩ := sl.form
  refine RunC.seq (RunC.region (RunO.all rfl ?_))
  refine RunC.seq (RunC.region (RunO.part 1 rfl ?_))
  refine RunO.callD (devCheck_ok hm) rfl rfl rfl ?_
  rintro _ _ ⟨rfl, rfl⟩
  rw [hd, if_pos rfl]
  have hB : ∃ B, B = L.length / 64 := ⟨_, rfl⟩
  have hfo : folOf L a = fol L (L.length / 64) (L.length / 64) a [] [] 0 := rfl
  obtain ⟨B, hB⟩ := hB
  rw [← hB] at hfo hdl ⊢
  refine RunO.all rfl ?_
  refine RunC.seq (RunC.region (RunO.all (h1 := h.push ⟨[.slice none 0 0, .slice none 0 0, .int .i64 0, .int .i64 0], true⟩) rfl ?_))
  have ok := Ow.push h [.slice none 0 0, .slice none 0 0, .int .i64 0, .int .i64 0]
  have f1 : Fr no h (h.push ⟨[.slice none 0 0, .slice none 0 0, .int .i64 0, .int .i64 0], true⟩) := Fr.push _ _ _
  generalize h.push ⟨[.slice none 0 0, .slice none 0 0, .int .i64 0, .int .i64 0], true⟩ = h1 at *
  obtain ⟨kb, hkb⟩ : ∃ q, q = h.next := ⟨_, rfl⟩
  rw [← hkb] at ok ⊢
  refine RunC.seq (RunC.seq (RunC.region (RunO.all rfl ?_)))
  refine RunC.block ?_
  refine RunC.loop (fun d E h' => ∃ (at_ : Int) (l : List R8) (bs : List Int) (w : Nat) (lv bv : Value), d + bs.length = B ∧ l.length = bs.length ∧ bs.Nodup ∧ (∀ x ∈ bs, 2 ≤ x ∧ x < (B : Int)) ∧ w ≤ bs.length ∧ folOf L a = fol L B d at_ l bs w ∧
      Fr no h h' ∧ Ow h' kb [lv, bv, .int .i64 (w : Int), .int .i64 0] ∧ Row kb h' lv 8 l.length (recCs l) ∧ Row kb h' bv 1 bs.length (is bs) ∧ (∀ b, At lv b → b ≠ kb ∧ ¬ At bv b) ∧ (∀ b, At bv b → b ≠ kb) ∧
      Le (upd (upd (upd (upd E0 0 (.slice A L.length c)) 5 (.int .i64 (B : Int))) 7 (.pointer (some ⟨kb, 0, none⟩))) 8 (.int .i64 at_)) E) ?st (k := B) ?ini
  case ini => exact ⟨a, [], [], 0, _, _, by simp, rfl, List.nodup_nil, fun x hx => absurd hx List.not_mem_nil, Nat.le_refl 0, hfo, f1, ok, Row.nil _ _ _, Row.nil _ _ _, (fun b g => by obtain ⟨_, _, e⟩ := g; cases e), (fun b g => by obtain ⟨_, _, e⟩ := g; cases e), Le.cons rfl (Le.cons rfl (Le.cons rfl (Le.cons rfl (Le.nil _))))⟩
  rintro d E g1 ⟨at_, l, bs, w, lv, bv, hdb, hll, hnd, hbr, hw, hfo, fg, ow, rl, rb, hx, hy, hE⟩
  refine RunC.le hE ?_
  clear hE
  refine RunC.seq (RunC.seq (RunC.region (RunO.all rfl ?_)))
  by_cases ha0 : at_ = 0
  · subst ha0
    refine RunC.cond rfl (fun g => by cases g) (fun _ => RunC.exit ?_)
    rw [fol_end] at hfo
    refine RunC.seq (RunC.region (RunO.all rfl (RunC.ret ⟨_, rfl, fg, kb, rfl, ?_⟩)))
    rw [hfo]
    exact ⟨lv, bv, Nat.le_refl _, ow, rl, rb⟩
  rw [show (at_ != 0) = true from bne_iff_ne.2 ha0]
  refine RunC.cond rfl (fun _ => RunC.skip ?_) (fun g => by cases g)
  have hbl := nd_blocks hnd hbr
  obtain ⟨f, rfl⟩ : ∃ f, d = f + 1 := ⟨d - 1, by omega⟩
  have hstep : fol L B (f + 1) at_ l bs w = if folB B bs at_ then (l, bs, w, at_) else
    if (rCode (blkI L at_.toNat) != 0) || !mayR l w (rPar (blkI L at_.toNat)) then (l, bs, w, at_) else
      fol L B f (rPar (blkI L at_.toNat)).nx (l ++ [rPar (blkI L at_.toNat)]) (bs ++ [at_]) (if (rPar (blkI L at_.toNat)).ki == 0 then w + 1 else w) := by
    show (if at_ = 0 then _ else _) = _
    rw [if_neg ha0]
  rw [hstep] at hfo
  refine RunC.block ?_
  -- the block is noted
  refine RunC.seq (RunC.region (RunO.part 4 rfl ?_))
  refine RunO.store rfl rfl (store1_ow ow rfl rfl rfl (Nat.le_of_ble_eq_true rfl)) (RunO.nil ?_)
  have ow2 : Ow (g1.put kb (some ⟨[lv, bv, .int .i64 (w : Int), .int .i64 at_], true⟩)) kb [lv, bv, .int .i64 (w : Int), .int .i64 at_] := Ow.put _ ow.1
  have fp : Fr (· = kb) g1 (g1.put kb (some ⟨[lv, bv, .int .i64 (w : Int), .int .i64 at_], true⟩)) := Fr.put _ (.inl rfl)
  have rl2 := rl.frm fp (fun b g e => (hx b g).1 e)
  have rb2 := rb.frm fp (fun b g e => hy b g e)
  have fg2 : Fr no h (g1.put kb (some ⟨[lv, bv, .int .i64 (w : Int), .int .i64 at_], true⟩)) := fg.trans fp (fun b e => .inr (by omega))
  show RunC prog _ _ _ (g1.put kb (some ⟨[lv, bv, .int .i64 (w : Int), .int .i64 at_], true⟩)) _ _ _
  generalize g1.put kb (some ⟨[lv, bv, .int .i64 (w : Int), .int .i64 at_], true⟩) = g2 at *
  have hret : FolR kb g2 kb (l, bs, w, at_) := ⟨lv, bv, Nat.le_refl _, ow2, rl2, rb2⟩
  have slb := rb2.sl (by omega)
  have sll := rl2.sl (by omega)
  refine RunC.seq (RunC.seq (RunC.region (RunO.part 3 rfl ?_)))
  have hF : folB B bs at_ = ((decide (at_ < 2) || decide (at_ ≥ (B : Int))) || bs.contains at_) := rfl
  cases h2 : decide (at_ < 2) with
  | true =>
    rw [hF, h2, Bool.true_or, Bool.true_or, if_pos rfl] at hfo
    refine RunO.all rfl (RunC.cond rfl (fun _ => ?_) (fun g => by cases g))
    exact RunC.seq (RunC.region (RunO.all rfl (RunC.ret ⟨_, rfl, fg2, kb, rfl, by rw [hfo]; exact hret⟩)))
  | false =>
  refine RunO.part 3 rfl ?_
  cases h3 : decide (at_ ≥ (B : Int)) with
  | true =>
    rw [hF, h2, h3, Bool.false_or, Bool.true_or, if_pos rfl] at hfo
    refine RunO.all rfl (RunC.cond rfl (fun _ => ?_) (fun g => by cases g))
    exact RunC.seq (RunC.region (RunO.all rfl (RunC.ret ⟨_, rfl, fg2, kb, rfl, by rw [hfo]; exact hret⟩)))
  | false =>
  refine RunO.part 5 rfl ?_
  refine RunO.loadG (v := bv) rfl rfl (ow2.ld rfl) rfl ?_
  refine RunO.part 1 rfl ?_
  refine RunO.callDG rfl (containsInt_ok slb (by omega)) rfl rfl rfl ?_
  rintro _ _ ⟨rfl, rfl⟩
  cases h4 : bs.contains at_ with
  | true =>
    rw [hF, h2, h3, h4, Bool.false_or, Bool.false_or, if_pos rfl] at hfo
    refine RunO.all rfl (RunC.cond rfl (fun _ => ?_) (fun g => by cases g))
    exact RunC.seq (RunC.region (RunO.all rfl (RunC.ret ⟨_, rfl, fg2, kb, rfl, by rw [hfo]; exact hret⟩)))
  | false =>
  rw [hF, h2, h3, h4, Bool.false_or, Bool.false_or, if_neg Bool.false_ne_true] at hfo
  refine RunO.all rfl (RunC.cond rfl (fun g => by cases g) (fun _ => RunC.skip ?_))
  have h2 := of_decide_eq_false h2
  have h3 := of_decide_eq_false h3
  -- the record
  obtain ⟨an, han⟩ := Int.eq_ofNat_of_zero_le (show 0 ≤ at_ by omega)
  subst han
  rw [Int.toNat_natCast] at hfo
  have haL : (an + 1) * 64 ≤ L.length := by
    have : an + 1 ≤ B := by omega
    have := Nat.mul_le_mul_right 64 this
    omega
  obtain ⟨ib, io, rfl, rd⟩ := hA (by omega)
  have rdb : Rd g2 ⟨ib, io, none⟩ (us L) := rd.fr fg2 (fun g => g)
  refine RunC.seq (RunC.region (RunO.part 2 rfl ?_))
  refine RunO.callD (devOf_ok (o := io) haL hm hc) rfl rfl rfl ?_
  rintro _ _ ⟨⟨c', hc', rfl⟩, rfl⟩
  have hbl2 := blkI_len haL
  have hparse := recParse_ok (h := g2) (A := some ⟨ib, io + an * 64, none⟩) (c := c') (l := blkI L an) (fun _ => ⟨_, rfl, rdBlk rdb haL⟩) (byt_blk hb an) (by rw [hbl2]; exact hc')
  rw [hbl2, rCells_eq] at hparse
  refine RunO.callD hparse rfl rfl rfl ?_
  rintro _ g3 ⟨rfl, f3⟩
  generalize rPar (blkI L an) = r at *
  generalize rCode (blkI L an) = rcd at *
  have ow3 := ow2.fr f3 (fun g => g)
  have rl3 := rl2.fr f3 (fun _ _ _ g => g)
  have rb3 := rb2.fr f3 (fun _ _ _ g => g)
  have fg3 := fg2.same f3
  refine RunO.part 4 (h1 := g3.push ⟨rc8 ⟨0, 0, 0, 0, 0, 0, 0, 0⟩, true⟩) rfl ?_
  refine RunO.store rfl rfl (store_ow (s := 8) (Ow.push g3 (rc8 ⟨0, 0, 0, 0, 0, 0, 0, 0⟩)) rfl rfl rfl (Nat.le_refl 8)) (RunO.all rfl ?_)
  have e8 : (rc8 ⟨0, 0, 0, 0, 0, 0, 0, 0⟩).take 0 ++ cellsOf (.agg ⟨rc8 r⟩) ++ (rc8 ⟨0, 0, 0, 0, 0, 0, 0, 0⟩).drop (0 + 8) = rc8 r := rfl
  rw [e8]
  have on : Ow ((g3.push ⟨rc8 ⟨0, 0, 0, 0, 0, 0, 0, 0⟩, true⟩).put g3.next (some ⟨rc8 r, true⟩)) g3.next (rc8 r) := Ow.put _ (Nat.lt_succ_self _)
  have f4 : Fr no g3 ((g3.push ⟨rc8 ⟨0, 0, 0, 0, 0, 0, 0, 0⟩, true⟩).put g3.next (some ⟨rc8 r, true⟩)) := (Fr.push _ _ _).trans (Fr.put (m := (· = g3.next)) _ (.inl rfl)) (fun j hj => .inr (by omega))
  have hkl := ow3.1
  have hlx : ∀ b, At lv b → b < g3.next := fun b g => (rl3.at g).2
  have hbx : ∀ b, At bv b → b < g3.next := fun b g => (rb3.at g).2
  replace ow3 := ow3.fr f4 (fun g => g)
  replace rl3 := rl3.fr f4 (fun _ _ _ g => g)
  replace rb3 := rb3.fr f4 (fun _ _ _ g => g)
  replace fg3 := fg3.same f4
  generalize (g3.push ⟨rc8 ⟨0, 0, 0, 0, 0, 0, 0, 0⟩, true⟩).put g3.next (some ⟨rc8 r, true⟩) = g4 at *
  obtain ⟨pb, hpb⟩ : ∃ q, q = g3.next := ⟨_, rfl⟩
  rw [← hpb] at on hkl hlx hbx ⊢
  have hret4 : FolR kb g4 kb (l, bs, w, (an : Int)) := ⟨lv, bv, Nat.le_refl _, ow3, rl3, rb3⟩
  have sll4 := rl3.sl (by omega)
  refine RunC.seq (RunC.seq (RunC.region (RunO.part 3 rfl ?_)))
  by_cases hc0 : rcd = 0
  case neg =>
    rw [show (rcd != 0) = true from bne_iff_ne.2 hc0, Bool.true_or, if_pos rfl] at hfo
    rw [show (rcd != 0) = true from bne_iff_ne.2 hc0]
    refine RunO.all rfl (RunC.cond rfl (fun _ => ?_) (fun g => by cases g))
    exact RunC.seq (RunC.region (RunO.all rfl (RunC.ret ⟨_, rfl, fg3, kb, rfl, by rw [hfo]; exact hret4⟩)))
  subst hc0
  rw [show ((0 : Int) != 0) = false from rfl, Bool.false_or] at hfo
  refine RunO.part 1 rfl ?_
  refine RunO.loadG (v := .agg ⟨rc8 r⟩) rfl rfl (on.ld rfl) rfl ?_
  refine RunO.callDG rfl (openMay_ok (r := r) ow3 sll4 (by omega)) rfl rfl rfl ?_
  rintro _ g5 ⟨rfl, f5⟩
  replace on := on.fr f5 (fun g => g)
  replace ow3 := ow3.fr f5 (fun g => g)
  replace rl3 := rl3.fr f5 (fun _ _ _ g => g)
  replace rb3 := rb3.fr f5 (fun _ _ _ g => g)
  replace fg3 := fg3.same f5
  cases hmay : mayR l w r with
  | false =>
    rw [hmay, if_pos (by rfl)] at hfo
    refine RunO.all rfl (RunC.cond rfl (fun _ => ?_) (fun g => by cases g))
    exact RunC.seq (RunC.region (RunO.all rfl (RunC.ret ⟨_, rfl, fg3, kb, rfl, by rw [hfo]; exact ⟨lv, bv, Nat.le_refl _, ow3, rl3, rb3⟩⟩)))
  | true =>
  rw [hmay, if_neg (by simp)] at hfo
  refine RunO.all rfl (RunC.cond rfl (fun g => by cases g) (fun _ => RunC.skip ?_))
  -- how many are whole
  have hpk : pb ≠ kb := by omega
  obtain ⟨w2, hw2⟩ : ∃ w2, w2 = if r.ki == 0 then w + 1 else w := ⟨_, rfl⟩
  have hw2l : w2 ≤ w + 1 := by rw [hw2]; split <;> omega
  rw [← hw2] at hfo
  refine RunC.seqc (fun E' h' => Ow h' kb [lv, bv, .int .i64 (w2 : Int), .int .i64 (an : Int)] ∧ Fr (· = kb) g5 h' ∧ Le (upd (upd (upd (upd (upd E0 0 (.slice (some ⟨ib, io, none⟩) L.length c)) 5 (.int .i64 (B : Int))) 7 (.pointer (some ⟨kb, 0, none⟩))) 8 (.int .i64 (an : Int))) 9 (.pointer (some ⟨pb, 0, none⟩))) E') ?wh ?go
  case wh =>
    refine RunC.seq (RunC.region (RunO.part 1 rfl ?_))
    refine RunO.load (v := .int .i64 r.ki) rfl (on.ld rfl) rfl (RunO.all rfl ?_)
    cases hk : (r.ki == 0) with
    | true =>
      rw [hk, if_pos rfl] at hw2
      refine RunC.cond rfl (fun _ => ?_) (fun g => by cases g)
      refine RunC.region (RunO.part 3 rfl ?_)
      refine RunO.load (v := .int .i64 (w : Int)) rfl (ow3.ld rfl) rfl ?_
      refine RunO.part 1 rfl ?_
      rw [fw64 (x := (w : Int) + 1) (by omega) (by omega), show (w : Int) + 1 = (w2 : Int) by omega]
      refine RunO.part 2 rfl ?_
      refine RunO.store rfl rfl (store1_ow ow3 rfl rfl rfl (Nat.le_of_ble_eq_true rfl)) (RunO.nil ?_)
      exact ⟨Ow.put _ ow3.1, Fr.put _ (.inl rfl), Le.cons rfl (Le.cons rfl (Le.cons rfl (Le.cons rfl (Le.cons rfl (Le.nil _)))))⟩
    | false =>
      rw [hk, if_neg Bool.false_ne_true] at hw2
      subst hw2
      exact RunC.cond rfl (fun g => by cases g) (fun _ => RunC.skip ⟨ow3, Fr.refl _ _, Le.cons rfl (Le.cons rfl (Le.cons rfl (Le.cons rfl (Le.cons rfl (Le.nil _)))))⟩)
  rintro E' g6 ⟨ow6, f6, hE⟩
  refine RunC.le hE ?_
  clear hE
  have on6 := on.fr f6 hpk
  have rl6 := rl3.frm f6 (fun b g e => (hx b g).1 e)
  have rb6 := rb3.frm f6 (fun b g e => hy b g e)
  have fg6 : Fr no h g6 := fg3.trans f6 (fun b e => .inr (by omega))
  have slx := rl6.sl (by omega)
  have hkl6 := ow6.1
  have hpl6 := on6.1
  have hlx6 : ∀ b, At lv b → b < g6.next := fun b g => (rl6.at g).2
  have hbx6 : ∀ b, At bv b → b < g6.next := fun b g => (rb6.at g).2
  have hpl : ¬ At lv pb := fun g => by have := hlx pb g; omega
  have hpb2 : ¬ At bv pb := fun g => by have := hbx pb g; omega
  refine RunC.seq (RunC.drawW (fun b => b = kb ∨ At lv b ∨ At bv b) (p := (9, 13)) (ps := []) rfl ?_)
  refine RunW.pure rfl rfl (fun _ => rfl) rfl ?_
  refine RunW.pure rfl rfl (fun _ => rfl) rfl ?_
  refine RunW.pure rfl rfl (fun _ => rfl) rfl ?_
  refine RunW.pure rfl rfl (fun _ => rfl) rfl ?_
  refine RunW.pure rfl rfl (fun _ => rfl) rfl ?_
  refine RunW.pure rfl rfl (fun _ => rfl) rfl ?_
  refine RunW.load (v := lv) rfl rfl (ow6.ld rfl) rfl ?_
  refine RunW.load (v := .agg ⟨rc8 r⟩) rfl rfl (on6.ld rfl) rfl ?_
  refine RunW.new (ob := ⟨rc8 r, true⟩) rfl rfl (fun _ => rfl) rfl ?_
  have ot := Ow.push g6 (rc8 r)
  have f7 : Fr no g6 (g6.push ⟨rc8 r, true⟩) := Fr.push _ _ _
  have rl7 := rl6.fr f7 (fun _ _ _ g => g)
  have rb7 := rb6.fr f7 (fun _ _ _ g => g)
  have ow7 := ow6.fr f7 (fun g => g)
  have on7 := on6.fr f7 (fun g => g)
  have hn7 : g6.next < (g6.push ⟨rc8 r, true⟩).next := ot.1
  generalize g6.push ⟨rc8 r, true⟩ = g7 at *
  obtain ⟨tb, htb⟩ : ∃ q, q = (g6.lo g6.next).next := ⟨_, rfl⟩
  have htb2 : tb = g6.next := htb
  rw [← htb]
  rw [← htb2] at ot hn7
  refine RunW.append2 (s := 8) (j := 1) rfl rfl rfl rfl rfl rfl rfl rfl rfl (by decide) rl7 ot.all rfl (Nat.le_refl 1) rfl (by show 2 * (_ + 1) * 64 ≤ _; omega) (by omega) (fun b g => .inr (.inl g)) ?_
  intro lv2 g8 rl8 f8
  have ow8 := ow7.fr f8 (fun g => (hx kb g).1 rfl)
  have on8 := on7.fr f8 hpl
  have rb8 := rb7.frm f8 (fun b g e => (hx b e).2 g)
  refine RunW.pure rfl rfl (fun _ => rfl) rfl ?_
  refine RunW.pure rfl rfl (fun _ => rfl) rfl ?_
  refine RunW.pure rfl rfl (fun _ => rfl) rfl ?_
  refine RunW.load (v := bv) rfl rfl (ow8.ld rfl) rfl ?_
  refine RunW.pure rfl rfl (fun _ => rfl) rfl ?_
  refine RunW.new (ob := ⟨is [(an : Int)], true⟩) rfl rfl (fun _ => rfl) rfl ?_
  have ot2 := Ow.push g8 (is [(an : Int)])
  have f9 : Fr no g8 (g8.push ⟨is [(an : Int)], true⟩) := Fr.push _ _ _
  have rl9 := rl8.fr f9 (fun _ _ _ g => g)
  have rb9 := rb8.fr f9 (fun _ _ _ g => g)
  have ow9 := ow8.fr f9 (fun g => g)
  have on9 := on8.fr f9 (fun g => g)
  have hn9 : g8.next < (g8.push ⟨is [(an : Int)], true⟩).next := ot2.1
  generalize g8.push ⟨is [(an : Int)], true⟩ = g9 at *
  refine RunW.append2 (s := 1) (j := 1) rfl rfl rfl rfl rfl rfl rfl rfl rfl (by decide) rb9 ot2.all rfl (Nat.le_refl 1) rfl (by show 2 * (_ + 1) * 8 ≤ _; omega) (by omega) (fun b g => .inr (.inr g)) ?_
  intro bv2 ga rba fa
  have hn8 := f8.next
  have hl2 : ∀ b, At lv2 b → g7.next ≤ b ∧ b < g8.next := fun b g => rl8.at g
  have hb2 : ∀ b, At bv2 b → g9.next ≤ b ∧ b < ga.next := fun b g => rba.at g
  have hbo : ∀ b, At bv b → b < g7.next := fun b g => (rb7.at g).2
  have owa := ow9.fr fa (fun g => hy kb g rfl)
  have ona := on9.fr fa hpb2
  have rla := rl9.frm fa (fun b g e => by have := hl2 b g; have := hbo b e; omega)
  refine RunW.pure rfl rfl (fun _ => rfl) rfl ?_
  refine RunW.pure rfl rfl (fun _ => rfl) rfl ?_
  have hkg7 : kb < g7.next := by omega
  have hn9a := fa.next
  have hkg9 : kb < g9.next := by omega
  have fsb : Fr (· = kb) (ga.lo ga.next) ((ga.lo ga.next).put kb (some ⟨[lv2, bv, .int .i64 (w2 : Int), .int .i64 (an : Int)], true⟩)) := Fr.put _ (.inl rfl)
  have owb : Ow ((ga.lo ga.next).put kb (some ⟨[lv2, bv, .int .i64 (w2 : Int), .int .i64 (an : Int)], true⟩)) kb [lv2, bv, .int .i64 (w2 : Int), .int .i64 (an : Int)] := Ow.put _ owa.1
  have onb := Ow.fr (h := ga.lo ga.next) ona fsb hpk
  have rlb := Row.frm (h := ga.lo ga.next) rla fsb (fun b g e => by have := hl2 b g; have e : b = kb := e; omega)
  have rbb := Row.frm (h := ga.lo ga.next) rba fsb (fun b g e => by have := hb2 b g; have e : b = kb := e; omega)
  refine RunW.store rfl rfl rfl (store1_ow (h := ga.lo ga.next) owa rfl (rl8.cell).1 (rl8.cell).2 (Nat.le_of_ble_eq_true rfl)) (Fr.put _ (.inl (.inl rfl))) ?_
  show RunW prog _ _ _ _ _ ((ga.lo ga.next).put kb (some ⟨[lv2, bv, .int .i64 (w2 : Int), .int .i64 (an : Int)], true⟩)) _
  generalize (ga.lo ga.next).put kb (some ⟨[lv2, bv, .int .i64 (w2 : Int), .int .i64 (an : Int)], true⟩) = gb at *
  refine RunW.pure rfl rfl (fun _ => rfl) rfl ?_
  refine RunW.pure rfl rfl (fun _ => rfl) rfl ?_
  have fsc : Fr (· = kb) (gb.lo gb.next) ((gb.lo gb.next).put kb (some ⟨[lv2, bv2, .int .i64 (w2 : Int), .int .i64 (an : Int)], true⟩)) := Fr.put _ (.inl rfl)
  have owc : Ow ((gb.lo gb.next).put kb (some ⟨[lv2, bv2, .int .i64 (w2 : Int), .int .i64 (an : Int)], true⟩)) kb [lv2, bv2, .int .i64 (w2 : Int), .int .i64 (an : Int)] := Ow.put _ owb.1
  have onc := Ow.fr (h := gb.lo gb.next) onb fsc hpk
  have rlc := Row.frm (h := gb.lo gb.next) rlb fsc (fun b g e => by have := hl2 b g; have e : b = kb := e; omega)
  have rbc := Row.frm (h := gb.lo gb.next) rbb fsc (fun b g e => by have := hb2 b g; have e : b = kb := e; omega)
  refine RunW.store rfl rfl rfl (store1_ow (h := gb.lo gb.next) owb rfl (rba.cell).1 (rba.cell).2 (Nat.le_of_ble_eq_true rfl)) (Fr.put _ (.inl (.inl rfl))) ?_
  show RunW prog _ _ _ _ _ ((gb.lo gb.next).put kb (some ⟨[lv2, bv2, .int .i64 (w2 : Int), .int .i64 (an : Int)], true⟩)) _
  generalize (gb.lo gb.next).put kb (some ⟨[lv2, bv2, .int .i64 (w2 : Int), .int .i64 (an : Int)], true⟩) = gc at *
  refine RunW.pure rfl rfl (fun _ => rfl) rfl ?_
  refine RunW.pure rfl rfl (fun _ => rfl) rfl ?_
  have fsd : Fr (· = kb) (gc.lo gc.next) ((gc.lo gc.next).put kb (some ⟨[lv2, bv2, .int .i64 (w2 : Int), .int .i64 0], true⟩)) := Fr.put _ (.inl rfl)
  have owd : Ow ((gc.lo gc.next).put kb (some ⟨[lv2, bv2, .int .i64 (w2 : Int), .int .i64 0], true⟩)) kb [lv2, bv2, .int .i64 (w2 : Int), .int .i64 0] := Ow.put _ owc.1
  have ond := Ow.fr (h := gc.lo gc.next) onc fsd hpk
  have rld := Row.frm (h := gc.lo gc.next) rlc fsd (fun b g e => by have := hl2 b g; have e : b = kb := e; omega)
  have rbd := Row.frm (h := gc.lo gc.next) rbc fsd (fun b g e => by have := hb2 b g; have e : b = kb := e; omega)
  refine RunW.store rfl rfl rfl (store1_ow (h := gc.lo gc.next) owc rfl rfl rfl (Nat.le_of_ble_eq_true rfl)) (Fr.put _ (.inl (.inl rfl))) ?_
  show RunW prog _ _ _ _ _ ((gc.lo gc.next).put kb (some ⟨[lv2, bv2, .int .i64 (w2 : Int), .int .i64 0], true⟩)) _
  generalize (gc.lo gc.next).put kb (some ⟨[lv2, bv2, .int .i64 (w2 : Int), .int .i64 0], true⟩) = gd at *
  refine RunW.nil ⟨?_, fun lw F => ?_⟩
  · show cond (fpOk (.wr (idsOf [lv, .slice (some ⟨tb, 0, none⟩) 1 (exc 1)])) (.rd kb)) true false = true
    rw [idsN rl7 (fun b g => (hx b g).1) (by omega)]; rfl
  have owz : Ow (gd.lo lw) kb [lv2, bv2, .int .i64 (w2 : Int), .int .i64 0] := owd
  have onz : Ow (gd.lo lw) pb (rc8 r) := ond
  have rlz : Row kb (gd.lo lw) lv2 8 (l ++ [r]).length (recCs (l ++ [r])) := by
    have e1 : recCs l ++ rc8 r = recCs (l ++ [r]) := by rw [recCs_app]; show _ = _ ++ (rc8 r ++ []); rw [List.append_nil]
    have rld : Row g7.next (gd.lo lw) lv2 8 (l.length + 1) (recCs l ++ rc8 r) := rld
    rw [e1] at rld
    rw [List.length_append]
    exact Row.lo rld (by omega)
  have rbz : Row kb (gd.lo lw) bv2 1 (bs ++ [(an : Int)]).length (is (bs ++ [(an : Int)])) := by
    have e1 : is bs ++ is [(an : Int)] = is (bs ++ [(an : Int)]) := (List.map_append ..).symm
    have rbd : Row g9.next (gd.lo lw) bv2 1 (bs.length + 1) (is bs ++ is [(an : Int)]) := rbd
    rw [e1] at rbd
    rw [List.length_append]
    exact Row.lo rbd (by omega)
  refine RunC.region (RunO.part 1 rfl ?_)
  refine RunO.load (v := .int .i64 r.nx) rfl (onz.ld rfl) rfl (RunO.all rfl ?_)
  refine ⟨f, by omega, r.nx, l ++ [r], bs ++ [(an : Int)], w2, lv2, bv2, ?_, ?_, nodup_snoc hnd ?_, ?_, ?_, hfo, fg6.trans F (fun b g => .inr ?_), owz, rlz, rbz, ?_, ?_, Le.cons rfl (Le.cons rfl (Le.cons rfl (Le.cons rfl (Le.nil _))))⟩
  · rw [List.length_append, List.length_singleton]; omega
  · rw [List.length_append, List.length_append, hll]; rfl
  · intro g
    rw [List.contains_iff_mem.2 g] at h4; cases h4
  · intro x g
    rcases List.mem_append.1 g with g | g
    · exact hbr x g
    · rw [List.mem_singleton.1 g]; omega
  · rw [List.length_append, List.length_singleton]; omega
  · rcases g with g | g | g
    · omega
    · have := (rl.at g).1; omega
    · have := (rb.at g).1; omega
  · intro b g
    have h8 := hl2 b g
    exact ⟨by omega, fun g2 => by have := hb2 b g2; omega⟩
  · intro b g
    have := hb2 b g; omega
end Go.Proofs.Ytnokcbenpnmnbaa
end
section
set_option linter.unusedVariables false
set_option linter.unusedSectionVars false
set_option maxRecDepth 100000
open Go Go.Am Go.RowKit
namespace Go.Proofs.Ytnokcbenpnmnbaa
open Go.Proofs.Try
def bo (l : List Bool) : List Value := l.map Value.bool
theorem bo_len (l : List Bool) : (bo l).length = l.length := List.length_map _
theorem bo_part {l : List Bool} {i : Nat} (h : i < l.length) : apart prog 4 (bo l) (i * 1) = some (.bool (l.getD i false)) := by
  show nth (bo l) (i * 1) = _
  rw [Nat.mul_one, nth_eq, bo, List.getElem?_map, List.getElem?_eq_getElem h, List.getD_eq_getElem?_getD, List.getElem?_eq_getElem h]; rfl
theorem bo_set (l : List Bool) (i : Nat) (x : Bool) : (bo l).set (0 + i * 1) (.bool x) = bo (l.set i x) := by unfold bo; rw [List.map_set, Nat.zero_add, Nat.mul_one]
theorem getD_setBo (l : List Bool) {k : Nat} (hk : k < l.length) (v : Bool) (s : Nat) : (l.set k v).getD s false = if s = k then v else l.getD s false := by
  rw [List.getD_eq_getElem?_getD, List.getElem?_set]
  by_cases e : s = k
  · subst e; rw [if_pos rfl, if_pos rfl, if_pos hk]; rfl
  · rw [if_neg (Ne.symm e), if_neg e, List.getD_eq_getElem?_getD]
theorem cont_succ {l : List Int} {i : Nat} (h : i < l.length) (x : Int) : (l.take (i + 1)).contains x = (decide (x = l[i]) || (l.take i).contains x) := by
  rw [Bool.eq_iff_iff, List.contains_iff_mem, List.take_succ_eq_append_getElem h, List.mem_append, List.mem_singleton, Bool.or_eq_true, decide_eq_true_eq, List.contains_iff_mem]
  exact ⟨fun g => g.symm, fun g => g.symm⟩
/-- A tree that was walked: its block, its map, its nodes. -/
abbrev Tr3 : Type := Nat × List Int × List Int
def tps (l : List Tr3) : List Value := l.map fun t => .pointer (some ⟨t.1, 0, none⟩)
theorem tps_part {l : List Tr3} {i : Nat} (h : i < l.length) : apart prog 112 (tps l) (i * 1) = some (.pointer (some ⟨l[i].1, 0, none⟩)) := by
  show nth (tps l) (i * 1) = _
  rw [Nat.mul_one, nth_eq, tps, List.getElem?_map, List.getElem?_eq_getElem h]; rfl
/-- It reads so, and is in range. -/
def TrOk (B : Nat) (h : Heap) (t : Tr3) : Prop :=
  ∃ iv mv nv, Ow h t.1 (wc iv B mv nv false) ∧ Sl h mv 1 t.2.1.length (is t.2.1) ∧ Sl h nv 1 t.2.2.length (is t.2.2) ∧ t.2.1.length = 512 ∧ t.2.2.length ≤ 100000 ∧ (∀ x ∈ t.2.1, 0 ≤ x ∧ x < (B : Int)) ∧ ∀ x ∈ t.2.2, 0 ≤ x ∧ x < (B : Int)
theorem TrOk.fr0 {B : Nat} {h h' : Heap} {t : Tr3} (r : TrOk B h t) (f : Fr no h h') : TrOk B h' t := by
  obtain ⟨iv, mv, nv, h1, h2, h3, h4⟩ := r
  exact ⟨iv, mv, nv, h1.fr f (fun g => g), h2.fr0 f, h3.fr0 f, h4⟩
/-- The marks. -/
structure CW (h : Heap) (B pb nb rb sb : Nat) (N R S : List Bool) : Prop where
  op : Ow h pb [.slice (some ⟨nb, 0, none⟩) B (exc B), .slice (some ⟨rb, 0, none⟩) B (exc B), .slice (some ⟨sb, 0, none⟩) B (exc B)]
  on : Ow h nb (bo N)
  or : Ow h rb (bo R)
  os : Ow h sb (bo S)
  ln : N.length = B
  lr : R.length = B
  ls : S.length = B
structure CD (pb nb rb sb : Nat) : Prop where
  pn : pb ≠ nb
  pr : pb ≠ rb
  ps : pb ≠ sb
  nr : nb ≠ rb
  ns : nb ≠ sb
  rs : rb ≠ sb
section
variable {h : Heap} {B pb nb rb sb : Nat} {N R S : List Bool} (d : CD pb nb rb sb) (t : CW h B pb nb rb sb N R S)
include d t
theorem CW.putR {i : Nat} (x : Bool) : CW (h.put rb (some ⟨bo (R.set i x), true⟩)) B pb nb rb sb N (R.set i x) S := by
  have f : Fr (· = rb) h (h.put rb (some ⟨bo (R.set i x), true⟩)) := Fr.put _ (.inl rfl)
  exact ⟨t.op.fr f d.pr, t.on.fr f d.nr, Ow.put _ t.or.1, t.os.fr f (fun e => d.rs e.symm), t.ln, by rw [List.length_set]; exact t.lr, t.ls⟩
theorem CW.putN {i : Nat} (x : Bool) : CW (h.put nb (some ⟨bo (N.set i x), true⟩)) B pb nb rb sb (N.set i x) R S := by
  have f : Fr (· = nb) h (h.put nb (some ⟨bo (N.set i x), true⟩)) := Fr.put _ (.inl rfl)
  exact ⟨t.op.fr f d.pn, Ow.put _ t.on.1, t.or.fr f (fun e => d.nr e.symm), t.os.fr f (fun e => d.ns e.symm), by rw [List.length_set]; exact t.ln, t.lr, t.ls⟩
theorem CW.putS {i : Nat} (x : Bool) : CW (h.put sb (some ⟨bo (S.set i x), true⟩)) B pb nb rb sb N R (S.set i x) := by
  have f : Fr (· = sb) h (h.put sb (some ⟨bo (S.set i x), true⟩)) := Fr.put _ (.inl rfl)
  exact ⟨t.op.fr f d.ps, t.on.fr f d.ns, t.or.fr f d.rs, Ow.put _ t.os.1, t.ln, t.lr, by rw [List.length_set]; exact t.ls⟩
end
/-- What a block is of two kinds. -/
def isN (TL : List Tr3) (j : Nat) : Bool := TL.any fun t => t.2.2.contains (j : Int)
def isS (TL : List Tr3) (j : Nat) : Bool := TL.any fun t => decide (j ≠ 0) && t.2.1.contains (j : Int)
def clP (bl : List Int) (TL : List Tr3) (j : Nat) : Bool := (isS TL j && (isN TL j || bl.contains (j : Int))) || (isN TL j && bl.contains (j : Int))
theorem any_snoc {α : Type} {l : List α} {i : Nat} (h : i < l.length) (p : α → Bool) : (l.take (i + 1)).any p = ((l.take i).any p || p l[i]) := by
  rw [List.take_succ_eq_append_getElem h, List.any_append, List.any_cons, List.any_nil, Bool.or_false]
def imC (s5 : List Value) (sl : Value) (rv bv tv : Value) : List Value := s5 ++ [sl, rv, bv, tv]
end Go.Proofs.Ytnokcbenpnmnbaa
end
section
set_option linter.unusedVariables false
set_option linter.unusedSectionVars false
set_option maxRecDepth 100000
open Go Go.Am Go.RowKit
namespace Go.Proofs.Ytnokcbenpnmnbaa
open Go.Proofs.Try
theorem reps_bo (n : Nat) : reps (cellsOf (Value.bool false)) n = bo (List.replicate n false) := by
  rw [show cellsOf (Value.bool false) = [.bool false] from rfl, reps_one]; unfold bo; rw [List.map_replicate]
theorem rep_false (n j : Nat) : (List.replicate n false).getD j false = false := by
  rw [List.getD_eq_getElem?_getD, List.getElem?_replicate]; split <;> rfl
/-- The cells of an open image. -/
def imc (s : S5) (slot : Int) (rv bv tv : Value) : List Value := sc5 s ++ [.int .i64 slot, rv, bv, tv]
set_option maxHeartbeats 32000000 in
theorem openClash_ok {h : Heap} {xb B : Nat} {s : S5} {slot : Int} {rv bv tv : Value} {bl : List Int} {TL : List Tr3} (ox : Ow h xb (imc s slot rv bv tv)) (sbl : Sl h bv 1 bl.length (is bl)) (stl : Sl h tv 1 TL.length (tps TL))
    (htr : ∀ t ∈ TL, TrOk B h t) (hbr : ∀ x ∈ bl, 0 ≤ x ∧ x < (B : Int)) (hB : B ≤ 100000) (hbl : bl.length ≤ 100000) (hTL : TL.length ≤ 100000) :
    RunF prog 74 [.pointer (some ⟨xb, 0, none⟩), .int .i64 (B : Int)] h fun v h' => Fr no h h' ∧ ((∃ i : Nat, i < B ∧ v = .int .i64 (i : Int) ∧ clP bl TL i = true ∧ ∀ j, j < i → clP bl TL j = false) ∨ (v = .int .i64 0 ∧ ∀ j, j < B → clP bl TL j = false)) := by
  refine RunF.walk func74 rfl rfl ?_
  obtain ⟨bA, bc, rfl, _, _⟩ := sbl.form
  obtain ⟨tA, tc, rfl, _, _⟩ := stl.form
  refine RunC.seq (RunC.region (RunO.all rfl ?_))
  refine RunC.seq (RunC.draw0 rfl ?_)
  refine RunO.part 1 rfl ?_
  refine RunO.make (m := B) rfl rfl rfl rfl rfl rfl (show 1 * B ≤ _ by omega) (by omega) rfl ?_
  rw [reps_bo]
  have on := Ow.push h (bo (List.replicate B false))
  have f1 : Fr no h (h.push ⟨bo (List.replicate B false), true⟩) := Fr.push _ _ _
  generalize h.push ⟨bo (List.replicate B false), true⟩ = h1 at *
  obtain ⟨nb, hnb⟩ : ∃ q, q = h.next := ⟨_, rfl⟩
  rw [← hnb] at on ⊢
  have hn1 := on.1
  refine RunO.part 1 rfl ?_
  refine RunO.make (m := B) rfl rfl rfl rfl rfl rfl (show 1 * B ≤ _ by omega) (by omega) rfl ?_
  rw [reps_bo]
  have or := Ow.push h1 (bo (List.replicate B false))
  have f2 : Fr no h1 (h1.push ⟨bo (List.replicate B false), true⟩) := Fr.push _ _ _
  replace on := on.fr f2 (fun g => g)
  generalize h1.push ⟨bo (List.replicate B false), true⟩ = h2 at *
  obtain ⟨rb, hrb⟩ : ∃ q, q = h1.next := ⟨_, rfl⟩
  rw [← hrb] at or ⊢
  have hn2 := or.1
  refine RunO.part 1 rfl ?_
  refine RunO.make (m := B) rfl rfl rfl rfl rfl rfl (show 1 * B ≤ _ by omega) (by omega) rfl ?_
  rw [reps_bo]
  have os := Ow.push h2 (bo (List.replicate B false))
  have f3 : Fr no h2 (h2.push ⟨bo (List.replicate B false), true⟩) := Fr.push _ _ _
  replace on := on.fr f3 (fun g => g)
  replace or := or.fr f3 (fun g => g)
  generalize h2.push ⟨bo (List.replicate B false), true⟩ = h3 at *
  obtain ⟨sb, hsb⟩ : ∃ q, q = h2.next := ⟨_, rfl⟩
  rw [← hsb] at os ⊢
  have hn3 := os.1
  refine RunO.part 2 (h1 := h3.push ⟨[.slice none 0 0, .slice none 0 0, .slice none 0 0], true⟩) rfl ?_
  refine RunO.store rfl rfl (store_ow (s := 3) (Ow.push h3 [.slice none 0 0, .slice none 0 0, .slice none 0 0]) rfl rfl rfl (Nat.le_refl 3)) (RunO.nil ?_)
  have e3 : [Value.slice none 0 0, .slice none 0 0, .slice none 0 0].take 0 ++ cellsOf (.agg ⟨[.slice (some ⟨nb, 0, none⟩) B (exc B), .slice (some ⟨rb, 0, none⟩) B (exc B), .slice (some ⟨sb, 0, none⟩) B (exc B)]⟩) ++ [Value.slice none 0 0, .slice none 0 0, .slice none 0 0].drop (0 + 3) = [.slice (some ⟨nb, 0, none⟩) B (exc B), .slice (some ⟨rb, 0, none⟩) B (exc B), .slice (some ⟨sb, 0, none⟩) B (exc B)] := rfl
  have op : Ow ((h3.push ⟨[.slice none 0 0, .slice none 0 0, .slice none 0 0], true⟩).put h3.next (some ⟨[.slice (some ⟨nb, 0, none⟩) B (exc B), .slice (some ⟨rb, 0, none⟩) B (exc B), .slice (some ⟨sb, 0, none⟩) B (exc B)], true⟩)) h3.next _ := Ow.put _ (Nat.lt_succ_self _)
  have f4 : Fr no h3 ((h3.push ⟨[.slice none 0 0, .slice none 0 0, .slice none 0 0], true⟩).put h3.next (some ⟨[.slice (some ⟨nb, 0, none⟩) B (exc B), .slice (some ⟨rb, 0, none⟩) B (exc B), .slice (some ⟨sb, 0, none⟩) B (exc B)], true⟩)) := (Fr.push _ _ _).trans (Fr.put (m := (· = h3.next)) _ (.inl rfl)) (fun j hj => .inr (by omega))
  replace on := on.fr f4 (fun g => g)
  replace or := or.fr f4 (fun g => g)
  replace os := os.fr f4 (fun g => g)
  show RunC prog _ _ _ ((h3.push ⟨[.slice none 0 0, .slice none 0 0, .slice none 0 0], true⟩).put h3.next (some ⟨[.slice (some ⟨nb, 0, none⟩) B (exc B), .slice (some ⟨rb, 0, none⟩) B (exc B), .slice (some ⟨sb, 0, none⟩) B (exc B)], true⟩)) _ _ _
  generalize (h3.push ⟨[.slice none 0 0, .slice none 0 0, .slice none 0 0], true⟩).put h3.next (some ⟨[.slice (some ⟨nb, 0, none⟩) B (exc B), .slice (some ⟨rb, 0, none⟩) B (exc B), .slice (some ⟨sb, 0, none⟩) B (exc B)], true⟩) = h4 at *
  obtain ⟨pb, hpb⟩ : ∃ q, q = h3.next := ⟨_, rfl⟩
  rw [← hpb] at op ⊢
  have F4 : Fr no h h4 := ((f1.same f2).same f3).same f4
  have cd : CD pb nb rb sb := ⟨by omega, by omega, by omega, by omega, by omega, by omega⟩
  have cw : CW h4 B pb nb rb sb (List.replicate B false) (List.replicate B false) (List.replicate B false) := ⟨op, on, or, os, List.length_replicate, List.length_replicate, List.length_replicate⟩
  have hge : h.next ≤ nb ∧ h.next ≤ rb ∧ h.next ≤ sb := by omega
  clear op on or os f1 f2 f3 f4
  -- the records
  refine RunC.seq ?_
  refine RunC.seq (RunC.region (RunO.part 3 rfl ?_))
  refine RunO.load (v := .slice bA bl.length bc) rfl ((ox.fr F4 (fun g => g)).ld rfl) rfl (RunO.all rfl ?_)
  refine RunC.block ?_
  refine RunC.loop (fun d E h' => ∃ (i : Nat) (R : List Bool), i + d = bl.length ∧ CW h' B pb nb rb sb (List.replicate B false) R (List.replicate B false) ∧ (∀ j, j < B → R.getD j false = (bl.take i).contains (j : Int)) ∧ Fr no h h' ∧
    Le (upd (upd (upd (upd (upd (upd E0 0 (.pointer (some ⟨xb, 0, none⟩))) 1 (.int .i64 (B : Int))) 5 (.pointer (some ⟨pb, 0, none⟩))) 25 (.slice bA bl.length bc)) 26 (.int .i64 (bl.length : Int))) 27 (.int .i64 (i : Int))) E) ?st1 (k := bl.length) ?ini1
  case ini1 => exact ⟨0, _, by omega, cw, fun j _ => by rw [rep_false]; simp, F4, Le.cons rfl (Le.cons rfl (Le.cons rfl (Le.cons rfl (Le.cons rfl (Le.cons rfl (Le.nil _))))))⟩
  rintro d E g1 ⟨i, R, hi, cw, hR, fg, hE⟩
  refine RunC.le hE ?_
  clear hE
  refine RunC.seq (RunC.region (RunO.all rfl ?_))
  refine RunC.seq (RunC.cond rfl (fun hlt => RunC.skip ?go1) (fun hge => RunC.exit ?ex1))
  case go1 =>
    have hlt := of_decide_eq_true hlt
    have hlt : i < bl.length := by omega
    obtain ⟨x0, xB⟩ := hbr bl[i] (List.getElem_mem hlt)
    obtain ⟨q, hq⟩ := Int.eq_ofNat_of_zero_le x0
    have hqB : q < B := by omega
    have hcs := fun x => cont_succ hlt x
    refine RunC.seq (RunC.block ?_)
    refine RunC.seq (RunC.region ?_)
    refine RunO.at (s := 1) (k := i) rfl rfl (sbl.fr0 fg) rfl rfl hlt (is_part hlt) rfl rfl rfl (RunO.all rfl ?_)
    rw [hq] at hcs ⊢
    refine RunC.region (RunO.part 1 rfl ?_)
    refine RunO.load (v := .slice (some ⟨rb, 0, none⟩) B (exc B)) rfl (cw.op.ld rfl) rfl ?_
    refine RunO.part 1 rfl ?_
    refine RunO.index (s := 1) (k := q) rfl rfl rfl rfl hqB rfl ?_
    refine RunO.store rfl rfl (store1_ow cw.or rfl rfl rfl (by rw [bo_len, cw.lr]; omega)) (RunO.nil ?_)
    rw [bo_set]
    refine RunC.region (RunO.all rfl ?_)
    refine ⟨d - 1, by omega, i + 1, _, by omega, cw.putR cd true, fun j hj => ?_, fg.trans (Fr.put (m := (· = rb)) _ (.inl rfl)) (fun b e => .inr (by omega)), Le.cons (inc64 (by omega)) (Le.cons rfl (Le.cons rfl (Le.cons rfl (Le.cons rfl (Le.cons rfl (Le.nil _))))))⟩
    rw [getD_setBo R (by rw [cw.lr]; omega), hcs, hR j hj]
    by_cases e : j = q
    · rw [if_pos e, decide_eq_true (by omega)]; rfl
    · rw [if_neg e, decide_eq_false (by omega)]; rfl
  have hge1 := of_decide_eq_false hge
  obtain rfl : i = bl.length := by omega
  rw [List.take_length] at hR
  -- the trees
  refine RunC.seq ?_
  refine RunC.seq (RunC.region (RunO.part 3 rfl ?_))
  refine RunO.load (v := .slice tA TL.length tc) rfl ((ox.fr fg (fun g => g)).ld rfl) rfl (RunO.all rfl ?_)
  refine RunC.block ?_
  refine RunC.loop (fun d E h' => ∃ (i : Nat) (N S : List Bool), i + d = TL.length ∧ CW h' B pb nb rb sb N R S ∧ (∀ j, j < B → N.getD j false = isN (TL.take i) j) ∧ (∀ j, j < B → S.getD j false = isS (TL.take i) j) ∧ Fr no h h' ∧
    Le (upd (upd (upd (upd (upd (upd E0 0 (.pointer (some ⟨xb, 0, none⟩))) 1 (.int .i64 (B : Int))) 5 (.pointer (some ⟨pb, 0, none⟩))) 39 (.slice tA TL.length tc)) 40 (.int .i64 (TL.length : Int))) 41 (.int .i64 (i : Int))) E) ?st2 (k := TL.length) ?ini2
  case ini2 => exact ⟨0, _, _, by omega, cw, fun j _ => by rw [rep_false]; rfl, fun j _ => by rw [rep_false]; rfl, fg, Le.cons rfl (Le.cons rfl (Le.cons rfl (Le.cons rfl (Le.cons rfl (Le.cons rfl (Le.nil _))))))⟩
  rintro d2 E g2 ⟨ti, N, S, hti, cw, hN, hS, fg2, hE⟩
  refine RunC.le hE ?_
  clear hE
  refine RunC.seq (RunC.region (RunO.all rfl ?_))
  refine RunC.seq (RunC.cond rfl (fun hlt => RunC.skip ?go2) (fun hge => RunC.exit ?ex2))
  case go2 =>
    have hlt := of_decide_eq_true hlt
    have hlt : ti < TL.length := by omega
    have hNs : ∀ j, isN (TL.take (ti + 1)) j = (isN (TL.take ti) j || TL[ti].2.2.contains (j : Int)) := fun j => any_snoc hlt _
    have hSs : ∀ j, isS (TL.take (ti + 1)) j = (isS (TL.take ti) j || (decide (j ≠ 0) && TL[ti].2.1.contains (j : Int))) := fun j => any_snoc hlt _
    have htk := htr TL[ti] (List.getElem_mem hlt)
    have htp := tps_part hlt
    generalize TL[ti] = T at *
    obtain ⟨wb, tm, tn⟩ := T
    obtain ⟨tiv, tmv, tnv, ow, slm, sln, tml, tnl, tmr, tnr⟩ := htk
    simp only at ow slm sln tml tnl tmr tnr htp hNs hSs
    obtain ⟨mA, mc, rfl, _, _⟩ := slm.form
    obtain ⟨nA, nc_, rfl, _, _⟩ := sln.form
    refine RunC.seq (RunC.block ?_)
    refine RunC.seq (RunC.region ?_)
    refine RunO.at (s := 1) (k := ti) rfl rfl (stl.fr0 fg2) rfl rfl hlt htp rfl rfl rfl (RunO.all rfl ?_)
    -- its nodes
    refine RunC.seq ?_
    refine RunC.seq (RunC.region (RunO.part 3 rfl ?_))
    refine RunO.load (v := .slice nA tn.length nc_) rfl ((ow.fr fg2 (fun g => g)).ld rfl) rfl (RunO.all rfl ?_)
    refine RunC.block ?_
    refine RunC.loop (fun d E h' => ∃ (i : Nat) (N : List Bool), i + d = tn.length ∧ CW h' B pb nb rb sb N R S ∧ (∀ j, j < B → N.getD j false = (isN (TL.take ti) j || (tn.take i).contains (j : Int))) ∧ Fr no h h' ∧
      Le ((upd (upd (upd (upd (upd (upd (upd (upd (upd (upd E0 0 (.pointer (some ⟨xb, 0, none⟩))) 1 (.int .i64 (B : Int))) 5 (.pointer (some ⟨pb, 0, none⟩))) 39 (.slice tA TL.length tc)) 40 (.int .i64 (TL.length : Int))) 41 (.int .i64 (ti : Int))) 9 (.pointer (some ⟨wb, 0, none⟩))) 48 (.slice nA tn.length nc_)) 49 (.int .i64 (tn.length : Int))) 50 (.int .i64 (i : Int)))) E) ?st3 (k := tn.length) ?ini3
    case ini3 => exact ⟨0, _, by omega, cw, fun j hj => by rw [hN j hj]; simp, fg2, Le.cons rfl (Le.cons rfl (Le.cons rfl (Le.cons rfl (Le.cons rfl (Le.cons rfl (Le.cons rfl (Le.cons rfl (Le.cons rfl (Le.cons rfl (Le.nil _))))))))))⟩
    rintro d3 E g3 ⟨i, N3, hi, cw, hN3, fg3, hE⟩
    refine RunC.le hE ?_
    clear hE
    refine RunC.seq (RunC.region (RunO.all rfl ?_))
    refine RunC.seq (RunC.cond rfl (fun hlt => RunC.skip ?go3) (fun hge => RunC.exit ?ex3))
    case go3 =>
      have hlt := of_decide_eq_true hlt
      have hlt : i < tn.length := by omega
      obtain ⟨x0, xB⟩ := tnr tn[i] (List.getElem_mem hlt)
      obtain ⟨q, hq⟩ := Int.eq_ofNat_of_zero_le x0
      have hqB : q < B := by omega
      have hcs := fun x => cont_succ hlt x
      refine RunC.seq (RunC.block ?_)
      refine RunC.seq (RunC.region ?_)
      refine RunO.at (s := 1) (k := i) rfl rfl (sln.fr0 fg3) rfl rfl hlt (is_part hlt) rfl rfl rfl (RunO.all rfl ?_)
      rw [hq] at hcs ⊢
      refine RunC.region (RunO.part 1 rfl ?_)
      refine RunO.load (v := .slice (some ⟨nb, 0, none⟩) B (exc B)) rfl (cw.op.ld rfl) rfl ?_
      refine RunO.part 1 rfl ?_
      refine RunO.index (s := 1) (k := q) rfl rfl rfl rfl hqB rfl ?_
      refine RunO.store rfl rfl (store1_ow cw.on rfl rfl rfl (by rw [bo_len, cw.ln]; omega)) (RunO.nil ?_)
      rw [bo_set]
      refine RunC.region (RunO.all rfl ?_)
      refine ⟨d3 - 1, by omega, i + 1, _, by omega, cw.putN cd true, fun j hj => ?_, fg3.trans (Fr.put (m := (· = nb)) _ (.inl rfl)) (fun b e => .inr (by omega)), Le.cons (inc64 (by omega)) (Le.cons rfl (Le.cons rfl (Le.cons rfl (Le.cons rfl (Le.cons rfl (Le.cons rfl (Le.cons rfl (Le.cons rfl (Le.cons rfl (Le.nil _))))))))))⟩
      rw [getD_setBo N3 (by rw [cw.ln]; omega), hcs, hN3 j hj]
      by_cases e : j = q
      · rw [if_pos e, decide_eq_true (by omega), Bool.true_or, Bool.or_true]
      · rw [if_neg e, decide_eq_false (by omega), Bool.false_or]
    have hge3 := of_decide_eq_false hge
    obtain rfl : i = tn.length := by omega
    rw [List.take_length] at hN3
    -- its map
    refine RunC.seq (RunC.region (RunO.part 3 rfl ?_))
    refine RunO.load (v := .slice mA tm.length mc) rfl ((ow.fr fg3 (fun g => g)).ld rfl) rfl (RunO.all rfl ?_)
    refine RunC.block ?_
    refine RunC.loop (fun d E h' => ∃ (i : Nat) (S : List Bool), i + d = tm.length ∧ CW h' B pb nb rb sb N3 R S ∧ (∀ j, j < B → S.getD j false = (isS (TL.take ti) j || (decide (j ≠ 0) && (tm.take i).contains (j : Int)))) ∧ Fr no h h' ∧
      Le ((upd (upd (upd (upd (upd (upd (upd (upd (upd (upd E0 0 (.pointer (some ⟨xb, 0, none⟩))) 1 (.int .i64 (B : Int))) 5 (.pointer (some ⟨pb, 0, none⟩))) 39 (.slice tA TL.length tc)) 40 (.int .i64 (TL.length : Int))) 41 (.int .i64 (ti : Int))) 9 (.pointer (some ⟨wb, 0, none⟩))) 62 (.slice mA tm.length mc)) 63 (.int .i64 (tm.length : Int))) 64 (.int .i64 (i : Int)))) E) ?st4 (k := tm.length) ?ini4
    case ini4 => exact ⟨0, _, by omega, cw, fun j hj => by rw [hS j hj]; simp, fg3, Le.cons rfl (Le.cons rfl (Le.cons rfl (Le.cons rfl (Le.cons rfl (Le.cons rfl (Le.cons rfl (Le.cons rfl (Le.cons rfl (Le.cons rfl (Le.nil _))))))))))⟩
    rintro d4 E g4 ⟨i, S4, hi, cw, hS4, fg4, hE⟩
    refine RunC.le hE ?_
    clear hE
    refine RunC.seq (RunC.region (RunO.all rfl ?_))
    refine RunC.seq (RunC.cond rfl (fun hlt => RunC.skip ?go4) (fun hge => RunC.exit ?ex4))
    case go4 =>
      have hlt := of_decide_eq_true hlt
      have hlt : i < tm.length := by omega
      obtain ⟨x0, xB⟩ := tmr tm[i] (List.getElem_mem hlt)
      obtain ⟨q, hq⟩ := Int.eq_ofNat_of_zero_le x0
      have hqB : q < B := by omega
      have hcs := fun x => cont_succ hlt x
      refine RunC.seq (RunC.block ?_)
      refine RunC.seq (RunC.region ?_)
      refine RunO.at (s := 1) (k := i) rfl rfl (slm.fr0 fg4) rfl rfl hlt (is_part hlt) rfl rfl rfl (RunO.all rfl ?_)
      rw [hq] at hcs ⊢
      have hfin : ∀ x : Bool, x = (S4.getD q false || decide (q ≠ 0)) → ∀ j, j < B → (S4.set q x).getD j false = (isS (TL.take ti) j || (decide (j ≠ 0) && (tm.take (i + 1)).contains (j : Int))) := fun x hx j hj => by
        rw [getD_setBo S4 (by rw [cw.ls]; omega), hcs]
        by_cases e : j = q
        · rw [if_pos e, hx, hS4 q hqB, e, decide_eq_true (p := ((q : Int)) = (q : Int)) rfl, Bool.true_or, Bool.and_true]
          cases isS (TL.take ti) q <;> cases (decide (q ≠ 0)) <;> cases ((tm.take i).contains (q : Int)) <;> rfl
        · rw [if_neg e, hS4 j hj, decide_eq_false (p := ((j : Int)) = (q : Int)) (by omega), Bool.false_or]
      have sls : Sl g4 (.slice (some ⟨sb, 0, none⟩) B (exc B)) 1 B (bo S4) := cw.os.all.sl (by rw [bo_len, cw.ls, Nat.mul_one]) (by omega) (Cp.exc (Nat.le_refl _))
      refine RunC.draw0 rfl ?_
      refine RunO.part 1 rfl ?_
      refine RunO.load (v := .slice (some ⟨sb, 0, none⟩) B (exc B)) rfl (cw.op.ld rfl) rfl ?_
      refine RunO.part 2 rfl ?_
      refine RunO.load (v := .slice (some ⟨sb, 0, none⟩) B (exc B)) rfl (cw.op.ld rfl) rfl ?_
      refine RunO.part 1 rfl ?_
      refine RunO.at (s := 1) (k := q) rfl rfl sls rfl rfl hqB (bo_part (by rw [cw.ls]; exact hqB)) rfl rfl rfl ?_
      have fput : ∀ x : Bool, Fr no h (g4.put sb (some ⟨bo (S4.set q x), true⟩)) := fun x => fg4.trans (Fr.put (m := (· = sb)) _ (.inl rfl)) (fun b e => .inr (by omega))
      have hsl : 0 + q * 1 < (bo S4).length := by rw [bo_len, cw.ls]; omega
      cases hx : S4.getD q false with
      | true =>
        refine RunO.part 4 rfl ?_
        refine RunO.index (s := 1) (k := q) rfl rfl rfl rfl hqB rfl ?_
        refine RunO.store rfl rfl (store1_ow cw.os rfl rfl rfl hsl) (RunO.nil ?_)
        rw [bo_set]
        refine RunC.region (RunO.all rfl ?_)
        exact ⟨d4 - 1, by omega, i + 1, _, by omega, cw.putS cd true, hfin true (by rw [hx]; rfl), fput true, Le.cons (inc64 (by omega)) (Le.cons rfl (Le.cons rfl (Le.cons rfl (Le.cons rfl (Le.cons rfl (Le.cons rfl (Le.cons rfl (Le.cons rfl (Le.cons rfl (Le.nil _))))))))))⟩
      | false =>
        refine RunO.part 3 rfl ?_
        rw [show ((q : Int) != 0) = decide (q ≠ 0) by rw [Bool.eq_iff_iff, bne_iff_ne, decide_eq_true_eq]; omega]
        refine RunO.part 1 rfl ?_
        refine RunO.index (s := 1) (k := q) rfl rfl rfl rfl hqB rfl ?_
        refine RunO.store rfl rfl (store1_ow cw.os rfl rfl rfl hsl) (RunO.nil ?_)
        rw [bo_set]
        refine RunC.region (RunO.all rfl ?_)
        exact ⟨d4 - 1, by omega, i + 1, _, by omega, cw.putS cd _, hfin _ (by rw [hx]; rfl), fput _, Le.cons (inc64 (by omega)) (Le.cons rfl (Le.cons rfl (Le.cons rfl (Le.cons rfl (Le.cons rfl (Le.cons rfl (Le.cons rfl (Le.cons rfl (Le.cons rfl (Le.nil _))))))))))⟩
    have hge4 := of_decide_eq_false hge
    obtain rfl : i = tm.length := by omega
    rw [List.take_length] at hS4
    refine RunC.region (RunO.all rfl ?_)
    exact ⟨d2 - 1, by omega, ti + 1, _, _, by omega, cw, fun j hj => by rw [hN3 j hj, hNs], fun j hj => by rw [hS4 j hj, hSs], fg4, Le.cons (inc64 (by omega)) (Le.cons rfl (Le.cons rfl (Le.cons rfl (Le.cons rfl (Le.cons rfl (Le.nil _))))))⟩
  have hge2 := of_decide_eq_false hge
  obtain rfl : ti = TL.length := by omega
  rw [List.take_length] at hN hS
  have hP : ∀ j, j < B → clP bl TL j = ((S.getD j false && (N.getD j false || R.getD j false)) || (N.getD j false && R.getD j false)) := fun j hj => by
    rw [hN j hj, hS j hj, hR j hj]; rfl
  -- the first one
  refine RunC.seq ?_
  refine RunC.seq (RunC.region (RunO.all rfl ?_))
  refine RunC.block ?_
  refine RunC.loop (fun d E h' => ∃ i : Nat, i + d = B ∧ (∀ j, j < i → clP bl TL j = false) ∧ h' = g2 ∧
    Le ((upd (upd (upd (upd E0 1 (.int .i64 (B : Int))) 5 (.pointer (some ⟨pb, 0, none⟩))) 83 (.int .i64 (B : Int))) 84 (.int .i64 (i : Int)))) E) ?st5 (k := B) ?ini5
  case ini5 => exact ⟨0, by omega, fun j hj => absurd hj (Nat.not_lt_zero _), rfl, Le.cons rfl (Le.cons rfl (Le.cons rfl (Le.cons rfl (Le.nil _))))⟩
  rintro d5 E g5 ⟨i, hi, hno, rfl, hE⟩
  refine RunC.le hE ?_
  clear hE
  refine RunC.seq (RunC.region (RunO.all rfl ?_))
  refine RunC.seq (RunC.cond rfl (fun hlt => RunC.skip ?go5) (fun hge => RunC.exit ?ex5))
  case go5 =>
    have hlt := of_decide_eq_true hlt
    have hlt : i < B := by omega
    have sls : Sl g5 (.slice (some ⟨sb, 0, none⟩) B (exc B)) 1 B (bo S) := cw.os.all.sl (by rw [bo_len, cw.ls, Nat.mul_one]) (by omega) (Cp.exc (Nat.le_refl _))
    have sln : Sl g5 (.slice (some ⟨nb, 0, none⟩) B (exc B)) 1 B (bo N) := cw.on.all.sl (by rw [bo_len, cw.ln, Nat.mul_one]) (by omega) (Cp.exc (Nat.le_refl _))
    have slr : Sl g5 (.slice (some ⟨rb, 0, none⟩) B (exc B)) 1 B (bo R) := cw.or.all.sl (by rw [bo_len, cw.lr, Nat.mul_one]) (by omega) (Cp.exc (Nat.le_refl _))
    have hPi := hP i hlt
    refine RunC.seq (RunC.block ?_)
    refine RunC.seq (RunC.region (RunO.all rfl ?_))
    refine RunC.seq (RunC.region (RunO.part 1 rfl ?_))
    refine RunO.load (v := .slice (some ⟨sb, 0, none⟩) B (exc B)) rfl (cw.op.ld rfl) rfl ?_
    refine RunO.part 1 rfl ?_
    refine RunO.at (s := 1) (k := i) rfl rfl sls rfl rfl hlt (bo_part (by rw [cw.ls]; exact hlt)) rfl rfl rfl ?_
    cases ha : S.getD i false with
    | true =>
      rw [ha] at hPi
      refine RunO.part 1 rfl ?_
      refine RunO.part 1 rfl ?_
      refine RunO.loadG (v := .slice (some ⟨nb, 0, none⟩) B (exc B)) rfl rfl (cw.op.ld rfl) rfl ?_
      refine RunO.part 1 rfl ?_
      refine RunO.atG (s := 1) (k := i) rfl (fun _ => rfl) rfl rfl sln rfl rfl hlt (bo_part (by rw [cw.ln]; exact hlt)) rfl rfl rfl ?_
      cases hb : N.getD i false with
      | true =>
        rw [hb] at hPi
        refine RunO.part 1 rfl ?_
        refine RunO.all rfl (RunC.cond rfl (fun _ => ?_) (fun g => by cases g))
        exact RunC.seq (RunC.region (RunO.all rfl (RunC.ret ⟨_, rfl, fg2, .inl ⟨i, hlt, rfl, hPi, hno⟩⟩)))
      | false =>
        rw [hb] at hPi
        refine RunO.part 1 rfl ?_
        refine RunO.part 1 rfl ?_
        refine RunO.loadG (v := .slice (some ⟨rb, 0, none⟩) B (exc B)) rfl rfl (cw.op.ld rfl) rfl ?_
        refine RunO.part 1 rfl ?_
        refine RunO.atG (s := 1) (k := i) rfl (fun _ => rfl) rfl rfl slr rfl rfl hlt (bo_part (by rw [cw.lr]; exact hlt)) rfl rfl rfl ?_
        cases hc : R.getD i false with
        | true =>
          rw [hc] at hPi
          refine RunO.all rfl (RunC.cond rfl (fun _ => ?_) (fun g => by cases g))
          exact RunC.seq (RunC.region (RunO.all rfl (RunC.ret ⟨_, rfl, fg2, .inl ⟨i, hlt, rfl, hPi, hno⟩⟩)))
        | false =>
          rw [hc] at hPi
          refine RunO.part 3 rfl ?_
          refine RunO.part 1 rfl ?_
          refine RunO.loadG (v := .slice (some ⟨nb, 0, none⟩) B (exc B)) rfl rfl (cw.op.ld rfl) rfl ?_
          refine RunO.part 1 rfl ?_
          refine RunO.atG (s := 1) (k := i) rfl (fun _ => rfl) rfl rfl sln rfl rfl hlt (bo_part (by rw [cw.ln]; exact hlt)) rfl rfl rfl ?_
          rw [hb]
          refine RunO.all rfl (RunC.cond rfl (fun g => by cases g) (fun _ => RunC.skip ?_))
          refine RunC.region (RunO.all rfl ?_)
          exact ⟨d5 - 1, by omega, i + 1, by omega, fun j hj => by rcases Nat.lt_or_ge j i with e | e; exact hno j e; rw [show j = i by omega]; exact hPi, rfl, Le.cons (inc64 (by omega)) (Le.cons rfl (Le.cons rfl (Le.cons rfl (Le.nil _))))⟩
    | false =>
      rw [ha] at hPi
      refine RunO.part 15 rfl ?_
      refine RunO.part 1 rfl ?_
      refine RunO.loadG (v := .slice (some ⟨nb, 0, none⟩) B (exc B)) rfl rfl (cw.op.ld rfl) rfl ?_
      refine RunO.part 1 rfl ?_
      refine RunO.atG (s := 1) (k := i) rfl (fun _ => rfl) rfl rfl sln rfl rfl hlt (bo_part (by rw [cw.ln]; exact hlt)) rfl rfl rfl ?_
      cases hb : N.getD i false with
      | true =>
        rw [hb] at hPi
        refine RunO.part 1 rfl ?_
        refine RunO.part 1 rfl ?_
        refine RunO.loadG (v := .slice (some ⟨rb, 0, none⟩) B (exc B)) rfl rfl (cw.op.ld rfl) rfl ?_
        refine RunO.part 1 rfl ?_
        refine RunO.atG (s := 1) (k := i) rfl (fun _ => rfl) rfl rfl slr rfl rfl hlt (bo_part (by rw [cw.lr]; exact hlt)) rfl rfl rfl ?_
        cases hc : R.getD i false with
        | true =>
          rw [hc] at hPi
          refine RunO.all rfl (RunC.cond rfl (fun _ => ?_) (fun g => by cases g))
          exact RunC.seq (RunC.region (RunO.all rfl (RunC.ret ⟨_, rfl, fg2, .inl ⟨i, hlt, rfl, hPi, hno⟩⟩)))
        | false =>
          rw [hc] at hPi
          refine RunO.all rfl (RunC.cond rfl (fun g => by cases g) (fun _ => RunC.skip ?_))
          refine RunC.region (RunO.all rfl ?_)
          exact ⟨d5 - 1, by omega, i + 1, by omega, fun j hj => by rcases Nat.lt_or_ge j i with e | e; exact hno j e; rw [show j = i by omega]; exact hPi, rfl, Le.cons (inc64 (by omega)) (Le.cons rfl (Le.cons rfl (Le.cons rfl (Le.nil _))))⟩
      | false =>
        rw [hb] at hPi
        refine RunO.all rfl (RunC.cond rfl (fun g => by cases g) (fun _ => RunC.skip ?_))
        refine RunC.region (RunO.all rfl ?_)
        exact ⟨d5 - 1, by omega, i + 1, by omega, fun j hj => by rcases Nat.lt_or_ge j i with e | e; exact hno j e; rw [show j = i by omega]; exact hPi, rfl, Le.cons (inc64 (by omega)) (Le.cons rfl (Le.cons rfl (Le.cons rfl (Le.nil _))))⟩
  have hge5 := of_decide_eq_false hge
  exact RunC.seq (RunC.region (RunO.all rfl (RunC.ret ⟨_, rfl, fg2, .inr ⟨rfl, fun j hj => hno j (by omega)⟩⟩)))
end Go.Proofs.Ytnokcbenpnmnbaa
end
section
set_option linter.unusedVariables false
set_option maxRecDepth 100000
open Go Go.Am Go.RowKit
namespace Go.Proofs.Ytnokcbenpnmnbaa
open Go.Proofs.Try
/-- A node's pointers; of no node none. -/
def ptrsL (L : List Int) (B : Nat) (p : Int) : List Int := if p = 0 then nZero else (atV L B p).2
theorem ptrsL_len (L : List Int) (B : Nat) (p : Int) : (ptrsL L B p).length = 8 := by
  unfold ptrsL; split
  · rfl
  · exact atV_len L B p
theorem nz_get (i : Nat) : nZero.getD i 0 = 0 := by
  show (List.replicate 8 (0 : Int)).getD i 0 = 0
  rw [List.getD_eq_getElem?_getD, List.getElem?_replicate]; split <;> rfl
theorem look_suc (L : List Int) (B k : Nat) (p : Int) (s : Nat) : look L B (k + 1) p s = look L B k ((ptrsL L B p).getD (s / 8 ^ k) 0) (s % 8 ^ k) := by
  show (if p = 0 then 0 else _) = _
  unfold ptrsL
  by_cases e : p = 0
  · rw [if_pos e, if_pos e, nz_get, look_zero]
  · rw [if_neg e, if_neg e]
/-- One level more, at the end of the way. -/
theorem look_last (L : List Int) (B : Nat) : ∀ (k : Nat) (p : Int) (s : Nat), s < 8 ^ (k + 1) → look L B (k + 1) p s = (ptrsL L B (look L B k p (s / 8))).getD (s % 8) 0
  | 0, p, s, h => by
    rw [look_suc]
    show (ptrsL L B p).getD (s / 8 ^ 0) 0 = (ptrsL L B p).getD (s % 8) 0
    rw [Nat.pow_zero, Nat.div_one, Nat.mod_eq_of_lt (by simpa using h)]
  | k + 1, p, s, h => by
    have hpos : 0 < 8 ^ k := Nat.pow_pos (by decide)
    have hp : 8 ^ (k + 1) = 8 ^ k * 8 := Nat.pow_succ ..
    rw [look_suc, look_last L B k _ _ (Nat.mod_lt _ (by omega)), look_suc L B k p (s / 8)]
    have e1 : s / 8 ^ (k + 1) = s / 8 / 8 ^ k := by rw [hp, Nat.mul_comm, Nat.div_div_eq_div_mul]
    have e2 : s % 8 ^ (k + 1) / 8 = s / 8 % 8 ^ k := by rw [hp, Nat.mul_comm, Nat.mod_mul_right_div_self]
    have e3 : s % 8 ^ (k + 1) % 8 = s % 8 := by rw [hp, Nat.mul_comm, Nat.mod_mul_right_mod]
    rw [e1, e2, e3]
/-- The nodes under a pointer, from the top. -/
def nodL (L : List Int) (B : Nat) : Nat → Int → List Int
  | 0, _ => []
  | k + 1, p => if p = 0 then [] else p :: (List.range 8).flatMap fun i => nodL L B k ((ptrsL L B p).getD i 0)
theorem nodL_zero (L : List Int) (B k : Nat) : nodL L B k 0 = [] := by cases k <;> rfl
/-- Under a pointer each node is one, of its level. -/
def okA (L : List Int) (B k : Nat) (p : Int) : Prop := ∀ s, s < 8 ^ k → pathOk L B k p s
theorem okA_at {L : List Int} {B k : Nat} {p : Int} (h : okA L B (k + 1) p) (hp : p ≠ 0) : atIs L B p (k : Int) = true := (h 0 (Nat.pow_pos (by decide)) hp).1
theorem okA_zero (L : List Int) (B k : Nat) : okA L B k 0 := by
  intro s hs
  cases k with
  | zero => trivial
  | succ k => exact fun e => absurd rfl e
theorem okA_child {L : List Int} {B k : Nat} {p : Int} (h : okA L B (k + 1) p) {i : Nat} (hi : i < 8) : okA L B k ((ptrsL L B p).getD i 0) := by
  by_cases hp : p = 0
  · have : (ptrsL L B p).getD i 0 = 0 := by unfold ptrsL; rw [if_pos hp, nz_get]
    rw [this]; exact okA_zero L B k
  · intro s hs
    have hpos : 0 < 8 ^ k := Nat.pow_pos (by decide)
    have hlt : i * 8 ^ k + s < 8 ^ (k + 1) := by
      have : i * 8 ^ k + 8 ^ k ≤ 8 ^ k * 8 := by rw [← Nat.succ_mul, Nat.mul_comm]; exact Nat.mul_le_mul_left _ hi
      rw [Nat.pow_succ]; omega
    have := (h _ hlt hp).2
    have e1 : (i * 8 ^ k + s) / 8 ^ k = i := by rw [Nat.add_comm, Nat.add_mul_div_right _ _ hpos, Nat.div_eq_of_lt hs, Nat.zero_add]
    have e2 : (i * 8 ^ k + s) % 8 ^ k = s := by rw [Nat.add_comm, Nat.add_mul_mod_self_right, Nat.mod_eq_of_lt hs]
    rw [e1, e2] at this
    unfold ptrsL
    rw [if_neg hp]
    exact this
/-- A walk that ends well has met just the nodes under its pointer. -/
def NodAt (L : List Int) (B lv : Nat) : Prop := ∀ (a : Int) (f : Nat) (w : TS), w.2.2 = false → (tgo L B lv a f w).2.2 = false → (tgo L B lv a f w).2.1 = w.2.1 ++ nodL L B (lv + 1) a
theorem nod_body {L : List Int} {B lv : Nat} (hrec : ∀ k, lv = k + 1 → NodAt L B k) : NodAt L B lv := by
  intro a f w hw h
  obtain ⟨m, ns, bd⟩ := w
  simp only at hw
  subst hw
  rw [tgo_eq] at h ⊢
  unfold tbody at h ⊢
  by_cases hc : (!atIs L B a (lv : Int) || ns.contains a) = true
  · rw [if_pos hc] at h; cases h
  rw [if_neg hc] at h ⊢
  rw [Bool.or_eq_true, not_or, Bool.not_eq_true, Bool.not_eq_true, Bool.not_eq_false'] at hc
  have ha := atIs_ne hc.1
  have ha0 : a ≠ 0 := by omega
  have hp : ptrsL L B a = (atV L B a).2 := by unfold ptrsL; rw [if_neg ha0]
  have hn : nodL L B (lv + 1) a = a :: (List.range 8).flatMap fun i => nodL L B lv ((ptrsL L B a).getD i 0) := by show (if a = 0 then _ else _) = _; rw [if_neg ha0]
  rw [hn]
  change ((List.range 8).foldl (tst L B lv (atV L B a).2 f) (m, ns ++ [a], false)).2.2 = false at h
  show ((List.range 8).foldl (tst L B lv (atV L B a).2 f) (m, ns ++ [a], false)).2.1 = _
  have key : ∀ i, i ≤ 8 → ((List.range i).foldl (tst L B lv (atV L B a).2 f) (m, ns ++ [a], false)).2.1 = ns ++ a :: (List.range i).flatMap fun i => nodL L B lv ((ptrsL L B a).getD i 0) := by
    intro i
    induction i with
    | zero => intro _; rfl
    | succ i ih =>
      intro hi
      have hnb := fold_pre h (i := i) (by omega)
      have hnb1 := fold_pre h (i := i + 1) hi
      have ih := ih (by omega)
      have hstep : (List.range (i + 1)).foldl (tst L B lv (atV L B a).2 f) (m, ns ++ [a], false) = tst L B lv (atV L B a).2 f ((List.range i).foldl (tst L B lv (atV L B a).2 f) (m, ns ++ [a], false)) i := by rw [List.range_succ, List.foldl_append]; rfl
      rw [hstep] at hnb1 ⊢
      have hfl : (List.range (i + 1)).flatMap (fun i => nodL L B lv ((ptrsL L B a).getD i 0)) = (List.range i).flatMap (fun i => nodL L B lv ((ptrsL L B a).getD i 0)) ++ nodL L B lv ((ptrsL L B a).getD i 0) := by rw [List.range_succ, List.flatMap_append]; simp
      rw [hfl]
      generalize (List.range i).foldl (tst L B lv (atV L B a).2 f) (m, ns ++ [a], false) = W at *
      rw [hp] at ih ⊢
      unfold tst tstep at hnb1 ⊢
      rw [hnb, if_neg Bool.false_ne_true] at hnb1 ⊢
      generalize hpi : (atV L B a).2.getD i 0 = p at *
      have fin : ∀ X : List Int, X = W.2.1 ++ nodL L B lv p → X = ns ++ a :: ((List.range i).flatMap (fun i => nodL L B lv ((atV L B a).2.getD i 0)) ++ nodL L B lv p) := fun X e => by rw [e, ih, List.append_assoc, List.cons_append]
      by_cases hB : decide (p ≥ (B : Int)) = true
      · rw [if_pos hB] at hnb1; cases hnb1
      rw [if_neg hB] at hnb1 ⊢
      cases lv with
      | zero =>
        refine fin _ ?_
        show _ = W.2.1 ++ []
        rw [List.append_nil]
        split
        · rfl
        · split <;> rfl
      | succ k =>
        rw [if_neg (by simp)] at hnb1 ⊢
        by_cases hp0 : p = 0
        · rw [if_neg (by simp [hp0])]
          refine fin _ ?_
          rw [hp0, nodL_zero, List.append_nil]
        · rw [if_pos (bne_iff_ne.2 hp0)] at hnb1 ⊢
          exact fin _ (hrec k rfl p (f + i * 8 ^ (k + 1)) W hnb hnb1)
  exact key 8 (Nat.le_refl 8)
theorem tgo_nod (L : List Int) (B : Nat) : ∀ lv, NodAt L B lv := by
  intro lv
  induction lv with
  | zero => exact nod_body (fun k e => by cases e)
  | succ k ih => exact nod_body (fun j e => by cases e; exact ih)
/-- A walk ends well. -/
def FineAt (L : List Int) (B lv : Nat) : Prop := ∀ (a : Int) (f : Nat) (w : TS), w.2.2 = false → a ≠ 0 → okA L B (lv + 1) a → (w.2.1 ++ nodL L B (lv + 1) a).Nodup → (∀ s, s < 8 ^ (lv + 1) → look L B (lv + 1) a s < B) → (tgo L B lv a f w).2.2 = false
/-- What a tree is. -/
structure TreeIs (L : List Int) (root : Int) (m : List Int) : Prop where
  len : m.length = 512
  ok : okA L (L.length / 64) 3 root
  nd : (nodL L (L.length / 64) 3 root).Nodup
  map : ∀ s, s < 512 → look L (L.length / 64) 3 root s = m.getD s 0
  lt : ∀ s, s < 512 → m.getD s 0 < (L.length / 64 : Nat)
  out : ∀ s, s < 512 → ¬ m.getD s 0 ∈ nodL L (L.length / 64) 3 root
theorem TreeIs.of {L : List Int} {root : Int} (hB : 0 < L.length / 64) (h : treeOk L root = true) : TreeIs L root (treeM L root) ∧ treeN L root = nodL L (L.length / 64) 3 root := by
  by_cases hr : root = 0
  · subst hr
    have hz : ∀ s, (treeM L 0).getD s 0 = 0 := fun s => by
      show (List.replicate 512 (0 : Int)).getD s 0 = 0
      rw [List.getD_eq_getElem?_getD, List.getElem?_replicate]; split <;> rfl
    exact ⟨⟨treeM_len L 0, okA_zero _ _ _, by rw [nodL_zero]; exact List.nodup_nil, fun s _ => by rw [hz, look_zero], fun s _ => by rw [hz]; omega, fun s _ => by rw [nodL_zero]; simp⟩, by rw [nodL_zero]; rfl⟩
  · have S := tree_spec hr h
    have hn : treeN L root = (treeW L root).2.1 := by unfold treeN; rw [show (root == 0) = false from beq_eq_false_iff_ne.2 hr]; rfl
    have hm : treeM L root = (treeW L root).1 := by unfold treeM; rw [show (root == 0) = false from beq_eq_false_iff_ne.2 hr]; rfl
    have h2 := h
    unfold treeOk at h2
    rw [show (root == 0) = false from beq_eq_false_iff_ne.2 hr, Bool.false_or, Bool.and_eq_true, Bool.not_eq_true', Bool.not_eq_true'] at h2
    have hnod : treeN L root = nodL L (L.length / 64) 3 root := by
      have := tgo_nod L (L.length / 64) 2 root 0 (List.replicate 512 0, [], false) rfl h2.1
      rw [hn]
      exact this.trans (List.nil_append _)
    have hml := treeM_len L root
    have hmem : ∀ s, s < 512 → (treeM L root).getD s 0 ∈ treeM L root := fun s hs => by
      rw [List.getD_eq_getElem?_getD, List.getElem?_eq_getElem (by omega)]
      exact List.getElem_mem _
    refine ⟨⟨hml, fun s hs => S.path s hs, ?_, fun s hs => (tree_at hr h hs).symm, fun s hs => ?_, fun s hs c => ?_⟩, hnod⟩
    · rw [← hnod]; exact S.nd List.nodup_nil
    · rcases S.bnd _ (hmem s hs) with g | g | g
      · have := (List.mem_replicate.1 g).2; omega
      · omega
      · exact g
    · rw [← hnod] at c
      have := List.any_eq_false.1 h2.2 _ (by rw [← hm]; exact hmem s hs)
      rw [← hn] at this
      exact this (by simpa using c)
end Go.Proofs.Ytnokcbenpnmnbaa
end
section
set_option linter.unusedVariables false
set_option maxRecDepth 100000
open Go Go.Am Go.RowKit
namespace Go.Proofs.Ytnokcbenpnmnbaa
open Go.Proofs.Try
/-- The places of a tree's nodes: so far down, so far along. -/
def posL : Nat → List (Nat × Nat)
  | 0 => []
  | k + 1 => (0, 0) :: (List.range 8).flatMap fun i => (posL k).map fun x => (x.1 + 1, i * 8 ^ x.1 + x.2)
theorem posL_lt : ∀ (k : Nat) (x : Nat × Nat), x ∈ posL k → x.1 < k ∧ x.2 < 8 ^ x.1
  | 0, x, h => by cases h
  | k + 1, x, h => by
    rcases List.mem_cons.1 h with rfl | h
    · exact ⟨Nat.succ_pos _, by decide⟩
    · obtain ⟨i, hi, h⟩ := List.mem_flatMap.1 h
      obtain ⟨y, hy, rfl⟩ := List.mem_map.1 h
      rw [List.mem_range] at hi
      obtain ⟨h1, h2⟩ := posL_lt k y hy
      refine ⟨by omega, ?_⟩
      show i * 8 ^ y.1 + y.2 < 8 ^ (y.1 + 1)
      have : i * 8 ^ y.1 + 8 ^ y.1 ≤ 8 ^ y.1 * 8 := by rw [← Nat.succ_mul, Nat.mul_comm]; exact Nat.mul_le_mul_left _ hi
      rw [Nat.pow_succ]; omega
theorem posL_mem : ∀ (k d q : Nat), d < k → q < 8 ^ d → (d, q) ∈ posL k
  | 0, d, q, h, _ => absurd h (Nat.not_lt_zero _)
  | k + 1, 0, q, _, h2 => by
    have : q = 0 := by simpa using h2
    subst this
    exact List.mem_cons_self ..
  | k + 1, d + 1, q, h1, h2 => by
    have hpos : 0 < 8 ^ d := Nat.pow_pos (by decide)
    refine List.mem_cons_of_mem _ (List.mem_flatMap.2 ⟨q / 8 ^ d, List.mem_range.2 (by rw [Nat.div_lt_iff_lt_mul hpos]; rw [Nat.pow_succ, Nat.mul_comm] at h2; exact h2), List.mem_map.2 ⟨(d, q % 8 ^ d), posL_mem k d _ (by omega) (Nat.mod_lt _ hpos), ?_⟩⟩)
    show (d + 1, q / 8 ^ d * 8 ^ d + q % 8 ^ d) = _
    rw [Nat.div_add_mod']
theorem look_at {L : List Int} {B d i q : Nat} {p : Int} (hi : i < 8) (hq : q < 8 ^ d) : look L B (d + 1) p (i * 8 ^ d + q) = look L B d ((ptrsL L B p).getD i 0) q := by
  have hpos : 0 < 8 ^ d := Nat.pow_pos (by decide)
  rw [look_suc]
  have e1 : (i * 8 ^ d + q) / 8 ^ d = i := by rw [Nat.add_comm, Nat.add_mul_div_right _ _ hpos, Nat.div_eq_of_lt hq, Nat.zero_add]
  have e2 : (i * 8 ^ d + q) % 8 ^ d = q := by rw [Nat.add_comm, Nat.add_mul_mod_self_right, Nat.mod_eq_of_lt hq]
  rw [e1, e2]
theorem filter_flat {α β : Type} (f : α → List β) (p : β → Bool) : ∀ l : List α, (l.flatMap f).filter p = l.flatMap fun x => (f x).filter p
  | [] => rfl
  | x :: l => by rw [List.flatMap_cons, List.filter_append, filter_flat f p l, List.flatMap_cons]
theorem nodL_pos (L : List Int) (B : Nat) : ∀ (k : Nat) (p : Int), nodL L B k p = ((posL k).map fun x => look L B x.1 p x.2).filter (· != 0)
  | 0, p => rfl
  | k + 1, p => by
    by_cases hp : p = 0
    · subst hp
      rw [nodL_zero]
      symm
      rw [List.filter_eq_nil_iff]
      intro x hx
      obtain ⟨y, _, rfl⟩ := List.mem_map.1 hx
      rw [look_zero]; simp
    · show (if p = 0 then _ else _) = _
      rw [if_neg hp]
      show _ = List.filter _ (List.map _ ((0, 0) :: _))
      rw [List.map_cons, List.filter_cons_of_pos (by show (p != 0) = true; exact bne_iff_ne.2 hp)]
      show p :: _ = p :: _
      congr 1
      rw [List.map_flatMap, filter_flat]
      have key : ∀ l : List Nat, (∀ i ∈ l, i < 8) → (l.flatMap fun i => nodL L B k ((ptrsL L B p).getD i 0)) = l.flatMap fun i => List.filter (· != 0) (List.map (fun x => look L B x.1 p x.2) (List.map (fun x => (x.1 + 1, i * 8 ^ x.1 + x.2)) (posL k))) := by
        intro l
        induction l with
        | nil => intro _; rfl
        | cons i l ih =>
          intro hl
          rw [List.flatMap_cons, List.flatMap_cons, ih (fun j hj => hl j (List.mem_cons_of_mem _ hj)), nodL_pos L B k]
          congr 2
          rw [List.map_map]
          apply List.map_congr_left
          intro x hx
          exact (look_at (hl i (List.mem_cons_self ..)) (posL_lt k x hx).2).symm
      exact key _ (fun i hi => List.mem_range.1 hi)
theorem nodL_mem {L : List Int} {B k : Nat} {p x : Int} : x ∈ nodL L B k p ↔ x ≠ 0 ∧ ∃ d q, d < k ∧ q < 8 ^ d ∧ look L B d p q = x := by
  rw [nodL_pos, List.mem_filter, List.mem_map, bne_iff_ne]
  constructor
  · rintro ⟨⟨y, hy, rfl⟩, h0⟩
    exact ⟨h0, y.1, y.2, (posL_lt k y hy).1, (posL_lt k y hy).2, rfl⟩
  · rintro ⟨h0, d, q, hd, hq, rfl⟩
    exact ⟨⟨(d, q), posL_mem k d q hd hq, rfl⟩, h0⟩
end Go.Proofs.Ytnokcbenpnmnbaa
end
section
set_option linter.unusedVariables false
set_option linter.unusedSectionVars false
set_option maxRecDepth 100000
open Go Go.Am Go.RowKit
namespace Go.Proofs.Ytnokcbenpnmnbaa
open Go.Proofs.Try
/- An open image: what the page says of the parts. -/
theorem ptr_ge {L : List Int} {B : Nat} {p lv : Int} (h : atIs L B p lv = true) {i : Nat} (hi : i < 8) : (ptrsL L B p).getD i 0 = 0 ∨ (2 ≤ (ptrsL L B p).getD i 0 ∧ (ptrsL L B p).getD i 0 < 4096) := by
  have hp := (atIs_ne h).1
  unfold atIs at h
  rw [Bool.and_eq_true, Bool.and_eq_true, beq_iff_eq] at h
  have hv : ptrsL L B p = nPs (blkI L p.toNat) := by
    unfold ptrsL atV nodV
    rw [if_neg (by omega), if_pos h.1, if_pos h.2.1]
  have hok : nodOk (nLv (blkI L p.toNat)) (nPs (blkI L p.toNat)) = true := by
    have hc := h.2.1
    unfold nCode at hc
    split at hc
    · split at hc
      · assumption
      · cases hc
    · rename_i h1; exact absurd hc h1
  have hl := ptrsL_len L B p
  unfold nodOk at hok
  rw [Bool.and_eq_true, List.all_eq_true] at hok
  have hx := hok.1 ((ptrsL L B p).getD i 0) (by rw [← hv, List.getD_eq_getElem?_getD, List.getElem?_eq_getElem (by omega)]; exact List.getElem_mem _)
  unfold ptrB at hx
  simp only [Bool.or_eq_true, beq_iff_eq, Bool.and_eq_true, decide_eq_true_eq] at hx
  omega
theorem okA_lk {L : List Int} {B : Nat} : ∀ (k : Nat) (p : Int) (d q : Nat), okA L B k p → d < k → q < 8 ^ d → look L B d p q ≠ 0 → atIs L B (look L B d p q) ((k - 1 - d : Nat) : Int) = true
  | 0, p, d, q, _, h, _, _ => absurd h (Nat.not_lt_zero _)
  | k + 1, p, 0, q, h, _, hq, h0 => okA_at h h0
  | k + 1, p, d + 1, q, h, hd, hq, h0 => by
    have hpos : 0 < 8 ^ d := Nat.pow_pos (by decide)
    have hq8 : q / 8 ^ d < 8 := by rw [Nat.div_lt_iff_lt_mul hpos]; rw [Nat.pow_succ, Nat.mul_comm] at hq; exact hq
    rw [look_suc] at h0 ⊢
    have := okA_lk k _ d _ (okA_child h hq8) (by omega) (Nat.mod_lt _ hpos) h0
    rwa [show k + 1 - 1 - (d + 1) = k - 1 - d by omega]
theorem tree_rng {L : List Int} {root : Int} (hd : devOk L.length = true) (h : treeOk L root = true) : (∀ x ∈ treeM L root, 0 ≤ x ∧ x < (L.length / 64 : Nat)) ∧ (∀ x ∈ treeN L root, 2 ≤ x ∧ x < (L.length / 64 : Nat)) := by
  have hdl : L.length % 64 = 0 ∧ 4 ≤ L.length / 64 ∧ L.length / 64 ≤ 4096 := by
    unfold devOk at hd
    simpa using hd
  obtain ⟨t, tn⟩ := TreeIs.of (by omega) h
  constructor
  · intro x hx
    obtain ⟨s, hs, rfl⟩ := List.mem_iff_getElem.1 hx
    have hs5 : s < 512 := by rw [← t.len]; exact hs
    have hg : (treeM L root)[s] = (treeM L root).getD s 0 := by rw [List.getD_eq_getElem?_getD, List.getElem?_eq_getElem hs]; rfl
    rw [hg]
    refine ⟨?_, t.lt s hs5⟩
    rw [← t.map s hs5, look_last _ _ 2 root s (by simpa using hs5)]
    by_cases h0 : look L (L.length / 64) 2 root (s / 8) = 0
    · rw [h0]
      unfold ptrsL
      rw [if_pos rfl, nz_get]; exact Int.le_refl _
    · have := ptr_ge (okA_lk 3 root 2 (s / 8) t.ok (by decide) (by have : (8 : Nat) ^ 2 = 64 := rfl; omega) h0) (i := s % 8) (by omega)
      omega
  · intro x hx
    rw [tn] at hx
    obtain ⟨h0, d, q, hd3, hq, hl⟩ := nodL_mem.1 hx
    have := atIs_ne (okA_lk 3 root d q t.ok hd3 hq (by rw [hl]; exact h0))
    rw [hl] at this
    exact this
/-- A record is right. -/
def r8Ok (r : R8) : Bool := recOk r.nx r.id r.pa r.ro r.sz r.ki r.fr r.di
theorem rPar_ok {l : List Int} (h : rCode l = 0) : r8Ok (rPar l) = true := by
  unfold rPar
  rw [if_pos h]
  unfold rCode at h
  split at h
  · split at h
    · rename_i h2; exact h2
    · cases h
  · rename_i h1; exact absurd h h1
theorem r8_sz {r : R8} (h : r8Ok r = true) : 0 ≤ r.sz ∧ r.sz ≤ 512 := by
  have key : recIs r.nx r.id r.pa r.ro r.sz = true := by
    unfold r8Ok recOk at h
    split at h
    · rw [Bool.and_eq_true, Bool.and_eq_true] at h; exact h.1.1
    · split at h
      · rw [Bool.and_eq_true, Bool.and_eq_true] at h; exact h.1.1
      · cases h
  unfold recIs at key
  rw [Bool.and_eq_true] at key
  exact (inB_iff _ _ _).1 key.2
theorem fol_ok {L : List Int} {B : Nat} : ∀ (f : Nat) (a : Int) (l : List R8) (bs : List Int) (w : Nat), (∀ r ∈ l, r8Ok r = true) → (∀ x ∈ bs, 2 ≤ x ∧ x < (B : Int)) → l.length = bs.length → (∀ r ∈ (fol L B f a l bs w).1, r8Ok r = true) ∧ (∀ x ∈ (fol L B f a l bs w).2.1, 2 ≤ x ∧ x < (B : Int)) ∧ (fol L B f a l bs w).1.length = (fol L B f a l bs w).2.1.length ∧ (fol L B f a l bs w).2.1.length ≤ bs.length + f
  | 0, a, l, bs, w, h1, h2, h3 => ⟨h1, h2, h3, Nat.le_refl _⟩
  | f + 1, a, l, bs, w, h1, h2, h3 => by
    unfold fol
    split
    · exact ⟨h1, h2, h3, Nat.le_add_right _ _⟩
    split
    · exact ⟨h1, h2, h3, Nat.le_add_right _ _⟩
    rename_i ha hf
    split
    · exact ⟨h1, h2, h3, Nat.le_add_right _ _⟩
    rename_i hc
    rw [Bool.not_eq_true, Bool.or_eq_false_iff, bne_eq_false_iff_eq] at hc
    unfold folB at hf
    rw [Bool.not_eq_true, Bool.or_eq_false_iff, Bool.or_eq_false_iff, decide_eq_false_iff_not, decide_eq_false_iff_not] at hf
    have := fol_ok (L := L) (B := B) f (rPar (blkI L a.toNat)).nx (l ++ [rPar (blkI L a.toNat)]) (bs ++ [a]) (if (rPar (blkI L a.toNat)).ki == 0 then w + 1 else w) (fun r hr => by
      rcases List.mem_append.1 hr with g | g
      · exact h1 r g
      · rw [List.mem_singleton.1 g]; exact rPar_ok hc.1) (fun x hx => by
      rcases List.mem_append.1 hx with g | g
      · exact h2 x g
      · rw [List.mem_singleton.1 g]; omega) (by rw [List.length_append, List.length_append, h3]; rfl)
    refine ⟨this.1, this.2.1, this.2.2.1, ?_⟩
    have h4 := this.2.2.2
    rw [List.length_append, List.length_singleton] at h4
    omega
/-- The superblock that stands. -/
theorem pick_is {L : List Int} (h : (pickS L).2.2 = true) : ∃ i, i < 2 ∧ (pickS L).1 = sVal (blkI L i) ∧ (pickS L).2.1 = (i : Int) ∧ sCode (blkI L i) = 0 ∧ (pickS L).1.2.1 = ((L.length / 64 : Nat) : Int) := by
  have key : ∀ (st : S5 × Int × Bool) (i : Nat), i < 2 → (st.2.2 = true → ∃ i, i < 2 ∧ st.1 = sVal (blkI L i) ∧ st.2.1 = (i : Int) ∧ sCode (blkI L i) = 0 ∧ st.1.2.1 = ((L.length / 64 : Nat) : Int)) → ((pickStep L st i).2.2 = true → ∃ j, j < 2 ∧ (pickStep L st i).1 = sVal (blkI L j) ∧ (pickStep L st i).2.1 = (j : Int) ∧ sCode (blkI L j) = 0 ∧ (pickStep L st i).1.2.1 = ((L.length / 64 : Nat) : Int)) := by
    intro st i hi hs
    unfold pickStep
    split
    · rename_i hc
      rw [Bool.and_eq_true, beq_iff_eq, Bool.and_eq_true, beq_iff_eq] at hc
      exact fun _ => ⟨i, hi, rfl, rfl, hc.1, hc.2.1⟩
    · exact hs
  exact key _ 1 (by decide) (key _ 0 (by decide) (fun g => by cases g)) h
end Go.Proofs.Ytnokcbenpnmnbaa
end
section
set_option linter.unusedVariables false
set_option linter.unusedSectionVars false
set_option maxRecDepth 100000
open Go Go.Am Go.RowKit
namespace Go.Proofs.Ytnokcbenpnmnbaa
open Go.Proofs.Try
def bey (m : List Int) (k : Int) : Bool := (m.drop k.toNat).any (· != 0)
theorem beyondC_ok {h : Heap} {b : Int} : RunF prog 106 [.int .i64 b] h fun v h' => v = .bool (b != 0) ∧ Fr no h h' := by
  refine RunF.walk func106 rfl rfl ?_
  refine RunC.seq (RunC.region (RunO.all rfl ?_))
  exact RunC.seq (RunC.region (RunO.all rfl (RunC.ret ⟨_, rfl, rfl, Fr.refl _ _⟩)))
theorem openBeyond_ok {h : Heap} {mv : Value} {m : List Int} {k : Nat} (sl : Sl h mv 1 512 (is m)) (hm : m.length = 512) (hk : k ≤ 512) : RunF prog 73 [mv, .int .i64 (k : Int)] h fun v h' => v = .bool (bey m (k : Int)) ∧ Fr no h h' := by
  refine RunF.walk func73 rfl rfl ?_
  have sl0 := sl
  obtain ⟨A, c, rfl, _, _⟩ := sl.form
  refine RunC.seq (RunC.region (RunO.all rfl ?_))
  refine RunC.seq (RunC.region (RunO.part 2 rfl ?_))
  refine RunO.sliceSl (s := 1) (len := 512) rfl rfl rfl rfl rfl sl0 (.some _ _ _) (.none _) hk (Nat.le_refl _) rfl ?_
  intro tv st
  have hdl : (m.drop k).length = 512 - k := by rw [List.length_drop, hm]
  have st : Sl h tv 1 (m.drop k).length (is (m.drop k)) := by
    rw [hdl]
    rw [Nat.mul_one, Nat.mul_one] at st
    have e : is (m.drop k) = ((is m).drop k).take (512 - k) := by
      unfold is
      rw [← List.map_drop, List.take_of_length_le (by rw [List.length_map, hdl]; exact Nat.le_refl _)]
    rw [e]; exact st
  refine RunO.callD (containsI_ok st (u := fun j => .int .i64 ((m.drop k).getD j 0)) (cap := []) (fun j hj => ?_) (p := fun j => (m.drop k).getD j 0 != 0) (fun j hj h5 f5 => ?_) (by omega)) rfl rfl rfl ?_
  · rw [is_part hj, List.getD_eq_getElem?_getD, List.getElem?_eq_getElem hj]; rfl
  · exact beyondC_ok
  rintro _ h2 ⟨rfl, f2⟩
  rw [anyI_list (l := m.drop k) (q := (· != 0)) (fun j x hx => by rw [List.getD_eq_getElem?_getD, hx]; rfl)]
  exact RunO.all rfl (RunC.ret ⟨_, rfl, rfl, f2⟩)
/- What Look tells. -/
def lkS (L : List Int) : S5 := (pickS L).1
def lkF (L : List Int) : List R8 × List Int × Nat × Int := folOf L (lkS L).2.2.2.2
def lkR (L : List Int) : List (Int × Int) := ((lkS L).2.2.1, (lkS L).2.2.2.1) :: (lkF L).1.map fun r => (r.ro, r.sz)
def lkX (L : List Int) (p : Int × Int) : Bool := !treeOk L p.1 || bey (treeM L p.1) p.2
def lkT (L : List Int) : List (List Int × List Int) := (lkR L).map fun p => (treeM L p.1, treeN L p.1)
def clV (B : Nat) (bl : List Int) (T : List (List Int × List Int)) : Int := match (List.range B).find? (clP bl (T.map fun t => (0, t))) with
  | some i => (i : Int)
  | none => 0
def lkC (L : List Int) : Int := clV (L.length / 64) (lkF L).2.1 (lkT L)
def lkM (L : List Int) : Int × Int := match (lkR L).find? (lkX L) with
  | some p => (p.1, 6)
  | none => (lkC L, if lkC L = 0 then 0 else 6)
def lk (L : List Int) : Int × Int := if devOk L.length then (if (pickS L).2.2 then (if (lkF L).2.2.2 = 0 then lkM L else ((lkF L).2.2.2, 7)) else (0, 8)) else (0, 2)
/-- An open image in memory. -/
def LkR (lo : Nat) (h : Heap) (xb : Nat) (L : List Int) : Prop :=
  ∃ rv bv tv TL, lo ≤ xb ∧ Ow h xb (imc (lkS L) (pickS L).2.1 rv bv tv) ∧ Row lo h rv 8 (lkF L).1.length (recCs (lkF L).1) ∧ Row lo h bv 1 (lkF L).2.1.length (is (lkF L).2.1) ∧ Sl h tv 1 TL.length (tps TL) ∧ TL.map (·.2) = lkT L ∧ ∀ t ∈ TL, TrOk (L.length / 64) h t
theorem clP_snd (bl : List Int) (TL : List Tr3) (j : Nat) : clP bl TL j = clP bl ((TL.map (·.2)).map fun t => (0, t)) j := by
  have e1 : isS TL j = isS ((TL.map (·.2)).map fun t => (0, t)) j := by
    unfold isS; rw [List.map_map, List.any_map]; rfl
  have e2 : isN TL j = isN ((TL.map (·.2)).map fun t => (0, t)) j := by
    unfold isN; rw [List.map_map, List.any_map]; rfl
  unfold clP
  rw [e1, e2]
/-- A tree's blocks, apart from what Look writes. -/
def TrW (B : Nat) (h : Heap) (xb : Nat) (tv : Value) (t : Tr3) : Prop :=
  ∃ iv mb nv, Ow h t.1 (wc iv B (.slice (some ⟨mb, 0, none⟩) 512 (exc 512)) nv false) ∧ Ow h mb (is t.2.1) ∧ Row 0 h nv 1 t.2.2.length (is t.2.2) ∧ t.2.1.length = 512 ∧ t.2.2.length ≤ 73 ∧ (∀ x ∈ t.2.1, 0 ≤ x ∧ x < (B : Int)) ∧ (∀ x ∈ t.2.2, 2 ≤ x ∧ x < (B : Int)) ∧
    (t.1 ≠ xb ∧ ¬ At tv t.1) ∧ (mb ≠ xb ∧ ¬ At tv mb) ∧ ∀ b, At nv b → b ≠ xb ∧ ¬ At tv b
theorem TrW.ok {B : Nat} {h : Heap} {xb : Nat} {tv : Value} {t : Tr3} (r : TrW B h xb tv t) : TrOk B h t := by
  obtain ⟨iv, mb, nv, h1, h2, h3, h4, h5, h6, h7, _⟩ := r
  exact ⟨iv, _, nv, h1, by rw [h4]; exact h2.all.sl (by rw [is_len, h4]) (by decide) (Cp.exc (Nat.le_refl _)), h3.sl (by omega), h4, by omega, h6, fun x hx => by have := h7 x hx; omega⟩
theorem TrW.step {B : Nat} {h h' : Heap} {xb : Nat} {tv tv' : Value} {t : Tr3} (r : TrW B h xb tv t) (f : Fr (fun b => b = xb ∨ At tv b) h h') (hn : ∀ b, At tv' b → h.next ≤ b) : TrW B h' xb tv' t := by
  obtain ⟨iv, mb, nv, h1, h2, h3, h4, h5, h6, h7, ⟨g1, g2⟩, ⟨g3, g4⟩, g5⟩ := r
  refine ⟨iv, mb, nv, h1.fr f (fun g => g.elim g1 g2), h2.fr f (fun g => g.elim g3 g4), h3.frm f (fun b g e => e.elim (g5 b g).1 (g5 b g).2), h4, h5, h6, h7, ⟨g1, fun g => ?_⟩, ⟨g3, fun g => ?_⟩, fun b g => ⟨(g5 b g).1, fun e => ?_⟩⟩
  · have := hn _ g; have := h1.1; omega
  · have := hn _ g; have := h2.1; omega
  · have := hn _ e; have := (h3.at g).2; omega
theorem idsG {lo s k n c kb tb : Nat} {h : Heap} {lv : Value} {cells : List Value} (r : Gr lo h lv s k cells) (h1 : ∀ b, At lv b → b ≠ kb) (h2 : tb ≠ kb) : fpOk (.wr (idsOf [lv, .slice (some ⟨tb, 0, none⟩) n c])) (.rd kb) = true := by
  have key : ∀ l : List Nat, ¬ kb ∈ l → memN kb l = false := by
    intro l
    induction l with
    | nil => intro _; rfl
    | cons x l ih =>
      intro g
      simp only [List.mem_cons, not_or] at g
      unfold memN
      rw [show Nat.beq kb x = false from by cases e : Nat.beq kb x with | false => rfl | true => exact absurd (Nat.eq_of_beq_eq_true e) g.1]
      simpa using ih g.2
  show (!memN kb _) = true
  rw [key]
  · rfl
  · rcases r.2 with ⟨rfl, _⟩ | ⟨b, _, _, rfl, _⟩
    · simp only [idsOf, List.mem_cons, List.not_mem_nil, or_false]
      omega
    · have := h1 b ⟨_, _, rfl⟩
      simp only [idsOf, List.mem_cons, List.not_mem_nil, or_false]
      omega
theorem find_first {α : Type} {p : α → Bool} : ∀ {l : List α} {i : Nat} (hi : i < l.length), (∀ j (hj : j < l.length), j < i → p l[j] = false) → p l[i] = true → l.find? p = some l[i]
  | x :: l, 0, hi, _, h => by
    have h : p x = true := h
    rw [List.find?_cons_of_pos h]; rfl
  | x :: l, i + 1, hi, ha, h => by
    have h0 : p x = false := ha 0 (Nat.zero_lt_succ _) (Nat.zero_lt_succ _)
    rw [List.find?_cons_of_neg (by rw [h0]; simp)]
    exact find_first (l := l) (i := i) (by simpa using hi) (fun j hj hji => ha (j + 1) (by simpa using hj) (by omega)) h
theorem clV_some {B : Nat} {bl : List Int} {TL : List Tr3} {i : Nat} (hi : i < B) (h : clP bl TL i = true) (hn : ∀ j, j < i → clP bl TL j = false) : clV B bl (TL.map (·.2)) = (i : Int) := by
  unfold clV
  have := find_first (p := clP bl ((TL.map (·.2)).map fun t => (0, t))) (l := List.range B) (i := i) (by rw [List.length_range]; exact hi) (fun j hj hji => by rw [List.getElem_range, ← clP_snd]; exact hn j hji) (by rw [List.getElem_range, ← clP_snd]; exact h)
  rw [this, List.getElem_range]
theorem clV_none {B : Nat} {bl : List Int} {TL : List Tr3} (hn : ∀ j, j < B → clP bl TL j = false) : clV B bl (TL.map (·.2)) = 0 := by
  unfold clV
  rw [List.find?_eq_none.2 (fun j hj => by rw [← clP_snd, hn j (List.mem_range.1 hj)]; simp)]
theorem clP_zero {bl : List Int} {TL : List Tr3} (hb : ∀ x ∈ bl, 2 ≤ x) (hn : ∀ t ∈ TL, ∀ x ∈ t.2.2, 2 ≤ x) : clP bl TL 0 = false := by
  have e1 : isS TL 0 = false := by
    unfold isS
    rw [List.any_eq_false]
    intro t _; simp
  have e2 : isN TL 0 = false := by
    unfold isN
    rw [List.any_eq_false]
    intro t ht g
    have := hn t ht _ (List.contains_iff_mem.1 g)
    omega
  unfold clP
  rw [e1, e2]; rfl
theorem Gr.ge {lo s n : Nat} {h : Heap} {v : Value} {cells : List Value} (r : Gr lo h v s n cells) : ∀ b o m c, v = .slice (some ⟨b, o, none⟩) m c → lo ≤ b := by
  intro b o m c e
  rcases r.2 with ⟨rfl, _⟩ | ⟨b', c', h1, rfl, _, _⟩
  · cases e
  · cases e; exact h1
theorem ix_at {l : List Int} {i : Nat} {x : Int} (h : l[i]? = some x) : apart prog 3 (is l) (i * 1) = some (.int .i64 x) := by
  have hi : i < l.length := (List.getElem?_eq_some_iff.1 h).1
  have hx : l[i] = x := (List.getElem?_eq_some_iff.1 h).2
  rw [is_part hi, hx]
theorem TrW.fr0 {B : Nat} {h h' : Heap} {xb : Nat} {tv : Value} {t : Tr3} (r : TrW B h xb tv t) (f : Fr no h h') : TrW B h' xb tv t := by
  obtain ⟨iv, mb, nv, h1, h2, h3, h4, h5, h6, h7, h8⟩ := r
  exact ⟨iv, mb, nv, h1.fr f (fun g => g), h2.fr f (fun g => g), h3.fr f (fun _ _ _ g => g), h4, h5, h6, h7, h8⟩
end Go.Proofs.Ytnokcbenpnmnbaa
end
section
set_option linter.unusedVariables false
set_option linter.unusedSectionVars false
set_option maxRecDepth 100000
open Go Go.Am Go.RowKit
namespace Go.Proofs.Ytnokcbenpnmnbaa
open Go.Proofs.Try
theorem lkS_sz {L : List Int} (h : (pickS L).2.2 = true) : 0 ≤ (lkS L).2.2.2.1 ∧ (lkS L).2.2.2.1 ≤ 512 := by
  obtain ⟨i, hi, e, _, hc, _⟩ := pick_is h
  unfold lkS
  rw [e]
  unfold sVal
  rw [if_pos hc]
  unfold sCode at hc
  split at hc
  · split at hc
    · rename_i h2
      exact ((superOk_iff _ _ _ _ _).1 h2).2.2.1
    · cases hc
  · rename_i h1; exact absurd hc h1
theorem lkR_sz {L : List Int} (h : (pickS L).2.2 = true) : ∀ p ∈ lkR L, 0 ≤ p.2 ∧ p.2 ≤ 512 := by
  intro p hp
  rcases List.mem_cons.1 hp with e | g
  · rw [e]; exact lkS_sz h
  · obtain ⟨r, hr, rfl⟩ := List.mem_map.1 g
    have := (fol_ok (L := L) (B := L.length / 64) (L.length / 64) (lkS L).2.2.2.2 [] [] 0 (fun r h => absurd h List.not_mem_nil) (fun x h => absurd h List.not_mem_nil) rfl).1 r hr
    exact r8_sz this
set_option maxHeartbeats 64000000 in
theorem openLook_ok {h : Heap} {iv : Value} {L : List Int} (sl : Sl h iv 1 L.length (us L)) (hb : Byt L) (hm : L.length ≤ 4611686018427387904) :
    RunF prog 46 [iv] h fun v h' => Fr no h h' ∧ (((lk L).2 = 0 ∧ ∃ xb, v = .tuple #[.pointer (some ⟨xb, 0, none⟩), .int .i64 0, .int .i64 0] ∧ LkR h.next h' xb L) ∨ ((lk L).2 ≠ 0 ∧ v = .tuple #[.pointer none, .int .i64 (lk L).1, .int .i64 (lk L).2])) := by
  refine RunF.walk func46 rfl rfl ?_
  have sl0 := sl
  obtain ⟨A, c, rfl, hc, hA⟩ := sl.form
  have hlk : lk L = if devOk L.length then (if (pickS L).2.2 then (if (lkF L).2.2.2 = 0 then lkM L else ((lkF L).2.2.2, 7)) else (0, 8)) else (0, 2) := rfl
  refine RunC.seq (RunC.region (RunO.all rfl ?_))
  refine RunC.seq (RunC.region (RunO.part 1 rfl ?_))
  refine RunO.callD (devCheck_ok hm) rfl rfl rfl ?_
  rintro _ _ ⟨rfl, rfl⟩
  refine RunO.all rfl ?_
  cases hd : devOk L.length with
  | false =>
    rw [hd, if_neg Bool.false_ne_true] at hlk
    rw [hlk]
    refine RunC.seq (RunC.seq (RunC.region (RunO.all rfl (RunC.cond rfl (fun _ => ?_) (fun g => by cases g)))))
    exact RunC.seq (RunC.region (RunO.all rfl (RunC.ret ⟨_, rfl, Fr.refl _ _, .inr ⟨by decide, rfl⟩⟩)))
  | true =>
  rw [hd, if_pos rfl] at hlk
  have hdl : L.length % 64 = 0 ∧ 4 ≤ L.length / 64 ∧ L.length / 64 ≤ 4096 := by
    unfold devOk at hd
    simpa using hd
  obtain ⟨B, hB⟩ : ∃ B, B = L.length / 64 := ⟨_, rfl⟩
  rw [if_pos rfl, if_pos rfl, ← hB]
  refine RunC.seq (RunC.seq (RunC.region (RunO.all rfl (RunC.cond rfl (fun g => by cases g) (fun _ => RunC.skip ?_)))))
  -- the image's struct
  refine RunC.seq (RunC.region (RunO.all (h1 := h.push ⟨imc (0, 0, 0, 0, 0) 0 (.slice none 0 0) (.slice none 0 0) (.slice none 0 0), true⟩) rfl ?_))
  have ox := Ow.push h (imc (0, 0, 0, 0, 0) 0 (.slice none 0 0) (.slice none 0 0) (.slice none 0 0))
  have f1 : Fr no h (h.push ⟨imc (0, 0, 0, 0, 0) 0 (.slice none 0 0) (.slice none 0 0) (.slice none 0 0), true⟩) := Fr.push _ _ _
  generalize h.push ⟨imc (0, 0, 0, 0, 0) 0 (.slice none 0 0) (.slice none 0 0) (.slice none 0 0), true⟩ = h1 at *
  obtain ⟨xb, hxb⟩ : ∃ q, q = h.next := ⟨_, rfl⟩
  rw [← hxb] at ox ⊢
  -- the superblock
  refine RunC.seq (RunC.region (RunO.part 3 rfl ?_))
  refine RunO.callD (superPick_ok (fun g => by obtain ⟨b, o, e, rd⟩ := hA (by omega); exact ⟨_, e, rd.fr f1 (fun g => g)⟩) hb hc hm) rfl rfl rfl ?_
  rintro _ h2 ⟨rfl, f2⟩
  have hpc : pickCode L = if (pickS L).2.2 then 0 else 8 := by unfold pickCode; rw [hd, if_pos rfl]
  replace ox := ox.fr f2 (fun g => g)
  have F2 := f1.same f2
  cases hpk : (pickS L).2.2 with
  | false =>
    rw [hpk, if_neg Bool.false_ne_true] at hpc hlk
    rw [hpc, hlk]
    refine RunO.part 7 rfl ?_
    refine RunO.store rfl rfl (store_ow (s := 5) ox rfl rfl rfl (Nat.le_of_ble_eq_true rfl)) ?_
    have ox2 : Ow (h2.put xb (some ⟨imc (0, 0, 0, 0, 0) 0 (.slice none 0 0) (.slice none 0 0) (.slice none 0 0), true⟩)) xb (imc (0, 0, 0, 0, 0) 0 (.slice none 0 0) (.slice none 0 0) (.slice none 0 0)) := Ow.put _ ox.1
    have g2 : Fr no h (h2.put xb (some ⟨imc (0, 0, 0, 0, 0) 0 (.slice none 0 0) (.slice none 0 0) (.slice none 0 0), true⟩)) := F2.trans (Fr.put (m := (· = xb)) _ (.inl rfl)) (fun b e => .inr (by omega))
    show RunO prog _ _ _ _ (h2.put xb (some ⟨imc (0, 0, 0, 0, 0) 0 (.slice none 0 0) (.slice none 0 0) (.slice none 0 0), true⟩)) _
    generalize h2.put xb (some ⟨imc (0, 0, 0, 0, 0) 0 (.slice none 0 0) (.slice none 0 0) (.slice none 0 0), true⟩) = h3 at *
    refine RunO.part 3 rfl ?_
    refine RunO.store rfl rfl (store1_ow ox2 rfl rfl rfl (Nat.le_of_ble_eq_true rfl)) ?_
    have g3 : ∀ x, Fr no h (h3.put xb x) := fun x => g2.trans (Fr.put (m := (· = xb)) _ (.inl rfl)) (fun b e => .inr (by omega))
    refine RunO.all rfl ?_
    refine RunC.seq (RunC.seq (RunC.region (RunO.all rfl (RunC.cond rfl (fun _ => ?_) (fun g => by cases g)))))
    exact RunC.seq (RunC.region (RunO.all rfl (RunC.ret ⟨_, rfl, g3 _, .inr ⟨by decide, rfl⟩⟩)))
  | true =>
  rw [hpk, if_pos rfl] at hpc hlk
  rw [hpc, if_pos rfl, if_pos rfl]
  have hsz := lkR_sz hpk
  have hlkF : lkF L = folOf L (lkS L).2.2.2.2 := rfl
  have hS : (pickS L).1 = lkS L := rfl
  rw [hS]
  obtain ⟨s, hs⟩ : ∃ s, s = lkS L := ⟨_, rfl⟩
  obtain ⟨slot, hsl⟩ : ∃ s, s = (pickS L).2.1 := ⟨_, rfl⟩
  rw [← hs] at hlkF ⊢
  rw [← hsl]
  refine RunO.part 7 rfl ?_
  refine RunO.store rfl rfl (store_ow (s := 5) ox rfl rfl rfl (Nat.le_of_ble_eq_true rfl)) ?_
  have ox2 : Ow (h2.put xb (some ⟨imc s 0 (.slice none 0 0) (.slice none 0 0) (.slice none 0 0), true⟩)) xb (imc s 0 (.slice none 0 0) (.slice none 0 0) (.slice none 0 0)) := Ow.put _ ox.1
  have F3 : Fr no h (h2.put xb (some ⟨imc s 0 (.slice none 0 0) (.slice none 0 0) (.slice none 0 0), true⟩)) := F2.trans (Fr.put (m := (· = xb)) _ (.inl rfl)) (fun b e => .inr (by omega))
  show RunO prog _ _ _ _ (h2.put xb (some ⟨imc s 0 (.slice none 0 0) (.slice none 0 0) (.slice none 0 0), true⟩)) _
  generalize h2.put xb (some ⟨imc s 0 (.slice none 0 0) (.slice none 0 0) (.slice none 0 0), true⟩) = h3 at *
  refine RunO.part 3 rfl ?_
  refine RunO.store rfl rfl (store1_ow ox2 rfl rfl rfl (Nat.le_of_ble_eq_true rfl)) ?_
  have ox3 : Ow (h3.put xb (some ⟨imc s slot (.slice none 0 0) (.slice none 0 0) (.slice none 0 0), true⟩)) xb (imc s slot (.slice none 0 0) (.slice none 0 0) (.slice none 0 0)) := Ow.put _ ox2.1
  have F4 : Fr no h (h3.put xb (some ⟨imc s slot (.slice none 0 0) (.slice none 0 0) (.slice none 0 0), true⟩)) := F3.trans (Fr.put (m := (· = xb)) _ (.inl rfl)) (fun b e => .inr (by omega))
  show RunO prog _ _ _ _ (h3.put xb (some ⟨imc s slot (.slice none 0 0) (.slice none 0 0) (.slice none 0 0), true⟩)) _
  generalize h3.put xb (some ⟨imc s slot (.slice none 0 0) (.slice none 0 0) (.slice none 0 0), true⟩) = h4 at *
  clear ox ox2 F3 F2
  refine RunO.all rfl ?_
  refine RunC.seq (RunC.seq (RunC.region (RunO.all rfl (RunC.cond rfl (fun g => by cases g) (fun _ => RunC.skip ?_)))))
  -- the records
  refine RunC.seq (RunC.region (RunO.part 6 rfl ?_))
  refine RunO.load (v := .int .i64 s.2.2.2.2) rfl (ox3.ld rfl) rfl ?_
  refine RunO.callD (openFollow_ok (a := s.2.2.2.2) (sl0.fr0 F4) hb hd) rfl rfl rfl ?_
  rintro _ h5 ⟨f5, kb, rfl, lv, bv, hkb, ok, rl, rb⟩
  have hkx : xb < h4.next := ox3.1
  replace ox3 := ox3.fr f5 (fun g => g)
  have F5 := F4.same f5
  rw [← hlkF] at ok rl rb
  -- more
  obtain ⟨lr, hlr⟩ : ∃ x, x = (lkF L).1 := ⟨_, rfl⟩
  obtain ⟨lb, hlb⟩ : ∃ x, x = (lkF L).2.1 := ⟨_, rfl⟩
  have hff := fol_ok (L := L) (B := L.length / 64) (L.length / 64) s.2.2.2.2 [] [] 0 (fun r h => absurd h List.not_mem_nil) (fun x h => absurd h List.not_mem_nil) rfl
  have hff : (∀ x ∈ lb, 2 ≤ x ∧ x < (B : Int)) ∧ lr.length = lb.length ∧ lb.length ≤ B := by
    rw [hlr, hlb, hlkF, hB]
    unfold folOf
    refine ⟨hff.2.1, hff.2.2.1, ?_⟩
    have := hff.2.2.2
    simpa using this
  obtain ⟨hlbr, hlrl, hlbl⟩ := hff
  rw [← hlr] at rl
  rw [← hlb] at rb
  have slr := rl.sl (by omega)
  obtain ⟨lA, lc, rfl, _, _⟩ := slr.form
  refine RunO.all rfl ?_
  refine RunC.seq (RunC.seq (RunC.region (RunO.part 3 rfl ?_)))
  refine RunO.load (v := .int .i64 (lkF L).2.2.2) rfl (ok.ld rfl) rfl (RunO.all rfl ?_)
  by_cases hbad : (lkF L).2.2.2 = 0
  case neg =>
    rw [if_neg hbad] at hlk
    rw [hlk, show ((lkF L).2.2.2 != 0) = true from bne_iff_ne.2 hbad]
    refine RunC.cond rfl (fun _ => ?_) (fun g => by cases g)
    refine RunC.seq (RunC.draw0 rfl (RunO.part 3 rfl ?_))
    refine RunO.load (v := .int .i64 (lkF L).2.2.2) rfl (ok.ld rfl) rfl (RunO.all rfl ?_)
    exact RunC.ret ⟨_, rfl, F5, .inr ⟨by show (7 : Int) ≠ 0; decide, rfl⟩⟩
  rw [if_pos hbad] at hlk
  rw [show ((lkF L).2.2.2 != 0) = false from by rw [hbad]; rfl]
  refine RunC.cond rfl (fun g => by cases g) (fun _ => RunC.skip ?_)
  have hkk : kb ≠ xb := by omega
  have hlx : ∀ b, At (.slice lA lr.length lc) b → b ≠ xb := fun b g => by have := (rl.at g).1; omega
  have hbx : ∀ b, At bv b → b ≠ xb := fun b g => by have := (rb.at g).1; omega
  refine RunC.seq (RunC.draw0 rfl (RunO.part 5 rfl ?_))
  refine RunO.load (v := .slice lA lr.length lc) rfl (ok.ld rfl) rfl ?_
  refine RunO.part 3 rfl ?_
  refine RunO.load (v := bv) rfl (ok.ld rfl) rfl ?_
  refine RunO.part 3 rfl ?_
  refine RunO.store rfl rfl (store1_ow ox3 rfl (rl.cell).1 (rl.cell).2 (Nat.le_of_ble_eq_true rfl)) ?_
  have ox4 : Ow (h5.put xb (some ⟨imc s slot (.slice lA lr.length lc) (.slice none 0 0) (.slice none 0 0), true⟩)) xb (imc s slot (.slice lA lr.length lc) (.slice none 0 0) (.slice none 0 0)) := Ow.put _ ox3.1
  have fp1 : Fr (· = xb) h5 (h5.put xb (some ⟨imc s slot (.slice lA lr.length lc) (.slice none 0 0) (.slice none 0 0), true⟩)) := Fr.put _ (.inl rfl)
  show RunO prog _ _ _ _ (h5.put xb (some ⟨imc s slot (.slice lA lr.length lc) (.slice none 0 0) (.slice none 0 0), true⟩)) _
  generalize h5.put xb (some ⟨imc s slot (.slice lA lr.length lc) (.slice none 0 0) (.slice none 0 0), true⟩) = h6 at *
  refine RunO.part 2 rfl ?_
  refine RunO.store rfl rfl (store1_ow ox4 rfl (rb.cell).1 (rb.cell).2 (Nat.le_of_ble_eq_true rfl)) (RunO.nil ?_)
  have ox5 : Ow (h6.put xb (some ⟨imc s slot (.slice lA lr.length lc) bv (.slice none 0 0), true⟩)) xb (imc s slot (.slice lA lr.length lc) bv (.slice none 0 0)) := Ow.put _ ox4.1
  have fp2 : Fr (· = xb) h6 (h6.put xb (some ⟨imc s slot (.slice lA lr.length lc) bv (.slice none 0 0), true⟩)) := Fr.put _ (.inl rfl)
  show RunC prog _ _ _ (h6.put xb (some ⟨imc s slot (.slice lA lr.length lc) bv (.slice none 0 0), true⟩)) _ _ _
  generalize h6.put xb (some ⟨imc s slot (.slice lA lr.length lc) bv (.slice none 0 0), true⟩) = h7 at *
  have fp := fp1.same fp2
  replace ok := ok.fr fp hkk
  replace rl := rl.frm fp (fun b g e => hlx b g e)
  replace rb := rb.frm fp (fun b g e => hbx b g e)
  have F7 : Fr no h h7 := F5.trans fp (fun b e => .inr (by have e : b = xb := e; omega))
  clear ox3 ox4 fp1 fp2 fp F5 F4 slr
  have slr := rl.sl (by omega)
  -- the roots, the sizes
  refine RunC.seq (RunC.draw0 rfl (RunO.part 5 rfl ?_))
  refine RunO.load (v := .int .i64 s.2.2.1) rfl (ox5.ld rfl) rfl ?_
  refine RunO.part 1 (h1 := h7.push ⟨is [s.2.2.1], true⟩) rfl ?_
  have or := Ow.push h7 (is [s.2.2.1])
  have f8 : Fr no h7 (h7.push ⟨is [s.2.2.1], true⟩) := Fr.push _ _ _
  generalize h7.push ⟨is [s.2.2.1], true⟩ = h8 at *
  have hxq := ox5.1
  obtain ⟨rq, hrq⟩ : ∃ q, q = h7.next := ⟨_, rfl⟩
  rw [← hrq] at or ⊢
  have hr8 := or.1
  refine RunO.part 5 rfl ?_
  refine RunO.load (v := .int .i64 s.2.2.2.1) rfl ((ox5.fr f8 (fun g => g)).ld rfl) rfl ?_
  refine RunO.part 1 (h1 := h8.push ⟨is [s.2.2.2.1], true⟩) rfl ?_
  have oz := Ow.push h8 (is [s.2.2.2.1])
  have f9 : Fr no h8 (h8.push ⟨is [s.2.2.2.1], true⟩) := Fr.push _ _ _
  replace or := or.fr f9 (fun g => g)
  generalize h8.push ⟨is [s.2.2.2.1], true⟩ = h9 at *
  obtain ⟨zq, hzq⟩ : ∃ q, q = h8.next := ⟨_, rfl⟩
  rw [← hzq] at oz ⊢
  refine RunO.all rfl ?_
  have f79 := f8.same f9
  have hR : lkR L = (s.2.2.1, s.2.2.2.1) :: lr.map fun r => (r.ro, r.sz) := by rw [hlr, hs]; rfl
  have hRl : (lkR L).length = lr.length + 1 := by rw [hR, List.length_cons, List.length_map]
  have hRg : ∀ i (hi : i < lr.length), (lkR L).take (i + 1 + 1) = (lkR L).take (i + 1) ++ [(lr[i].ro, lr[i].sz)] := fun i hi => by
    rw [List.take_succ_eq_append_getElem (by omega)]
    congr 2
    simp [hR]
  obtain ⟨RS, hRS⟩ : ∃ x, x = lkR L := ⟨_, rfl⟩
  have hR1 : RS.take 1 = [(s.2.2.1, s.2.2.2.1)] := by rw [hRS, hR]; rfl
  rw [← hRS] at hRl hRg hsz
  refine RunC.seq ?_
  refine RunC.seq (RunC.region (RunO.part 3 rfl ?_))
  refine RunO.load (v := .slice lA lr.length lc) rfl ((ok.fr f79 (fun g => g)).ld rfl) rfl (RunO.all rfl ?_)
  refine RunC.block ?_
  refine RunC.loop (fun d E h' => ∃ (i : Nat) (rov zov : Value), i + d = lr.length ∧ Gr rq h' rov 1 (i + 1) (is ((RS.take (i + 1)).map (·.1))) ∧ Gr rq h' zov 1 (i + 1) (is ((RS.take (i + 1)).map (·.2))) ∧ (∀ b, At rov b → ¬ At zov b) ∧ Fr no h7 h' ∧ rq < h'.next ∧
    Le ((upd (upd (upd (upd (upd (upd (upd (upd E0 0 (.slice A L.length c)) 2 (.pointer (some ⟨xb, 0, none⟩))) 5 (.int .i64 (B : Int))) 91 (.slice lA lr.length lc)) 92 (.int .i64 (lr.length : Int))) 7 (rov)) 8 (zov)) 93 (.int .i64 (i : Int)))) E) ?st1 (k := lr.length) ?ini1
  case ini1 =>
    refine ⟨0, .slice (some ⟨rq, 0, none⟩) 1 (exc 1), .slice (some ⟨zq, 0, none⟩) 1 (exc 1), by omega, ?_, ?_, ?_, f79, or.1, Le.cons rfl (Le.cons rfl (Le.cons rfl (Le.cons rfl (Le.cons rfl (Le.cons rfl (Le.cons rfl (Le.cons rfl (Le.nil _))))))))⟩
    · rw [hR1]; exact Gr.full or rfl (Nat.le_refl _)
    · rw [hR1]; exact Gr.full oz rfl (by omega)
    · rintro b ⟨_, _, e⟩ ⟨_, _, e2⟩
      injection e with e
      injection e with e
      injection e with e
      injection e2 with e2
      injection e2 with e2
      injection e2 with e2
      omega
  rintro d E g1 ⟨i, rov, zov, hi, gr, gz, hrz, fg, hrg, hE⟩
  refine RunC.le hE ?_
  clear hE
  refine RunC.seq (RunC.region (RunO.all rfl ?_))
  refine RunC.seq (RunC.cond rfl (fun hlt => RunC.skip ?go1) (fun hge => RunC.exit ?ex1))
  case go1 =>
    have hlt := of_decide_eq_true hlt
    have hlt : i < lr.length := by omega
    have hgi := hRg i hlt
    have hpt := recCs_part hlt
    generalize lr[i] = r at *
    refine RunC.seq (RunC.block ?_)
    refine RunC.seq (RunC.region ?_)
    refine RunO.at (s := 8) (k := i) rfl rfl (slr.fr0 fg) rfl rfl hlt hpt rfl rfl rfl ?_
    refine RunO.part 1 (h1 := g1.push ⟨rc8 ⟨0, 0, 0, 0, 0, 0, 0, 0⟩, true⟩) rfl ?_
    refine RunO.store rfl rfl (store_ow (s := 8) (Ow.push g1 (rc8 ⟨0, 0, 0, 0, 0, 0, 0, 0⟩)) rfl rfl rfl (Nat.le_refl 8)) (RunO.nil ?_)
    have e8 : (rc8 ⟨0, 0, 0, 0, 0, 0, 0, 0⟩).take 0 ++ cellsOf (.agg ⟨rc8 r⟩) ++ (rc8 ⟨0, 0, 0, 0, 0, 0, 0, 0⟩).drop (0 + 8) = rc8 r := rfl
    rw [e8]
    have on : Ow ((g1.push ⟨rc8 ⟨0, 0, 0, 0, 0, 0, 0, 0⟩, true⟩).put g1.next (some ⟨rc8 r, true⟩)) g1.next (rc8 r) := Ow.put _ (Nat.lt_succ_self _)
    have f2 : Fr no g1 ((g1.push ⟨rc8 ⟨0, 0, 0, 0, 0, 0, 0, 0⟩, true⟩).put g1.next (some ⟨rc8 r, true⟩)) := (Fr.push _ _ _).trans (Fr.put (m := (· = g1.next)) _ (.inl rfl)) (fun j hj => .inr (by omega))
    have hrx : ∀ b, At rov b → rq ≤ b ∧ b < g1.next := fun b g => gr.at g
    have hzx : ∀ b, At zov b → rq ≤ b ∧ b < g1.next := fun b g => gz.at g
    replace gr := gr.fr0 f2
    replace gz := gz.fr0 f2
    have fg2 := fg.same f2
    generalize (g1.push ⟨rc8 ⟨0, 0, 0, 0, 0, 0, 0, 0⟩, true⟩).put g1.next (some ⟨rc8 r, true⟩) = g2 at *
    obtain ⟨pb, hpb⟩ : ∃ q, q = g1.next := ⟨_, rfl⟩
    rw [← hpb] at on hrx hzx ⊢
    have hpr : ¬ At rov pb := fun g => by have := hrx pb g; omega
    have hpz : ¬ At zov pb := fun g => by have := hzx pb g; omega
    refine RunC.drawW (fun b => At rov b ∨ At zov b) (p := (4, 7)) (ps := []) rfl ?_
    refine RunW.pure rfl rfl (fun _ => rfl) rfl ?_
    refine RunW.pure rfl rfl (fun _ => rfl) rfl ?_
    refine RunW.load (v := .int .i64 r.ro) rfl rfl (on.ld rfl) rfl ?_
    refine RunW.new (ob := ⟨is [r.ro], true⟩) rfl rfl (fun _ => rfl) rfl ?_
    have ot := Ow.push g2 (is [r.ro])
    have f3 : Fr no g2 (g2.push ⟨is [r.ro], true⟩) := Fr.push _ _ _
    have gr3 := gr.fr0 f3
    have gz3 := gz.fr0 f3
    have on3 := on.fr f3 (fun g => g)
    have hpl2 := on.1
    generalize g2.push ⟨is [r.ro], true⟩ = g3 at *
    obtain ⟨tb, htb⟩ : ∃ q, q = (g2.lo g2.next).next := ⟨_, rfl⟩
    have htb2 : tb = g2.next := htb
    rw [← htb]
    rw [← htb2] at ot hpl2
    refine RunW.appendG (s := 1) (j := 1) rfl rfl rfl rfl rfl rfl rfl rfl rfl (by decide) gr3 ot.all rfl (Nat.le_refl 1) rfl (by show 2 * (_ + 1) * 8 ≤ _; omega) (by omega) (fun b g => .inl g) ?_
    intro rov2 g4 r4 f4
    have on4 := on3.fr f4 hpr
    have gz4 := gz3.frm f4 (fun b g e => hrz b e g)
    refine RunW.pure rfl rfl (fun _ => rfl) rfl ?_
    refine RunW.pure rfl rfl (fun _ => rfl) rfl ?_
    refine RunW.load (v := .int .i64 r.sz) rfl rfl (on4.ld rfl) rfl ?_
    refine RunW.new (ob := ⟨is [r.sz], true⟩) rfl rfl (fun _ => rfl) rfl ?_
    have ot2 := Ow.push g4 (is [r.sz])
    have f5 : Fr no g4 (g4.push ⟨is [r.sz], true⟩) := Fr.push _ _ _
    have r5 := r4.gr.fr0 f5
    have gz5 := gz4.fr0 f5
    have hn5 : g4.next < (g4.push ⟨is [r.sz], true⟩).next := ot2.1
    generalize g4.push ⟨is [r.sz], true⟩ = g5 at *
    refine RunW.appendG (s := 1) (j := 1) rfl rfl rfl rfl rfl rfl rfl rfl rfl (by decide) gz5 ot2.all rfl (Nat.le_refl 1) rfl (by show 2 * (_ + 1) * 8 ≤ _; omega) (by omega) (fun b g => .inr g) ?_
    intro zov2 g6 z6 f6
    have hr2 : ∀ b, At rov2 b → g3.next ≤ b ∧ b < g4.next := fun b g => r4.at g
    have hz2 : ∀ b, At zov2 b → g5.next ≤ b ∧ b < g6.next := fun b g => z6.at g
    have hzo : ∀ b, At zov b → b < g3.next := fun b g => (gz3.at g).2
    have r6 := r5.frm f6 (fun b g e => by have := hr2 b g; have := hzo b e; omega)
    have hn3 : g2.next ≤ g3.next := f3.next
    have hn4 := f4.next
    have hn6 := f6.next
    have hn2 := f2.next
    refine RunW.pure rfl rfl (fun _ => rfl) rfl ?_
    refine RunW.pure rfl rfl (fun _ => rfl) rfl ?_
    refine RunW.nil ⟨?_, fun lw F => ?_⟩
    · show cond (fpOk (.wr (idsOf [rov, .slice (some ⟨tb, 0, none⟩) 1 (exc 1)])) (.rd pb)) true false = true
      rw [idsG gr3 (fun b g e => hpr (by rw [← e]; exact g)) (by omega)]; rfl
    have f27 : Fr no h7 (g6.lo lw) := fg2.trans F (fun b g => .inr (by rcases g with g | g; have := hrx b g; omega; have := hzx b g; omega))
    refine RunC.region (RunO.all rfl ?_)
    refine ⟨d - 1, by omega, i + 1, rov2, zov2, by omega, ?_, ?_, ?_, f27, ?_, Le.cons (inc64 (by omega)) (Le.cons rfl (Le.cons rfl (Le.cons rfl (Le.cons rfl (Le.cons rfl (Le.cons rfl (Le.cons rfl (Le.nil _))))))))⟩
    · have e1 : is ((RS.take (i + 1)).map (·.1)) ++ is [r.ro] = is ((RS.take (i + 1 + 1)).map (·.1)) := by
        rw [hgi, List.map_append]; exact (List.map_append ..).symm
      have q : Gr g3.next (g6.lo lw) rov2 1 (i + 1 + 1) (is ((RS.take (i + 1)).map (·.1)) ++ is [r.ro]) := r6
      rw [e1] at q
      exact q.lo (by omega)
    · have e1 : is ((RS.take (i + 1)).map (·.2)) ++ is [r.sz] = is ((RS.take (i + 1 + 1)).map (·.2)) := by
        rw [hgi, List.map_append]; exact (List.map_append ..).symm
      have q : Gr g5.next (g6.lo lw) zov2 1 (i + 1 + 1) (is ((RS.take (i + 1)).map (·.2)) ++ is [r.sz]) := z6.gr
      rw [e1] at q
      exact q.lo (by omega)
    · intro b x y
      have := hr2 b x; have := hz2 b y; omega
    · show rq < g6.next; omega
  have hge1 := of_decide_eq_false hge
  obtain rfl : i = lr.length := by omega
  have hRt : RS.take (lr.length + 1) = RS := List.take_of_length_le (by omega)
  rw [hRt] at gr gz
  have grge := Gr.ge gr
  have gzge := Gr.ge gz
  have slro := gr.sl (by omega)
  have slzo := gz.sl (by omega)
  obtain ⟨rA, rc_, rfl, _, _⟩ := slro.form
  obtain ⟨zA, zc, rfl, _, _⟩ := slzo.form
  have ox6 := ox5.fr fg (fun g => g)
  have hxg : xb < g1.next := ox6.1
  have rl6 := rl.fr fg (fun _ _ _ g => g)
  have rb6 := rb.fr fg (fun _ _ _ g => g)
  have F8 := F7.same fg
  clear ox5 f79 or oz
  -- the trees
  refine RunC.seq ?_
  refine RunC.seq (RunC.region (RunO.all rfl ?_))
  refine RunC.block ?_
  refine RunC.loop (fun d E h' => ∃ (i : Nat) (TL : List Tr3) (tv : Value), i + d = lr.length + 1 ∧ TL.length = i ∧ TL.map (·.2) = (RS.take i).map (fun p => (treeM L p.1, treeN L p.1)) ∧ (∀ j (hj : j < RS.length), j < i → lkX L RS[j] = false) ∧ (∀ t ∈ TL, TrW B h' xb tv t) ∧
      Ow h' xb (imc s slot (.slice lA lr.length lc) bv tv) ∧ Row g1.next h' tv 1 TL.length (tps TL) ∧ Fr (· = xb) g1 h' ∧
    Le ((upd (upd (upd (upd (upd (upd (upd E0 0 (.slice A L.length c)) 2 (.pointer (some ⟨xb, 0, none⟩))) 5 (.int .i64 (B : Int))) 8 (.slice zA (lr.length + 1) zc)) 108 (.slice rA (lr.length + 1) rc_)) 109 (.int .i64 ((lr.length + 1 : Nat) : Int))) 110 (.int .i64 (i : Int)))) E) ?st2 (k := lr.length + 1) ?ini2
  case ini2 => exact ⟨0, [], _, by omega, rfl, rfl, fun j _ hj => absurd hj (Nat.not_lt_zero _), fun t ht => absurd ht List.not_mem_nil, ox6, Row.nil _ _ _, Fr.refl _ _, Le.cons rfl (Le.cons rfl (Le.cons rfl (Le.cons rfl (Le.cons rfl (Le.cons rfl (Le.cons rfl (Le.nil _)))))))⟩
  rintro d2 E g2 ⟨i, TL, tv, hi2, hTl, hTm, hX, hTW, ox, rt, fg2, hE⟩
  refine RunC.le hE ?_
  clear hE
  refine RunC.seq (RunC.region (RunO.all rfl ?_))
  refine RunC.seq (RunC.cond rfl (fun hlt => RunC.skip ?go2) (fun hge => RunC.exit ?ex2))
  case go2 =>
    have hlt := of_decide_eq_true hlt
    have hlt : i < lr.length + 1 := by omega
    have hiR : i < RS.length := by omega
    have slr2 : Sl g2 (.slice rA (lr.length + 1) rc_) 1 (lr.length + 1) (is (RS.map (·.1))) := slro.frm (fun b o c_ e g => by have g : b = xb := g; have := grge b o _ c_ e; omega) fg2
    have slz2 : Sl g2 (.slice zA (lr.length + 1) zc) 1 (lr.length + 1) (is (RS.map (·.2))) := slzo.frm (fun b o c_ e g => by have g : b = xb := g; have := gzge b o _ c_ e; omega) fg2
    have F9 : Fr no h g2 := F8.trans fg2 (fun b e => .inr (by have e : b = xb := e; omega))
    have hr1 : (RS.map (·.1))[i]? = some RS[i].1 := by rw [List.getElem?_map, List.getElem?_eq_getElem hiR]; rfl
    have hz1 : (RS.map (·.2))[i]? = some RS[i].2 := by rw [List.getElem?_map, List.getElem?_eq_getElem hiR]; rfl
    obtain ⟨hz0, hz5⟩ := hsz RS[i] (List.getElem_mem hiR)
    have hfind := fun h => find_first (p := lkX L) hiR hX h
    have hlkM : lkX L RS[i] = true → lkM L = (RS[i].1, 6) := fun h => by
      unfold lkM
      rw [← hRS, hfind h]
    have hTk : RS.take (i + 1) = RS.take i ++ [RS[i]] := List.take_succ_eq_append_getElem hiR
    have hXn : lkX L RS[i] = false → ∀ j (hj : j < RS.length), j < i + 1 → lkX L RS[j] = false := fun h j hj hji => by
      rcases Nat.lt_or_ge j i with q | q
      · exact hX j hj q
      · have e : j = i := by omega
        subst e; exact h
    generalize RS[i] = p at *
    obtain ⟨root, sz⟩ := p
    simp only at hr1 hz1 hz0 hz5 hlkM
    have hXe : lkX L (root, sz) = (!treeOk L root || bey (treeM L root) sz) := rfl
    rw [hXe] at hlkM hXn
    refine RunC.seq (RunC.block ?_)
    refine RunC.seq (RunC.region (RunO.part 1 rfl ?_))
    refine RunO.at (s := 1) (k := i) rfl rfl slr2 rfl rfl hlt (ix_at hr1) rfl rfl rfl (RunO.all rfl ?_)
    refine RunC.seq (RunC.region (RunO.part 2 rfl ?_))
    refine RunO.callD (treeGo_ok (root := root) (sl0.fr0 F9) hb hd) rfl rfl rfl ?_
    rintro _ g3 ⟨f3, ⟨hok, wb, rfl, mb, nv, w1, w2, ow, om, row, hml, hnl⟩ | ⟨hok, rfl⟩⟩
    case inr =>
      rw [hok] at hlkM
      have hlkM := hlkM rfl
      rw [hlkM] at hlk
      rw [hlk]
      refine RunO.all rfl ?_
      refine RunC.seq (RunC.seq (RunC.draw0 rfl (RunO.all rfl ?_)))
      refine RunC.cond rfl (fun _ => ?_) (fun g => by cases g)
      exact RunC.seq (RunC.region (RunO.all rfl (RunC.ret ⟨_, rfl, F9.same f3, .inr ⟨by show (6 : Int) ≠ 0; decide, rfl⟩⟩)))
    rw [hok, show (!true) = false from rfl, Bool.false_or] at hlkM hXn
    obtain ⟨hmr, hnr⟩ := tree_rng hd hok
    rw [← hB] at ow hmr hnr
    obtain ⟨k, hk⟩ := Int.eq_ofNat_of_zero_le hz0
    subst hk
    refine RunO.all rfl ?_
    refine RunC.seq (RunC.seq (RunC.draw0 rfl (RunO.part 6 rfl ?_)))
    refine RunO.loadG (v := .slice (some ⟨mb, 0, none⟩) 512 (exc 512)) rfl rfl (ow.ld rfl) rfl ?_
    refine RunO.part 2 rfl ?_
    refine RunO.atG (s := 1) (k := i) rfl (fun _ => rfl) rfl rfl (slz2.fr0 f3) rfl rfl hlt (ix_at hz1) rfl rfl rfl ?_
    refine RunO.callDG rfl (openBeyond_ok (om.all.sl (by rw [is_len, hml]) (by decide) (Cp.exc (Nat.le_refl 512))) hml (by omega)) rfl rfl rfl ?_
    rintro _ g4 ⟨rfl, f4⟩
    cases hbe : bey (treeM L root) (k : Int) with
    | true =>
      have hlkM := hlkM hbe
      rw [hlkM] at hlk
      rw [hlk]
      refine RunO.all rfl (RunC.cond rfl (fun _ => ?_) (fun g => by cases g))
      exact RunC.seq (RunC.region (RunO.all rfl (RunC.ret ⟨_, rfl, (F9.same f3).same f4, .inr ⟨by show (6 : Int) ≠ 0; decide, rfl⟩⟩)))
    | false =>
    have hXn := hXn hbe
    refine RunO.all rfl (RunC.cond rfl (fun g => by cases g) (fun _ => RunC.skip ?_))
    have hg2x := ox.1
    have htx : ∀ b, At tv b → g1.next ≤ b ∧ b < g2.next := fun b g => rt.at g
    have f34 := f3.same f4
    have tw : TrW B g4 xb tv (wb, treeM L root, treeN L root) := by
      refine ⟨_, mb, nv, ow.fr f4 (fun g => g), om.fr f4 (fun g => g), Row.lo (row.fr f4 (fun _ _ _ g => g)) (Nat.zero_le _), hml, hnl, hmr, hnr, ⟨by omega, fun g => ?_⟩, ⟨by omega, fun g => ?_⟩, fun b g => ⟨?_, fun e => ?_⟩⟩
      · have := htx _ g; omega
      · have := htx _ g; omega
      · have := (row.at g).1; omega
      · have := htx _ e; have := (row.at g).1; omega
    have hTW4 : ∀ t ∈ TL, TrW B g4 xb tv t := fun t ht => (hTW t ht).fr0 f34
    have rt4 := rt.fr f34 (fun _ _ _ g => g)
    have ox4 := ox.fr f34 (fun g => g)
    have F10 := F9.same f34
    have hn34 := f34.next
    refine RunC.region (RunO.part 4 rfl ?_)
    refine RunO.load (v := tv) rfl (ox4.ld rfl) rfl ?_
    refine RunO.part 2 (h1 := g4.push ⟨tps [(wb, treeM L root, treeN L root)], true⟩) rfl ?_
    have ot := Ow.push g4 (tps [(wb, treeM L root, treeN L root)])
    have f5 : Fr no g4 (g4.push ⟨tps [(wb, treeM L root, treeN L root)], true⟩) := Fr.push _ _ _
    have rt5 := rt4.fr f5 (fun _ _ _ g => g)
    have ox5 := ox4.fr f5 (fun g => g)
    have hTW5 : ∀ t ∈ TL ++ [(wb, treeM L root, treeN L root)], TrW B (g4.push ⟨tps [(wb, treeM L root, treeN L root)], true⟩) xb tv t := fun t ht => by
      rcases List.mem_append.1 ht with g | g
      · exact (hTW4 t g).fr0 f5
      · rw [List.mem_singleton.1 g]; exact tw.fr0 f5
    generalize g4.push ⟨tps [(wb, treeM L root, treeN L root)], true⟩ = g5 at *
    refine RunO.append2 (s := 1) (m := 1) rfl rfl rfl rfl rfl rfl rfl rfl (by decide) rt5 ot.all rfl (Nat.le_refl 1) rfl (by show 2 * (_ + 1) * 8 ≤ _; omega) (by omega) ?_
    intro tv2 g6 rt6 f6
    have ox6 := ox5.fr f6 (fun g => by have := htx xb g; omega)
    have htv2 : ∀ b, At tv2 b → g5.next ≤ b := fun b g => (rt6.at g).1
    have hn5 := f5.next
    refine RunO.part 2 rfl ?_
    refine RunO.store rfl rfl (store1_ow ox6 rfl (rt6.cell).1 (rt6.cell).2 (Nat.le_of_ble_eq_true rfl)) (RunO.nil ?_)
    have ox7 : Ow (g6.put xb (some ⟨imc s slot (.slice lA lr.length lc) bv tv2, true⟩)) xb (imc s slot (.slice lA lr.length lc) bv tv2) := Ow.put _ ox6.1
    have f7 : Fr (· = xb) g6 (g6.put xb (some ⟨imc s slot (.slice lA lr.length lc) bv tv2, true⟩)) := Fr.put _ (.inl rfl)
    show RunC prog _ _ _ (g6.put xb (some ⟨imc s slot (.slice lA lr.length lc) bv tv2, true⟩)) _ _ _
    generalize g6.put xb (some ⟨imc s slot (.slice lA lr.length lc) bv tv2, true⟩) = g7 at *
    have f67 : Fr (fun b => b = xb ∨ At tv b) g5 g7 := (f6.weak (fun b g => .inl (.inr g))).trans f7 (fun b g => .inl (.inl g))
    have rt7 := rt6.frm f7 (fun b g e => by have e : b = xb := e; have := htv2 b g; omega)
    refine RunC.region (RunO.all rfl ?_)
    refine ⟨d2 - 1, by omega, i + 1, TL ++ [(wb, treeM L root, treeN L root)], tv2, by omega, by rw [List.length_append, hTl]; rfl, ?_, hXn, fun t ht => (hTW5 t ht).step f67 htv2, ox7, ?_, ((fg2.quiet f34).quiet f5).trans f67 (fun b g => ?_), Le.cons (inc64 (by omega)) (Le.cons rfl (Le.cons rfl (Le.cons rfl (Le.cons rfl (Le.cons rfl (Le.cons rfl (Le.nil _)))))))⟩
    · rw [hTk, List.map_append, List.map_append, hTm]; rfl
    · have e1 : tps TL ++ tps [(wb, treeM L root, treeN L root)] = tps (TL ++ [(wb, treeM L root, treeN L root)]) := (List.map_append ..).symm
      rw [e1] at rt7
      rw [List.length_append]
      exact Row.lo rt7 (by have := fg2.next; omega)
    · rcases g with g | g
      · exact .inl g
      · exact .inr (htx b g).1
  have hge2 := of_decide_eq_false hge
  obtain rfl : i = lr.length + 1 := by omega
  have hfn : RS.find? (lkX L) = none := List.find?_eq_none.2 (fun p hp => by
    obtain ⟨j, hj, rfl⟩ := List.mem_iff_getElem.1 hp
    rw [hX j hj (by omega)]; simp)
  have hlkM : lkM L = (lkC L, if lkC L = 0 then 0 else 6) := by
    unfold lkM
    rw [← hRS, hfn]
  rw [hlkM] at hlk
  rw [hRt] at hTm
  have hT : TL.map (·.2) = lkT L := by rw [hTm, hRS]; rfl
  have hC : lkC L = clV B lb (TL.map (·.2)) := by rw [hT, hlb, hB]; rfl
  have F9 : Fr no h g2 := F8.trans fg2 (fun b e => .inr (by have e : b = xb := e; omega))
  have rl9 := rl6.frm fg2 (fun b g e => hlx b g e)
  have rb9 := rb6.frm fg2 (fun b g e => hbx b g e)
  -- the clash
  refine RunC.seq (RunC.region (RunO.part 2 rfl ?_))
  refine RunO.callD (openClash_ok ox (rb9.sl (by omega)) (rt.sl (by omega)) (fun t ht => (hTW t ht).ok) (fun x hx => by have := hlbr x hx; omega) (by omega) (by omega) (by omega)) rfl rfl rfl ?_
  rintro _ g3 ⟨f3, ⟨j, hj, rfl, hcl, hno⟩ | ⟨rfl, hno⟩⟩
  · have hj0 : j ≠ 0 := fun e => by
      subst e
      rw [clP_zero (fun x hx => (hlbr x hx).1) (fun t ht => by obtain ⟨_, _, _, _, _, _, _, _, _, h7, _⟩ := hTW t ht; exact fun x hx => (h7 x hx).1)] at hcl
      cases hcl
    rw [clV_some hj hcl hno] at hC
    rw [hC, if_neg (by omega)] at hlk
    rw [hlk]
    refine RunO.all rfl ?_
    refine RunC.seq (RunC.seq (RunC.region (RunO.all rfl ?_)))
    rw [show ((j : Int) != 0) = true from bne_iff_ne.2 (by omega)]
    refine RunC.cond rfl (fun _ => ?_) (fun g => by cases g)
    exact RunC.seq (RunC.region (RunO.all rfl (RunC.ret ⟨_, rfl, F9.same f3, .inr ⟨by show (6 : Int) ≠ 0; decide, rfl⟩⟩)))
  · rw [clV_none hno] at hC
    rw [hC, if_pos rfl] at hlk
    rw [hlk]
    refine RunO.all rfl ?_
    refine RunC.seq (RunC.seq (RunC.region (RunO.all rfl (RunC.cond rfl (fun g => by cases g) (fun _ => RunC.skip ?_)))))
    refine RunC.seq (RunC.region (RunO.all rfl (RunC.ret ⟨_, rfl, F9.same f3, .inl ⟨rfl, xb, rfl, ?_⟩⟩)))
    refine ⟨.slice lA lr.length lc, bv, tv, TL, by omega, ?_, ?_, ?_, (rt.sl (by omega)).fr0 f3, hT, fun t ht => ?_⟩
    · rw [← hs, ← hsl]; exact ox.fr f3 (fun g => g)
    · rw [← hlr]; exact Row.lo (rl9.fr f3 (fun _ _ _ g => g)) (by omega)
    · rw [← hlb]; exact Row.lo (rb9.fr f3 (fun _ _ _ g => g)) (by omega)
    · rw [← hB]; exact (hTW t ht).ok.fr0 f3
end Go.Proofs.Ytnokcbenpnmnbaa
end
section
set_option linter.unusedVariables false
set_option linter.unusedSectionVars false
set_option maxRecDepth 100000
open Go Go.Am Go.RowKit
namespace Go.Proofs.Ytnokcbenpnmnbaa
open Go.Proofs.Try
theorem eresults_cell2 {P : Program} {E : Env} {h : Heap} {a b : Tmp} {t : TypeId} {ad : Addr} {v w : Value} (h1 : E a = some (.pointer (some ad))) (h2 : aload P h t ad = some v) (h3 : E b = some w) :
    eresults P [.cell a t, .tmp b] E h = some (.tuple #[v, w]) := by
  simp only [eresults, eres, h1, h2, h3]
def recsE (L : List Int) (a : Int) : Int := if devOk L.length then (if (folOf L a).2.2.2 = 0 then 0 else 7) else 2
/-- A state's cells. -/
def stc (s : S5) (slot : Int) (rv : Value) : List Value := sc5 s ++ [.int .i64 slot, rv]
/-- Is this the whole record of an id? -/
def fdP (id : Int) (r : R8) : Bool := (r.id == id) && (r.ki == 0)
/-- A new image. -/
def newI (B : Nat) : List Int := superBlock 1 (B : Int) 0 0 0 ++ List.replicate (B * 64 - 64) 0
theorem newI_len {B : Nat} (h : 1 ≤ B) : (newI B).length = B * 64 := by unfold newI; rw [List.length_append, superBlock_len, List.length_replicate]; omega
theorem newI_byt (B : Nat) : Byt (newI B) := fun x hx => by
  rcases List.mem_append.1 hx with g | g
  · exact superBlock_byt _ _ _ _ _ x g
  · rw [List.eq_of_mem_replicate g]; omega
theorem ok_new {B : Nat} (h4 : 4 ≤ B) (hB : B ≤ 4096) : superOk 1 (B : Int) 0 0 0 = true := (superOk_iff _ _ _ _ _).2 ⟨by omega, by omega, by omega, .inl rfl, .inl rfl⟩
theorem openNew_ok {h : Heap} {B : Nat} (h4 : 4 ≤ B) (hB : B ≤ 4096) : RunF prog 38 [.int .i64 (B : Int)] h fun v h' => Fr no h h' ∧ ∃ b, h.next ≤ b ∧ v = .tuple #[.slice (some ⟨b, 0, none⟩) (B * 64) (exc (B * 64)), .int .i64 0] ∧ Ow h' b (us (newI B)) := by
  refine RunF.walk func38 rfl rfl ?_
  refine RunC.seq (RunC.region (RunO.all rfl ?_))
  refine RunC.seq (RunC.seq (RunC.region (RunO.part 3 rfl ?_)))
  rw [show decide ((B : Int) < 4) = false from decide_eq_false (by omega)]
  refine RunO.part 2 rfl ?_
  rw [show decide ((B : Int) > 4096) = false from decide_eq_false (by omega)]
  refine RunO.all rfl (RunC.cond rfl (fun g => by cases g) (fun _ => RunC.skip ?_))
  refine RunC.seq (RunC.region (RunO.part 2 rfl ?_))
  rw [fw64 (x := (B : Int) * 64) (by omega) (by omega), show (B : Int) * 64 = ((B * 64 : Nat) : Int) by omega]
  refine RunO.make (m := B * 64) rfl rfl rfl rfl rfl rfl (by show 1 * (B * 64) ≤ _; omega) (by omega) rfl ?_
  rw [reps_us]
  have oi := Ow.push h (us (List.replicate (B * 64) 0))
  have f1 : Fr no h (h.push ⟨us (List.replicate (B * 64) 0), true⟩) := Fr.push _ _ _
  generalize h.push ⟨us (List.replicate (B * 64) 0), true⟩ = h1 at *
  obtain ⟨qi, hqi⟩ : ∃ q, q = h.next := ⟨_, rfl⟩
  rw [← hqi] at oi ⊢
  refine RunO.all rfl ?_
  refine RunC.seq (RunC.region (RunO.part 2 rfl ?_))
  refine RunO.callD (superBytes_ok (g := 1) (bl := (B : Int)) (rt := 0) (sz := 0) (fi := 0)) rfl rfl rfl ?_
  rintro _ h2 ⟨f2, ⟨_, sb, hsb, rfl, os⟩ | ⟨g, _⟩⟩
  case inr => rw [ok_new h4 hB] at g; cases g
  replace oi := oi.fr f2 (fun g => g)
  refine RunO.all rfl ?_
  refine RunC.seq (RunC.region (RunO.part 2 rfl ?_))
  have hsl := superBlock_len 1 (B : Int) 0 0 0
  have sls := sl_own os hsl (Cp.exc (Nat.le_refl 64)) (by decide)
  rw [hsl] at sls
  refine RunO.copy (k := 64) rfl rfl rfl rfl oi sls (allCells_map (fun _ => rfl) _) (by omega) (by rw [us_len, List.length_replicate]; omega) rfl ?_
  intro h3 oi3 f3 hn3
  have e : (us (superBlock 1 (B : Int) 0 0 0)).take 64 ++ (us (List.replicate (B * 64) 0)).drop 64 = us (newI B) := by
    rw [List.take_of_length_le (by rw [us_len, hsl]; exact Nat.le_refl _)]
    unfold newI us
    rw [List.map_append, ← List.map_drop, List.drop_replicate]
  rw [e] at oi3
  refine RunO.all rfl ?_
  refine RunC.seq (RunC.region (RunO.all rfl (RunC.ret ⟨_, rfl, (f1.same f2).trans f3 (fun b g => .inr (by have g : b = qi := g; omega)), qi, by omega, rfl, oi3⟩)))
end Go.Proofs.Ytnokcbenpnmnbaa
end
section
set_option linter.unusedVariables false
set_option linter.unusedSectionVars false
set_option maxRecDepth 100000
open Go Go.Am Go.RowKit
namespace Go.Proofs.Ytnokcbenpnmnbaa
open Go.Proofs.Try
theorem pick_two (L : List Int) : pickS L = pickStep L (pickStep L ((0, 0, 0, 0, 0), 0, false) 0) 1 := rfl
theorem pick_no {L : List Int} {st : S5 × Int × Bool} {i : Nat} (h : sCode (blkI L i) ≠ 0) : pickStep L st i = st := by
  unfold pickStep
  rw [if_neg]
  rw [beq_eq_false_iff_ne.2 h]; exact Bool.false_ne_true
/-- Slot i has a superblock of this device, the other one none. -/
theorem pick_yes {L : List Int} {st : S5 × Int × Bool} {i : Nat} {g bl rt sz fi : Int} (h : blkI L i = superBlock g bl rt sz fi) (ok : superOk g bl rt sz fi = true) (hbl : bl = ((L.length / 64 : Nat) : Int)) (hst : st.2.2 = false) : pickStep L st i = ((g, bl, rt, sz, fi), (i : Int), true) := by
  obtain ⟨b1, b2⟩ := super_back ok
  unfold pickStep
  rw [h, b1, b2, hst, if_pos]
  show ((0 : Int) == 0 && (bl == _ && (!false || _))) = true
  rw [hbl]; simp
theorem pick_one0 {L : List Int} {g bl rt sz fi : Int} (h : blkI L 0 = superBlock g bl rt sz fi) (ok : superOk g bl rt sz fi = true) (hbl : bl = ((L.length / 64 : Nat) : Int)) (h1 : sCode (blkI L 1) ≠ 0) : pickS L = ((g, bl, rt, sz, fi), 0, true) := by
  rw [pick_two, pick_yes h ok hbl rfl, pick_no h1]; rfl
theorem fol_none (L : List Int) : folOf L 0 = ([], [], 0, 0) := fol_end ..
theorem bey_zero (k : Int) : bey (List.replicate 512 0) k = false := by
  unfold bey
  rw [List.any_eq_false]
  intro x hx
  have := List.eq_of_mem_replicate (List.mem_of_mem_drop hx)
  simp [this]
theorem tree0 (L : List Int) : treeOk L 0 = true ∧ treeM L 0 = List.replicate 512 0 ∧ treeN L 0 = [] := ⟨rfl, rfl, rfl⟩
theorem clV_no {B : Nat} {bl : List Int} {T : List (List Int × List Int)} (h : ∀ j, j < B → clP bl (T.map fun t => (0, t)) j = false) : clV B bl T = 0 := by
  unfold clV
  rw [List.find?_eq_none.2 (fun j hj => by rw [h j (List.mem_range.1 hj)]; simp)]
/-- An image whose head has no tree and that has no records opens. -/
theorem lk_empty {L : List Int} {s : S5} {slot : Int} (hd : devOk L.length = true) (hp : pickS L = (s, slot, true)) (hr : s.2.2.1 = 0) (hf : s.2.2.2.2 = 0) : lk L = (0, 0) ∧ lkF L = ([], [], 0, 0) ∧ lkS L = s := by
  have hS : lkS L = s := by unfold lkS; rw [hp]
  have hF : lkF L = ([], [], 0, 0) := by unfold lkF; rw [hS, hf]; exact fol_none L
  have hR : lkR L = [(0, s.2.2.2.1)] := by unfold lkR; rw [hF, hS, hr]; rfl
  refine ⟨?_, hF, hS⟩
  unfold lk
  rw [hd, hp, hF, if_pos rfl, if_pos rfl, if_pos rfl]
  have hX : lkX L (0, s.2.2.2.1) = false := by
    unfold lkX
    rw [(tree0 L).1, (tree0 L).2.1, bey_zero]; rfl
  unfold lkM
  rw [hR, List.find?_cons_of_neg (by rw [hX]; simp)]
  have hC : lkC L = 0 := by
    unfold lkC
    refine clV_no (fun j hj => ?_)
    unfold lkT
    rw [hR, hF]
    show clP [] [(0, List.replicate 512 0, [])] j = false
    unfold clP isN isS
    simp only [List.any_cons, List.any_nil]
    by_cases h0 : j = 0
    · subst h0; rfl
    · rw [show (List.replicate 512 (0 : Int)).contains (j : Int) = false from Bool.eq_false_iff.2 (fun g => by have := List.eq_of_mem_replicate (List.contains_iff_mem.1 g); omega)]
      simp
  show (lkC L, if lkC L = 0 then (0 : Int) else 6) = _
  rw [hC, if_pos rfl]
theorem newI_blk {B : Nat} (h : 4 ≤ B) : blkI (newI B) 0 = superBlock 1 (B : Int) 0 0 0 ∧ blkI (newI B) 1 = List.replicate 64 0 := by
  have hl := superBlock_len 1 (B : Int) 0 0 0
  unfold blkI newI
  constructor
  · rw [Nat.zero_mul, List.drop_zero, List.take_append_of_le_length (by omega), List.take_of_length_le (by omega)]
  · rw [Nat.one_mul, List.drop_append, List.drop_of_length_le (by omega), List.nil_append, hl, Nat.sub_self, List.drop_zero, List.take_replicate, Nat.min_eq_left (by omega)]
theorem dev_new {B : Nat} (h4 : 4 ≤ B) (hB : B ≤ 4096) : devOk (newI B).length = true := by
  rw [newI_len (by omega)]; exact devOk_mul h4 hB
theorem pick_new {B : Nat} (h4 : 4 ≤ B) (hB : B ≤ 4096) : pickS (newI B) = ((1, (B : Int), 0, 0, 0), 0, true) :=
  pick_one0 (newI_blk h4).1 (ok_new h4 hB) (by rw [newI_len (by omega), Nat.mul_div_cancel _ (by decide)]) (by rw [(newI_blk h4).2, sCode_zeros]; decide)
theorem lk_new {B : Nat} (h4 : 4 ≤ B) (hB : B ≤ 4096) : lk (newI B) = (0, 0) ∧ lkF (newI B) = ([], [], 0, 0) ∧ lkS (newI B) = (1, (B : Int), 0, 0, 0) := lk_empty (dev_new h4 hB) (pick_new h4 hB) rfl rfl
end Go.Proofs.Ytnokcbenpnmnbaa
end
section
set_option linter.unusedVariables false
set_option maxRecDepth 100000
open Go Go.Am Go.RowKit
namespace Go.Proofs.Ytnokcbenpnmnbaa
open Go.Proofs.Try
end Go.Proofs.Ytnokcbenpnmnbaa
end
section
set_option linter.unusedVariables false
set_option linter.unusedSectionVars false
set_option maxRecDepth 100000
open Go Go.Am Go.RowKit
namespace Go.Proofs.Ytnokcbenpnmnbaa
open Go.Proofs.Try
/- A chain that was followed to its end. -/
def nxt (a : Int) (l : List R8) (i : Nat) : Int := if i = 0 then a else (l.getD (i - 1) ⟨0, 0, 0, 0, 0, 0, 0, 0⟩).nx
structure FolI (L : List Int) (B : Nat) (a : Int) (l : List R8) (bs : List Int) (cur : Int) : Prop where
  len : l.length = bs.length
  blk : ∀ i (hi : i < l.length), bs.getD i 0 = nxt a l i ∧ 2 ≤ bs.getD i 0 ∧ bs.getD i 0 < (B : Int) ∧ rCode (blkI L (bs.getD i 0).toNat) = 0 ∧ l[i] = rPar (blkI L (bs.getD i 0).toNat)
  apart : ∀ i (hi : i < l.length) j (hj : j < l.length), j < i → l[j].id ≠ l[i].id ∧ l[i].ki ≠ 1
  cur : cur = nxt a l l.length
end Go.Proofs.Ytnokcbenpnmnbaa
end
section
set_option linter.unusedVariables false
set_option linter.unusedSectionVars false
set_option maxRecDepth 100000
open Go Go.Am Go.RowKit
namespace Go.Proofs.Ytnokcbenpnmnbaa
open Go.Proofs.Try
end Go.Proofs.Ytnokcbenpnmnbaa
end
section
set_option linter.unusedVariables false
open Go Go.Am Go.RowKit
namespace Go.Am
section
variable {P : Program} {n : Nat} {ops rest : List Oper} {m : Nat → Prop} {E E1 : Env} {h h1 : Heap} {Q : Env → Heap → Prop}
theorem RunT.new {o : Oper} {v : Value} {ob : AObj} (g : ewanted ops E o = some true) (e : eop P E o (h.lo h.next) = some (v, (h.lo h.next).push ob)) (hf : ∀ q, fpE E o q = some .none) (p : eput n E o.dst v = some E1)
    (r : RunT P n ops rest m E1 (h.push ob) Q) : RunT P n ops (o :: rest) m E h Q := by
  refine RunT.oneG (f := .none) g e hf (Fr.push _ _ _) p ?_
  exact RunT.lo (x := ((h.lo h.next).push ob).low) (h := h.push ob) r
theorem RunT.store {t ty : TypeId} {x y : Operand} {pos : String} {after : Array Edge} {gd : Option (Nat × Bool)} {a : Addr} {v : Value} {h2 : Heap}
    (hw : ewanted ops E ⟨none, .store t x y, ty, pos, after, gd⟩ = some true) (hx : gE E x = some (.pointer (some a))) (hy : gE E y = some v) (hs : astore P (h.lo h.next) t a v = some h2) (hfr : Fr m (h.lo h.next) h2)
    (r : RunT P n ops rest m E h2 Q) : RunT P n ops (⟨none, .store t x y, ty, pos, after, gd⟩ :: rest) m E h Q := by
  refine RunT.oneG (v := undef) (f := .wr [a.block]) (h1 := h2) (E1 := E) hw ?_ ?_ hfr rfl r
  · simp only [eop, hx, hy, hs]
  · intro q; simp only [fpE, hx]
end
end Go.Am
end
section
set_option linter.unusedVariables false
set_option linter.unusedSectionVars false
set_option maxRecDepth 100000
open Go Go.Am Go.RowKit
namespace Go.Proofs.Ytnokcbenpnmnbaa
open Go.Proofs.Try

/- Rows of bytes whose blocks all are such. -/
def RwN (N : Nat → Prop) (h : Heap) (v : Value) (rows : List (List Int)) : Prop :=
  ∃ cs, Sl h v 1 rows.length cs ∧ (∀ b o c, v = .slice (some ⟨b, o, none⟩) rows.length c → N b ∧ o = 0) ∧ ∀ (j : Nat) (x : List Int), rows[j]? = some x → ∃ w, cs[j]? = some w ∧ Sl h w 1 x.length (us x) ∧ OwR h w x ∧ ∀ b o c, w = .slice (some ⟨b, o, none⟩) x.length c → N b ∧ ¬ At v b
theorem RwN.frm {N M : Nat → Prop} {h h' : Heap} {v : Value} {rows : List (List Int)} (r : RwN N h v rows) (f : Fr M h h') (hn : ∀ b, N b → ¬ M b) : RwN N h' v rows := by
  obtain ⟨cs, h1, h2, h3⟩ := r
  refine ⟨cs, h1.frm (fun b o c e => hn b (h2 b o c e).1) f, h2, fun j x hx => ?_⟩
  obtain ⟨w, e, sw, so, hw⟩ := h3 j x hx
  exact ⟨w, e, sw.frm (fun b o c e => hn b (hw b o c e).1) f, so.frm (fun b o c e => hn b (hw b o c e).1) f, hw⟩
theorem RwN.fr0 {N : Nat → Prop} {h h' : Heap} {v : Value} {rows : List (List Int)} (r : RwN N h v rows) (f : Fr no h h') : RwN N h' v rows := r.frm f (fun _ _ g => g)
theorem RwN.weak {N M : Nat → Prop} {h : Heap} {v : Value} {rows : List (List Int)} (r : RwN N h v rows) (hn : ∀ b, b < h.next → N b → M b) : RwN M h v rows := by
  obtain ⟨cs, h1, h2, h3⟩ := r
  refine ⟨cs, h1, fun b o c e => ⟨hn b (h1.lt b o c e) (h2 b o c e).1, (h2 b o c e).2⟩, fun j x hx => ?_⟩
  obtain ⟨w, e, sw, so, hw⟩ := h3 j x hx
  exact ⟨w, e, sw, so, fun b o c e => ⟨hn b (sw.lt b o c e) (hw b o c e).1, (hw b o c e).2⟩⟩
theorem RwN.rws {N : Nat → Prop} {h : Heap} {v : Value} {rows : List (List Int)} (r : RwN N h v rows) : Rws h v rows := by
  obtain ⟨cs, h1, _, h3⟩ := r
  refine ⟨cs, h1, fun j x hx => ?_⟩
  obtain ⟨w, e, sw, hw⟩ := h3 j x hx
  exact ⟨w, e, sw⟩
theorem RwG.rwN {lo : Nat} {h : Heap} {v : Value} {rows : List (List Int)} (r : RwG lo h v rows) (hm : rows.length ≤ 9223372036854775807) : RwN (fun b => lo ≤ b) h v rows := by
  obtain ⟨cs, h1, h2⟩ := r
  refine ⟨cs, h1.sl hm, fun b o c e => ?_, fun j x hx => ?_⟩
  · rcases h1.2 with ⟨e', _⟩ | ⟨b', g1, e', _⟩
    · rw [e'] at e; injection e with e1; cases e1
    · rw [e'] at e; injection e with e1; injection e1 with e1; injection e1 with e1 e2; exact ⟨by omega, e2.symm⟩
  · obtain ⟨w, e, sw, so, hw⟩ := h2 j x hx
    exact ⟨w, e, sw, so, hw⟩
/- Snapshots in memory. -/
abbrev Sn := Int × Int × List (List Int) × Int × Int
def snC (x : Sn) (w : Value) : List Value := [.int .i64 x.1, .int .i64 x.2.1, w, .int .i64 x.2.2.2.1, .int .i64 x.2.2.2.2]
def Sns (h : Heap) (v : Value) (l : List Sn) : Prop :=
  ∃ cs, Sl h v 5 l.length cs ∧ ∀ (j : Nat) (x : Sn), l[j]? = some x → ∃ w, (cs.drop (j * 5)).take 5 = snC x w ∧ Rws h w x.2.2.1
theorem Sns.fr0 {h h' : Heap} {v : Value} {l : List Sn} (r : Sns h v l) (f : Fr no h h') : Sns h' v l := by
  obtain ⟨cs, h1, h2⟩ := r
  refine ⟨cs, h1.fr0 f, fun j x hx => ?_⟩
  obtain ⟨w, e, sw⟩ := h2 j x hx
  exact ⟨w, e, sw.fr0 f⟩
def LS (N : Nat → Prop) (lo : Nat) (h : Heap) (v : Value) (l : List Sn) : Prop :=
  ∃ cs, Row lo h v 5 l.length cs ∧ ∀ (j : Nat) (x : Sn), l[j]? = some x → ∃ w, (cs.drop (j * 5)).take 5 = snC x w ∧ RwN N h w x.2.2.1
theorem LS.nil (N : Nat → Prop) (lo : Nat) (h : Heap) : LS N lo h (.slice none 0 0) [] := ⟨[], Row.nil lo h 5, fun j x hx => by cases hx⟩
theorem LS.at {N : Nat → Prop} {lo : Nat} {h : Heap} {v : Value} {l : List Sn} (r : LS N lo h v l) {b : Nat} (g : At v b) : lo ≤ b ∧ b < h.next := by
  obtain ⟨cs, h1, _⟩ := r
  exact h1.at g
theorem LS.frm {N M : Nat → Prop} {lo : Nat} {h h' : Heap} {v : Value} {l : List Sn} (r : LS N lo h v l) (f : Fr M h h') (hn : ∀ b, N b → ¬ M b) (hv : ∀ b, At v b → ¬ M b) : LS N lo h' v l := by
  obtain ⟨cs, h1, h2⟩ := r
  refine ⟨cs, h1.frm f hv, fun j x hx => ?_⟩
  obtain ⟨w, e, sw⟩ := h2 j x hx
  exact ⟨w, e, sw.frm f hn⟩
theorem LS.fr0 {N : Nat → Prop} {lo : Nat} {h h' : Heap} {v : Value} {l : List Sn} (r : LS N lo h v l) (f : Fr no h h') : LS N lo h' v l := r.frm f (fun _ _ g => g) (fun _ _ g => g)
theorem LS.weak {N M : Nat → Prop} {lo : Nat} {h : Heap} {v : Value} {l : List Sn} (r : LS N lo h v l) (hn : ∀ b, b < h.next → N b → M b) : LS M lo h v l := by
  obtain ⟨cs, h1, h2⟩ := r
  refine ⟨cs, h1, fun j x hx => ?_⟩
  obtain ⟨w, e, sw⟩ := h2 j x hx
  exact ⟨w, e, sw.weak hn⟩
theorem LS.sns {N : Nat → Prop} {lo : Nat} {h : Heap} {v : Value} {l : List Sn} (r : LS N lo h v l) (hm : l.length ≤ 9223372036854775807) : Sns h v l := by
  obtain ⟨cs, h1, h2⟩ := r
  refine ⟨cs, h1.sl hm, fun j x hx => ?_⟩
  obtain ⟨w, e, sw⟩ := h2 j x hx
  exact ⟨w, e, sw.rws⟩
theorem LS.snoc {N : Nat → Prop} {lo : Nat} {h h' : Heap} {v v' w : Value} {l : List Sn} {x : Sn} {cs : List Value} (row : Row lo h v 5 l.length cs)
    (k : ∀ (j : Nat) (x : Sn), l[j]? = some x → ∃ w, (cs.drop (j * 5)).take 5 = snC x w ∧ RwN N h w x.2.2.1) (sw : RwN N h w x.2.2.1)
    (row' : Row h.next h' v' 5 (l.length + 1) (cs ++ snC x w)) (f : Fr (At v) h h') (hn : ∀ b, N b → ¬ At v b) (hlo : lo ≤ h.next) : LS N lo h' v' (l ++ [x]) := by
  have hl : cs.length = l.length * 5 := row.1
  refine ⟨_, by rw [List.length_append]; exact Row.lo row' hlo, fun j y hy => ?_⟩
  by_cases hj : j < l.length
  · rw [List.getElem?_append_left hj] at hy
    obtain ⟨u, e, su⟩ := k j y hy
    refine ⟨u, ?_, su.frm f hn⟩
    rw [List.drop_append_of_le_length (by omega), List.take_append_of_le_length (by rw [List.length_drop]; omega)]
    exact e
  · have hj2 : j = l.length := by
      have := (List.getElem?_eq_some_iff.1 hy).1
      rw [List.length_append, List.length_singleton] at this
      omega
    subst hj2
    rw [List.getElem?_append_right (Nat.le_refl _), Nat.sub_self] at hy
    have hy : some x = some y := hy
    cases hy
    refine ⟨w, ?_, sw.frm f hn⟩
    rw [← hl, List.drop_append_of_le_length (Nat.le_refl _), List.drop_length, List.nil_append]; rfl
/-- What an image holds. -/
def snP (L : List Int) (r : R8) : Sn := (r.id, r.pa, secsL L (treeM L r.ro) r.sz.toNat, r.fr, r.di)
def vwH (L : List Int) : List (List Int) := secsL L (treeM L (lkS L).2.2.1) (lkS L).2.2.2.1.toNat
def vwS (L : List Int) (rs : List R8) : List Sn := (rs.filter fun r => !(r.ki == 1)).map (snP L)
def vwO (L : List Int) (rs : List R8) : List Sn := (rs.filter fun r => r.ki == 1).map (snP L)
theorem pick_ok2 {L : List Int} (h : (pickS L).2.2 = true) : superOk (pickS L).1.1 (pickS L).1.2.1 (pickS L).1.2.2.1 (pickS L).1.2.2.2.1 (pickS L).1.2.2.2.2 = true := by
  obtain ⟨i, _, e, _, hc, _⟩ := pick_is h
  rw [e]
  unfold sVal
  rw [if_pos hc]
  unfold sCode at hc
  split at hc
  · split at hc
    · assumption
    · cases hc
  · rename_i g; exact absurd hc g
theorem lk_trees2 {L : List Int} (h : (lk L).2 = 0) : devOk L.length = true ∧ (pickS L).2.2 = true := by
  unfold lk at h
  split at h
  · rename_i h1
    split at h
    · rename_i h2; exact ⟨h1, h2⟩
    · cases h
  · cases h
set_option maxHeartbeats 32000000 in
theorem viewOfN_ok {h : Heap} {iv : Value} {L : List Int} (sl : Sl h iv 1 L.length (us L)) (hb : Byt L) (hm : L.length ≤ 4611686018427387904) :
    RunF prog 26 [iv] h fun v h' => Fr no h h' ∧ (((lk L).2 = 0 ∧ ∃ hv sv ov, v = .tuple #[.agg ⟨[hv, sv, ov]⟩, .int .i64 0] ∧ RwN (fun b => h.next ≤ b) h' hv (vwH L) ∧ Sns h' sv (vwS L (lkF L).1) ∧ Sns h' ov (vwO L (lkF L).1)) ∨ ((lk L).2 ≠ 0 ∧ v = .tuple #[.agg ⟨[.slice none 0 0, .slice none 0 0, .slice none 0 0]⟩, .int .i64 (lk L).2])) := by
  refine RunF.walk func26 rfl rfl ?_
  have sl0 := sl
  obtain ⟨A, c, rfl, _, _⟩ := sl.form
  refine RunC.seq (RunC.region (RunO.all (h1 := h.push ⟨[.slice none 0 0, .slice none 0 0, .slice none 0 0], true⟩) rfl ?_))
  have oq := Ow.push h [.slice none 0 0, .slice none 0 0, .slice none 0 0]
  have f1 : Fr no h (h.push ⟨[.slice none 0 0, .slice none 0 0, .slice none 0 0], true⟩) := Fr.push _ _ _
  generalize h.push ⟨[.slice none 0 0, .slice none 0 0, .slice none 0 0], true⟩ = h1 at *
  obtain ⟨qb, hqb⟩ : ∃ q, q = h.next := ⟨_, rfl⟩
  rw [← hqb] at oq ⊢
  have hnx := oq.1
  refine RunC.seq (RunC.region (RunO.part 1 rfl ?_))
  refine RunO.callD (openLook_ok (sl0.fr0 f1) hb hm) rfl rfl rfl ?_
  rintro _ h2 ⟨f2, ⟨h0, xb, rfl, rv, bv, tv, TL, hxb, ox, rl, rb, stv, hTL, htr⟩ | ⟨h0, rfl⟩⟩
  case inr =>
    replace oq := oq.fr f2 (fun g => g)
    refine RunO.all rfl ?_
    refine RunC.seq (RunC.seq (RunC.region (RunO.all rfl ?_)))
    rw [show ((lk L).2 != 0) = true from bne_iff_ne.2 h0]
    refine RunC.cond rfl (fun _ => ?_) (fun g => by cases g)
    refine RunC.seq (RunC.region (RunO.part 2 rfl ?_))
    refine RunO.store rfl rfl (store_ow (s := 3) oq rfl rfl rfl (Nat.le_of_ble_eq_true rfl)) ?_
    have oq2 : Ow (h2.put qb (some ⟨[.slice none 0 0, .slice none 0 0, .slice none 0 0], true⟩)) qb [.slice none 0 0, .slice none 0 0, .slice none 0 0] := Ow.put _ oq.1
    have f3 : Fr (· = qb) h2 (h2.put qb (some ⟨[.slice none 0 0, .slice none 0 0, .slice none 0 0], true⟩)) := Fr.put _ (.inl rfl)
    show RunO prog _ _ _ _ (h2.put qb (some ⟨[.slice none 0 0, .slice none 0 0, .slice none 0 0], true⟩)) _
    generalize h2.put qb (some ⟨[.slice none 0 0, .slice none 0 0, .slice none 0 0], true⟩) = h3 at *
    exact RunO.all rfl (RunC.ret ⟨_, eresults_cell2 rfl (oq2.ld rfl) rfl, (f1.same f2).trans f3 (fun b e => .inr (by have e : b = qb := e; omega)), .inr ⟨h0, rfl⟩⟩)
  obtain ⟨hdv, hpk⟩ := lk_trees2 h0
  have hdl : L.length % 64 = 0 ∧ 4 ≤ L.length / 64 ∧ L.length / 64 ≤ 4096 := by
    unfold devOk at hdv
    simpa using hdv
  obtain ⟨hrok, _, hrl, hrb⟩ := fol_ok (L := L) (B := L.length / 64) (L.length / 64) (lkS L).2.2.2.2 [] [] 0 (fun r h => absurd h List.not_mem_nil) (fun x h => absurd h List.not_mem_nil) rfl
  have hrok : ∀ r ∈ (lkF L).1, r8Ok r = true := hrok
  have hrsl : (lkF L).1.length ≤ 4096 := by
    have e : (lkF L).1.length = (lkF L).2.1.length := hrl
    have e2 : (lkF L).2.1.length ≤ ([] : List Int).length + L.length / 64 := hrb
    rw [List.length_nil] at e2
    omega
  have hsz := ((superOk_iff _ _ _ _ _).1 (pick_ok2 hpk)).2.2.1
  have hsz : 0 ≤ (lkS L).2.2.2.1 ∧ (lkS L).2.2.2.1 ≤ 512 := hsz
  have hT : ∀ i (hi : i < TL.length), TL[i].2 = ((treeM L ((lkR L).getD i (0, 0)).1), treeN L ((lkR L).getD i (0, 0)).1) := fun i hi => by
    have e1 : (TL.map (·.2))[i]? = some TL[i].2 := by rw [List.getElem?_map, List.getElem?_eq_getElem hi]; rfl
    rw [hTL] at e1
    unfold lkT at e1
    rw [List.getElem?_map] at e1
    cases e2 : (lkR L)[i]? with
    | none => rw [e2] at e1; cases e1
    | some p =>
      rw [e2] at e1
      rw [List.getD_eq_getElem?_getD, e2]
      have e1 : some (treeM L p.1, treeN L p.1) = some TL[i].2 := e1
      injection e1 with e1
      exact e1.symm
  have hTl : TL.length = (lkF L).1.length + 1 := by
    have := congrArg List.length hTL
    rw [List.length_map] at this
    rw [this]
    unfold lkT lkR
    rw [List.length_map, List.length_cons, List.length_map]
  have hrng : ∀ t ∈ TL, ∀ x ∈ t.2.1, x = 0 ∨ (0 ≤ x ∧ (x.toNat + 1) * 64 ≤ L.length) := fun t ht x hx => by
    obtain ⟨_, _, _, _, _, _, _, _, hr, _⟩ := htr t ht
    have := hr x hx
    exact .inr ⟨this.1, by omega⟩
  generalize hrsE : (lkF L).1 = rs at *
  have slr := rl.sl (by omega)
  have slr0 := slr
  obtain ⟨rA, rc, rfl, _, _⟩ := slr.form
  have oq := oq.fr f2 (fun g => g)
  have hxn := ox.1
  have hn1 := f1.next
  have hn2 := f2.next
  have slI := (sl0.fr0 f1).fr0 f2
  refine RunO.all rfl ?_
  refine RunC.seq (RunC.seq (RunC.region (RunO.all rfl (RunC.cond rfl (fun g => by cases g) (fun _ => RunC.skip ?_)))))
  -- the head
  refine RunC.seq (RunC.draw0 rfl (RunO.part 4 rfl ?_))
  refine RunO.load (v := tv) rfl (ox.ld rfl) rfl ?_
  refine RunO.at (s := 1) (k := 0) rfl rfl stv rfl rfl (show 0 < TL.length by omega) (tps_part (by omega)) rfl rfl rfl ?_
  have ht0 := htr TL[0] (List.getElem_mem (by omega))
  have hr0 := hrng TL[0] (List.getElem_mem (by omega))
  have he0 := hT 0 (by omega)
  have he0 : TL[0].2.1 = treeM L (lkS L).2.2.1 := by rw [he0]; rfl
  obtain ⟨iv0, mv0, nv0, ow0, sm0, _, hl0, _⟩ := ht0
  rw [he0] at sm0 hl0 hr0
  generalize TL[0].1 = w0 at *
  refine RunO.part 2 rfl ?_
  refine RunO.load (v := mv0) rfl (ow0.ld rfl) rfl ?_
  refine RunO.part 5 rfl ?_
  refine RunO.load (v := .int .i64 (lkS L).2.2.2.1) rfl (ox.ld rfl) rfl ?_
  have eH : vwH L = secsL L (treeM L (lkS L).2.2.1) (lkS L).2.2.2.1.toNat := rfl
  have hsn : (((lkS L).2.2.2.1.toNat : Nat) : Int) = (lkS L).2.2.2.1 := by omega
  have hsec := sectors_ok (n := (lkS L).2.2.2.1.toNat) slI sm0 hr0 (by omega) (by omega) hm
  rw [hsn, ← eH] at hsec
  refine RunO.callD hsec rfl rfl rfl ?_
  rintro hv h3 ⟨f3, rh⟩
  have hvl : (vwH L).length ≤ 512 := by rw [eH, secsL_len _ _ (by omega)]; omega
  have hN0 := rh.rwN (by omega)
  generalize vwH L = HR at *
  obtain ⟨hA_, hc_, rfl⟩ : ∃ a b, hv = .slice a HR.length b := by
    obtain ⟨cs, row, _⟩ := rh
    obtain ⟨a, b, e, _⟩ := (row.sl (by omega)).form
    exact ⟨a, b, e⟩
  obtain ⟨hv, hhv⟩ : ∃ q, q = Value.slice hA_ HR.length hc_ := ⟨_, rfl⟩
  have hvc : isCell hv = true := by rw [hhv]; rfl
  refine RunO.part 2 (h1 := h3.push ⟨[.slice none 0 0, .slice none 0 0, .slice none 0 0], true⟩) rfl ?_
  rw [← hhv] at hN0 ⊢
  refine RunO.store rfl rfl (store_ow (s := 3) (Ow.push h3 [.slice none 0 0, .slice none 0 0, .slice none 0 0]) rfl rfl (by show cond (isCell hv) true false = true; rw [hvc]; rfl) (Nat.le_refl 3)) (RunO.nil ?_)
  have e3 : ([.slice none 0 0, .slice none 0 0, .slice none 0 0] : List Value).take 0 ++ cellsOf (.agg ⟨[hv, .slice none 0 0, .slice none 0 0]⟩) ++ ([.slice none 0 0, .slice none 0 0, .slice none 0 0] : List Value).drop (0 + 3) = [hv, .slice none 0 0, .slice none 0 0] := rfl
  rw [e3]
  have ot : Ow ((h3.push ⟨[.slice none 0 0, .slice none 0 0, .slice none 0 0], true⟩).put h3.next (some ⟨[hv, .slice none 0 0, .slice none 0 0], true⟩)) h3.next [hv, .slice none 0 0, .slice none 0 0] := Ow.put _ (Nat.lt_succ_self _)
  have f4 : Fr no h3 ((h3.push ⟨[.slice none 0 0, .slice none 0 0, .slice none 0 0], true⟩).put h3.next (some ⟨[hv, .slice none 0 0, .slice none 0 0], true⟩)) := (Fr.push _ _ _).trans (Fr.put (m := (· = h3.next)) _ (.inl rfl)) (fun j hj => .inr (by omega))
  obtain ⟨tb, htb⟩ : ∃ q, q = h3.next := ⟨_, rfl⟩
  rw [← htb] at ot f4 ⊢
  have hN0 := (hN0.weak (M := fun b => qb < b ∧ b < tb) (fun b g g2 => by have g2 : h2.next ≤ b := g2; exact ⟨by omega, by omega⟩)).fr0 f4
  have hh4 : ((h3.push ⟨[.slice none 0 0, .slice none 0 0, .slice none 0 0], true⟩).put tb (some ⟨[hv, .slice none 0 0, .slice none 0 0], true⟩)).next = tb + 1 := by rw [htb]; rfl
  generalize (h3.push ⟨[.slice none 0 0, .slice none 0 0, .slice none 0 0], true⟩).put tb (some ⟨[hv, .slice none 0 0, .slice none 0 0], true⟩) = h4 at *
  have ftb := f3.next
  have hbt := ot.1
  replace ox := ox.fr f3 (fun g => g)
  replace oq := oq.fr f3 (fun g => g)
  replace slr0 := slr0.fr0 f3
  replace slI := slI.fr0 f3
  replace stv := stv.fr0 f3
  replace htr : ∀ t ∈ TL, TrOk (L.length / 64) h3 t := fun t ht => (htr t ht).fr0 f3
  have F3 := (f1.same f2).same f3
  have hqb3 := oq.1
  refine RunC.seq (RunC.seq (RunC.region (RunO.part 4 rfl ?_)))
  refine RunO.load (v := .slice rA rs.length rc) rfl ((ox.fr f4 (fun g => g)).ld rfl) rfl (RunO.all rfl ?_)
  refine RunC.block ?_
  refine RunC.loop (fun d E h' => ∃ (i : Nat) (sv ov : Value), i + d = rs.length ∧ Fr (· = tb) h4 h' ∧ Ow h' tb [hv, sv, ov] ∧ RwN (fun b => qb < b ∧ b < tb) h' hv HR
    ∧ LS (fun b => (qb < b ∧ b ≠ tb) ∧ ¬ At sv b ∧ ¬ At ov b) (tb + 1) h' sv (vwS L (rs.take i)) ∧ LS (fun b => (qb < b ∧ b ≠ tb) ∧ ¬ At sv b ∧ ¬ At ov b) (tb + 1) h' ov (vwO L (rs.take i)) ∧ (∀ b, At sv b → ¬ At ov b) ∧ Le ((upd (upd (upd (upd (upd (upd (upd E0 0 (.slice A L.length c)) 2 (.pointer (some ⟨qb, 0, none⟩))) 4 (.pointer (some ⟨xb, 0, none⟩))) 7 (.pointer (some ⟨tb, 0, none⟩))) 43 (.slice rA rs.length rc)) 44 (.int .i64 (rs.length : Int))) 45 (.int .i64 (i : Int)))) E) ?st (k := rs.length) ?ini
  case ini => exact ⟨0, .slice none 0 0, .slice none 0 0, by omega, Fr.refl _ _, ot, hN0, LS.nil _ _ _, LS.nil _ _ _, (fun b ⟨_, _, e⟩ => by cases e), Le.cons rfl (Le.cons rfl (Le.cons rfl (Le.cons rfl (Le.cons rfl (Le.cons rfl (Le.cons rfl (Le.nil _)))))))⟩
  clear ot
  rintro d E g1 ⟨i, sv, ov, hi, fg, ot, hN, ls, lo, hso, hE⟩
  refine RunC.le hE ?_
  clear hE
  have hg1n := fg.next
  have F3g : Fr no h3 g1 := f4.trans fg (fun b e => .inr (by have e : b = tb := e; omega))
  refine RunC.seq (RunC.region (RunO.all rfl ?_))
  refine RunC.seq (RunC.cond rfl (fun hlt => RunC.skip ?go) (fun hge => RunC.exit ?ex))
  case ex =>
    have hge := of_decide_eq_false hge
    obtain rfl : i = rs.length := by omega
    rw [List.take_length] at ls lo
    have hls : (vwS L rs).length ≤ 4096 := by unfold vwS; rw [List.length_map]; exact Nat.le_trans (List.length_filter_le _ _) hrsl
    have hlo : (vwO L rs).length ≤ 4096 := by unfold vwO; rw [List.length_map]; exact Nat.le_trans (List.length_filter_le _ _) hrsl
    have hcc : ∀ (v : Value) (l : List Sn), LS (fun b => (qb < b ∧ b ≠ tb) ∧ ¬ At sv b ∧ ¬ At ov b) (tb + 1) g1 v l → isCell v = true := fun v l r => by
      obtain ⟨cs, row, _⟩ := r
      rcases row.2 with ⟨e, _⟩ | ⟨b, _, e, _⟩ <;> (rw [e]; rfl)
    have hc1 := hcc _ _ ls
    have hc2 := hcc _ _ lo
    replace oq := oq.fr F3g (fun g => g)
    refine RunC.seq (RunC.region ?_)
    refine RunO.load (v := .agg ⟨[hv, sv, ov]⟩) rfl (ot.ld rfl) rfl ?_
    refine RunO.store rfl rfl (store_ow (s := 3) oq rfl rfl (by show cond (isCell hv) (cond (isCell sv) (cond (isCell ov) true false) false) false = true; rw [hvc, hc1, hc2]; rfl) (Nat.le_refl 3)) ?_
    have e3 : ([.slice none 0 0, .slice none 0 0, .slice none 0 0] : List Value).take 0 ++ cellsOf (.agg ⟨[hv, sv, ov]⟩) ++ ([.slice none 0 0, .slice none 0 0, .slice none 0 0] : List Value).drop (0 + 3) = [hv, sv, ov] := rfl
    rw [e3]
    have oq2 : Ow (g1.put qb (some ⟨[hv, sv, ov], true⟩)) qb [hv, sv, ov] := Ow.put _ oq.1
    have f5 : Fr (· = qb) g1 (g1.put qb (some ⟨[hv, sv, ov], true⟩)) := Fr.put _ (.inl rfl)
    have hN2 := (hN.frm f5 (fun b g e => by have e : b = qb := e; omega)).weak (M := fun b => qb ≤ b) (fun b _ g => by show qb ≤ b; have := g.1; omega)
    have hS2 := (ls.frm f5 (fun b g e => by have e : b = qb := e; omega) (fun b g e => by have e : b = qb := e; have := (ls.at g).1; omega)).sns (by omega)
    have hO2 := (lo.frm f5 (fun b g e => by have e : b = qb := e; omega) (fun b g e => by have e : b = qb := e; have := (lo.at g).1; omega)).sns (by omega)
    generalize g1.put qb (some ⟨[hv, sv, ov], true⟩) = g2 at *
    exact RunO.all rfl (RunC.ret ⟨_, eresults_cell2 rfl (oq2.ld rfl) rfl, (F3.same F3g).trans f5 (fun b e => .inr (by have e : b = qb := e; omega)), .inl ⟨h0, hv, sv, ov, rfl, hN2, hS2, hO2⟩⟩)
  have hlt := of_decide_eq_true hlt
  have hlt : i < rs.length := by omega
  have hri := hrok rs[i] (List.getElem_mem hlt)
  have hsz2 := r8_sz hri
  have htk : rs.take (i + 1) = rs.take i ++ [rs[i]] := List.take_succ_eq_append_getElem hlt
  have hS1 : vwS L (rs.take (i + 1)) = if (rs[i].ki == 1) = true then vwS L (rs.take i) else vwS L (rs.take i) ++ [snP L rs[i]] := by
    rw [htk]
    unfold vwS
    rw [List.filter_append, List.map_append]
    cases e : (rs[i].ki == 1) with
    | true => rw [if_pos rfl, show [rs[i]].filter (fun r => !(r.ki == 1)) = [] by rw [List.filter_cons, e]; rfl]; exact List.append_nil _
    | false => rw [if_neg (by decide), show [rs[i]].filter (fun r => !(r.ki == 1)) = [rs[i]] by rw [List.filter_cons, e]; rfl]; rfl
  have hO1 : vwO L (rs.take (i + 1)) = if (rs[i].ki == 1) = true then vwO L (rs.take i) ++ [snP L rs[i]] else vwO L (rs.take i) := by
    rw [htk]
    unfold vwO
    rw [List.filter_append, List.map_append]
    cases e : (rs[i].ki == 1) with
    | true => rw [if_pos rfl, show [rs[i]].filter (fun r => r.ki == 1) = [rs[i]] by rw [List.filter_cons, e]; rfl]; rfl
    | false => rw [if_neg (by decide), show [rs[i]].filter (fun r => r.ki == 1) = [] by rw [List.filter_cons, e]; rfl]; exact List.append_nil _
  have hlS : (vwS L (rs.take i)).length ≤ 4096 := by unfold vwS; rw [List.length_map]; exact Nat.le_trans (List.length_filter_le _ _) (by rw [List.length_take]; omega)
  have hlO : (vwO L (rs.take i)).length ≤ 4096 := by unfold vwO; rw [List.length_map]; exact Nat.le_trans (List.length_filter_le _ _) (by rw [List.length_take]; omega)
  generalize vwS L (rs.take i) = S at *
  generalize vwO L (rs.take i) = O at *
  have hi1 : i + 1 < TL.length := by omega
  have htq := htr TL[i + 1] (List.getElem_mem hi1)
  have hrq := hrng TL[i + 1] (List.getElem_mem hi1)
  have heq := hT (i + 1) hi1
  have hro : ((lkR L).getD (i + 1) (0, 0)).1 = rs[i].ro := by
    have : (lkR L).getD (i + 1) (0, 0) = ((lkF L).1.map fun r => (r.ro, r.sz)).getD i (0, 0) := rfl
    rw [this, hrsE, List.getD_eq_getElem?_getD, List.getElem?_map, List.getElem?_eq_getElem hlt]; rfl
  have heq : TL[i + 1].2.1 = treeM L rs[i].ro := by rw [heq, hro]
  have hpt := recCs_part hlt
  have htp := tps_part hi1
  obtain ⟨ivq, mvq, nvq, owq, smq, _, hlq, _⟩ := htq
  rw [heq] at smq hlq hrq
  have hsnP : snP L rs[i] = (rs[i].id, rs[i].pa, secsL L (treeM L rs[i].ro) rs[i].sz.toNat, rs[i].fr, rs[i].di) := rfl
  rw [hsnP] at hS1 hO1
  generalize rs[i] = r at *
  generalize TL[i + 1].1 = wq at *
  refine RunC.seq (RunC.block ?_)
  refine RunC.seq (RunC.region (RunO.part 1 rfl ?_))
  refine RunO.at (s := 8) (k := i) rfl rfl (slr0.fr0 F3g) rfl rfl hlt hpt rfl rfl rfl ?_
  refine RunO.part 2 (h1 := g1.push ⟨rc8 ⟨0, 0, 0, 0, 0, 0, 0, 0⟩, true⟩) rfl ?_
  refine RunO.store rfl rfl (store_ow (s := 8) (Ow.push g1 (rc8 ⟨0, 0, 0, 0, 0, 0, 0, 0⟩)) rfl rfl rfl (Nat.le_refl 8)) (RunO.nil ?_)
  have e8 : (rc8 ⟨0, 0, 0, 0, 0, 0, 0, 0⟩).take 0 ++ cellsOf (.agg ⟨rc8 r⟩) ++ (rc8 ⟨0, 0, 0, 0, 0, 0, 0, 0⟩).drop (0 + 8) = rc8 r := rfl
  rw [e8]
  have on : Ow ((g1.push ⟨rc8 ⟨0, 0, 0, 0, 0, 0, 0, 0⟩, true⟩).put g1.next (some ⟨rc8 r, true⟩)) g1.next (rc8 r) := Ow.put _ (Nat.lt_succ_self _)
  have f6 : Fr no g1 ((g1.push ⟨rc8 ⟨0, 0, 0, 0, 0, 0, 0, 0⟩, true⟩).put g1.next (some ⟨rc8 r, true⟩)) := (Fr.push _ _ _).trans (Fr.put (m := (· = g1.next)) _ (.inl rfl)) (fun j hj => .inr (by omega))
  have hotn := ot.1
  generalize (g1.push ⟨rc8 ⟨0, 0, 0, 0, 0, 0, 0, 0⟩, true⟩).put g1.next (some ⟨rc8 r, true⟩) = g2 at *
  obtain ⟨pb, hpb⟩ : ∃ q, q = g1.next := ⟨_, rfl⟩
  rw [← hpb] at on ⊢
  have hg2n := f6.next
  have F2g := F3g.same f6
  refine RunC.seq (RunC.drawT 24 (fun b => g2.next ≤ b) rfl ?_)
  refine RunQ.part 1 rfl ?_
  refine RunQ.load (v := .int .i64 r.id) rfl rfl (on.ld rfl) rfl ?_
  refine RunQ.part 1 rfl ?_
  refine RunQ.load (v := .int .i64 r.pa) rfl rfl (on.ld rfl) rfl ?_
  refine RunQ.part 4 rfl ?_
  refine RunQ.load (v := tv) rfl rfl ((ox.fr F2g (fun g => g)).ld rfl) rfl ?_
  refine RunQ.part 2 rfl ?_
  rw [fw64 (x := (i : Int) + 1) (by omega) (by omega), show (i : Int) + 1 = ((i + 1 : Nat) : Int) by omega]
  refine RunQ.at (s := 1) (k := i + 1) rfl (fun _ => rfl) rfl rfl (stv.fr0 F2g) rfl rfl hi1 htp rfl rfl rfl ?_
  refine RunQ.part 2 rfl ?_
  refine RunQ.load (v := mvq) rfl rfl ((owq.fr F2g (fun g => g)).ld rfl) rfl ?_
  refine RunQ.part 1 rfl ?_
  refine RunQ.load (v := .int .i64 r.sz) rfl rfl (on.ld rfl) rfl ?_
  have hszn : ((r.sz.toNat : Nat) : Int) = r.sz := by omega
  have slI2_ := slI.fr0 F2g
  have slI2 : Sl (g2.lo g2.next) (.slice A L.length c) 1 L.length (us L) := slI2_
  have smq2_ := smq.fr0 F2g
  have smq2 : Sl (g2.lo g2.next) mvq 1 (treeM L r.ro).length (is (treeM L r.ro)) := smq2_
  have hsec := sectors_ok (n := r.sz.toNat) slI2 smq2 hrq (by omega) (by omega) hm
  rw [hszn] at hsec
  refine RunQ.call rfl hsec (fun v h1 q => q.1) rfl rfl rfl ?_
  have hsl_ : (secsL L (treeM L r.ro) r.sz.toNat).length ≤ 512 := by rw [secsL_len _ _ (by omega)]; omega
  generalize secsL L (treeM L r.ro) r.sz.toNat = SR at *
  rintro wv g3 ⟨f7, rwv⟩
  have f7 : Fr no g2 g3 := f7.trans (Fr.refl no _) (fun _ g => g.elim) |> fun f => ⟨f.next, f.get, fun l a b c => f.low l b b c⟩
  have rwv : RwG g2.next g3 wv SR := rwv
  have hwN := rwv.rwN (by omega)
  obtain ⟨wA, wc_, rfl⟩ : ∃ a b, wv = .slice a SR.length b := by
    obtain ⟨cs, row, _⟩ := rwv
    obtain ⟨a, b, e, _⟩ := (row.sl (by omega)).form
    exact ⟨a, b, e⟩
  have on3 := on.fr f7 (fun g => g)
  refine RunQ.part 1 rfl ?_
  refine RunQ.load (v := .int .i64 r.fr) rfl rfl (on3.ld rfl) rfl ?_
  refine RunQ.part 1 rfl ?_
  refine RunQ.load (v := .int .i64 r.di) rfl rfl (on3.ld rfl) rfl ?_
  refine RunQ.all rfl ?_
  have hg3n := f7.next
  refine RunT.new (ob := ⟨[.int .i64 0, .int .i64 0, .slice none 0 0, .int .i64 0, .int .i64 0], true⟩) rfl rfl (fun _ => rfl) rfl ?_
  obtain ⟨wv, hwv⟩ : ∃ q, q = Value.slice wA SR.length wc_ := ⟨_, rfl⟩
  have hwc : isCell wv = true := by rw [hwv]; rfl
  rw [← hwv] at hwN ⊢
  have hst : astore prog ((g3.push ⟨[.int .i64 0, .int .i64 0, .slice none 0 0, .int .i64 0, .int .i64 0], true⟩).lo (g3.push ⟨[.int .i64 0, .int .i64 0, .slice none 0 0, .int .i64 0, .int .i64 0], true⟩).next) 93 ⟨g3.next, 0, none⟩ (.agg ⟨[.int .i64 r.id, .int .i64 r.pa, wv, .int .i64 r.fr, .int .i64 r.di]⟩) = _ := store_ow (s := 5) (h := (g3.push ⟨[.int .i64 0, .int .i64 0, .slice none 0 0, .int .i64 0, .int .i64 0], true⟩).lo (g3.push ⟨[.int .i64 0, .int .i64 0, .slice none 0 0, .int .i64 0, .int .i64 0], true⟩).next) (Ow.push g3 [.int .i64 0, .int .i64 0, .slice none 0 0, .int .i64 0, .int .i64 0]) rfl rfl (by show cond (isCell wv) true false = true; rw [hwc]; rfl) (Nat.le_refl 5)
  refine RunT.store rfl rfl rfl hst (Fr.put (m := fun b => g2.next ≤ b) _ (.inl hg3n)) (RunT.nil ?_)
  intro lw F8a
  have F8b := F8a.weak (m1 := no) (fun b g => .inr g)
  clear F8a
  have fY : Fr no g3 ((g3.push ⟨[.int .i64 0, .int .i64 0, .slice none 0 0, .int .i64 0, .int .i64 0], true⟩).put g3.next (some ⟨snC (r.id, r.pa, SR, r.fr, r.di) wv, true⟩)) := (Fr.push _ _ _).trans (Fr.put (m := (· = g3.next)) _ (.inl rfl)) (fun j hj => .inr (by omega))
  have oY : Ow ((g3.push ⟨[.int .i64 0, .int .i64 0, .slice none 0 0, .int .i64 0, .int .i64 0], true⟩).put g3.next (some ⟨snC (r.id, r.pa, SR, r.fr, r.di) wv, true⟩)) g3.next (snC (r.id, r.pa, SR, r.fr, r.di) wv) := Ow.put _ (Nat.lt_succ_self _)
  have hwNY := hwN.fr0 fY
  have onb : Ow ((((g3.push ⟨[.int .i64 0, .int .i64 0, .slice none 0 0, .int .i64 0, .int .i64 0], true⟩).lo (g3.push ⟨[.int .i64 0, .int .i64 0, .slice none 0 0, .int .i64 0, .int .i64 0], true⟩).next).put g3.next (some ⟨snC (r.id, r.pa, SR, r.fr, r.di) wv, true⟩)).lo lw) g3.next (snC (r.id, r.pa, SR, r.fr, r.di) wv) := oY
  have hwN4 : RwN (fun b => g2.next ≤ b) ((((g3.push ⟨[.int .i64 0, .int .i64 0, .slice none 0 0, .int .i64 0, .int .i64 0], true⟩).lo (g3.push ⟨[.int .i64 0, .int .i64 0, .slice none 0 0, .int .i64 0, .int .i64 0], true⟩).next).put g3.next (some ⟨snC (r.id, r.pa, SR, r.fr, r.di) wv, true⟩)).lo lw) wv SR := hwNY
  clear hst oY hwNY fY
  show RunC prog _ _ _ ((((g3.push ⟨[.int .i64 0, .int .i64 0, .slice none 0 0, .int .i64 0, .int .i64 0], true⟩).lo (g3.push ⟨[.int .i64 0, .int .i64 0, .slice none 0 0, .int .i64 0, .int .i64 0], true⟩).next).put g3.next (some ⟨snC (r.id, r.pa, SR, r.fr, r.di) wv, true⟩)).lo lw) _ _ _
  have F8 : Fr no g2 ((((g3.push ⟨[.int .i64 0, .int .i64 0, .slice none 0 0, .int .i64 0, .int .i64 0], true⟩).lo (g3.push ⟨[.int .i64 0, .int .i64 0, .slice none 0 0, .int .i64 0, .int .i64 0], true⟩).next).put g3.next (some ⟨snC (r.id, r.pa, SR, r.fr, r.di) wv, true⟩)).lo lw) := F8b
  clear F8b
  generalize (((g3.push ⟨[.int .i64 0, .int .i64 0, .slice none 0 0, .int .i64 0, .int .i64 0], true⟩).lo (g3.push ⟨[.int .i64 0, .int .i64 0, .slice none 0 0, .int .i64 0, .int .i64 0], true⟩).next).put g3.next (some ⟨snC (r.id, r.pa, SR, r.fr, r.di) wv, true⟩)).lo lw = g4 at *
  have on4 := on.fr F8 (fun g => g)
  have F14 := f6.same F8
  have ot4 := ot.fr F14 (fun g => g)
  have hN4 := hN.fr0 F14
  have ls4 := ls.fr0 F14
  have lo4 := lo.fr0 F14
  have hg4n := F14.next
  refine RunC.seq (RunC.region (RunO.part 1 rfl ?_))
  refine RunO.load (v := .int .i64 r.ki) rfl (on4.ld rfl) rfl ?_
  refine RunO.all rfl ?_
  cases hki : (r.ki == 1) with
  | true =>
    rw [hki] at hS1 hO1
    refine RunC.cond rfl (fun _ => ?_) (fun g => by cases g)
    refine RunC.region (RunO.part 1 rfl ?_)
    refine RunO.load (v := ov) rfl (ot4.ld rfl) rfl ?_
    refine RunO.load (v := .agg ⟨snC (r.id, r.pa, SR, r.fr, r.di) wv⟩) rfl (onb.ld rfl) rfl ?_
    refine RunO.part 1 (h1 := g4.push ⟨snC (r.id, r.pa, SR, r.fr, r.di) wv, true⟩) rfl ?_
    have ol := Ow.push g4 (snC (r.id, r.pa, SR, r.fr, r.di) wv)
    have f9 : Fr no g4 (g4.push ⟨snC (r.id, r.pa, SR, r.fr, r.di) wv, true⟩) := Fr.push _ _ _
    replace ot4 := ot4.fr f9 (fun g => g)
    replace hN4 := hN4.fr0 f9
    replace hwN4 := hwN4.fr0 f9
    replace ls4 := ls4.fr0 f9
    replace lo4 := lo4.fr0 f9
    have F9 := F14.same f9
    have hg5n := f9.next
    generalize g4.push ⟨snC (r.id, r.pa, SR, r.fr, r.di) wv, true⟩ = g5 at *
    generalize g4.next = lb at *
    have hgg := F9.next
    have l4 := lo4.weak (M := fun b => ((qb < b ∧ b ≠ tb) ∧ ¬ At sv b ∧ ¬ At ov b) ∧ b < g5.next) (fun b g1 g2 => ⟨g2, g1⟩)
    have k4 := ls4.weak (M := fun b => ((qb < b ∧ b ≠ tb) ∧ ¬ At sv b ∧ ¬ At ov b) ∧ b < g5.next) (fun b g1 g2 => ⟨g2, g1⟩)
    have hwN5 := hwN4.weak (M := fun b => ((qb < b ∧ b ≠ tb) ∧ ¬ At sv b ∧ ¬ At ov b) ∧ b < g5.next) (fun b g1 g2 => ⟨⟨⟨by omega, by omega⟩, fun a => by have := (ls.at a).2; omega, fun a => by have := (lo.at a).2; omega⟩, g1⟩)
    obtain ⟨cs, row, kk⟩ := l4
    refine RunO.appendG (s := 5) (j := 1) rfl rfl rfl rfl rfl rfl rfl rfl (by decide) row.gr ol.all rfl (Nat.le_refl 1) (by show cond (isCell wv) true false = true; rw [hwc]; rfl) (by show 2 * (_ + 1) * 56 ≤ _; omega) (by omega) ?_
    intro ov2 g6 row2 f10
    have l6 := LS.snoc (x := (r.id, r.pa, SR, r.fr, r.di)) row kk hwN5 row2 f10 (fun b g a => (fun b g a => g.2.2 a) b g.1 a) (show tb + 1 ≤ g5.next by omega)
    have k6 := k4.frm f10 (fun b g a => (fun b g a => g.2.2 a) b g.1 a) (fun b g e => hso b g e)
    have hN6 := hN4.frm f10 (fun b g a => by have := (lo.at a).1; omega)
    have ot6 := ot4.fr f10 (fun a => by have := (lo.at a).1; omega)
    have l6 := l6.weak (M := fun b => (qb < b ∧ b ≠ tb) ∧ ¬ At sv b ∧ ¬ At ov2 b) (fun b _ g => ⟨g.1.1, g.1.2.1, fun a => by have := (row2.at a).1; have := g.2; omega⟩)
    have k6 := k6.weak (M := fun b => (qb < b ∧ b ≠ tb) ∧ ¬ At sv b ∧ ¬ At ov2 b) (fun b _ g => ⟨g.1.1, g.1.2.1, fun a => by have := (row2.at a).1; have := g.2; omega⟩)
    have hcv : isCell ov2 = true := by rcases row2.2 with ⟨e, _⟩ | ⟨b, _, e, _⟩ <;> (rw [e]; rfl)
    have hcc : cellsOf ov2 = [ov2] := by rcases row2.2 with ⟨e, _⟩ | ⟨b, _, e, _⟩ <;> (rw [e]; rfl)
    refine RunO.part 1 rfl ?_
    refine RunO.store rfl rfl (store1_ow ot6 rfl hcc hcv (Nat.le_of_ble_eq_true rfl)) (RunO.nil ?_)
    have f11 : Fr (· = tb) g6 (g6.put tb (some ⟨[hv, sv, ov2], true⟩)) := Fr.put _ (.inl rfl)
    have ot7 : Ow (g6.put tb (some ⟨[hv, sv, ov2], true⟩)) tb [hv, sv, ov2] := Ow.put _ ot6.1
    have hN7 := hN6.frm f11 (fun b g e => by have e : b = tb := e; omega)
    have loz := l6.frm f11 (fun b g e => g.1.2 e) (fun b g e => by have e : b = tb := e; have := (row2.at g).1; omega)
    have lsz := k6.frm f11 (fun b g e => g.1.2 e) (fun b g e => by have e : b = tb := e; have := (ls.at g).1; omega)
    show RunC prog _ _ _ (g6.put tb (some ⟨[hv, sv, ov2], true⟩)) _ _ _
    have F11 : Fr (· = tb) h4 (g6.put tb (some ⟨[hv, sv, ov2], true⟩)) := ((fg.quiet F9).trans f10 (fun b a => .inr (by have := (lo.at a).1; omega))).same f11
    generalize g6.put tb (some ⟨[hv, sv, ov2], true⟩) = g7 at *
    refine RunC.region (RunO.all rfl ?_)
    exact ⟨d - 1, by omega, i + 1, sv, ov2, by omega, F11, ot7, hN7, by rw [hS1, if_pos rfl]; exact lsz, by rw [hO1, if_pos rfl]; exact loz, fun b g a => by have := (row2.at a).1; have := (ls.at g).2; omega, Le.cons (inc64 (by omega)) (Le.cons rfl (Le.cons rfl (Le.cons rfl (Le.cons rfl (Le.cons rfl (Le.cons rfl (Le.nil _)))))))⟩
  | false =>
    rw [hki] at hS1 hO1
    refine RunC.cond rfl (fun g => by cases g) (fun _ => ?_)
    refine RunC.region (RunO.part 1 rfl ?_)
    refine RunO.load (v := sv) rfl (ot4.ld rfl) rfl ?_
    refine RunO.load (v := .agg ⟨snC (r.id, r.pa, SR, r.fr, r.di) wv⟩) rfl (onb.ld rfl) rfl ?_
    refine RunO.part 1 (h1 := g4.push ⟨snC (r.id, r.pa, SR, r.fr, r.di) wv, true⟩) rfl ?_
    have ol := Ow.push g4 (snC (r.id, r.pa, SR, r.fr, r.di) wv)
    have f9 : Fr no g4 (g4.push ⟨snC (r.id, r.pa, SR, r.fr, r.di) wv, true⟩) := Fr.push _ _ _
    replace ot4 := ot4.fr f9 (fun g => g)
    replace hN4 := hN4.fr0 f9
    replace hwN4 := hwN4.fr0 f9
    replace ls4 := ls4.fr0 f9
    replace lo4 := lo4.fr0 f9
    have F9 := F14.same f9
    have hg5n := f9.next
    generalize g4.push ⟨snC (r.id, r.pa, SR, r.fr, r.di) wv, true⟩ = g5 at *
    generalize g4.next = lb at *
    have hgg := F9.next
    have l4 := ls4.weak (M := fun b => ((qb < b ∧ b ≠ tb) ∧ ¬ At sv b ∧ ¬ At ov b) ∧ b < g5.next) (fun b g1 g2 => ⟨g2, g1⟩)
    have k4 := lo4.weak (M := fun b => ((qb < b ∧ b ≠ tb) ∧ ¬ At sv b ∧ ¬ At ov b) ∧ b < g5.next) (fun b g1 g2 => ⟨g2, g1⟩)
    have hwN5 := hwN4.weak (M := fun b => ((qb < b ∧ b ≠ tb) ∧ ¬ At sv b ∧ ¬ At ov b) ∧ b < g5.next) (fun b g1 g2 => ⟨⟨⟨by omega, by omega⟩, fun a => by have := (ls.at a).2; omega, fun a => by have := (lo.at a).2; omega⟩, g1⟩)
    obtain ⟨cs, row, kk⟩ := l4
    refine RunO.appendG (s := 5) (j := 1) rfl rfl rfl rfl rfl rfl rfl rfl (by decide) row.gr ol.all rfl (Nat.le_refl 1) (by show cond (isCell wv) true false = true; rw [hwc]; rfl) (by show 2 * (_ + 1) * 56 ≤ _; omega) (by omega) ?_
    intro sv2 g6 row2 f10
    have l6 := LS.snoc (x := (r.id, r.pa, SR, r.fr, r.di)) row kk hwN5 row2 f10 (fun b g a => (fun b g a => g.2.1 a) b g.1 a) (show tb + 1 ≤ g5.next by omega)
    have k6 := k4.frm f10 (fun b g a => (fun b g a => g.2.1 a) b g.1 a) (fun b g e => hso b e g)
    have hN6 := hN4.frm f10 (fun b g a => by have := (ls.at a).1; omega)
    have ot6 := ot4.fr f10 (fun a => by have := (ls.at a).1; omega)
    have l6 := l6.weak (M := fun b => (qb < b ∧ b ≠ tb) ∧ ¬ At sv2 b ∧ ¬ At ov b) (fun b _ g => ⟨g.1.1, fun a => by have := (row2.at a).1; have := g.2; omega, g.1.2.2⟩)
    have k6 := k6.weak (M := fun b => (qb < b ∧ b ≠ tb) ∧ ¬ At sv2 b ∧ ¬ At ov b) (fun b _ g => ⟨g.1.1, fun a => by have := (row2.at a).1; have := g.2; omega, g.1.2.2⟩)
    have hcv : isCell sv2 = true := by rcases row2.2 with ⟨e, _⟩ | ⟨b, _, e, _⟩ <;> (rw [e]; rfl)
    have hcc : cellsOf sv2 = [sv2] := by rcases row2.2 with ⟨e, _⟩ | ⟨b, _, e, _⟩ <;> (rw [e]; rfl)
    refine RunO.part 1 rfl ?_
    refine RunO.store rfl rfl (store1_ow ot6 rfl hcc hcv (Nat.le_of_ble_eq_true rfl)) (RunO.nil ?_)
    have f11 : Fr (· = tb) g6 (g6.put tb (some ⟨[hv, sv2, ov], true⟩)) := Fr.put _ (.inl rfl)
    have ot7 : Ow (g6.put tb (some ⟨[hv, sv2, ov], true⟩)) tb [hv, sv2, ov] := Ow.put _ ot6.1
    have hN7 := hN6.frm f11 (fun b g e => by have e : b = tb := e; omega)
    have lsz := l6.frm f11 (fun b g e => g.1.2 e) (fun b g e => by have e : b = tb := e; have := (row2.at g).1; omega)
    have loz := k6.frm f11 (fun b g e => g.1.2 e) (fun b g e => by have e : b = tb := e; have := (lo.at g).1; omega)
    show RunC prog _ _ _ (g6.put tb (some ⟨[hv, sv2, ov], true⟩)) _ _ _
    have F11 : Fr (· = tb) h4 (g6.put tb (some ⟨[hv, sv2, ov], true⟩)) := ((fg.quiet F9).trans f10 (fun b a => .inr (by have := (ls.at a).1; omega))).same f11
    generalize g6.put tb (some ⟨[hv, sv2, ov], true⟩) = g7 at *
    refine RunC.region (RunO.all rfl ?_)
    exact ⟨d - 1, by omega, i + 1, sv2, ov, by omega, F11, ot7, hN7, by rw [hS1, if_neg (by decide)]; exact lsz, by rw [hO1, if_neg (by decide)]; exact loz, fun b a g => by have := (row2.at a).1; have := (lo.at g).2; omega, Le.cons (inc64 (by omega)) (Le.cons rfl (Le.cons rfl (Le.cons rfl (Le.cons rfl (Le.cons rfl (Le.cons rfl (Le.nil _)))))))⟩
theorem viewOf_ok {h : Heap} {iv : Value} {L : List Int} (sl : Sl h iv 1 L.length (us L)) (hb : Byt L) (hm : L.length ≤ 4611686018427387904) :
    RunF prog 26 [iv] h fun v h' => Fr no h h' ∧ (((lk L).2 = 0 ∧ ∃ hv sv ov, v = .tuple #[.agg ⟨[hv, sv, ov]⟩, .int .i64 0] ∧ Rws h' hv (vwH L) ∧ Sns h' sv (vwS L (lkF L).1) ∧ Sns h' ov (vwO L (lkF L).1)) ∨ ((lk L).2 ≠ 0 ∧ v = .tuple #[.agg ⟨[.slice none 0 0, .slice none 0 0, .slice none 0 0]⟩, .int .i64 (lk L).2])) := by
  refine (viewOfN_ok sl hb hm).mono ?_
  rintro v h' ⟨f, ⟨g, hv, sv, ov, rfl, a, b, c⟩ | g⟩
  · exact ⟨f, .inl ⟨g, hv, sv, ov, rfl, a.rws, b, c⟩⟩
  · exact ⟨f, .inr g⟩
end Go.Proofs.Ytnokcbenpnmnbaa
end
section
set_option linter.unusedVariables false
set_option maxRecDepth 100000
open Go Go.Am
namespace Go.Proofs.Ytnokcbenpnmnbaa
open Go.Proofs.Try
end Go.Proofs.Ytnokcbenpnmnbaa
namespace Go.Proofs.Ytnokcbenpnmnbaa.Crc
open Go.Proofs.Try
theorem rem32 (a : W) : abin .rem .u32 (nt a) .u32 2 = some (.int .u32 (nt a % 2)) := by
  show some (Value.int .u32 ((nt a).tmod 2)) = _
  rw [Int.tmod_eq_emod_of_nonneg (nt0 a)]
theorem quo32 (a : W) : abin .quo .u32 (nt a) .u32 2 = some (.int .u32 (nt (a >>> 1))) := by
  show some (Value.int .u32 (fwrap .u32 ((nt a).tdiv 2))) = _
  have h0 := nt0 a
  have h1 := nt1 a
  rw [Int.tdiv_eq_ediv_of_nonneg h0, fwu32]
  congr 2
  unfold nt
  rw [BitVec.toNat_ushiftRight, Nat.shiftRight_eq_div_pow]
  have := a.isLt
  omega
theorem odd32 (a : W) : (nt a % 2 == 1) = a.getLsbD 0 := by
  rw [← bit0]
  unfold nt
  rw [BitVec.toNat_and]
  have e : a.toNat &&& (1#32).toNat = a.toNat % 2 := by
    show a.toNat &&& 1 = _
    exact Nat.and_one_is_mod _
  rw [e]
  have : ((a.toNat % 2 : Nat) : Int) = (a.toNat : Int) % 2 := by omega
  rw [this]
end Go.Proofs.Ytnokcbenpnmnbaa.Crc
namespace Go.Proofs.Ytnokcbenpnmnbaa
open Go.Proofs.Try Crc
theorem refMore_ok {h : Heap} {v : Value} {s0 : Int} {l : List Int} (sl : Sl h v 1 l.length (us l)) (hm : l.length ≤ 4611686018427387904) :
    RunF prog 129 [.int .i64 s0, v] h fun r h' => r = .int .i64 (Crc.sum s0 l) ∧ h = h' := by
  refine RunF.walk func129 rfl rfl ?_
  obtain ⟨A, c, rfl, hc, _⟩ := sl.form
  refine RunC.seq (RunC.region (RunO.all rfl ?_))
  refine RunC.seq (RunC.region (RunO.part 2 rfl ?_))
  rw [fwu32, ← nt_ofInt]
  unfold Crc.sum
  generalize BitVec.ofInt 32 s0 = v
  refine RunO.un rfl (not32 v) rfl ?_
  refine RunO.all rfl ?_
  refine RunC.seq (RunC.seq (RunC.region (RunO.all rfl ?_)))
  refine RunC.block ?_
  let I : Nat → Env → Heap → Prop := fun m E h' => ∃ i : Nat, i + m = l.length ∧ h = h' ∧ Le (upd (upd (upd E0 1 (.slice A l.length c)) 5 (.int .u32 (nt (st (l.take i) (~~~ v))))) 6 (.int .i64 i)) E
  refine RunC.loop I ?_ (k := l.length) ?_
  · rintro m E h' ⟨i, hi, rfl, hE⟩
    refine RunC.le hE ?_
    clear hE
    refine RunC.seq (RunC.seq (RunC.region (RunO.all rfl ?_)))
    refine RunC.cond rfl (fun hlt => ?_) (fun hge => ?_)
    · have hlt := of_decide_eq_true hlt
      have hlt2 : i < l.length := by omega
      refine RunC.skip ?_
      refine RunC.seq (RunC.block ?_)
      refine RunC.seq (RunC.region (RunO.part 3 rfl ?_))
      refine RunO.at (s := 1) (u := .int .u8 l[i]) rfl rfl sl rfl rfl hlt2 (by show nth (us l) (i * 1) = _; rw [Nat.mul_one]; exact us_nth hlt2) rfl rfl rfl ?_
      have hst : st (l.take (i + 1)) (~~~ v) = Zn 8 (st (l.take i) (~~~ v) ^^^ BitVec.ofInt 32 l[i]) := by rw [List.take_succ_eq_append_getElem hlt2, st_snoc]
      generalize l[i] = x at *
      generalize st (l.take i) (~~~ v) = s at *
      refine RunO.part 1 rfl ?_
      rw [fwu32, ← nt_ofInt]
      refine RunO.bin rfl rfl (xor32 _ _) rfl ?_
      refine RunO.all rfl ?_
      generalize s ^^^ BitVec.ofInt 32 x = y at *
      refine RunC.seq (RunC.region (RunO.all rfl ?_))
      refine RunC.block ?_
      let J : Nat → Env → Heap → Prop := fun m E h' => ∃ j : Nat, j + m = 8 ∧ h = h' ∧ Le (upd (upd (upd (upd E0 1 (.slice A l.length c)) 5 (.int .u32 (nt (Zn j y)))) 6 (.int .i64 i)) 7 (.int .i64 j)) E
      refine RunC.loop J ?_ (k := 8) ?_
      · rintro m2 E h' ⟨j, hj, rfl, hE⟩
        refine RunC.le hE ?_
        clear hE
        refine RunC.seq (RunC.seq (RunC.region (RunO.all rfl ?_)))
        refine RunC.cond rfl (fun hlt => ?_) (fun hge => ?_)
        · have hlt := of_decide_eq_true hlt
          refine RunC.skip ?_
          have hz : Zn (j + 1) y = Z (Zn j y) := Zn_succ j y
          generalize Zn j y = u at *
          refine RunC.seq (RunC.block ?_)
          refine RunC.seq (RunC.region (RunO.part 1 rfl ?_))
          refine RunO.bin rfl rfl (rem32 u) rfl ?_
          refine RunO.all rfl ?_
          refine RunC.cond rfl (fun hb => ?_) (fun hb => ?_)
          · have hb : u.getLsbD 0 = true := by rw [← odd32]; exact hb
            refine RunC.region (RunO.part 1 rfl ?_)
            refine RunO.bin rfl rfl (quo32 u) rfl ?_
            refine RunO.bin rfl rfl (xor32 (u >>> 1) poly) rfl ?_
            refine RunO.all rfl ?_
            refine RunC.region (RunO.all rfl ?_)
            refine ⟨m2 - 1, by omega, j + 1, by omega, rfl, ?_⟩
            have e : Zn (j + 1) y = (u >>> 1) ^^^ poly := by rw [hz]; unfold Z; rw [if_pos hb]
            rw [e]
            exact Le.cons (inc64 (by omega)) (Le.cons rfl (Le.cons rfl (Le.cons rfl (Le.nil _))))
          · have hb : u.getLsbD 0 = false := by rw [← odd32]; exact hb
            refine RunC.region (RunO.part 1 rfl ?_)
            refine RunO.bin rfl rfl (quo32 u) rfl ?_
            refine RunO.all rfl ?_
            refine RunC.region (RunO.all rfl ?_)
            refine ⟨m2 - 1, by omega, j + 1, by omega, rfl, ?_⟩
            have e : Zn (j + 1) y = u >>> 1 := by rw [hz]; unfold Z; rw [if_neg (by rw [hb]; decide), BitVec.xor_zero]
            rw [e]
            exact Le.cons (inc64 (by omega)) (Le.cons rfl (Le.cons rfl (Le.cons rfl (Le.nil _))))
        · have hge := of_decide_eq_false hge
          refine RunC.exit ?_
          have : j = 8 := by omega
          subst this
          refine RunC.region (RunO.all rfl ?_)
          refine ⟨m - 1, by omega, i + 1, by omega, rfl, ?_⟩
          rw [hst]
          exact Le.cons (inc64 (by omega)) (Le.cons rfl (Le.cons rfl (Le.nil _)))
      · exact ⟨0, by omega, rfl, Le.cons rfl (Le.cons rfl (Le.cons rfl (Le.cons rfl (Le.nil _))))⟩
    · have hge := of_decide_eq_false hge
      refine RunC.exit ?_
      have : i = l.length := by omega
      subst this
      rw [List.take_length]
      refine RunC.seq (RunC.region (RunO.part 1 rfl ?_))
      generalize st l (~~~ v) = s
      refine RunO.un rfl (not32 s) rfl ?_
      refine RunO.all rfl ?_
      refine RunC.ret ⟨_, rfl, ?_, rfl⟩
      show Value.int .i64 (fwrap .i64 (nt (~~~ s))) = _
      have h0 := nt0 (~~~ s)
      have h1 := nt1 (~~~ s)
      rw [fw64 (by omega) (by omega)]
  · exact ⟨0, by omega, rfl, Le.cons rfl (Le.cons rfl (Le.cons rfl (Le.nil _)))⟩
theorem refSum_ok {h : Heap} {v : Value} {l : List Int} (sl : Sl h v 1 l.length (us l)) (hm : l.length ≤ 4611686018427387904) :
    RunF prog 124 [v] h fun r h' => r = .int .i64 (Crc.sum 0 l) ∧ h = h' := by
  refine RunF.walk func124 rfl rfl ?_
  refine RunC.seq (RunC.region (RunO.all rfl ?_))
  refine RunC.seq (RunC.region (RunO.part 1 rfl ?_))
  refine RunO.callD (refMore_ok sl hm) rfl rfl rfl ?_
  rintro _ _ ⟨rfl, rfl⟩
  exact RunO.all rfl (RunC.ret ⟨_, rfl, rfl, rfl⟩)
theorem sl_front {h : Heap} {v : Value} {l : List Int} (sl : Sl h v 1 l.length (us l)) {m : Nat} (h0 : 0 < l.length) (hm : m ≤ l.length) (jk : IntKind) :
    ∃ v', aslice prog 22 v none (some (.int jk (m : Int))) none = some v' ∧ Sl h v' 1 (l.take m).length (us (l.take m)) := by
  obtain ⟨b, o, c, rfl, hc, rd⟩ := sl.nz h0
  obtain ⟨c', h1, h2⟩ := slice_pre (P := prog) (t := 22) (b := b) (o := o) (ik := jk) rfl rfl hc hm
  have hl : (l.take m).length = m := by rw [List.length_take]; omega
  refine ⟨_, h2, ?_⟩
  rw [hl]
  exact Rd.sl (rdTake rd m) (by rw [us_len, hl, Nat.mul_one]) (by have := sl.2.1; omega) h1
theorem refGood_ok {h : Heap} {v : Value} {l : List Int} (sl : Sl h v 1 l.length (us l)) (hb : Byt l) (hl : 4 ≤ l.length) (hm : l.length ≤ 4611686018427387904) :
    RunF prog 110 [v] h fun r h' => r = .bool (goodB l) ∧ h = h' := by
  refine RunF.walk func110 rfl rfl ?_
  obtain ⟨A, c, rfl, hc, _⟩ := sl.form
  refine RunC.seq (RunC.region (RunO.all rfl ?_))
  refine RunC.seq (RunC.draw0 rfl (RunO.part 3 rfl ?_))
  rw [show decide ((l.length : Int) ≥ 4) = true from decide_eq_true (by omega)]
  refine RunO.part 5 rfl ?_
  rw [fw64 (x := (l.length : Int) - 4) (by omega) (by omega), show (l.length : Int) - 4 = ((l.length - 4 : Nat) : Int) by omega]
  refine RunO.callDG rfl (refGet4_ok (k := l.length - 4) sl hb (by omega) hm) rfl rfl rfl ?_
  rintro _ _ ⟨rfl, rfl⟩
  refine RunO.part 4 rfl ?_
  rw [fw64 (x := (l.length : Int) - 4) (by omega) (by omega), show (l.length : Int) - 4 = ((l.length - 4 : Nat) : Int) by omega]
  obtain ⟨v', h1, h2⟩ := sl_front (m := l.length - 4) sl (by omega) (by omega) .i64
  refine RunO.oneG (v := v') (h1 := h) rfl (by show pureR h _ = _; exact congrArg (pureR h) h1) rfl ?_
  refine RunO.callDG rfl (refSum_ok h2 (by rw [List.length_take]; omega)) rfl rfl rfl ?_
  rintro _ _ ⟨rfl, rfl⟩
  exact RunO.all rfl (RunC.ret ⟨_, rfl, rfl, rfl⟩)
/-- Bytes behind a row's bytes: zeros up to a block, the sum. -/
def sealB (b : List Int) : List Int := b ++ List.replicate (60 - b.length) 0 ++ leB 4 (Crc.sum 0 (b ++ List.replicate (60 - b.length) 0))
end Go.Proofs.Ytnokcbenpnmnbaa
end
section
set_option linter.unusedVariables false
set_option maxRecDepth 100000
open Go Go.Am Go.RowKit
namespace Go.Proofs.Ytnokcbenpnmnbaa
open Go.Proofs.Try
theorem strOf_ok {h : Heap} {v : Value} {l : List Int} (sl : Sl h v 1 l.length (us l)) : abytes prog h 22 9 v = some (.string (mkStr l)) := by
  obtain ⟨h1, h2, ⟨rfl, h0⟩ | ⟨b, o, c, rfl, hc, rd⟩⟩ := sl
  · obtain rfl : l = [] := List.eq_nil_of_length_eq_zero h0
    rfl
  · have hrd : aread h ⟨b, o, none⟩ l.length = some (us l) := by
      have := rd.read0 (m := l.length) (by rw [us_len]; exact Nat.le_refl _)
      rw [this, List.take_of_length_le (by rw [us_len]; exact Nat.le_refl _)]
    show (match aread h ⟨b, o, none⟩ l.length with | some l => (match bytesOf l with | some ns => some (Value.string (mkStr ns)) | none => none) | none => none) = _
    rw [hrd]
    simp only [bytesOf_us]
/-- Why bytes are no block of a name. -/
def openE (mb l : List Int) : Int := if l.length ≠ 64 then 2 else if l.take 4 ≠ mb then 4 else if goodB l = false then 5 else 0
theorem refOpen_ok {h : Heap} {v : Value} {mg : ByteArray} {l mb : List Int} (hmg : strCells mg = us mb) (sl : Sl h v 1 l.length (us l)) (hb : Byt l) :
    RunF prog 80 [v, .string mg] h fun r h' => r = .int .i64 (openE mb l) ∧ h = h' := by
  refine RunF.walk func80 rfl rfl ?_
  have sl0 := sl
  obtain ⟨A, c, rfl, hc, _⟩ := sl.form
  refine RunC.seq (RunC.region (RunO.all rfl ?_))
  refine RunC.seq (RunC.block ?_)
  refine RunC.seq (RunC.region (RunO.all rfl ?_))
  by_cases hl : l.length = 64
  case neg =>
    rw [show ((l.length : Int) != 64) = true by simpa using (by omega : ¬ ((l.length : Int) = 64)), show openE mb l = 2 from if_pos hl]
    refine RunC.cond rfl (fun _ => ?_) (fun g => by cases g)
    exact RunC.seq (RunC.region (RunO.all rfl (RunC.ret ⟨_, rfl, rfl, rfl⟩)))
  rw [show ((l.length : Int) != 64) = false by simpa using (by omega : ((l.length : Int) = 64))]
  refine RunC.cond rfl (fun g => by cases g) (fun _ => ?_)
  refine RunC.seq (RunC.region (RunO.part 1 rfl ?_))
  obtain ⟨v', h1, h2⟩ := sl_front (m := 4) sl (by omega) (by omega) .i64
  refine RunO.one (v := v') (h1 := h) rfl (by show pureR h _ = _; exact congrArg (pureR h) h1) rfl ?_
  have hcv : aconvert prog 22 9 v' = none := by
    obtain ⟨A', c', rfl, _, _⟩ := h2.form
    rfl
  refine RunO.one rfl (v := .string (mkStr (l.take 4))) (h1 := h) ?_ rfl ?_
  · show (match aconvert prog 22 9 v' with | some v => some (v, h) | none => pureR h (abytes prog h 22 9 v')) = _
    rw [hcv, strOf_ok h2]; rfl
  refine RunO.part 1 rfl ?_
  refine RunO.bin (v := .bool (!(decide (l.take 4 = mb)))) rfl rfl ?_ rfl ?_
  · show some (Value.bool (!((mkStr (l.take 4)).data.toList == mg.data.toList))) = _
    rw [str_eq hmg (fun x hx => hb x (List.mem_of_mem_take hx))]
  refine RunO.all rfl ?_
  by_cases hm : l.take 4 = mb
  case neg =>
    rw [decide_eq_false hm, show openE mb l = 4 by unfold openE; rw [if_neg (by omega), if_pos hm]]
    refine RunC.cond rfl (fun _ => ?_) (fun g => by cases g)
    exact RunC.seq (RunC.region (RunO.all rfl (RunC.ret ⟨_, rfl, rfl, rfl⟩)))
  rw [decide_eq_true hm]
  refine RunC.cond rfl (fun g => by cases g) (fun _ => ?_)
  refine RunC.seq (RunC.region (RunO.part 1 rfl ?_))
  refine RunO.callD (refGood_ok sl0 hb (by omega) (by omega)) rfl rfl rfl ?_
  rintro _ _ ⟨rfl, rfl⟩
  refine RunO.all rfl ?_
  cases hg : goodB l with
  | false =>
    rw [show openE mb l = 5 by unfold openE; rw [if_neg (by omega), if_neg (by simpa using hm), if_pos hg]]
    refine RunC.cond rfl (fun _ => ?_) (fun g => by cases g)
    exact RunC.seq (RunC.region (RunO.all rfl (RunC.ret ⟨_, rfl, rfl, rfl⟩)))
  | true =>
    rw [show openE mb l = 0 by unfold openE; rw [if_neg (by omega), if_neg (by simpa using hm), if_neg (by simp [hg])]]
    refine RunC.cond rfl (fun g => by cases g) (fun _ => RunC.skip ?_)
    exact RunC.seq (RunC.region (RunO.all rfl (RunC.ret ⟨_, rfl, rfl, rfl⟩)))
theorem readB_open (mb : List Int) (fl : List (Nat × Nat)) (l : List Int) : readB mb fl l = if openE mb l ≠ 0 then openE mb l else if fl.all (okF l) = false then 1 else if zerosN l (endF fl) 60 = false then 1 else 0 := by
  unfold readB openE
  by_cases h1 : l.length ≠ 64
  · rw [if_pos h1, if_pos h1]; rfl
  · rw [if_neg h1, if_neg h1]
    by_cases h2 : l.take 4 ≠ mb
    · rw [if_pos h2, if_pos h2]; rfl
    · rw [if_neg h2, if_neg h2]
      by_cases h3 : goodB l = false
      · rw [if_pos h3, if_pos h3]; rfl
      · rw [if_neg h3, if_neg h3]; rfl
theorem ok4 {l : List Int} (hb : Byt l) (k : Nat) : (leGet l k 4).2 = 0 := by
  unfold leGet
  have h1 := (leN_bound (hb.part k 4)).2
  have h2 : (256 : Int) ^ ((l.drop k).take 4).length ≤ 256 ^ 4 := by
    have : ((l.drop k).take 4).length ≤ 4 := by rw [List.length_take]; omega
    exact_mod_cast Nat.pow_le_pow_right (by decide : 0 < 256) this
  have h3 : (256 : Int) ^ 4 = 4294967296 := by decide
  rw [if_neg (by omega)]
end Go.Proofs.Ytnokcbenpnmnbaa
end
