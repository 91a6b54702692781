/- BuildExact: a calculus over an abstract machine that stands beside the model, and contracts of functions by it (part 6).
Conditions: what each theorem says of its arguments. -/
import Derived.Test.YtdcggjkcbheolaaGBuildExact5
section
set_option linter.unusedVariables false
set_option maxRecDepth 100000
open Go Go.Am
namespace Go.Proofs.Ytdcggjkcbheolaa
open Go.Proofs.Try
abbrev S5 := Int × Int × Int × Int × Int
def sc5 (s : S5) : List Value := sc s.1 s.2.1 s.2.2.1 s.2.2.2.1 s.2.2.2.2
def sVal (l : List Int) : S5 := if sCode l = 0 then (sGet l 4 8, sGet l 12 4, sGet l 16 4, sGet l 20 4, sGet l 24 4) else (0, 0, 0, 0, 0)
/-- A slot looked at. -/
def pickStep (l : List Int) (st : S5 × Int × Bool) (i : Nat) : S5 × Int × Bool :=
  if (sCode (blkI l i) == 0 && ((sVal (blkI l i)).2.1 == ((l.length / 64 : Nat) : Int) && (!st.2.2 || decide ((sVal (blkI l i)).1 > st.1.1)))) = true then (sVal (blkI l i), (i : Int), true) else st
def pickS (l : List Int) : S5 × Int × Bool := (List.range 2).foldl (pickStep l) ((0, 0, 0, 0, 0), 0, false)
/-- Which superblock stands, in which slot; why none does. -/
def pickCode (l : List Int) : Int := if devOk l.length then (if (pickS l).2.2 then 0 else 8) else 2
end Go.Proofs.Ytdcggjkcbheolaa
end
section
set_option linter.unusedVariables false
set_option maxRecDepth 100000
open Go Go.Am
namespace Go.Proofs.Ytdcggjkcbheolaa
open Go.Proofs.Try
end Go.Proofs.Ytdcggjkcbheolaa
end
section
set_option linter.unusedVariables false
set_option maxRecDepth 100000
open Go Go.Am
namespace Go.Proofs.Ytdcggjkcbheolaa
open Go.Proofs.Try
end Go.Proofs.Ytdcggjkcbheolaa
end
section
set_option linter.unusedVariables false
set_option maxRecDepth 100000
open Go Go.Am
namespace Go.Proofs.Ytdcggjkcbheolaa
open Go.Proofs.Try
/-- A block that the page makes. -/
theorem seal_make {mb : List Int} {ss : List Nat} {ns : List Int} (hm : mb.length = 4) (hn : ns.length = ss.length) (hs : ss.sum ≤ 56) : sealB (mb ++ catB ss ns) = makeB mb (layF 4 ss) ns := by
  rw [makeB_eq hm hn hs]
  unfold sealB
  rw [List.length_append, hm, catB_len ss ns hn, show 60 - (4 + ss.sum) = 56 - ss.sum by omega]
end Go.Proofs.Ytdcggjkcbheolaa
end
section
set_option linter.unusedVariables false
namespace Go.Am
open Go.RowKit
/- A region that draws its order and writes m: each operation with its footprint. -/
def RunW (P : Program) (n : Nat) (ops rest : List Oper) (m : Nat → Prop) (E : Env) (h : Heap) (Q : Env → Heap → List Fp → Prop) : Prop :=
  ∀ l0, l0 ≤ h.next → (∀ j, m j → l0 ≤ j) → RunD P n ops rest l0 E h (fun E' h' fs => Fg m h h' ∧ Q E' h' fs)
section
variable {P : Program} {n : Nat} {ops rest : List Oper} {m : Nat → Prop} {E E1 : Env} {h h1 : Heap} {Q : Env → Heap → List Fp → Prop}
end
end Go.Am
end
section
set_option linter.unusedVariables false
namespace Go.Am
open Go.RowKit
/-- A slice that grows by append: a row, or one that is full. -/
def Gr (lo : Nat) (h : Heap) (v : Value) (s n : Nat) (cells : List Value) : Prop :=
  cells.length = n * s ∧ ((v = .slice none 0 0 ∧ n = 0) ∨ ∃ b c, lo ≤ b ∧ v = .slice (some ⟨b, 0, none⟩) n c ∧ (c = unkc s ∨ c = exc n) ∧ Ow h b cells)
theorem Row.gr {lo : Nat} {h : Heap} {v : Value} {s n : Nat} {cells : List Value} (r : Row lo h v s n cells) : Gr lo h v s n cells :=
  ⟨r.1, r.2.imp (fun x => x) (fun ⟨b, h1, h2, h3⟩ => ⟨b, _, h1, h2, .inl rfl, h3⟩)⟩
theorem Gr.full {lo n s b : Nat} {h : Heap} {cells : List Value} (ow : Ow h b cells) (hl : cells.length = n * s) (hb : lo ≤ b) : Gr lo h (.slice (some ⟨b, 0, none⟩) n (exc n)) s n cells := ⟨hl, .inr ⟨b, _, hb, rfl, .inr rfl, ow⟩⟩
theorem Gr.at {lo : Nat} {h : Heap} {v : Value} {s n b : Nat} {cells : List Value} (r : Gr lo h v s n cells) (a : At v b) : lo ≤ b ∧ b < h.next := by
  obtain ⟨m, c, rfl⟩ := a
  rcases r.2 with ⟨e, _⟩ | ⟨b', c', h1, h2, _, h3⟩
  · cases e
  · cases h2; exact ⟨h1, h3.1⟩
theorem Gr.frm {lo : Nat} {h h' : Heap} {v : Value} {s n : Nat} {cells : List Value} {M : Nat → Prop} (r : Gr lo h v s n cells) (f : Fr M h h') (hm : ∀ b, At v b → ¬ M b) : Gr lo h' v s n cells := by
  refine ⟨r.1, r.2.imp (fun x => x) ?_⟩
  rintro ⟨b, c, h1, h2, h3, h4⟩
  exact ⟨b, c, h1, h2, h3, h4.fr f (hm b ⟨_, _, h2⟩)⟩
theorem Gr.fr0 {lo : Nat} {h h' : Heap} {v : Value} {s n : Nat} {cells : List Value} (r : Gr lo h v s n cells) (f : Fr no h h') : Gr lo h' v s n cells := r.frm f (fun _ _ g => g)
theorem Gr.lo {lo lo' : Nat} {h : Heap} {v : Value} {s n : Nat} {cells : List Value} (r : Gr lo h v s n cells) (hl : lo' ≤ lo) : Gr lo' h v s n cells := by
  refine ⟨r.1, r.2.imp (fun x => x) ?_⟩
  rintro ⟨b, c, h1, h2⟩
  exact ⟨b, c, Nat.le_trans hl h1, h2⟩
section
variable {P : Program} {n : Nat} {ops rest : List Oper} {m : Nat → Prop} {E E1 : Env} {h h1 : Heap}
theorem append_gr {t e : TypeId} {i : TypeInfo} {z : Value} {lo s k j c' : Nat} {xv : Value} {cells news : List Value} {a : Addr}
    (hu : P.underlying t = some (.slice e)) (hi : P.info? e = some i) (hz : zeroOf P e = some z) (hlz : lenIs (cellsOf z) i.size = true) (hs : i.size = s) (hs1 : 1 ≤ s) (row : Gr lo h xv s k cells)
    (rd : Rd h a news) (hn : news.length = j * s) (hm : 1 ≤ j) (ha : allCells news = true) (hb : 2 * (k + j) * i.bytes ≤ 281474976710656) (hb2 : k + j ≤ 9223372036854775807) :
    ∃ v' h', aappend P h t t xv (.slice (some a) j c') = some (v', h') ∧ Row h.next h' v' s (k + j) (cells ++ news) ∧ Fr (At xv) h h' := by
  rcases row.2 with ⟨rfl, hk⟩ | ⟨b, c, hb1, rfl, hc, ow⟩
  · exact append_row2 (lo := lo) hu hi hz hlz hs hs1 ⟨row.1, .inl ⟨rfl, hk⟩⟩ rd hn hm ha hb hb2
  · rcases hc with rfl | rfl
    · exact append_row2 (lo := lo) hu hi hz hlz hs hs1 ⟨row.1, .inr ⟨b, hb1, rfl, ow⟩⟩ rd hn hm ha hb hb2
    · refine ⟨_, _, append_full hu hi hz hlz hs hs1 ow.all row.1 ?_ ?_ rd hn hm hb hb2, ⟨by rw [List.length_append, row.1, hn, Nat.add_mul], .inr ⟨_, Nat.le_refl _, rfl, Ow.push _ _⟩⟩, Fr.push _ _ _⟩
      · unfold isUnk exc
        show Nat.beq (2 * k % 2) 1 = false
        rw [show 2 * k % 2 = 0 by omega]; rfl
      · unfold half exc
        show 2 * k / 2 < k + j
        omega
end
end Go.Am
end
section
set_option linter.unusedVariables false
namespace Go.Am
open Go.RowKit
section
variable {P : Program} {n : Nat} {ops rest : List Oper} {E E1 : Env} {h h1 : Heap} {Q : Env → Heap → Prop}
theorem RunO.appendG {d : Tmp} {t ty e : TypeId} {x y : Operand} {pos : String} {after : Array Edge} {i : TypeInfo} {z : Value} {lo s k j c' : Nat} {xv : Value} {cells news : List Value} {a : Addr}
    (hx : gE E x = some xv) (hy : gE E y = some (.slice (some a) j c')) (hd : Nat.ble (Nat.succ d) n = true)
    (hu : P.underlying t = some (.slice e)) (hi : P.info? e = some i) (hz : zeroOf P e = some z) (hlz : lenIs (cellsOf z) i.size = true) (hs : i.size = s) (hs1 : 1 ≤ s) (row : Gr lo h xv s k cells)
    (rd : Rd h a news) (hn : news.length = j * s) (hm : 1 ≤ j) (ha : allCells news = true) (hb : 2 * (k + j) * i.bytes ≤ 281474976710656) (hb2 : k + j ≤ 9223372036854775807)
    (r : ∀ v' h', Row h.next h' v' s (k + j) (cells ++ news) → Fr (At xv) h h' → RunO P n ops rest (upd E d v') h' Q) : RunO P n ops (⟨some d, .call ⟨.builtin .append, #[x, y], #[t, t]⟩, ty, pos, after, none⟩ :: rest) E h Q := by
  obtain ⟨v', h', h1, h2, h3⟩ := append_gr (c' := c') hu hi hz hlz hs hs1 row rd hn hm ha hb hb2
  refine RunO.one rfl (v := v') (h1 := h') ?_ (by simp only [eput, hd, cond_true]) (r v' h' h2 h3)
  simp only [eop, gs, hx, hy, abuiltin, h1]
end
end Go.Am
end
section
set_option linter.unusedVariables false
namespace Go.Am
open Go.RowKit
section
variable {P : Program} {n : Nat} {ops rest : List Oper} {E E1 : Env} {h h1 : Heap} {Q : Env → Heap → Prop}
/-- A constant string's bytes, turned to their own type. -/
theorem RunO.mark {d : Tmp} {t ty e : TypeId} {x : Operand} {pos : String} {after : Array Edge} {b off k c : Nat} {cells : List Value}
    (hx : gE E x = some (.slice (some ⟨b, off, none⟩) k c)) (hc : isUnk c = false) (hu : P.underlying t = some (.slice e)) (he : P.underlying e = some (.int .u8)) (ow : Ow h b cells) (hn : ∃ y l, cells = y :: l) (hd : Nat.ble (Nat.succ d) n = true)
    (r : ∀ h', Ow h' b cells → Fr (· = b) h h' → RunO P n ops rest (upd E d (.slice (some ⟨b, off, none⟩) k c)) h' Q) : RunO P n ops (⟨some d, .convert t t x, ty, pos, after, none⟩ :: rest) E h Q := by
  obtain ⟨y, l, rfl⟩ := hn
  have e1 : aconvert P t t (.slice (some ⟨b, off, none⟩) k c) = none := by simp only [aconvert, hu]
  have e2 : amark P h t t (.slice (some ⟨b, off, none⟩) k c) = some (.slice (some ⟨b, off, none⟩) k c, h.put b (some ⟨y :: l, true⟩)) := by
    simp only [amark, Nat.beq_refl, cond_true, hc, cond_false, hu, he, ow.2]
  refine RunO.one (v := .slice (some ⟨b, off, none⟩) k c) (h1 := h.put b (some ⟨y :: l, true⟩)) rfl ?_ (by simp only [eput, hd, cond_true]) (r _ (Ow.put _ ow.1) (Fr.put _ (.inl rfl)))
  simp only [eop, hx, e1, e2]
end
theorem Row.lo2 {lo lo2 : Nat} {h : Heap} {v : Value} {s n : Nat} {cells : List Value} (r : Row lo h v s n cells) (hl : lo2 ≤ lo) : Row lo2 h v s n cells :=
  ⟨r.1, r.2.imp (fun x => x) (fun ⟨b, h1, h2⟩ => ⟨b, Nat.le_trans hl h1, h2⟩)⟩
end Go.Am
namespace Go.Am
open Go.RowKit
section
variable {P : Program} {n : Nat} {ops rest : List Oper} {E E1 : Env} {h h1 : Heap} {Q : Env → Heap → Prop}
end
end Go.Am
end
section
set_option linter.unusedVariables false
set_option linter.unusedSectionVars false
set_option maxRecDepth 100000
open Go Go.Am Go.RowKit
namespace Go.Proofs.Ytdcggjkcbheolaa
open Go.Proofs.Try
theorem leB4_len (x : Int) : (leB 4 x).length = 4 := leB_len _ _
theorem cat4_len (l : List Int) : (l.flatMap (leB 4)).length = l.length * 4 := by
  induction l with
  | nil => rfl
  | cons x l ih => rw [List.flatMap_cons, List.length_append, ih, leB4_len, List.length_cons]; omega
theorem nodB_eq {lv : Int} {ps : List Int} (hp : ps.length = 8) : sealB (([78, 79, 68, 69] ++ leB 4 lv) ++ ps.flatMap (leB 4)) = nodBlock lv ps := by
  match ps, hp with
  | [p0, p1, p2, p3, p4, p5, p6, p7], _ =>
    have := seal_make (mb := [78, 79, 68, 69]) (ss := [4, 4, 4, 4, 4, 4, 4, 4, 4]) (ns := [lv, p0, p1, p2, p3, p4, p5, p6, p7]) rfl rfl (by decide)
    have e2 : ([78, 79, 68, 69] ++ leB 4 lv) ++ [p0, p1, p2, p3, p4, p5, p6, p7].flatMap (leB 4) = [78, 79, 68, 69] ++ catB [4, 4, 4, 4, 4, 4, 4, 4, 4] [lv, p0, p1, p2, p3, p4, p5, p6, p7] := by
      simp only [catB, List.flatMap_cons, List.flatMap_nil, List.append_assoc, List.append_nil]
    rw [e2, this]; rfl
set_option maxHeartbeats 4000000 in
theorem refNodeBytes_ok {h : Heap} {lv : Int} {ps : List Int} (hp : ps.length = 8) (hl0 : 0 ≤ lv) (hl1 : lv ≤ 9223372036854775807) (hr : ∀ x ∈ ps, 0 ≤ x ∧ x ≤ 9223372036854775807) : RunF prog 54 [.agg ⟨nc lv ps⟩] h fun r h' => Row h.next h' r 1 64 (us (nodBlock lv ps)) ∧ Fr no h h' := by
  refine RunF.walk func54 rfl rfl ?_
  refine RunC.seq (RunC.region (RunO.all (h1 := h.push ⟨nc lv ps, true⟩) rfl ?_))
  have ow := Ow.push h (nc lv ps)
  have f1 : Fr no h (h.push ⟨nc lv ps, true⟩) := Fr.push _ _ _
  generalize h.push ⟨nc lv ps, true⟩ = h1 at *
  obtain ⟨qb, hqb⟩ : ∃ q, q = h.next := ⟨_, rfl⟩
  rw [← hqb] at ow ⊢
  have hp1 : qb < h1.next := ow.1
  refine RunC.seq (RunC.region (RunO.part 1 (h1 := h1.push ⟨us [78, 79, 68, 69], true⟩) rfl ?_))
  have om := Ow.push h1 (us [78, 79, 68, 69])
  have fm : Fr no h1 (h1.push ⟨us [78, 79, 68, 69], true⟩) := Fr.push _ _ _
  generalize h1.push ⟨us [78, 79, 68, 69], true⟩ = h1b at *
  obtain ⟨mp, hmp⟩ : ∃ q, q = h1.next := ⟨_, rfl⟩
  rw [← hmp] at om ⊢
  refine RunO.mark rfl rfl rfl rfl om ⟨_, _, rfl⟩ rfl ?_
  intro h2 om2 fm2
  have g0 : Gr mp h2 (.slice (some ⟨mp, 0, none⟩) 4 (exc 4)) 1 4 (us [78, 79, 68, 69]) := Gr.full om2 rfl (Nat.le_refl _)
  replace g0 := g0.lo (show qb + 1 ≤ mp by omega)
  replace ow := (ow.fr fm (fun g => g)).fr fm2 (fun g => by have g : qb = mp := g; omega)
  replace f1 := (f1.same fm).trans fm2 (fun b g => .inr (by have g : b = mp := g; have := f1.next; omega))
  clear om om2 fm fm2
  refine RunO.part 1 rfl ?_
  refine RunO.load (v := .int .i64 lv) rfl (ow.all.cell1 (k := 0) rfl rfl) rfl ?_
  refine RunO.callD (refBytes_ok (s := 4) (v := lv) (by decide) (by omega) (by omega)) rfl rfl rfl ?_
  rintro _ a0 ⟨row, f2⟩
  have hr0 := f2.next
  replace ow := ow.fr f2 (fun g => g)
  have hq0 := ow.1
  replace g0 := g0.fr0 f2
  replace f1 := f1.same f2
  obtain ⟨b_, o_, c_, rfl, _, rd⟩ := (row.sl (by decide)).nz (by decide)
  refine RunO.appendG (s := 1) (j := 4) rfl rfl rfl rfl rfl rfl rfl rfl (by decide) g0 rd (by rw [us_len, leB_len]) (by decide) (allCells_map (f := Value.int .u8) (fun _ => rfl) _) (by decide) (by decide) ?_
  intro w0 c0 row0 f3
  replace ow := ow.fr f3 (fun g => by have := (g0.at g).1; omega)
  replace f1 := f1.trans f3 (fun b a => .inr (by have := (g0.at a).1; omega))
  have hn0 := f3.next
  have g1 : Row (qb + 1) c0 w0 1 8 (us (([78, 79, 68, 69] ++ leB 4 lv) ++ (ps.take 0).flatMap (leB 4))) := by rw [List.take_zero, List.flatMap_nil, List.append_nil, us_app]; exact row0.lo2 (by omega)
  clear rd row f2 f3 g0 row0
  refine RunO.all rfl ?_
  refine RunC.seq (RunC.seq (RunC.region (RunO.all rfl ?_)))
  refine RunC.block ?_
  refine RunC.loop (fun d E h' => ∃ (i : Nat) (w : Value), i + d = 8 ∧ Fr no h h' ∧ Ow h' qb (nc lv ps) ∧ Row (qb + 1) h' w 1 (8 + 4 * i) (us (([78, 79, 68, 69] ++ leB 4 lv) ++ (ps.take i).flatMap (leB 4))) ∧ Le ((upd (upd (upd E0 1 (.pointer (some ⟨qb, 0, none⟩))) 3 w) 4 (.int .i64 (i : Int)))) E) ?st (k := 8) ?ini
  case ini => exact ⟨0, w0, rfl, f1, ow, g1, Le.cons rfl (Le.cons rfl (Le.cons rfl (Le.nil _)))⟩
  clear g1 ow f1
  rintro d E g ⟨i, w, hi, f1, ow, g0, hE⟩
  refine RunC.le hE ?_
  clear hE
  refine RunC.seq (RunC.seq (RunC.region (RunO.all rfl ?_)))
  refine RunC.cond rfl (fun hlt => RunC.skip ?go) (fun hge => RunC.exit ?ex)
  case ex =>
    have hge := of_decide_eq_false hge
    obtain rfl : i = 8 := by omega
    rw [List.take_of_length_le (by omega)] at g0
    have hcl := cat4_len ps
    have hll : (([78, 79, 68, 69] ++ leB 4 lv) ++ ps.flatMap (leB 4)).length = 40 := by rw [List.length_append, List.length_append, hcl, hp, leB4_len]; rfl
    refine RunC.seq (RunC.region (RunO.part 1 rfl ?_))
    have hqg := ow.1
    refine RunO.callD (refSeal_ok g0 (by omega) (by omega) (by omega)) rfl rfl rfl ?_
    rintro _ h9 ⟨row9, f9⟩
    rw [nodB_eq hp] at row9
    exact RunO.all rfl (RunC.ret ⟨_, rfl, Row.lo2 row9 (by omega), f1.trans f9 (fun b g => .inr (by have : qb + 1 ≤ b := g; omega))⟩)
  have hlt := of_decide_eq_true hlt
  have h1 : i < ps.length := by omega
  have hx := hr ps[i] (List.getElem_mem h1)
  have hcell : apart prog 3 (nc lv ps) (1 + i * 1) = some (.int .i64 ps[i]) := by
    show nth (nc lv ps) (1 + i * 1) = _
    rw [nth_eq, show 1 + i * 1 = i + 1 by omega]
    unfold nc is
    rw [List.getElem?_cons_succ, List.getElem?_map, List.getElem?_eq_getElem h1]; rfl
  refine RunC.seq (RunC.block ?_)
  refine RunC.region (RunO.part 3 rfl ?_)
  refine RunO.indexA (s := 1) (k := i) rfl rfl rfl rfl rfl (by omega) rfl ?_
  refine RunO.load (v := .int .i64 ps[i]) rfl (ow.ld hcell) rfl ?_
  refine RunO.callD (refBytes_ok (s := 4) (v := ps[i]) (by decide) (by omega) (by omega)) rfl rfl rfl ?_
  rintro _ a1 ⟨row, f2⟩
  have hr1 := f2.next
  have ow2 := ow.fr f2 (fun g => g)
  have g02 := (g0.fr f2 (fun _ _ _ g => g))
  have f12 := f1.same f2
  obtain ⟨b_, o_, c_, rfl, _, rd⟩ := (row.sl (by decide)).nz (by decide)
  refine RunO.appendG (s := 1) (j := 4) rfl rfl rfl rfl rfl rfl rfl rfl (by decide) g02.gr rd (by rw [us_len, leB_len]) (by decide) (allCells_map (f := Value.int .u8) (fun _ => rfl) _) (by show 2 * (8 + 4 * i + 4) * 1 ≤ _; omega) (by omega) ?_
  intro w1 c1 row1 f3
  refine RunO.all rfl ?_
  refine RunC.region (RunO.all rfl ?_)
  have hn1 := f3.next
  refine ⟨d - 1, by omega, i + 1, w1, by omega, f12.trans f3 (fun b a => .inr (by have := (g02.at a).1; omega)), ow2.fr f3 (fun a => by have := (g02.at a).1; omega), ?_, Le.cons (inc64x (by omega)) (Le.cons rfl (Le.cons rfl (Le.nil _)))⟩
  have := row1.lo2 (lo2 := qb + 1) (by have := ow2.1; omega)
  rw [← us_app, List.append_assoc] at this
  rw [List.take_succ_eq_append_getElem h1, List.flatMap_append, List.flatMap_cons, List.flatMap_nil, List.append_nil]
  exact this
end Go.Proofs.Ytdcggjkcbheolaa
end
section
set_option linter.unusedVariables false
set_option linter.unusedSectionVars false
set_option maxRecDepth 100000
open Go Go.Am Go.RowKit
namespace Go.Proofs.Ytdcggjkcbheolaa
open Go.Proofs.Try

/- The page's new tree, level by level. -/
def rbV (m o : List Int) (W : Nat → List Int) (fr : List Int) (l i : Nat) : Int :=
  if zrB m l i then 0 else if smB m o l i then (W l).getD i 0 else (if (freP m o l i).length < fr.length then fr.getD (freP m o l i).length 0 else 2)
def rbA (m o : List Int) (W : Nat → List Int) (fr : List Int) : Nat → List Int
  | 0 => m
  | l + 1 => (List.range (lvN l)).map (rbV m o W fr l)
def rbP (m o : List Int) (W : Nat → List Int) (fr : List Int) (l i : Nat) : List Int := (List.range 8).map fun k => (rbA m o W fr l).getD (8 * i + k) 0
def rbIo (m o : List Int) (W : Nat → List Int) (fr : List Int) (x : Nat × Nat) (c : Int) : IoT := (1, c, nodBlock (x.1 : Int) (rbP m o W fr x.1 x.2), ())
def rbW (m o : List Int) (W : Nat → List Int) (fr : List Int) (l i : Nat) : List IoT := List.zipWith (rbIo m o W fr) (freP m o l i) fr
def anB (m o : List Int) (W : Nat → List Int) (fr : List Int) (l i k : Nat) : Bool := (List.range k).any fun j => (rbA m o W fr l).getD (8 * i + j) 0 != 0
def kpB (m o : List Int) (l i k : Nat) : Bool := (List.range k).all fun j => if l = 0 then m.getD (8 * i + j) 0 == o.getD (8 * i + j) 0 else smB m o (l - 1) (8 * i + j)
theorem rbA_len {m o : List Int} {W : Nat → List Int} {fr : List Int} (hm : m.length = 512) {l : Nat} (hl : l < 3) : (rbA m o W fr l).length = lvN l * 8 := by
  match l, hl with
  | 0, _ => rw [rbA, hm]; rfl
  | 1, _ => rw [rbA, List.length_map, List.length_range]; rfl
  | 2, _ => rw [rbA, List.length_map, List.length_range]; rfl
theorem rbP_len (m o : List Int) (W : Nat → List Int) (fr : List Int) (l i : Nat) : (rbP m o W fr l i).length = 8 := by unfold rbP; rw [List.length_map]; rfl
theorem rbA_get {m o : List Int} {W : Nat → List Int} {fr : List Int} {l q : Nat} (hq : q < lvN l) : (rbA m o W fr (l + 1)).getD q 0 = rbV m o W fr l q := by
  rw [rbA, List.getD_eq_getElem?_getD, List.getElem?_map, List.getElem?_range hq]; rfl
theorem under_kid {l i s : Nat} (hl : l < 2) : under (l + 1) i s ↔ ∃ k, k < 8 ∧ under l (8 * i + k) s := by
  unfold under
  match l, hl with
  | 0, _ =>
    simp only [Nat.reduceAdd, Nat.reducePow]
    exact ⟨fun h => ⟨(s - i * 64) / 8, by omega, by omega⟩, fun ⟨k, h1, h2⟩ => by omega⟩
  | 1, _ =>
    simp only [Nat.reduceAdd, Nat.reducePow]
    exact ⟨fun h => ⟨(s - i * 512) / 64, by omega, by omega⟩, fun ⟨k, h1, h2⟩ => by omega⟩
theorem kid_lt {l i k : Nat} (hl : l < 2) (hi : i < lvN (l + 1)) (hk : k < 8) : 8 * i + k < lvN l := by
  match l, hl with
  | 0, _ => have : i < 8 := hi; show _ < 64; omega
  | 1, _ => have : i < 1 := hi; show _ < 8; omega
theorem zr_kid {m : List Int} (hm : m.length = 512) {l i : Nat} (hl : l < 2) (hi : i < lvN (l + 1)) : zrB m (l + 1) i = true ↔ ∀ k, k < 8 → zrB m l (8 * i + k) = true := by
  rw [zr_iff hm (by omega) hi]
  constructor
  · intro h k hk
    exact (zr_iff hm (by omega) (kid_lt hl hi hk)).2 (fun s hs => h s ((under_kid hl).2 ⟨k, hk, hs⟩))
  · intro h s hs
    obtain ⟨k, hk, hu⟩ := (under_kid hl).1 hs
    exact (zr_iff hm (by omega) (kid_lt hl hi hk)).1 (h k hk) s hu
theorem sm_kid {m o : List Int} (hm : m.length = 512) (ho : o.length = 512) {l i : Nat} (hl : l < 2) (hi : i < lvN (l + 1)) : smB m o (l + 1) i = true ↔ ∀ k, k < 8 → smB m o l (8 * i + k) = true := by
  rw [sm_iff hm ho (by omega) hi]
  constructor
  · intro h k hk
    exact (sm_iff hm ho (by omega) (kid_lt hl hi hk)).2 (fun s hs => h s ((under_kid hl).2 ⟨k, hk, hs⟩))
  · intro h s hs
    obtain ⟨k, hk, hu⟩ := (under_kid hl).1 hs
    exact (sm_iff hm ho (by omega) (kid_lt hl hi hk)).1 (h k hk) s hu
theorem rbV_ne {m o : List Int} {W : Nat → List Int} {fr : List Int} (hfr : ∀ i, i < fr.length → fr.getD i 0 ≠ 0) {l q : Nat} (hW : zrB m l q = false → smB m o l q = true → (W l).getD q 0 ≠ 0) : (rbV m o W fr l q != 0) = !zrB m l q := by
  unfold rbV
  cases hz : zrB m l q with
  | true => rw [if_pos rfl]; rfl
  | false =>
    rw [if_neg Bool.false_ne_true]
    cases hs : smB m o l q with
    | true => rw [if_pos rfl]; exact bne_iff_ne.2 (hW hz hs)
    | false =>
      rw [if_neg Bool.false_ne_true]
      split
      · rename_i h; exact bne_iff_ne.2 (hfr _ h)
      · rfl
theorem anB_all {m o : List Int} {W : Nat → List Int} {fr : List Int} (hm : m.length = 512) (hfr : ∀ i, i < fr.length → fr.getD i 0 ≠ 0) (hW : ∀ l q, l < 3 → q < lvN l → zrB m l q = false → smB m o l q = true → (W l).getD q 0 ≠ 0) {l i : Nat} (hl : l < 3) (hi : i < lvN l) :
    anB m o W fr l i 8 = !zrB m l i := by
  rw [← Bool.not_not (anB m o W fr l i 8)]
  congr 1
  rw [Bool.eq_iff_iff, Bool.not_eq_true']
  unfold anB
  rw [List.any_eq_false]
  match l, hl with
  | 0, _ =>
    have hi : i < 64 := hi
    rw [zr_iff hm (by omega) hi]
    constructor
    · intro h s hs
      have hs : i * 8 ≤ s ∧ s < i * 8 + 8 := hs
      have := h (s - 8 * i) (List.mem_range.2 (by omega))
      rw [rbA, show 8 * i + (s - 8 * i) = s by omega] at this
      simpa using this
    · intro h k hk
      have hk := List.mem_range.1 hk
      have := h (8 * i + k) (show i * 8 ≤ 8 * i + k ∧ 8 * i + k < i * 8 + 8 by omega)
      rw [rbA, this]; decide
  | l + 1, hl =>
    rw [zr_kid hm (by omega) hi]
    constructor
    · intro h k hk
      have := h k (List.mem_range.2 hk)
      have hq := kid_lt (by omega) hi hk
      rw [rbA_get hq, rbV_ne hfr (hW l _ (by omega) hq)] at this
      simpa using this
    · intro h k hk
      have hk := List.mem_range.1 hk
      have hq := kid_lt (by omega) hi hk
      rw [rbA_get hq, rbV_ne hfr (hW l _ (by omega) hq), h k hk]; decide
theorem kpB_all {m o : List Int} (hm : m.length = 512) (ho : o.length = 512) {l i : Nat} (hl : l < 3) (hi : i < lvN l) : kpB m o l i 8 = smB m o l i := by
  rw [Bool.eq_iff_iff]
  unfold kpB
  rw [List.all_eq_true]
  match l, hl with
  | 0, _ =>
    have hi : i < 64 := hi
    rw [sm_iff hm ho (by omega) hi]
    constructor
    · intro h s hs
      have hs : i * 8 ≤ s ∧ s < i * 8 + 8 := hs
      have := h (s - 8 * i) (List.mem_range.2 (by omega))
      rw [if_pos rfl, show 8 * i + (s - 8 * i) = s by omega] at this
      exact beq_iff_eq.1 this
    · intro h k hk
      have hk := List.mem_range.1 hk
      rw [if_pos rfl]
      exact beq_iff_eq.2 (h (8 * i + k) (show i * 8 ≤ 8 * i + k ∧ 8 * i + k < i * 8 + 8 by omega))
  | l + 1, hl =>
    rw [sm_kid hm ho (by omega) hi]
    constructor
    · intro h k hk
      have := h k (List.mem_range.2 hk)
      rwa [if_neg (by omega)] at this
    · intro h k hk
      have hk := List.mem_range.1 hk
      rw [if_neg (by omega)]
      exact h k hk
/- Beside the code's. -/
theorem freP_pre1 (m o : List Int) (l : Nat) : ∀ d n, freP m o l n <+: freP m o l (n + d)
  | 0, n => List.prefix_refl _
  | d + 1, n => by
    rw [show n + (d + 1) = (n + d) + 1 by omega, freP_succ]
    exact (freP_pre1 m o l d n).trans (List.prefix_append _ _)
theorem freP_preL (m o : List Int) (l : Nat) : ∀ d, freP m o l 0 <+: freP m o (l + d) 0
  | 0 => List.prefix_refl _
  | d + 1 => by
    refine (freP_preL m o l d).trans ?_
    rw [show l + (d + 1) = (l + d) + 1 by omega, ← freP_next]
    have := freP_pre1 m o (l + d) (lvN (l + d)) 0
    rwa [Nat.zero_add] at this
theorem freP_pre {m o : List Int} {l n : Nat} (hl : l < 3) (hn : n ≤ lvN l) : freP m o l n <+: freP m o 3 0 := by
  have h1 := freP_pre1 m o l (lvN l - n) n
  rw [show n + (lvN l - n) = lvN l by omega, freP_next] at h1
  have h2 := freP_preL m o (l + 1) (2 - l)
  rw [show l + 1 + (2 - l) = 3 by omega] at h2
  exact h1.trans h2
/-- A new node's place in the order. -/
theorem freP_idx {m o : List Int} {l n : Nat} (hl : l < 3) (hn : n < lvN l) (h : newB m o l n = true) : ∃ hj : (freP m o l n).length < (freP m o 3 0).length, (freP m o 3 0)[(freP m o l n).length] = (l, n) := by
  have hp := freP_pre (m := m) (o := o) hl (show n + 1 ≤ lvN l by omega)
  rw [freP_succ, h, if_pos rfl] at hp
  obtain ⟨t, ht⟩ := hp
  have e : (freP m o 3 0)[(freP m o l n).length]? = some (l, n) := by
    rw [← ht, List.append_assoc, List.getElem?_append_right (Nat.le_refl _), Nat.sub_self]; rfl
  obtain ⟨hj, e2⟩ := List.getElem?_eq_some_iff.1 e
  exact ⟨hj, e2⟩
section
variable {L : List Int} {root : Int} {m fr : List Int} (bp : BP L root m fr)
include bp
theorem BP.eV {l q : Nat} (hl : l < 3) (hq : q < lvN l) : rbV m (treeM L root) (wasT L (L.length / 64) root) fr l q = bldV L root m fr l q := by
  have hlen := bp.need
  unfold rbV
  rcases bp.val hl hq with ⟨j, hj, e1, e2, e3⟩ | ⟨e1, e2⟩ | ⟨e1, e2, e3, e4⟩
  · have hn := (bp.pos hj).2.2
    rw [e1] at hn
    have hs : smB m (treeM L root) l q = false := by
      unfold newB at hn
      rw [Bool.not_eq_true', Bool.or_eq_false_iff] at hn
      exact hn.2
    obtain ⟨hj2, e4⟩ := freP_idx hl hq hn
    have hje : (freP m (treeM L root) l q).length = j := freP_inj (m := m) (o := treeM L root) hj2 hj (by rw [e4]; exact e1.symm)
    have hj3 : j < (freN L root m).length := hj
    rw [e3, hs, hje, if_neg Bool.false_ne_true, if_neg Bool.false_ne_true, if_pos (by omega), e2]
  · rw [e1, if_pos rfl, e2]
  · rw [e1, e2, if_neg Bool.false_ne_true, if_pos rfl, e3]
    unfold wasT
    rw [List.getD_eq_getElem?_getD, List.getElem?_map, List.getElem?_range hq]; rfl
theorem BP.eA {d q : Nat} (hd : d ≤ 3) (hq : q < 8 ^ d) : (rbA m (treeM L root) (wasT L (L.length / 64) root) fr (3 - d)).getD q 0 = bldX L root m fr d q := by
  unfold bldX
  by_cases h3 : d = 3
  · subst h3
    rw [if_pos rfl]; rfl
  · rw [if_neg h3, show 3 - d = (2 - d) + 1 by omega]
    have hq2 : q < lvN (2 - d) := by unfold lvN; rw [show 2 - (2 - d) = d by omega]; exact hq
    rw [rbA_get hq2, bp.eV (by omega) hq2]
theorem BP.eP {l q : Nat} (hl : l < 3) (hq : q < lvN l) : rbP m (treeM L root) (wasT L (L.length / 64) root) fr l q = ptrOf m (bldW L root m fr).1 l q := by
  apply List.ext_getElem?
  intro k
  by_cases hk : k < 8
  · have hq8 : q * 8 + k < 8 ^ (3 - l) := by
      have : q < 8 ^ (2 - l) := hq
      rw [show 3 - l = (2 - l) + 1 by omega, Nat.pow_succ]; omega
    rw [bp.ptrGet hl hq hk]
    unfold rbP
    rw [List.getElem?_map, List.getElem?_range hk]
    have := bp.eA (d := 3 - l) (by omega) hq8
    rw [show 3 - (3 - l) = l by omega] at this
    rw [← this, Nat.mul_comm q 8]; rfl
  · rw [List.getElem?_eq_none (by rw [rbP_len]; omega), List.getElem?_eq_none (by rw [bp.ptrLen hl hq]; omega)]
theorem BP.eW : rbW m (treeM L root) (wasT L (L.length / 64) root) fr 3 0 = (bldW L root m fr).2 := by
  have hlen := bp.need
  have hF : freP m (treeM L root) 3 0 = freN L root m := rfl
  unfold rbW
  rw [hF]
  apply List.ext_getElem?
  intro j
  by_cases hj : j < (freN L root m).length
  · rw [bp.out hj, bp.nodD_eq hj, List.getElem?_zipWith, List.getElem?_eq_getElem hj, List.getElem?_eq_getElem (by omega)]
    have h3 := bp.pos hj
    show some (rbIo m (treeM L root) (wasT L (L.length / 64) root) fr (freN L root m)[j] _) = _
    unfold rbIo
    rw [bp.eP h3.1 h3.2.1, List.getD_eq_getElem?_getD, List.getElem?_eq_getElem (by omega)]; rfl
  · rw [List.getElem?_eq_none (by rw [List.length_zipWith]; omega), List.getElem?_eq_none (by rw [bp.outLen]; omega)]
theorem BP.eR (hb : Byt L) : (rbA m (treeM L root) (wasT L (L.length / 64) root) fr 3).getD 0 0 = bldR L root m fr := by
  have := bp.eA (d := 0) (q := 0) (by decide) (by decide)
  rw [show 3 - 0 = 3 from rfl] at this
  rw [this, bp.root0 hb]
end
/-- An old tree's node that leads to a sector is one. -/
theorem was_ne {L m : List Int} {root : Int} (te : treeE L root = 0) (hd : devOk L.length = true) (hm : m.length = 512) {l q : Nat} (hl : l < 3) (hq : q < lvN l) (hz : zrB m l q = false) (hs : smB m (treeM L root) l q = true) : (wasT L (L.length / 64) root l).getD q 0 ≠ 0 := by
  intro e
  have hB := hd
  unfold devOk at hB
  have ht : TreeIs L root (treeM L root) := (TreeIs.of (by have : L.length % 64 = 0 ∧ 4 ≤ L.length / 64 ∧ L.length / 64 ≤ 4096 := by simpa using hB
                                                           omega) (treeE_ok te).1).1
  have e : look L (L.length / 64) (2 - l) root q = 0 := by
    have e2 : (wasT L (L.length / 64) root l).getD q 0 = look L (L.length / 64) (2 - l) root q := by
      unfold wasT
      rw [List.getD_eq_getElem?_getD, List.getElem?_map, List.getElem?_range hq]; rfl
    rw [← e2, e]
  have : zrB m l q = true := (zr_iff hm hl hq).2 (fun s hu => by
    rw [(sm_iff hm (treeM_len L root) hl hq).1 hs s hu]
    obtain ⟨h1, h2⟩ := und_div hl hq hu
    have hc := look_comp L (L.length / 64) (2 - l) (l + 1) root s (by rw [show 2 - l + (l + 1) = 3 by omega]; simpa using h1)
    rw [show 2 - l + (l + 1) = 3 by omega, h2, e, ht.map s h1] at hc
    rw [hc]
    exact look_zero ..)
  rw [hz] at this
  cases this
end Go.Proofs.Ytdcggjkcbheolaa
end
section
set_option linter.unusedVariables false
set_option maxRecDepth 100000
open Go Go.Am Go.RowKit
namespace Go.Proofs.Ytdcggjkcbheolaa
open Go.Proofs.Try
def bs (l : List Bool) : List Value := l.map Value.bool
theorem bs_len (l : List Bool) : (bs l).length = l.length := List.length_map _
theorem bs_part {l : List Bool} {i : Nat} (h : i < l.length) : apart prog 4 (bs l) (i * 1) = some (.bool l[i]) := by
  show nth (bs l) (i * 1) = _
  rw [Nat.mul_one, nth_eq, bs, List.getElem?_map, List.getElem?_eq_getElem h]; rfl
theorem bs_set (l : List Bool) (i : Nat) (x : Bool) : (bs l).set i (.bool x) = bs (l.set i x) := by unfold bs; rw [List.map_set]
/-- The page's walk through a tree, as cells. -/
def rwc (iv : Value) (B sb db mb : Nat) (nv : Value) (ok : Bool) : List Value := [iv, .int .i64 (B : Int), nv, .slice (some ⟨sb, 0, none⟩) B (exc B), .slice (some ⟨db, 0, none⟩) B (exc B), .slice (some ⟨mb, 0, none⟩) 512 (exc 512), .bool ok]
structure RW (lo : Nat) (h : Heap) (iv : Value) (B wb sb db mb : Nat) (nv : Value) (m ns : List Int) (sn dt : List Bool) (ok : Bool) : Prop where
  ow : Ow h wb (rwc iv B sb db mb nv ok)
  os : Ow h sb (bs sn)
  od : Ow h db (bs dt)
  om : Ow h mb (is m)
  row : Row lo h nv 1 ns.length (is ns)
  lm : m.length = 512
  ls : sn.length = B
  ld : dt.length = B
  ln : lo ≤ h.next
structure RB (lo wb sb db mb : Nat) : Prop where
  w : wb < lo
  s : sb < lo
  d : db < lo
  m : mb < lo
  ws : wb ≠ sb
  wd : wb ≠ db
  wm : wb ≠ mb
  sd : sb ≠ db
  sm : sb ≠ mb
  dm : db ≠ mb
def RM (lo wb sb db mb : Nat) : Nat → Prop := fun b => b = wb ∨ b = sb ∨ b = db ∨ b = mb ∨ lo ≤ b
/-- What a walk writes: its own blocks, the row of the nodes. -/
def RR (wb sb db mb : Nat) (nv : Value) : Nat → Prop := fun b => b = wb ∨ b = sb ∨ b = db ∨ b = mb ∨ At nv b
/-- Seen are the nodes, data the map's. -/
def Cpl (B : Nat) (m ns : List Int) (sn dt : List Bool) : Prop := (∀ i, i < B → sn.getD i false = ns.contains (i : Int)) ∧ ∀ i, 0 < i → i < B → dt.getD i false = m.contains (i : Int)
theorem RW.quiet {lo : Nat} {h h' : Heap} {iv : Value} {B wb sb db mb : Nat} {nv : Value} {m ns : List Int} {sn dt : List Bool} {ok : Bool} (t : RW lo h iv B wb sb db mb nv m ns sn dt ok) (f : Fr no h h') : RW lo h' iv B wb sb db mb nv m ns sn dt ok :=
  ⟨t.ow.fr f (fun g => g), t.os.fr f (fun g => g), t.od.fr f (fun g => g), t.om.fr f (fun g => g), t.row.fr f (fun _ _ _ g => g), t.lm, t.ls, t.ld, Nat.le_trans t.ln f.next⟩
/-- Ok is put down. -/
theorem RW.fail {lo : Nat} {h : Heap} {iv : Value} {B wb sb db mb : Nat} {nv : Value} {m ns : List Int} {sn dt : List Bool} {ok : Bool} (rb : RB lo wb sb db mb) (t : RW lo h iv B wb sb db mb nv m ns sn dt ok) (x : Bool) :
    astore prog h 4 ⟨wb, 6, none⟩ (.bool x) = some (h.put wb (some ⟨rwc iv B sb db mb nv x, true⟩)) ∧ RW lo (h.put wb (some ⟨rwc iv B sb db mb nv x, true⟩)) iv B wb sb db mb nv m ns sn dt x ∧ Fr (RR wb sb db mb nv) h (h.put wb (some ⟨rwc iv B sb db mb nv x, true⟩)) := by
  have f : Fr (· = wb) h (h.put wb (some ⟨rwc iv B sb db mb nv x, true⟩)) := Fr.put _ (.inl rfl)
  refine ⟨store1_ow t.ow rfl rfl rfl (Nat.le_of_ble_eq_true rfl), ⟨Ow.put _ t.ow.1, t.os.fr f (fun e => rb.ws e.symm), t.od.fr f (fun e => rb.wd e.symm), t.om.fr f (fun e => rb.wm e.symm), t.row.fr f (fun b h1 _ e => by have := rb.w; omega), t.lm, t.ls, t.ld, t.ln⟩, f.weak (fun i e => .inl (.inl e))⟩
theorem contains_set0 {m : List Int} {k : Nat} {p : Int} (hk : k < m.length) (h0 : m.getD k 0 = 0) {x : Int} (hx : x ≠ 0) : (m.set k p).contains x = (x == p || m.contains x) := by
  rw [Bool.eq_iff_iff]
  simp only [List.contains_eq_mem, decide_eq_true_eq, Bool.or_eq_true, beq_iff_eq]
  constructor
  · intro h
    rcases List.mem_or_eq_of_mem_set h with g | g
    · exact .inr g
    · exact .inl g
  · rintro (rfl | h)
    · exact List.mem_of_getElem? (List.getElem?_set_self hk)
    · obtain ⟨j, hj⟩ := List.getElem?_of_mem h
      have hne : k ≠ j := by
        intro e; subst e
        rw [List.getD_eq_getElem?_getD, hj] at h0
        exact hx h0
      exact List.mem_of_getElem? (by rw [List.getElem?_set_ne hne]; exact hj)
theorem getD_setB (l : List Bool) (k s : Nat) (p : Bool) (hk : k < l.length) : (l.set k p).getD s false = if s = k then p else l.getD s false := by
  rw [List.getD_eq_getElem?_getD, List.getElem?_set]
  by_cases e : k = s
  · subst e; rw [if_pos rfl, if_pos hk, if_pos rfl]; rfl
  · rw [if_neg e, if_neg (fun g => e g.symm), List.getD_eq_getElem?_getD]
theorem sl_rm {h h' : Heap} {iv : Value} {n s : Nat} {cs : List Value} {M : Nat → Prop} (sl : Sl h iv s n cs) (hn : ∀ b o c, iv = .slice (some ⟨b, o, none⟩) n c → ¬ M b) (f : Fr M h h') : Sl h' iv s n cs := by
  refine ⟨sl.1, sl.2.1, sl.2.2.imp (fun y => y) ?_⟩
  rintro ⟨b, o, c, h1, h2, h3⟩
  exact ⟨b, o, c, h1, h2, h3.fr f (hn b o c h1)⟩
/-- A walk that has failed goes no further. -/
theorem rnode_dead {h : Heap} {lo : Nat} {iv : Value} {B wb sb db mb : Nat} {nv : Value} {m ns : List Int} {sn dt : List Bool} {at_ lv from_ : Int} (rb : RB lo wb sb db mb) (t : RW lo h iv B wb sb db mb nv m ns sn dt false) :
    RunF prog 51 [.pointer (some ⟨wb, 0, none⟩), .int .i64 at_, .int .i64 lv, .int .i64 from_] h fun v h' => v = .tuple #[] ∧ RW lo h' iv B wb sb db mb nv m ns sn dt false ∧ Fr (RR wb sb db mb nv) h h' := by
  refine RunF.walk func51 rfl rfl ?_
  have ow := t.ow
  obtain ⟨e1, e2, e3⟩ := t.fail rb false
  refine RunC.seq (RunC.seq (RunC.region (RunO.part 3 rfl ?_)))
  refine RunO.load (v := .bool false) rfl (ow.ld rfl) rfl (RunO.all rfl ?_)
  refine RunC.cond rfl (fun _ => ?_) (fun g => by cases g)
  refine RunC.seq (RunC.region (RunO.part 3 rfl ?_))
  refine RunO.store rfl rfl e1 (RunO.all rfl ?_)
  exact RunC.ret ⟨_, rfl, rfl, e2, e3⟩
theorem tstep_none {r : Int → Nat → TS → TS} {B : Nat} {leaf : Bool} {w : TS} {t : Nat} (hB : 1 ≤ B) : tstep r B leaf w 0 t = w := by
  unfold tstep
  rw [show decide ((0 : Int) ≥ (B : Int)) = false from decide_eq_false (by omega)]
  cases w.2.2 <;> cases leaf <;> rfl
def RNodeOk (L : List Int) (B lo wb sb db mb : Nat) (iv : Value) (lv : Nat) : Prop := ∀ {h : Heap} {nv : Value} {m ns : List Int} {sn dt : List Bool} {at_ : Int} {from_ : Nat},
    Sl h iv 1 L.length (us L) → RW lo h iv B wb sb db mb nv m ns sn dt true → Cpl B m ns sn dt → ns.length + nN lv ≤ 100000 → from_ + 8 ^ (lv + 1) ≤ 512 → (∀ s, from_ ≤ s → s < from_ + 8 ^ (lv + 1) → m.getD s 0 = 0) →
    RunF prog 51 [.pointer (some ⟨wb, 0, none⟩), .int .i64 at_, .int .i64 (lv : Int), .int .i64 (from_ : Int)] h fun v h' => v = .tuple #[] ∧ Fr (RR wb sb db mb nv) h h' ∧ ∃ nv' m' ns' sn' dt' ok', RW lo h' iv B wb sb db mb nv' m' ns' sn' dt' ok' ∧ (∀ b, At nv' b → At nv b ∨ h.next ≤ b) ∧ ns'.length ≤ ns.length + nN lv ∧
      ok' = !(tgo L B lv at_ from_ (m, ns, false)).2.2 ∧ (ok' = true → tgo L B lv at_ from_ (m, ns, false) = (m', ns', false) ∧ Cpl B m' ns' sn' dt')
theorem refIn10_ok {h : Heap} {a lo hi : Int} : RunF prog 75 [.int .i64 a, .int .i64 lo, .int .i64 hi] h fun v h' => v = .bool (inB a lo hi) ∧ h = h' := by
  refine RunF.walk func75 rfl rfl ?_
  refine RunC.seq (RunC.region (RunO.all rfl ?_))
  refine RunC.seq (RunC.region (RunO.part 4 rfl ?_))
  unfold inB
  cases decide (a ≥ lo) with
  | true => exact RunO.all rfl (RunC.ret ⟨_, rfl, by simp, rfl⟩)
  | false => exact RunO.all rfl (RunC.ret ⟨_, rfl, by simp, rfl⟩)
theorem atIn_inB {B : Nat} {a : Int} (hB : B ≤ 4096) : inB a 2 (fwrap .i64 ((B : Int) - 1)) = atIn B a := by
  rw [fw64 (by omega) (by omega), Bool.eq_iff_iff, inB_iff, atIn_iff]
  omega
set_option maxHeartbeats 16000000 in
theorem rnode_body {L : List Int} {B lo wb sb db mb : Nat} {iv : Value} (hb : Byt L) (hB : B * 64 ≤ L.length) (hB1 : 1 ≤ B) (hB2 : B ≤ 4096) (hm : L.length ≤ 4611686018427387904) (rb : RB lo wb sb db mb) (hiv : ∀ b o c, iv = .slice (some ⟨b, o, none⟩) L.length c → ¬ RM lo wb sb db mb b)
    {lv : Nat} (hlv : lv ≤ 2) (hrec : ∀ k, lv = k + 1 → RNodeOk L B lo wb sb db mb iv k) : RNodeOk L B lo wb sb db mb iv lv := by
  intro h nv m ns sn dt at_ from_ sl t hcp hns hfrom hz
  have hlv8 : 8 ^ lv ≤ 64 := by
    have : 8 ^ lv ≤ 8 ^ 2 := Nat.pow_le_pow_right (by decide) hlv
    exact this
  have hp8 : 8 ^ (lv + 1) = 8 ^ lv * 8 := Nat.pow_succ ..
  have hpos : 1 ≤ 8 ^ lv := Nat.pow_pos (by decide)
  have hgo : tgo L B lv at_ from_ (m, ns, false) = if (!atIs L B at_ (lv : Int) || ns.contains at_) = true then (m, ns, true) else (List.range 8).foldl (tst L B lv (atV L B at_).2 from_) (m, ns ++ [at_], false) := tgo_eq ..
  rw [hgo]
  clear hgo
  have hbad : ∀ {h' : Heap} {nv' : Value} {m' ns' : List Int} {sn' dt' : List Bool} {ok : Bool} {T : TS}, RW lo h' iv B wb sb db mb nv' m' ns' sn' dt' ok → Fr (RR wb sb db mb nv) h h' → (∀ b, At nv' b → At nv b ∨ h.next ≤ b) → ns'.length ≤ ns.length + nN lv → T.2.2 = true →
      ∃ h'', astore prog h' 4 ⟨wb, 6, none⟩ (.bool false) = some h'' ∧ Value.tuple #[] = .tuple #[] ∧ Fr (RR wb sb db mb nv) h h'' ∧ ∃ nv' m' ns' sn' dt' ok', RW lo h'' iv B wb sb db mb nv' m' ns' sn' dt' ok' ∧ (∀ b, At nv' b → At nv b ∨ h.next ≤ b) ∧ ns'.length ≤ ns.length + nN lv ∧ ok' = !T.2.2 ∧ (ok' = true → T = (m', ns', false) ∧ Cpl B m' ns' sn' dt') := by
    intro h' nv' m' ns' sn' dt' ok T t' F' hr' hl' hT
    obtain ⟨e1, e2, e3⟩ := t'.fail rb false
    refine ⟨_, e1, rfl, F'.trans e3 (fun b g => ?_), nv', m', ns', sn', dt', false, e2, hr', hl', by rw [hT]; rfl, fun g => by cases g⟩
    rcases g with g | g | g | g | g
    · exact .inl (.inl g)
    · exact .inl (.inr (.inl g))
    · exact .inl (.inr (.inr (.inl g)))
    · exact .inl (.inr (.inr (.inr (.inl g))))
    · exact (hr' b g).imp (fun g => .inr (.inr (.inr (.inr g)))) id
  refine RunF.walk func51 rfl rfl ?_
  have ow := t.ow
  -- is it one that may be?
  refine RunC.seq (RunC.seqE (upd (upd (upd (upd (upd E0 0 (.pointer (some ⟨wb, 0, none⟩))) 1 (.int .i64 at_)) 2 (.int .i64 (lv : Int))) 3 (.int .i64 (from_ : Int))) 37 (.bool (!atIn B at_ || ns.contains at_))) ?_ ?_)
  · refine RunC.region (RunO.part 3 rfl ?_)
    refine RunO.load (v := .bool true) rfl (ow.ld rfl) rfl ?_
    refine RunO.part 6 rfl ?_
    refine RunO.loadG (v := .int .i64 (B : Int)) rfl rfl (ow.ld rfl) rfl ?_
    refine RunO.part 1 rfl ?_
    refine RunO.callDG rfl refIn10_ok rfl rfl rfl ?_
    rintro _ _ ⟨rfl, rfl⟩
    rw [atIn_inB hB2]
    refine RunO.part 3 rfl ?_
    cases hin : atIn B at_ with
    | false => exact RunO.all rfl ⟨rfl, Le.cons rfl (Le.cons rfl (Le.cons rfl (Le.cons rfl (Le.cons rfl (Le.nil _)))))⟩
    | true =>
      obtain ⟨ha2, haB⟩ := atIn_iff.1 hin
      obtain ⟨a, rfl⟩ := Int.eq_ofNat_of_zero_le (show 0 ≤ at_ by omega)
      have has : a < sn.length := by rw [t.ls]; omega
      have hse : sn[a] = ns.contains (a : Int) := by
        have := hcp.1 a (by omega)
        rwa [List.getD_eq_getElem?_getD, List.getElem?_eq_getElem has] at this
      refine RunO.part 3 rfl ?_
      refine RunO.loadG (v := .slice (some ⟨sb, 0, none⟩) B (exc B)) rfl rfl (ow.ld rfl) rfl ?_
      refine RunO.part 1 rfl ?_
      have sls : Sl h (.slice (some ⟨sb, 0, none⟩) B (exc B)) 1 B (bs sn) := t.os.all.sl (by rw [bs_len, t.ls, Nat.mul_one]) (by omega) (Cp.exc (Nat.le_refl _))
      refine RunO.atG (s := 1) (k := a) (u := .bool (ns.contains (a : Int))) rfl (fun _ => rfl) rfl rfl sls rfl rfl (by omega) (by rw [bs_part has, hse]) rfl rfl rfl ?_
      exact RunO.all rfl ⟨rfl, Le.cons rfl (Le.cons rfl (Le.cons rfl (Le.cons rfl (Le.cons rfl (Le.nil _)))))⟩
  by_cases hmay : (!atIn B at_ || ns.contains at_) = true
  · rw [hmay]
    have hcond : (!atIs L B at_ (lv : Int) || ns.contains at_) = true := by
      unfold atIs
      cases hi : atIn B at_ with
      | false => rfl
      | true => rw [hi, Bool.not_true, Bool.false_or] at hmay; rw [hmay, Bool.or_true]
    rw [if_pos hcond]
    refine RunC.cond rfl (fun _ => ?_) (fun g => by cases g)
    obtain ⟨h2, e1, e2⟩ := hbad (T := (m, ns, true)) t (Fr.refl _ _) (fun b g => .inl g) (by omega) rfl
    refine RunC.seq (RunC.region (RunO.part 3 rfl ?_))
    refine RunO.store rfl rfl e1 (RunO.all rfl ?_)
    exact RunC.ret ⟨_, rfl, e2⟩
  rw [Bool.not_eq_true] at hmay
  rw [hmay]
  rw [Bool.or_eq_false_iff, Bool.not_eq_false'] at hmay
  obtain ⟨hin, hnc⟩ := hmay
  obtain ⟨ha2, haB⟩ := atIn_iff.1 hin
  obtain ⟨a, rfl⟩ := Int.eq_ofNat_of_zero_le (show 0 ≤ at_ by omega)
  have haL : (a + 1) * 64 ≤ L.length := Nat.le_trans (Nat.mul_le_mul_right 64 (by omega)) hB
  refine RunC.cond rfl (fun g => by cases g) (fun _ => RunC.skip ?_)
  refine RunC.seq (RunC.region (RunO.part 3 rfl ?_))
  refine RunO.load (v := iv) rfl (ow.ld rfl) rfl ?_
  refine RunO.part 1 rfl ?_
  refine RunO.callD (refBlock_ok (i := a) sl haL hm) rfl rfl rfl ?_
  rintro bv _ ⟨slb, rfl⟩
  have hbl := blkI_len haL
  refine RunO.callD (refParseNode_ok (by rw [hbl]; exact slb) (byt_blk hb a)) rfl rfl rfl ?_
  rintro _ h1 ⟨rfl, f1⟩
  have hvv : atV L B (a : Int) = nodV (blkI L a) := by unfold atV; rw [hin, if_pos rfl, Int.toNat_natCast]
  have his : atIs L B (a : Int) (lv : Int) = (nCode (blkI L a) == 0 && (nodV (blkI L a)).1 == (lv : Int)) := by unfold atIs; rw [hin, hvv, Int.toNat_natCast, Bool.true_and]
  have hvl := nodV_len (blkI L a)
  have hptr : nCode (blkI L a) = 0 → ∀ x ∈ (nodV (blkI L a)).2, x = 0 ∨ 2 ≤ x := by
    intro hc x hx
    have hv : nodV (blkI L a) = (nLv (blkI L a), nPs (blkI L a)) := by unfold nodV; rw [if_pos hc]
    rw [hv] at hx
    have hok : nodOk (nLv (blkI L a)) (nPs (blkI L a)) = true := by
      unfold nCode at hc
      split at hc
      · split at hc
        · assumption
        · cases hc
      · rename_i h1; exact absurd hc h1
    unfold nodOk at hok
    rw [Bool.and_eq_true, List.all_eq_true] at hok
    have := hok.1 x hx
    unfold ptrB at this
    rw [Bool.or_eq_true, beq_iff_eq, Bool.and_eq_true, decide_eq_true_eq] at this
    omega
  rw [his, hvv, hnc, Bool.or_false]
  generalize nCode (blkI L a) = cd at *
  generalize nodV (blkI L a) = nd at *
  obtain ⟨nl, ps⟩ := nd
  simp only at hvl hptr ⊢
  refine RunO.part 4 (h1 := h1.push ⟨nc 0 nZero, true⟩) rfl ?_
  refine RunO.store rfl rfl (nc_store (lv := nl) (ps := ps) (Ow.push h1 (nc 0 nZero)) rfl hvl rfl) (RunO.all rfl ?_)
  have on : Ow ((h1.push ⟨nc 0 nZero, true⟩).put h1.next (some ⟨nc nl ps, true⟩)) h1.next (nc nl ps) := Ow.put _ (Nat.lt_succ_self _)
  have f2 : Fr no h1 ((h1.push ⟨nc 0 nZero, true⟩).put h1.next (some ⟨nc nl ps, true⟩)) := (Fr.push _ _ _).trans (Fr.put (m := (· = h1.next)) _ (.inl rfl)) (fun j hj => .inr (by omega))
  have f12 := f1.same f2
  have hq : lo ≤ h1.next := Nat.le_trans t.ln f1.next
  have hnv : ∀ b, At nv b → b < h.next := fun b ha => (t.row.at ha).2
  have hnrow : ∀ b, At nv b → b ≠ h1.next := fun b ha => by have := hnv b ha; have := f1.next; omega
  have hqh0 : h.next ≤ h1.next := f1.next
  generalize (h1.push ⟨nc 0 nZero, true⟩).put h1.next (some ⟨nc nl ps, true⟩) = h2 at *
  generalize h1.next = q at *
  have t2 := t.quiet f12
  have F2 : Fr (RR wb sb db mb nv) h h2 := f12.weak (fun _ g => g.elim)
  have hqh : h.next ≤ q := hqh0
  clear t ow
  -- its kind, its level
  refine RunC.seq (RunC.seqE (upd (upd (upd (upd (upd (upd E0 0 (.pointer (some ⟨wb, 0, none⟩))) 1 (.int .i64 (a : Int))) 2 (.int .i64 (lv : Int))) 3 (.int .i64 (from_ : Int))) 8 (.pointer (some ⟨q, 0, none⟩))) 58 (.bool (!(cd == 0 && nl == (lv : Int))))) ?_ ?_)
  · refine RunC.region (RunO.part 3 rfl ?_)
    have e1 : (cd != 0) = !(cd == 0) := rfl
    rw [e1]
    cases (cd == 0) with
    | false => exact RunO.all rfl ⟨rfl, Le.cons rfl (Le.cons rfl (Le.cons rfl (Le.cons rfl (Le.cons rfl (Le.cons rfl (Le.nil _))))))⟩
    | true =>
      refine RunO.part 1 rfl ?_
      refine RunO.loadG (v := .int .i64 nl) rfl rfl (on.ld rfl) rfl ?_
      exact RunO.all rfl ⟨rfl, Le.cons rfl (Le.cons rfl (Le.cons rfl (Le.cons rfl (Le.cons rfl (Le.cons rfl (Le.nil _))))))⟩
  by_cases hone : (cd == 0 && nl == (lv : Int)) = true
  case neg =>
    rw [Bool.not_eq_true] at hone
    rw [hone, if_pos (show (!false) = true from rfl)]
    refine RunC.cond rfl (fun _ => ?_) (fun g => by cases g)
    obtain ⟨h3, e1, e2⟩ := hbad (T := (m, ns, true)) t2 F2 (fun b g => .inl g) (by omega) rfl
    refine RunC.seq (RunC.region (RunO.part 3 rfl ?_))
    refine RunO.store rfl rfl e1 (RunO.all rfl ?_)
    exact RunC.ret ⟨_, rfl, e2⟩
  rw [hone, if_neg (show ¬ (!true) = true by decide)]
  rw [Bool.and_eq_true, beq_iff_eq, beq_iff_eq] at hone
  replace hptr := hptr hone.1
  refine RunC.cond rfl (fun g => by cases g) (fun _ => RunC.skip ?_)
  -- it is seen
  have ow2 := t2.ow
  have has : a < sn.length := by rw [t2.ls]; omega
  refine RunC.seq (RunC.region (RunO.part 3 rfl ?_))
  refine RunO.load (v := .slice (some ⟨sb, 0, none⟩) B (exc B)) rfl (ow2.ld rfl) rfl ?_
  refine RunO.part 1 rfl ?_
  refine RunO.index (s := 1) rfl rfl rfl rfl (show a < B by omega) rfl ?_
  refine RunO.store rfl rfl (store1_ow t2.os rfl rfl rfl (by rw [bs_len]; omega)) (RunO.nil ?_)
  rw [show (bs sn).set (0 + a * 1) (.bool true) = bs (sn.set a true) by rw [Nat.zero_add, Nat.mul_one, bs_set]]
  have fs : Fr (· = sb) h2 (h2.put sb (some ⟨bs (sn.set a true), true⟩)) := Fr.put _ (.inl rfl)
  have t3 : RW lo (h2.put sb (some ⟨bs (sn.set a true), true⟩)) iv B wb sb db mb nv m ns (sn.set a true) dt true :=
    ⟨t2.ow.fr fs rb.ws, Ow.put _ t2.os.1, t2.od.fr fs (fun e => rb.sd e.symm), t2.om.fr fs (fun e => rb.sm e.symm), t2.row.fr fs (fun b h1 _ e => by have := rb.s; omega), t2.lm, by rw [List.length_set]; exact t2.ls, t2.ld, t2.ln⟩
  have on3 := on.fr fs (show ¬ q = sb by have := rb.s; omega)
  have F3 : Fr (RR wb sb db mb nv) h (h2.put sb (some ⟨bs (sn.set a true), true⟩)) := F2.trans fs (fun b e => .inl (.inr (.inl e)))
  have hn3 : (h2.put sb (some ⟨bs (sn.set a true), true⟩)).next = h2.next := rfl
  generalize h2.put sb (some ⟨bs (sn.set a true), true⟩) = h3 at *
  clear t2 ow2 on
  -- one node more
  have ow3 := t3.ow
  refine RunC.seq (RunC.region (RunO.part 4 rfl ?_))
  refine RunO.load (v := nv) rfl (ow3.ld rfl) rfl ?_
  refine RunO.part 2 (h1 := h3.push ⟨is [(a : Int)], true⟩) rfl ?_
  have fp : Fr no h3 (h3.push ⟨is [(a : Int)], true⟩) := Fr.push _ _ _
  have ob := Ow.push h3 (is [(a : Int)])
  have t3p := t3.quiet fp
  have on4 := on3.fr fp (fun g => g)
  generalize h3.push ⟨is [(a : Int)], true⟩ = h4 at *
  refine RunO.append2 (s := 1) (m := 1) rfl rfl rfl rfl rfl rfl rfl rfl (Nat.le_refl 1) t3p.row ob.all rfl (Nat.le_refl 1) rfl (by show 2 * (ns.length + 1) * 8 ≤ _; omega) (by omega) ?_
  intro nv2 h5 row5 f5
  have hat : ∀ b, At nv b → lo ≤ b := fun b ha => (t3p.row.at ha).1
  have ow5 := t3p.ow.fr f5 (fun g => by have := hat _ g; have := rb.w; omega)
  have os5 := t3p.os.fr f5 (fun g => by have := hat _ g; have := rb.s; omega)
  have od5 := t3p.od.fr f5 (fun g => by have := hat _ g; have := rb.d; omega)
  have om5 := t3p.om.fr f5 (fun g => by have := hat _ g; have := rb.m; omega)
  have on5 := on4.fr f5 (fun g => hnrow _ g rfl)
  have hnv2 : ∀ b, At nv2 b → q < b := fun b g => Nat.lt_of_lt_of_le on4.1 (row5.at g).1
  refine RunO.part 2 rfl ?_
  refine RunO.store rfl rfl (store1_ow ow5 rfl row5.cell.1 row5.cell.2 (Nat.le_of_ble_eq_true rfl)) (RunO.all rfl ?_)
  change RunC _ _ _ _ (h5.put wb (some ⟨rwc iv B sb db mb nv2 true, true⟩)) _ _ _
  replace row5 := Row.lo row5 t3p.ln
  rw [← is_app] at row5
  have fw : Fr (· = wb) h5 (h5.put wb (some ⟨rwc iv B sb db mb nv2 true, true⟩)) := Fr.put _ (.inl rfl)
  have t6 : RW lo (h5.put wb (some ⟨rwc iv B sb db mb nv2 true, true⟩)) iv B wb sb db mb nv2 m (ns ++ [(a : Int)]) (sn.set a true) dt true :=
    ⟨Ow.put _ ow5.1, os5.fr fw (fun e => rb.ws e.symm), od5.fr fw (fun e => rb.wd e.symm), om5.fr fw (fun e => rb.wm e.symm), by
      have := row5.fr fw (fun b h1 _ e => by have := rb.w; omega)
      rw [List.length_append]; exact this, t3p.lm, t3p.ls, t3p.ld, Nat.le_trans t3p.ln f5.next⟩
  have on6 := on5.fr fw (show ¬ q = wb by have := rb.w; omega)
  have F6 : Fr (RR wb sb db mb nv) h (h5.put wb (some ⟨rwc iv B sb db mb nv2 true, true⟩)) :=
    ((F3.quiet fp).trans f5 (fun b g => .inl (.inr (.inr (.inr (.inr g)))))).trans fw (fun b e => .inl (.inl e))
  generalize h5.put wb (some ⟨rwc iv B sb db mb nv2 true, true⟩) = h6 at *
  clear t3 t3p ow3 ow5 os5 od5 om5 on3 on4 on5 row5 f5 fp ob fw F3 fs F2 f12 f2 f1
  have hcp6 : Cpl B m (ns ++ [(a : Int)]) (sn.set a true) dt := by
    refine ⟨fun i hi => ?_, hcp.2⟩
    rw [getD_setB _ _ _ _ has, hcp.1 i hi, Bool.eq_iff_iff]
    simp only [List.contains_eq_mem, List.mem_append, List.mem_singleton, decide_eq_true_eq]
    by_cases e : i = a
    · subst e; simp
    · rw [if_neg e]
      simp only [decide_eq_true_eq]
      constructor
      · exact .inl
      · rintro (g | g)
        · exact g
        · exact absurd (by omega) e
  have hn6 : (ns ++ [(a : Int)]).length + 8 * rN lv ≤ 100000 ∧ (ns ++ [(a : Int)]).length + 8 * rN lv = ns.length + nN lv := by
    rw [nN_eq] at hns ⊢
    rw [List.length_append, List.length_singleton]; omega
  generalize ns ++ [(a : Int)] = ns6 at *
  generalize sn.set a true = sn6 at *
  -- the span
  refine RunC.seq (RunC.region (RunO.all rfl ?_))
  refine RunC.seqc (fun E' h' => h' = h6 ∧ Le (upd (upd (upd (upd (upd E0 0 (.pointer (some ⟨wb, 0, none⟩))) 2 (.int .i64 (lv : Int))) 3 (.int .i64 (from_ : Int))) 8 (.pointer (some ⟨q, 0, none⟩))) 10 (.int .i64 ((8 ^ lv : Nat) : Int))) E') ?_ ?_
  · refine RunC.seq (RunC.region (RunO.all rfl ?_))
    refine RunC.block ?_
    let I : Nat → Env → Heap → Prop := fun d E h' => ∃ i : Nat, i + d = lv ∧ h' = h6 ∧ Le (upd (upd (upd (upd (upd (upd E0 0 (.pointer (some ⟨wb, 0, none⟩))) 2 (.int .i64 (lv : Int))) 3 (.int .i64 (from_ : Int))) 8 (.pointer (some ⟨q, 0, none⟩))) 10 (.int .i64 ((8 ^ i : Nat) : Int))) 11 (.int .i64 (i : Int))) E
    refine RunC.loop I ?_ (k := lv) ?_
    · rintro d E h' ⟨i, hi, rfl, hE⟩
      refine RunC.le hE ?_
      clear hE
      refine RunC.seq (RunC.seq (RunC.region (RunO.all rfl ?_)))
      refine RunC.cond rfl (fun hlt => ?_) (fun hge => ?_)
      · have hlt := of_decide_eq_true hlt
        have hi8 : 8 ^ i ≤ 64 := by
          have : 8 ^ i ≤ 8 ^ 2 := Nat.pow_le_pow_right (by decide) (by omega)
          exact this
        have hi0 : 1 ≤ 8 ^ i := Nat.pow_pos (by decide)
        refine RunC.skip ?_
        refine RunC.seq (RunC.block ?_)
        refine RunC.region (RunO.part 2 rfl ?_)
        rw [fw64 (x := ((8 ^ i : Nat) : Int) * 8) (by omega) (by omega), show ((8 ^ i : Nat) : Int) * 8 = ((8 ^ (i + 1) : Nat) : Int) by rw [Nat.pow_succ]; omega]
        refine RunO.all rfl ?_
        refine RunC.region (RunO.all rfl ?_)
        exact ⟨d - 1, by omega, i + 1, by omega, rfl, Le.cons (inc64 (by omega)) (Le.cons rfl (Le.cons rfl (Le.cons rfl (Le.cons rfl (Le.cons rfl (Le.nil _))))))⟩
      · have hge := of_decide_eq_false hge
        obtain rfl : i = lv := by omega
        exact RunC.exit ⟨rfl, Le.cons rfl (Le.cons rfl (Le.cons rfl (Le.cons rfl (Le.cons rfl (Le.nil _)))))⟩
    · exact ⟨0, by omega, rfl, Le.cons rfl (Le.cons rfl (Le.cons rfl (Le.cons rfl (Le.cons rfl (Le.cons rfl (Le.nil _))))))⟩
  rintro E' _ ⟨rfl, hE⟩
  refine RunC.le hE ?_
  clear hE
  refine RunC.seq (RunC.region (RunO.all rfl ?_))
  refine RunC.block ?_
  obtain ⟨T, hT⟩ : ∃ T : Nat → TS, T = fun i => (List.range i).foldl (tst L B lv ps from_) (m, ns6, false) := ⟨_, rfl⟩
  have hT8 : (List.range 8).foldl (tst L B lv ps from_) (m, ns6, false) = T 8 := by rw [hT]
  rw [hT8]
  have hTs : ∀ i, T (i + 1) = tst L B lv ps from_ (T i) i := fun i => by rw [hT]; show List.foldl _ _ (List.range (i + 1)) = _; rw [List.range_succ, List.foldl_append]; rfl
  have hTb : ∀ i, i ≤ 8 → (T i).2.2 = true → (T 8).2.2 = true := fun i hi hbi => by
    cases e : (T 8).2.2 with
    | true => rfl
    | false =>
      rw [← hT8] at e
      have := fold_pre e hi
      rw [hT] at hbi
      rw [this] at hbi; cases hbi
  have hTz : ∀ i, i < 8 → (T i).2.2 = false → ∀ s, from_ + i * 8 ^ lv ≤ s → s < from_ + i * 8 ^ lv + 8 ^ lv → (T i).1.getD s 0 = 0 := fun i hi hbi s h1 h2 => by
    have hle : i * 8 ^ lv + 8 ^ lv ≤ 8 ^ lv * 8 := by rw [← Nat.succ_mul, Nat.mul_comm]; exact Nat.mul_le_mul_left _ hi
    rw [hT] at hbi
    have S := fold_spec (N := i) (fun k _ => tgo_spec L B k) hfrom t6.lm hz (by omega) hbi i (Nat.le_refl i)
    have := S.map s (by omega)
    rw [if_neg (by omega), hz s (by omega) (by omega)] at this
    rw [hT]; exact this
  have hT0 : T 0 = (m, ns6, false) := by rw [hT]; rfl
  clear hT
  let I : Nat → Env → Heap → Prop := fun d E h' => ∃ (i : Nat) (nv' : Value) (m' ns' : List Int) (sn' dt' : List Bool) (ok' : Bool), i + d = 8 ∧ RW lo h' iv B wb sb db mb nv' m' ns' sn' dt' ok' ∧ (∀ b, At nv' b → At nv b ∨ h.next ≤ b) ∧ (∀ b, At nv' b → b ≠ q) ∧ ns'.length ≤ ns6.length + i * rN lv ∧ ok' = !(T i).2.2 ∧ (ok' = true → T i = (m', ns', false) ∧ Cpl B m' ns' sn' dt') ∧ Fr (RR wb sb db mb nv) h h' ∧ Ow h' q (nc nl ps) ∧
    Le (upd (upd (upd (upd (upd (upd E0 0 (.pointer (some ⟨wb, 0, none⟩))) 2 (.int .i64 (lv : Int))) 3 (.int .i64 (from_ : Int))) 8 (.pointer (some ⟨q, 0, none⟩))) 10 (.int .i64 ((8 ^ lv : Nat) : Int))) 12 (.int .i64 (i : Int))) E
  refine RunC.loop I ?_ (k := 8) ?_
  · rintro d E h7 ⟨i, nv7, m7, ns7, sn7, dt7, ok7, hi, t7, hr7, hq7, hl7, hok7, hal7, F7, on7, hE⟩
    refine RunC.le hE ?_
    clear hE
    refine RunC.seq (RunC.seq (RunC.region (RunO.all rfl ?_)))
    refine RunC.cond rfl (fun hlt => ?_) (fun hge => ?_)
    · have hlt := of_decide_eq_true hlt
      have hi8 : i < 8 := by omega
      have hps : i < ps.length := by omega
      have hpi : ps.getD i 0 = ps[i] := by rw [List.getD_eq_getElem?_getD, List.getElem?_eq_getElem hps]; rfl
      have hld : apart prog 3 (nc nl ps) (1 + i * 1) = some (.int .i64 ps[i]) := by
        show nth (nc nl ps) (1 + i * 1) = _
        rw [Nat.mul_one, Nat.add_comm]; exact is_nth hps
      have hp02 := hptr _ (List.getElem_mem hps)
      have hstep := hTs i
      unfold tst at hstep
      rw [hpi] at hstep
      have hzi := hTz i hi8
      have hTbi := hTb i (by omega)
      have hTbi1 := hTb (i + 1) (by omega)
      generalize ps[i] = p at *
      have hto : from_ + i * 8 ^ lv + 8 ^ lv ≤ 512 := by
        have : i * 8 ^ lv + 8 ^ lv ≤ 8 ^ lv * 8 := by rw [← Nat.succ_mul, Nat.mul_comm]; exact Nat.mul_le_mul_left _ hi8
        omega
      obtain ⟨to_, hto_⟩ : ∃ t, t = from_ + i * 8 ^ lv := ⟨_, rfl⟩
      rw [← hto_] at hstep hto hzi
      have hrl : ns7.length + rN lv ≤ 100000 := by
        have : i * rN lv + rN lv ≤ 8 * rN lv := by rw [← Nat.succ_mul]; exact Nat.mul_le_mul_right _ hi8
        omega
      have hsuc : (i + 1) * rN lv = i * rN lv + rN lv := Nat.succ_mul ..
      -- what the loop goes on with
      have next : ∀ (h8 : Heap) (nv8 : Value) (m8 ns8 : List Int) (sn8 dt8 : List Bool) (ok8 : Bool), RW lo h8 iv B wb sb db mb nv8 m8 ns8 sn8 dt8 ok8 → (∀ b, At nv8 b → At nv b ∨ h.next ≤ b) → (∀ b, At nv8 b → b ≠ q) → ns8.length ≤ ns7.length + rN lv → ok8 = !(T (i + 1)).2.2 → (ok8 = true → T (i + 1) = (m8, ns8, false) ∧ Cpl B m8 ns8 sn8 dt8) → Fr (RR wb sb db mb nv) h h8 → Ow h8 q (nc nl ps) →
          ∀ E, Le (upd (upd (upd (upd (upd (upd E0 0 (.pointer (some ⟨wb, 0, none⟩))) 2 (.int .i64 (lv : Int))) 3 (.int .i64 (from_ : Int))) 8 (.pointer (some ⟨q, 0, none⟩))) 10 (.int .i64 ((8 ^ lv : Nat) : Int))) 12 (.int .i64 ((i + 1 : Nat) : Int))) E → ∃ d', d' < d ∧ I d' E h8 := by
        intro h8 nv8 m8 ns8 sn8 dt8 ok8 a1 a2 a3 a4 a5 a6 a7 a8 E a9
        exact ⟨d - 1, by omega, i + 1, nv8, m8, ns8, sn8, dt8, ok8, by omega, a1, a2, a3, by omega, a5, a6, a7, a8, a9⟩
      refine RunC.skip ?_
      refine RunC.seq (RunC.block ?_)
      refine RunC.seq (RunC.region (RunO.part 2 rfl ?_))
      refine RunO.indexA (s := 1) rfl rfl rfl rfl rfl hi8 rfl ?_
      refine RunO.load (v := .int .i64 p) rfl (on7.ld hld) rfl (RunO.all rfl ?_)
      refine RunC.seq (RunC.seq (RunC.region (RunO.all rfl ?_)))
      by_cases hp0 : p = 0
      · subst hp0
        have hT1 : T (i + 1) = T i := by rw [hstep]; exact tstep_none hB1
        rw [← hT1] at hok7 hal7
        refine RunC.cond rfl (fun _ => RunC.exit ?_) (fun g => by cases g)
        exact RunC.region (RunO.all rfl (next h7 nv7 m7 ns7 sn7 dt7 ok7 t7 hr7 hq7 (by omega) hok7 hal7 F7 on7 _ (Le.cons (inc64 (by omega)) (Le.cons rfl (Le.cons rfl (Le.cons rfl (Le.cons rfl (Le.cons rfl (Le.nil _)))))))))
      rw [show (p == 0) = false from beq_eq_false_iff_ne.2 hp0]
      refine RunC.cond rfl (fun g => by cases g) (fun _ => RunC.skip ?_)
      obtain ⟨pn, rfl⟩ := Int.eq_ofNat_of_zero_le (show 0 ≤ p by omega)
      have ow7 := t7.ow
      refine RunC.seq (RunC.seq (RunC.region (RunO.part 4 rfl ?_)))
      refine RunO.load (v := .int .i64 (B : Int)) rfl (ow7.ld rfl) rfl (RunO.all rfl ?_)
      by_cases hpB : B ≤ pn
      · -- beyond the device
        have hbadi : (T (i + 1)).2.2 = true := by
          rw [hstep]
          unfold tstep
          split
          · assumption
          · rw [if_pos (by rw [decide_eq_true_eq]; omega)]
        rw [show decide ((pn : Int) ≥ (B : Int)) = true from decide_eq_true (by omega)]
        refine RunC.cond rfl (fun _ => ?_) (fun g => by cases g)
        obtain ⟨h8, e1, e2⟩ := hbad (T := T 8) t7 F7 hr7 (by
          have : i * rN lv ≤ 8 * rN lv := Nat.mul_le_mul_right _ (by omega)
          omega) (hTbi1 hbadi)
        refine RunC.seq (RunC.region (RunO.part 3 rfl ?_))
        refine RunO.store rfl rfl e1 (RunO.all rfl ?_)
        exact RunC.ret ⟨_, rfl, e2⟩
      rw [show decide ((pn : Int) ≥ (B : Int)) = false from decide_eq_false (by omega)]
      refine RunC.cond rfl (fun g => by cases g) (fun _ => RunC.skip ?_)
      have hgo : (T i).2.2 = false → T (i + 1) = if (lv == 0) = true then ((T i).1.set to_ (pn : Int), (T i).2.1, (T i).2.2) else trec L B lv (pn : Int) to_ (T i) := fun hbi => by
        rw [hstep]
        unfold tstep
        rw [if_neg (by rw [hbi]; exact Bool.false_ne_true), if_neg (by rw [decide_eq_true_eq]; omega), show ((pn : Int) != 0) = true from bne_iff_ne.2 hp0]
        cases (lv == 0) <;> rfl
      have hdead : (T i).2.2 = true → (T (i + 1)).2.2 = true := fun hbi => by
        rw [hstep]
        unfold tstep
        rw [if_pos hbi]; exact hbi
      refine RunC.seq (RunC.seq (RunC.region (RunO.all rfl ?_)))
      cases hl0 : lv == 0 with
      | true =>
        have hl00 : lv = 0 := beq_iff_eq.1 hl0
        rw [show ((lv : Int) == 0) = true from beq_iff_eq.2 (by omega)]
        refine RunC.cond rfl (fun _ => ?_) (fun g => by cases g)
        have e8 : 8 ^ lv = 1 := by rw [hl00]
        have hmt : to_ < m7.length := by rw [t7.lm]; omega
        have htoi : (from_ : Int) + (i : Int) = (to_ : Int) := by rw [hto_, e8]; omega
        refine RunC.seq (RunC.region (RunO.part 3 rfl ?_))
        refine RunO.load (v := .slice (some ⟨mb, 0, none⟩) 512 (exc 512)) rfl (ow7.ld rfl) rfl ?_
        refine RunO.part 3 rfl ?_
        rw [htoi, fw64 (x := (to_ : Int)) (by omega) (by omega)]
        refine RunO.part 1 rfl ?_
        refine RunO.index (s := 1) rfl rfl rfl rfl (by have := t7.lm; omega) rfl ?_
        refine RunO.store rfl rfl (store1_ow t7.om rfl rfl rfl (by rw [is_len]; simpa using hmt)) (RunO.nil ?_)
        have ei : (is m7).set (0 + to_ * 1) (.int .i64 (pn : Int)) = is (m7.set to_ (pn : Int)) := by rw [Nat.zero_add, Nat.mul_one]; unfold is; rw [List.map_set]
        rw [ei]
        have fm : Fr (· = mb) h7 (h7.put mb (some ⟨is (m7.set to_ (pn : Int)), true⟩)) := Fr.put _ (.inl rfl)
        have t8 : RW lo (h7.put mb (some ⟨is (m7.set to_ (pn : Int)), true⟩)) iv B wb sb db mb nv7 (m7.set to_ (pn : Int)) ns7 sn7 dt7 ok7 :=
          ⟨t7.ow.fr fm rb.wm, t7.os.fr fm rb.sm, t7.od.fr fm rb.dm, Ow.put _ t7.om.1, t7.row.fr fm (fun b h1 _ e => by have := rb.m; omega), by rw [List.length_set]; exact t7.lm, t7.ls, t7.ld, t7.ln⟩
        have on8 := on7.fr fm (show ¬ q = mb by have := rb.m; omega)
        have F8 : Fr (RR wb sb db mb nv) h (h7.put mb (some ⟨is (m7.set to_ (pn : Int)), true⟩)) := F7.trans fm (fun b e => .inl (.inr (.inr (.inr (.inl e)))))
        generalize h7.put mb (some ⟨is (m7.set to_ (pn : Int)), true⟩) = h8 at *
        have ow8 := t8.ow
        have hpd : pn < dt7.length := by rw [t8.ld]; omega
        refine RunC.seq (RunC.region (RunO.part 3 rfl ?_))
        refine RunO.load (v := .slice (some ⟨db, 0, none⟩) B (exc B)) rfl (ow8.ld rfl) rfl ?_
        refine RunO.part 1 rfl ?_
        refine RunO.index (s := 1) rfl rfl rfl rfl (show pn < B by omega) rfl ?_
        refine RunO.store rfl rfl (store1_ow t8.od rfl rfl rfl (by rw [bs_len]; omega)) (RunO.nil ?_)
        rw [show (bs dt7).set (0 + pn * 1) (.bool true) = bs (dt7.set pn true) by rw [Nat.zero_add, Nat.mul_one, bs_set]]
        have fd : Fr (· = db) h8 (h8.put db (some ⟨bs (dt7.set pn true), true⟩)) := Fr.put _ (.inl rfl)
        have t9 : RW lo (h8.put db (some ⟨bs (dt7.set pn true), true⟩)) iv B wb sb db mb nv7 (m7.set to_ (pn : Int)) ns7 sn7 (dt7.set pn true) ok7 :=
          ⟨t8.ow.fr fd rb.wd, t8.os.fr fd rb.sd, Ow.put _ t8.od.1, t8.om.fr fd (fun e => rb.dm e.symm), t8.row.fr fd (fun b h1 _ e => by have := rb.d; omega), t8.lm, t8.ls, by rw [List.length_set]; exact t8.ld, t8.ln⟩
        have on9 := on8.fr fd (show ¬ q = db by have := rb.d; omega)
        have F9 : Fr (RR wb sb db mb nv) h (h8.put db (some ⟨bs (dt7.set pn true), true⟩)) := F8.trans fd (fun b e => .inl (.inr (.inr (.inl e))))
        refine RunC.exit ?_
        refine RunC.region (RunO.all rfl (next _ nv7 _ ns7 sn7 _ ok7 t9 hr7 hq7 (by omega) ?_ ?_ F9 on9 _ (Le.cons (inc64 (by omega)) (Le.cons rfl (Le.cons rfl (Le.cons rfl (Le.cons rfl (Le.cons rfl (Le.nil _)))))))))
        · rw [hok7]
          cases hbi : (T i).2.2 with
          | true => rw [hdead hbi]
          | false => rw [hgo hbi, if_pos hl0]; show (!false) = !(T i).2.2; rw [hbi]
        · intro hok
          have hbi : (T i).2.2 = false := by rw [hok] at hok7; cases e : (T i).2.2 with
            | false => rfl
            | true => rw [e] at hok7; cases hok7
          obtain ⟨g1, g2, g3⟩ := hal7 hok
          rw [hgo hbi, if_pos hl0, g1]
          refine ⟨rfl, g2, fun x hx hxB => ?_⟩
          have hz0 : m7.getD to_ 0 = 0 := by
            have := hzi hbi to_ (Nat.le_refl _) (by omega)
            rwa [g1] at this
          rw [getD_setB _ _ _ _ hpd, contains_set0 hmt hz0 (by omega), g3 x hx hxB]
          by_cases e : x = pn
          · subst e; simp
          · rw [if_neg e, show ((x : Int) == (pn : Int)) = false from beq_eq_false_iff_ne.2 (by omega)]; rfl
      | false =>
        obtain ⟨k, rfl⟩ : ∃ k, lv = k + 1 := by
          cases lv with
          | zero => cases hl0
          | succ k => exact ⟨k, rfl⟩
        rw [show (((k + 1 : Nat) : Int) == 0) = false from beq_eq_false_iff_ne.2 (by omega)]
        refine RunC.cond rfl (fun g => by cases g) (fun _ => RunC.skip ?_)
        refine RunC.region (RunO.part 3 rfl ?_)
        refine RunO.part 1 rfl ?_
        rw [fw64 (x := ((k + 1 : Nat) : Int) - 1) (by omega) (by omega), show ((k + 1 : Nat) : Int) - 1 = (k : Int) by omega]
        refine RunO.part 3 rfl ?_
        refine RunO.part 1 rfl ?_
        have hmul : (i : Int) * ((8 ^ (k + 1) : Nat) : Int) = ((i * 8 ^ (k + 1) : Nat) : Int) := by rw [Int.natCast_mul]
        rw [hmul, fw64 (x := ((i * 8 ^ (k + 1) : Nat) : Int)) (by omega) (by omega)]
        refine RunO.part 1 rfl ?_
        rw [fw64 (x := (from_ : Int) + ((i * 8 ^ (k + 1) : Nat) : Int)) (by omega) (by omega), show (from_ : Int) + ((i * 8 ^ (k + 1) : Nat) : Int) = (to_ : Int) by omega]
        cases hok : ok7 with
        | false =>
          rw [hok] at t7 hok7
          have hbi : (T i).2.2 = true := by
            cases e : (T i).2.2 with
            | true => rfl
            | false => rw [e] at hok7; cases hok7
          refine RunO.callD (rnode_dead rb t7) rfl rfl rfl ?_
          rintro _ h8 ⟨rfl, t8, f8⟩
          have on8 := on7.fr f8 (by
            have := rb.w; have := rb.s; have := rb.d; have := rb.m
            rintro (e | e | e | e | e)
            · omega
            · omega
            · omega
            · omega
            · exact hq7 _ e rfl)
          have F8 : Fr (RR wb sb db mb nv) h h8 := F7.trans f8 (fun b g => by
            rcases g with g | g | g | g | g
            · exact .inl (.inl g)
            · exact .inl (.inr (.inl g))
            · exact .inl (.inr (.inr (.inl g)))
            · exact .inl (.inr (.inr (.inr (.inl g))))
            · exact (hr7 b g).imp (fun g => .inr (.inr (.inr (.inr g)))) id)
          refine RunO.all rfl ?_
          exact RunC.region (RunO.all rfl (next h8 nv7 m7 ns7 sn7 dt7 false t8 hr7 hq7 (by omega) (by rw [hdead hbi]; rfl) (fun g => by cases g) F8 on8 _ (Le.cons (inc64 (by omega)) (Le.cons rfl (Le.cons rfl (Le.cons rfl (Le.cons rfl (Le.cons rfl (Le.nil _)))))))))
        | true =>
          rw [hok] at t7 hok7
          have hbi : (T i).2.2 = false := by
            cases e : (T i).2.2 with
            | false => rfl
            | true => rw [e] at hok7; cases hok7
          obtain ⟨g1, g2⟩ := hal7 hok
          have hM : Fr (RM lo wb sb db mb) h h7 := F7.weak (fun b g => by
            rcases g with g | g | g | g | g
            · exact .inl (.inl g)
            · exact .inl (.inr (.inl g))
            · exact .inl (.inr (.inr (.inl g)))
            · exact .inl (.inr (.inr (.inr (.inl g))))
            · exact .inl (.inr (.inr (.inr (.inr (hat b g))))))
          refine RunO.callD (hrec k rfl (at_ := (pn : Int)) (from_ := to_) (sl_rm sl hiv hM) t7 g2 hrl hto (fun s h1 h2 => by have := hzi hbi s h1 h2; rwa [g1] at this)) rfl rfl rfl ?_
          rintro _ h8 ⟨rfl, f8, nv8, m8, ns8, sn8, dt8, ok8, t8, r8, l8, o8, a8⟩
          have hT1 : T (i + 1) = tgo L B k (pn : Int) to_ (m7, ns7, false) := by rw [hgo hbi, if_neg (by rw [hl0]; exact Bool.false_ne_true), g1]; rfl
          rw [← hT1] at o8 a8
          have on8 := on7.fr f8 (by
            have := rb.w; have := rb.s; have := rb.d; have := rb.m
            rintro (e | e | e | e | e)
            · omega
            · omega
            · omega
            · omega
            · exact hq7 _ e rfl)
          have F8 : Fr (RR wb sb db mb nv) h h8 := F7.trans f8 (fun b g => by
            rcases g with g | g | g | g | g
            · exact .inl (.inl g)
            · exact .inl (.inr (.inl g))
            · exact .inl (.inr (.inr (.inl g)))
            · exact .inl (.inr (.inr (.inr (.inl g))))
            · exact (hr7 b g).imp (fun g => .inr (.inr (.inr (.inr g)))) id)
          have hq8 : ∀ b, At nv8 b → b ≠ q := fun b g => by
            rcases r8 b g with e | e
            · exact hq7 b e
            · have := on7.1; omega
          have hr8 : ∀ b, At nv8 b → At nv b ∨ h.next ≤ b := fun b g => by
            rcases r8 b g with e | e
            · exact hr7 b e
            · exact .inr (Nat.le_trans F7.next e)
          refine RunO.all rfl ?_
          exact RunC.region (RunO.all rfl (next h8 nv8 m8 ns8 sn8 dt8 ok8 t8 hr8 hq8 l8 o8 a8 F8 on8 _ (Le.cons (inc64 (by omega)) (Le.cons rfl (Le.cons rfl (Le.cons rfl (Le.cons rfl (Le.cons rfl (Le.nil _)))))))))
    · have hge := of_decide_eq_false hge
      obtain rfl : i = 8 := by omega
      refine RunC.exit ?_
      exact ⟨_, rfl, rfl, F7, nv7, m7, ns7, sn7, dt7, ok7, t7, hr7, by omega, hok7, hal7⟩
  · refine ⟨0, nv2, m, ns6, sn6, dt, true, by omega, t6, fun b g => .inr ?_, fun b g => ?_, by omega, by rw [hT0]; rfl, fun _ => ⟨hT0, hcp6⟩, F6, on6, Le.cons rfl (Le.cons rfl (Le.cons rfl (Le.cons rfl (Le.cons rfl (Le.cons rfl (Le.nil _))))))⟩
    · have := hnv2 b g; omega
    · have := hnv2 b g; omega
theorem rnode_ok {L : List Int} {B lo wb sb db mb : Nat} {iv : Value} (hb : Byt L) (hB : B * 64 ≤ L.length) (hB1 : 1 ≤ B) (hB2 : B ≤ 4096) (hm : L.length ≤ 4611686018427387904) (rb : RB lo wb sb db mb) (hiv : ∀ b o c, iv = .slice (some ⟨b, o, none⟩) L.length c → ¬ RM lo wb sb db mb b) : ∀ (lv : Nat), lv ≤ 2 → RNodeOk L B lo wb sb db mb iv lv := by
  intro lv
  induction lv with
  | zero => intro h; exact rnode_body hb hB hB1 hB2 hm rb hiv h (fun k e => by cases e)
  | succ k ih =>
    intro h
    exact rnode_body hb hB hB1 hB2 hm rb hiv h (fun j e => by cases e; exact ih (by omega))
end Go.Proofs.Ytdcggjkcbheolaa
end
section
set_option linter.unusedVariables false
set_option maxRecDepth 100000
open Go Go.Am Go.RowKit
namespace Go.Proofs.Ytdcggjkcbheolaa
open Go.Proofs.Try
theorem reps_bs (n : Nat) : reps (cellsOf (Value.bool false)) n = bs (List.replicate n false) := by
  rw [show cellsOf (Value.bool false) = [.bool false] from rfl, reps_one]; unfold bs; rw [List.map_replicate]
theorem reps_is0 (n : Nat) : reps (cellsOf (Value.int .i64 0)) n = is (List.replicate n 0) := by
  rw [show cellsOf (Value.int .i64 0) = [.int .i64 0] from rfl, reps_one]; unfold is; rw [List.map_replicate]
theorem getD_rep {α : Type} (x d : α) (n i : Nat) (h : x = d) : (List.replicate n x).getD i d = d := by
  rw [List.getD_eq_getElem?_getD, List.getElem?_replicate]; split
  · exact h
  · rfl
def rz : List Value := [.slice none 0 0, .int .i64 0, .slice none 0 0, .slice none 0 0, .slice none 0 0, .slice none 0 0, .bool false]
/-- No block is a node's and a sector's. -/
def apartB (sn dt : List Bool) (i : Nat) : Bool := !sn.getD i false || !dt.getD i false
theorem treeApart {L : List Int} {B : Nat} {root : Int} {m ns : List Int} {sn dt : List Bool} (S : TSpec L B 2 root 0 (List.replicate 512 0, [], false) (m, ns, false)) (c : Cpl B m ns sn dt) : (!false && !(m.any fun b => ns.contains b)) = (true && (List.range B).all (apartB sn dt)) := by
  rw [Bool.not_false, Bool.true_and, Bool.true_and, Bool.eq_iff_iff, Bool.not_eq_true', List.any_eq_false, List.all_eq_true]
  have hns : ∀ x, x ∈ ns → 2 ≤ x ∧ x < B := fun x hx => by
    rcases S.all x hx with g | ⟨k, _, g⟩
    · cases g
    · exact atIs_ne g
  constructor
  · intro H i hi
    rw [List.mem_range] at hi
    unfold apartB
    rw [c.1 i hi]
    cases hc : ns.contains (i : Int) with
    | false => rfl
    | true =>
      have hin : (i : Int) ∈ ns := by simpa using hc
      rw [c.2 i (by have := hns _ hin; omega) hi]
      cases hd : m.contains (i : Int) with
      | false => rfl
      | true =>
        have him : (i : Int) ∈ m := by simpa using hd
        exact absurd hc (H _ him)
  · intro H x hx hc
    have hin : x ∈ ns := by simpa using hc
    have hb := hns x hin
    obtain ⟨i, rfl⟩ := Int.eq_ofNat_of_zero_le (show 0 ≤ x by omega)
    have := H i (List.mem_range.2 (by omega))
    unfold apartB at this
    rw [c.1 i (by omega), c.2 i (by omega) (by omega), hc, show m.contains (i : Int) = true by simpa using hx] at this
    cases this
set_option maxHeartbeats 8000000 in
theorem refTree_ok {h : Heap} {iv : Value} {L : List Int} {root : Int} (sl : Sl h iv 1 L.length (us L)) (hb : Byt L) (hd : devOk L.length = true) :
    RunF prog 22 [iv, .int .i64 root] h fun v h' => Fr no h h' ∧ ((treeOk L root = true ∧ ∃ mb nv, h.next ≤ mb ∧ v = .tuple #[.slice (some ⟨mb, 0, none⟩) 512 (exc 512), nv, .bool true] ∧ Ow h' mb (is (treeM L root)) ∧ Row h.next h' nv 1 (treeN L root).length (is (treeN L root))) ∨ (treeOk L root = false ∧ v = .tuple #[.slice none 0 0, .slice none 0 0, .bool false])) := by
  have hdl : L.length % 64 = 0 ∧ 4 ≤ L.length / 64 ∧ L.length / 64 ≤ 4096 := by
    unfold devOk at hd
    simpa using hd
  have hm : L.length ≤ 4611686018427387904 := by omega
  refine RunF.walk func22 rfl rfl ?_
  have sl0 := sl
  obtain ⟨A, c, rfl, hc, hA⟩ := sl.form
  have hAlt : ∀ b o c', Value.slice A L.length c = .slice (some ⟨b, o, none⟩) L.length c' → b < h.next := fun b o c' e => by
    obtain ⟨b', o', rfl, rd⟩ := hA (by omega)
    cases e; exact rd.2.1
  refine RunC.seq (RunC.region (RunO.all rfl ?_))
  refine RunC.seq (RunC.region (RunO.part 1 rfl ?_))
  refine RunO.callD (refBlocks_ok sl hm) rfl rfl rfl ?_
  rintro _ _ ⟨rfl, rfl⟩
  refine RunO.all rfl ?_
  have hTW : ∀ x, treeW L x = tgo L (L.length / 64) 2 x 0 (List.replicate 512 0, [], false) := fun x => rfl
  obtain ⟨B, hBe⟩ : ∃ B, B = L.length / 64 := ⟨_, rfl⟩
  rw [← hBe] at hdl hTW ⊢
  refine RunC.seq (RunC.draw0 rfl ?_)
  refine RunO.part 3 rfl ?_
  refine RunO.make (m := B) rfl rfl rfl rfl rfl rfl (show 1 * B ≤ _ by omega) (by omega) rfl ?_
  rw [reps_bs]
  have os := Ow.push h (bs (List.replicate B false))
  have f1 : Fr no h (h.push ⟨bs (List.replicate B false), true⟩) := Fr.push _ _ _
  have hn1 : (h.push ⟨bs (List.replicate B false), true⟩).next = h.next + 1 := rfl
  generalize h.push ⟨bs (List.replicate B false), true⟩ = h1 at *
  generalize hsb : h.next = sb at os hn1 ⊢
  refine RunO.part 1 rfl ?_
  refine RunO.make (m := B) rfl rfl rfl rfl rfl rfl (show 1 * B ≤ _ by omega) (by omega) rfl ?_
  rw [reps_bs]
  have od := Ow.push h1 (bs (List.replicate B false))
  have f2 : Fr no h1 (h1.push ⟨bs (List.replicate B false), true⟩) := Fr.push _ _ _
  have hn2 : (h1.push ⟨bs (List.replicate B false), true⟩).next = h1.next + 1 := rfl
  replace os := os.fr f2 (fun g => g)
  generalize h1.push ⟨bs (List.replicate B false), true⟩ = h2 at *
  generalize hdb : h1.next = db at od hn2 ⊢
  refine RunO.make (m := 512) rfl rfl rfl rfl rfl rfl (Nat.le_of_ble_eq_true rfl) (by decide) rfl ?_
  rw [reps_is0]
  have om := Ow.push h2 (is (List.replicate 512 0))
  have f3 : Fr no h2 (h2.push ⟨is (List.replicate 512 0), true⟩) := Fr.push _ _ _
  have hn3 : (h2.push ⟨is (List.replicate 512 0), true⟩).next = h2.next + 1 := rfl
  replace os := os.fr f3 (fun g => g)
  replace od := od.fr f3 (fun g => g)
  generalize h2.push ⟨is (List.replicate 512 0), true⟩ = h3 at *
  generalize hmb : h2.next = mb at om hn3 ⊢
  refine RunO.part 2 (h1 := h3.push ⟨rz, true⟩) rfl ?_
  obtain ⟨iv, hive⟩ : ∃ iv, iv = Value.slice A L.length c := ⟨_, rfl⟩
  rw [← hive] at sl0 hAlt ⊢
  have hcl : (cellsOf (.agg ⟨rwc iv B sb db mb (.slice none 0 0) true⟩)).length = 7 := rfl
  have hac : allCells (cellsOf (.agg ⟨rwc iv B sb db mb (.slice none 0 0) true⟩)) = true := by
    rw [hive]; rfl
  refine RunO.store rfl rfl (store_ow (s := 7) (v := .agg ⟨rwc iv B sb db mb (.slice none 0 0) true⟩) (Ow.push h3 rz) rfl hcl hac (Nat.le_refl 7)) (RunO.nil ?_)
  change RunC _ _ _ _ ((h3.push ⟨rz, true⟩).put h3.next (some ⟨rwc iv B sb db mb (.slice none 0 0) true, true⟩)) _ _ _
  have ow : Ow ((h3.push ⟨rz, true⟩).put h3.next (some ⟨rwc iv B sb db mb (.slice none 0 0) true, true⟩)) h3.next (rwc iv B sb db mb (.slice none 0 0) true) := Ow.put _ (Nat.lt_succ_self _)
  have f4 : Fr no h3 ((h3.push ⟨rz, true⟩).put h3.next (some ⟨rwc iv B sb db mb (.slice none 0 0) true, true⟩)) := (Fr.push _ _ _).trans (Fr.put (m := (· = h3.next)) _ (.inl rfl)) (fun j hj => .inr (by omega))
  have hn4 : ((h3.push ⟨rz, true⟩).put h3.next (some ⟨rwc iv B sb db mb (.slice none 0 0) true, true⟩)).next = h3.next + 1 := rfl
  replace os := os.fr f4 (fun g => g)
  replace od := od.fr f4 (fun g => g)
  replace om := om.fr f4 (fun g => g)
  have f14 := ((f1.same f2).same f3).same f4
  generalize (h3.push ⟨rz, true⟩).put h3.next (some ⟨rwc iv B sb db mb (.slice none 0 0) true, true⟩) = h4 at *
  generalize h3.next = wb at *
  have rb : RB h4.next wb sb db mb := ⟨by omega, by omega, by omega, by omega, by omega, by omega, by omega, by omega, by omega, by omega⟩
  have t4 : RW h4.next h4 iv B wb sb db mb (.slice none 0 0) (List.replicate 512 0) [] (List.replicate B false) (List.replicate B false) true := ⟨ow, os, od, om, Row.nil _ _ _, List.length_replicate, List.length_replicate, List.length_replicate, Nat.le_refl _⟩
  have hiv : ∀ b o c, iv = .slice (some ⟨b, o, none⟩) L.length c → ¬ RM h4.next wb sb db mb b := fun b o c e => by
    have := hAlt b o c e
    rintro (e | e | e | e | e) <;> omega
  have hcp : Cpl B (List.replicate 512 0) [] (List.replicate B false) (List.replicate B false) := by
    refine ⟨fun i hi => getD_rep _ _ _ _ rfl, fun i h0 hi => ?_⟩
    rw [getD_rep _ _ _ _ rfl, eq_comm, ← Bool.not_eq_true]
    simp only [List.contains_eq_mem, decide_eq_true_eq, List.mem_replicate]
    omega
  have sl4 := sl0.fr0 f14
  refine RunC.seq (RunC.seq (RunC.region (RunO.all rfl ?_)))
  by_cases hr : root = 0
  · have h1 : treeOk L root = true := by unfold treeOk; rw [hr]; rfl
    have h2 : treeM L root = List.replicate 512 0 := by unfold treeM; rw [hr]; rfl
    have h3' : treeN L root = [] := by unfold treeN; rw [hr]; rfl
    rw [h1, h2, h3']
    subst hr
    refine RunC.cond rfl (fun _ => ?_) (fun g => by cases g)
    refine RunC.seq (RunC.region (RunO.part 1 rfl ?_))
    refine RunO.load (v := .slice (some ⟨mb, 0, none⟩) 512 (exc 512)) rfl (ow.ld rfl) rfl (RunO.all rfl ?_)
    exact RunC.ret ⟨_, rfl, f14, .inl ⟨rfl, mb, _, by omega, rfl, om, Row.nil _ _ _⟩⟩
  rw [show (root == 0) = false from beq_eq_false_iff_ne.2 hr]
  refine RunC.cond rfl (fun g => by cases g) (fun _ => RunC.skip ?_)
  have hTok : treeOk L root = (!(treeW L root).2.2 && !((treeW L root).1.any fun b => (treeW L root).2.1.contains b)) := by unfold treeOk; rw [show (root == 0) = false from beq_eq_false_iff_ne.2 hr]; rfl
  have hTm : treeM L root = (treeW L root).1 := by unfold treeM; rw [show (root == 0) = false from beq_eq_false_iff_ne.2 hr]; rfl
  have hTn : treeN L root = (treeW L root).2.1 := by unfold treeN; rw [show (root == 0) = false from beq_eq_false_iff_ne.2 hr]; rfl
  rw [hTok, hTm, hTn, hTW]
  have hspec := tgo_spec L B 2 root 0 (List.replicate 512 0, [], false) (by decide) List.length_replicate rfl (fun s _ _ => getD_rep _ _ _ _ rfl)
  refine RunC.seq (RunC.region (RunO.part 1 rfl ?_))
  refine RunO.callD (rnode_ok hb (by omega) (by omega) hdl.2.2 hm rb hiv 2 (by decide) (at_ := root) (from_ := 0) sl4 t4 hcp (by decide) (by decide) (fun s _ _ => getD_rep _ _ _ _ rfl)) rfl rfl rfl ?_
  rintro _ h5 ⟨rfl, f5, nv, m, ns, sn, dt, ok, t5, hr5, hl5, hok, hal⟩
  refine RunO.nil ?_
  have F5 : Fr no h h5 := f14.trans f5 (fun b g => .inr (by
    rcases g with e | e | e | e | ⟨n, c, e⟩
    · omega
    · omega
    · omega
    · omega
    · cases e))
  have hw : wb < h5.next := t5.ow.1
  -- what is to be found
  have goal : (!(tgo L B 2 root 0 (List.replicate 512 0, [], false)).2.2 && !((tgo L B 2 root 0 (List.replicate 512 0, [], false)).1.any fun b => (tgo L B 2 root 0 (List.replicate 512 0, [], false)).2.1.contains b)) = (ok && (List.range B).all (apartB sn dt)) := by
    rw [← hok]
    cases hk : ok with
    | false => rfl
    | true =>
      obtain ⟨g1, g2⟩ := hal hk
      have S := hspec (by rw [hk] at hok; cases e : (tgo L B 2 root 0 (List.replicate 512 0, [], false)).2.2 with
        | false => rfl
        | true => rw [e] at hok; cases hok)
      rw [g1] at S ⊢
      exact treeApart S g2
  rw [goal]
  have hmn : ok = true → (tgo L B 2 root 0 (List.replicate 512 0, [], false)).1 = m ∧ (tgo L B 2 root 0 (List.replicate 512 0, [], false)).2.1 = ns := fun hk => by rw [(hal hk).1]; exact ⟨rfl, rfl⟩
  generalize tgo L B 2 root 0 (List.replicate 512 0, [], false) = TT at *
  refine RunC.seqc (fun E' h' => ∃ ok', RW h4.next h' iv B wb sb db mb nv m ns sn dt ok' ∧ ok' = (ok && (List.range B).all (apartB sn dt)) ∧ Fr (· = wb) h5 h' ∧ Le (upd (upd E0 7 (.int .i64 (B : Int))) 9 (.pointer (some ⟨wb, 0, none⟩))) E') ?_ ?_
  · refine RunC.seq (RunC.region (RunO.all rfl ?_))
    refine RunC.block ?_
    let I : Nat → Env → Heap → Prop := fun d E h' => ∃ (i : Nat) (ok' : Bool), i + d = B ∧ RW h4.next h' iv B wb sb db mb nv m ns sn dt ok' ∧ ok' = (ok && (List.range i).all (apartB sn dt)) ∧ Fr (· = wb) h5 h' ∧ Le (upd (upd (upd E0 7 (.int .i64 (B : Int))) 9 (.pointer (some ⟨wb, 0, none⟩))) 10 (.int .i64 (i : Int))) E
    refine RunC.loop I ?_ (k := B) ?_
    · rintro d E h6 ⟨i, ok', hi, t6, ho, F6, hE⟩
      refine RunC.le hE ?_
      clear hE
      have ow6 := t6.ow
      refine RunC.seq (RunC.seq (RunC.region (RunO.part 4 rfl ?_)))
      by_cases hlt : i < B
      case neg =>
        rw [show decide ((i : Int) < (B : Int)) = false from decide_eq_false (by omega)]
        refine RunO.all rfl ?_
        obtain rfl : i = B := by omega
        exact RunC.cond rfl (fun g => by cases g) (fun _ => RunC.exit ⟨ok', t6, ho, F6, Le.cons rfl (Le.cons rfl (Le.nil _))⟩)
      rw [show decide ((i : Int) < (B : Int)) = true from decide_eq_true (by omega)]
      refine RunO.part 1 rfl ?_
      refine RunO.loadG (v := .bool ok') rfl rfl (ow6.ld rfl) rfl (RunO.all rfl ?_)
      cases hk : ok' with
      | false =>
        refine RunC.cond rfl (fun g => by cases g) (fun _ => RunC.exit ⟨false, hk ▸ t6, ?_, F6, Le.cons rfl (Le.cons rfl (Le.nil _))⟩)
        rw [hk] at ho
        cases ok with
        | false => rfl
        | true =>
          rw [Bool.true_and] at ho ⊢
          have := List.all_eq_false.1 ho.symm
          obtain ⟨x, hx, hx2⟩ := this
          exact (List.all_eq_false.2 ⟨x, List.mem_range.2 (by have := List.mem_range.1 hx; omega), hx2⟩).symm
      | true =>
        rw [hk] at t6 ho
        refine RunC.cond rfl (fun _ => RunC.skip ?_) (fun g => by cases g)
        have hs : i < sn.length := by rw [t6.ls]; exact hlt
        have hdl' : i < dt.length := by rw [t6.ld]; exact hlt
        have sls : Sl h6 (.slice (some ⟨sb, 0, none⟩) B (exc B)) 1 B (bs sn) := t6.os.all.sl (by rw [bs_len, t6.ls, Nat.mul_one]) (by omega) (Cp.exc (Nat.le_refl _))
        have sld : Sl h6 (.slice (some ⟨db, 0, none⟩) B (exc B)) 1 B (bs dt) := t6.od.all.sl (by rw [bs_len, t6.ld, Nat.mul_one]) (by omega) (Cp.exc (Nat.le_refl _))
        have hap : apartB sn dt i = (!sn[i] || !dt[i]) := by
          unfold apartB
          rw [List.getD_eq_getElem?_getD, List.getElem?_eq_getElem hs, List.getD_eq_getElem?_getD, List.getElem?_eq_getElem hdl']; rfl
        have ho2 : (!sn[i] || !dt[i]) = (ok && (List.range (i + 1)).all (apartB sn dt)) := by
          rw [List.range_succ, List.all_append, ← Bool.and_assoc, ← ho, Bool.true_and]
          show _ = (apartB sn dt i && true)
          rw [Bool.and_true, hap]
        obtain ⟨e1, e2, e3⟩ := t6.fail rb (!sn[i] || !dt[i])
        have f7 : Fr (· = wb) h5 (h6.put wb (some ⟨rwc iv B sb db mb nv (!sn[i] || !dt[i]), true⟩)) := F6.same (Fr.put _ (.inl rfl))
        have hI : ∀ E, Le (upd (upd (upd E0 7 (.int .i64 (B : Int))) 9 (.pointer (some ⟨wb, 0, none⟩))) 10 (.int .i64 ((i + 1 : Nat) : Int))) E → ∃ d', d' < d ∧ I d' E (h6.put wb (some ⟨rwc iv B sb db mb nv (!sn[i] || !dt[i]), true⟩)) :=
          fun E hE => ⟨d - 1, by omega, i + 1, _, by omega, e2, ho2, f7, hE⟩
        have hbs := bs_part hs
        have hbd := bs_part hdl'
        clear ho2 hap e2 e3
        refine RunC.seq (RunC.block ?_)
        refine RunC.region (RunO.part 1 rfl ?_)
        refine RunO.load (v := .slice (some ⟨sb, 0, none⟩) B (exc B)) rfl (ow6.ld rfl) rfl ?_
        refine RunO.part 1 rfl ?_
        refine RunO.at (s := 1) (k := i) (u := .bool sn[i]) rfl rfl sls rfl rfl hlt hbs rfl rfl rfl ?_
        refine RunO.part 2 rfl ?_
        generalize sn[i] = x at *
        generalize dt[i] = y at *
        cases x with
        | false =>
          refine RunO.part 7 rfl ?_
          refine RunO.part 1 rfl ?_
          refine RunO.store rfl rfl e1 (RunO.nil ?_)
          exact RunC.region (RunO.all rfl (hI _ (Le.cons (inc64 (by omega)) (Le.cons rfl (Le.cons rfl (Le.nil _))))))
        | true =>
          refine RunO.part 1 rfl ?_
          refine RunO.loadG (v := .slice (some ⟨db, 0, none⟩) B (exc B)) rfl rfl (ow6.ld rfl) rfl ?_
          refine RunO.part 1 rfl ?_
          refine RunO.atG (s := 1) (k := i) (u := .bool y) rfl (fun _ => rfl) rfl rfl sld rfl rfl hlt hbd rfl rfl rfl ?_
          refine RunO.part 3 rfl ?_
          refine RunO.store rfl rfl e1 (RunO.nil ?_)
          exact RunC.region (RunO.all rfl (hI _ (Le.cons (inc64 (by omega)) (Le.cons rfl (Le.cons rfl (Le.nil _))))))
    · exact ⟨0, ok, by omega, t5, by simp, Fr.refl _ _, Le.cons rfl (Le.cons rfl (Le.cons rfl (Le.nil _)))⟩
  rintro E' h6 ⟨ok', t6, ho, F6, hE⟩
  refine RunC.le hE ?_
  clear hE
  have ow6 := t6.ow
  rw [← ho]
  have F06 : Fr no h h6 := F5.trans F6 (fun b e => .inr (by omega))
  refine RunC.seq (RunC.seq (RunC.region (RunO.part 1 rfl ?_)))
  refine RunO.load (v := .bool ok') rfl (ow6.ld rfl) rfl (RunO.all rfl ?_)
  cases hk : ok' with
  | false =>
    refine RunC.cond rfl (fun _ => ?_) (fun g => by cases g)
    exact RunC.seq (RunC.region (RunO.all rfl (RunC.ret ⟨_, rfl, F06, .inr ⟨rfl, rfl⟩⟩)))
  | true =>
    refine RunC.cond rfl (fun g => by cases g) (fun _ => RunC.skip ?_)
    have hkk : ok = true := by
      rw [hk] at ho
      cases ok with
      | true => rfl
      | false => cases ho
    obtain ⟨g1, g2⟩ := hmn hkk
    rw [g1, g2]
    refine RunC.seq (RunC.draw0 rfl ?_)
    refine RunO.part 1 rfl ?_
    refine RunO.load (v := .slice (some ⟨mb, 0, none⟩) 512 (exc 512)) rfl (ow6.ld rfl) rfl ?_
    refine RunO.part 1 rfl ?_
    refine RunO.load (v := nv) rfl (ow6.ld rfl) rfl (RunO.all rfl ?_)
    exact RunC.ret ⟨_, rfl, F06, .inl ⟨rfl, mb, nv, by omega, rfl, t6.om, Row.lo t6.row (by omega)⟩⟩
end Go.Proofs.Ytdcggjkcbheolaa
end
section
set_option linter.unusedVariables false
set_option linter.unusedSectionVars false
set_option maxRecDepth 100000
open Go Go.Am Go.RowKit
namespace Go.Proofs.Ytdcggjkcbheolaa
open Go.Proofs.Try

theorem RunO.putQ {P : Program} {n : Nat} {ops rest : List Oper} {E : Env} {h : Heap} {Q : Env → Heap → Prop} {t ty : TypeId} {x y : Operand} {pos : String} {after : Array Edge} {b off : Nat} {v : Value} {cs : List Value}
    (hx : gE E x = some (.pointer (some ⟨b, off, none⟩))) (hy : gE E y = some v) (ow : Ow h b cs) (hs : Am.sizeOf P t = some 1) (hc : cellsOf v = [v]) (ha : isCell v = true) (hb : off < cs.length)
    (r : ∀ h', Ow h' b (cs.set off v) → Fr (· = b) h h' → RunO P n ops rest E h' Q) : RunO P n ops (⟨none, .store t x y, ty, pos, after, none⟩ :: rest) E h Q := by
  refine RunO.store hx hy (store1_ow ow hs hc ha hb) (r _ (Ow.put _ ow.1) (Fr.put _ (.inl rfl)))
def nbC (v : Nat → Value) : List Value := [v 0, v 1, v 2]
theorem nbC_get {v : Nat → Value} {l : Nat} (hl : l < 3) : nth (nbC v) (0 + l * 1) = some (v l) := by
  match l, hl with
  | 0, _ => rfl
  | 1, _ => rfl
  | 2, _ => rfl
theorem nbC_set {v : Nat → Value} {l : Nat} (hl : l < 3) (x : Value) : (nbC v).set (0 + l * 1) x = nbC (fun k => if k = l then x else v k) := by
  match l, hl with
  | 0, _ => rfl
  | 1, _ => rfl
  | 2, _ => rfl
theorem was_get {L : List Int} {B : Nat} {root : Int} {l q : Nat} (hq : q < lvN l) : (wasT L B root l).getD q 0 = look L B (2 - l) root q := by
  unfold wasT
  rw [List.getD_eq_getElem?_getD, List.getElem?_map, List.getElem?_range hq]; rfl
theorem was_kid {L : List Int} {B : Nat} {root : Int} {l i k : Nat} (hl : l < 2) (hi : i < lvN (l + 1)) (hk : k < 8) : (wasT L B root l).getD (8 * i + k) 0 = (ptrsL L B ((wasT L B root (l + 1)).getD i 0)).getD k 0 := by
  have hq := kid_lt hl hi hk
  rw [was_get hq, was_get hi]
  have hc := look_comp L B (2 - (l + 1)) 1 root (8 * i + k) (by
    rw [show 2 - (l + 1) + 1 = 2 - l by omega]; exact hq)
  rw [show 2 - (l + 1) + 1 = 2 - l by omega, Nat.pow_one, show (8 * i + k) / 8 = i by omega, show (8 * i + k) % 8 = k by omega] at hc
  rw [hc]
  generalize look L B (2 - (l + 1)) root i = p
  show (if p = 0 then (0 : Int) else look L B 0 ((atV L B p).2.getD (k / 8 ^ 0) 0) (k % 8 ^ 0)) = _
  unfold ptrsL
  by_cases h0 : p = 0
  · rw [if_pos h0, if_pos h0, nz_get]
  · rw [if_neg h0, if_neg h0, Nat.pow_zero, Nat.div_one]; rfl
/-- A node of the old tree is one. -/
theorem was_at {L : List Int} {root : Int} (te : treeE L root = 0) (hd : devOk L.length = true) {l q : Nat} (hl : l < 3) (hq : q < lvN l) (h0 : (wasT L (L.length / 64) root l).getD q 0 ≠ 0) :
    ∃ a : Nat, (wasT L (L.length / 64) root l).getD q 0 = (a : Int) ∧ (a + 1) * 64 ≤ L.length ∧ ptrsL L (L.length / 64) (a : Int) = (nodV (blkI L a)).2 ∧ (a : Int) ≠ 0 := by
  have hB := hd
  unfold devOk at hB
  have hB : L.length % 64 = 0 ∧ 4 ≤ L.length / 64 ∧ L.length / 64 ≤ 4096 := by simpa using hB
  have ht : TreeIs L root (treeM L root) := (TreeIs.of (by omega) (treeE_ok te).1).1
  rw [was_get hq] at h0 ⊢
  have hat := okA_look 3 root (2 - l) q ht.ok (by omega) hq h0
  unfold atIs at hat
  rw [Bool.and_eq_true] at hat
  have hin := atIn_iff.1 hat.1
  refine ⟨(look L (L.length / 64) (2 - l) root q).toNat, by omega, by omega, ?_, by omega⟩
  rw [show (((look L (L.length / 64) (2 - l) root q).toNat : Nat) : Int) = look L (L.length / 64) (2 - l) root q by omega]
  unfold ptrsL atV
  rw [if_neg h0, if_pos hat.1]
end Go.Proofs.Ytdcggjkcbheolaa
end
section
set_option linter.unusedVariables false
set_option linter.unusedSectionVars false
set_option maxRecDepth 100000
open Go Go.Am Go.RowKit
namespace Go.Proofs.Ytdcggjkcbheolaa
open Go.Proofs.Try

def bq (l : List Bool) : List Value := l.map Value.bool
theorem bq_part {l : List Bool} {i : Nat} (h : i < l.length) : apart prog 4 (bq l) (i * 1) = some (.bool l[i]) := by
  show nth (bq l) (i * 1) = _
  rw [Nat.mul_one, nth_eq, bq, List.getElem?_map, List.getElem?_eq_getElem h]; rfl
/-- Writes, their bytes apart. -/
def IoD (D : Nat → Prop) (lo : Nat) (h : Heap) (ov : Value) (l : List IoT) : Prop :=
  ∃ acs, Row lo h ov 3 l.length acs ∧ ∀ (j : Nat) (x : IoT), l[j]? = some x → ∃ dv, (acs.drop (j * 3)).take 3 = [.int .i64 x.1, .int .i64 x.2.1, dv] ∧ Sl h dv 1 x.2.2.1.length (us x.2.2.1) ∧ Byt x.2.2.1 ∧ ∀ b o n c, dv = .slice (some ⟨b, o, none⟩) n c → D b
theorem IoD.ios {D : Nat → Prop} {lo : Nat} {h : Heap} {ov : Value} {l : List IoT} (r : IoD D lo h ov l) (hl : l.length ≤ 9223372036854775807) : Ios h ov l := by
  obtain ⟨acs, h1, h2⟩ := r
  refine ⟨acs, h1.sl hl, fun j x hx => ?_⟩
  obtain ⟨dv, e1, e2, e3, _⟩ := h2 j x hx
  exact ⟨dv, e1, e2, e3⟩
theorem IoD.nil (D : Nat → Prop) (lo : Nat) (h : Heap) : IoD D lo h (.slice none 0 0) [] := ⟨[], Row.nil _ _ _, fun j x hx => by cases hx⟩
theorem IoD.frm {D : Nat → Prop} {lo : Nat} {h h' : Heap} {ov : Value} {l : List IoT} {M : Nat → Prop} (r : IoD D lo h ov l) (f : Fr M h h') (h1 : ∀ b, At ov b → ¬ M b) (h2 : ∀ b, D b → ¬ M b) : IoD D lo h' ov l := by
  obtain ⟨acs, a1, a2⟩ := r
  refine ⟨acs, a1.frm f h1, fun j x hx => ?_⟩
  obtain ⟨dv, e1, e2, e3, e4⟩ := a2 j x hx
  exact ⟨dv, e1, e2.frm (fun b o c e => h2 b (e4 b o _ c e)) f, e3, e4⟩
theorem IoD.snoc {D : Nat → Prop} {h h' : Heap} {lo : Nat} {ov ov' dv : Value} {l : List IoT} {acs : List Value} {x : IoT} (row : Row lo h ov 3 l.length acs)
    (k : ∀ (j : Nat) (x : IoT), l[j]? = some x → ∃ dv, (acs.drop (j * 3)).take 3 = [.int .i64 x.1, .int .i64 x.2.1, dv] ∧ Sl h dv 1 x.2.2.1.length (us x.2.2.1) ∧ Byt x.2.2.1 ∧ ∀ b o n c, dv = .slice (some ⟨b, o, none⟩) n c → D b)
    (hD : ∀ b, D b → ¬ At ov b) (hd : Sl h dv 1 x.2.2.1.length (us x.2.2.1)) (hb : Byt x.2.2.1) (hdv : ∀ b o n c, dv = .slice (some ⟨b, o, none⟩) n c → At dv b ∧ ¬ At ov b)
    (row' : Row h.next h' ov' 3 (l.length + 1) (acs ++ [.int .i64 x.1, .int .i64 x.2.1, dv])) (f : Fr (At ov) h h') (hlo : lo ≤ h.next) : IoD (fun b => D b ∨ At dv b) lo h' ov' (l ++ [x]) := by
  refine ⟨acs ++ [.int .i64 x.1, .int .i64 x.2.1, dv], by rw [List.length_append]; exact Row.lo2 row' hlo, fun j y hy => ?_⟩
  have hal : acs.length = l.length * 3 := row.1
  by_cases c : j < l.length
  · rw [List.getElem?_append_left c] at hy
    have h1 : j * 3 + 3 ≤ acs.length := by omega
    rw [List.drop_append_of_le_length (by omega), List.take_append_of_le_length (by rw [List.length_drop]; omega)]
    obtain ⟨dv2, e1, e2, e3, e4⟩ := k j y hy
    exact ⟨dv2, e1, e2.frm (fun b o c e => hD b (e4 b o _ c e)) f, e3, fun b o n c e => .inl (e4 b o n c e)⟩
  · rw [List.getElem?_append_right (by omega)] at hy
    have hj : j = l.length := by
      by_cases e : j - l.length = 0
      · omega
      · rw [List.getElem?_eq_none (by simp; omega)] at hy; cases hy
    subst hj
    rw [Nat.sub_self] at hy
    cases hy
    rw [← hal, List.drop_left]
    exact ⟨dv, rfl, hd.frm (fun b o c e => (hdv b o _ c e).2) f, hb, fun b o n c e => .inr (hdv b o n c e).1⟩
/-- What grows while a level is made: the places, what is kept, the writes. -/
structure RbS (D : Nat → Prop) (lo0 lo8 : Nat) (g8 g : Heap) (ov8 uv nv ov : Value) (U : List Int) (N : List Bool) (I : List IoT) : Prop where
  fr : Fr (At ov8) g8 g
  l0 : lo0 ≤ g.next
  l8 : g8.next = lo8
  u : Row lo8 g uv 1 U.length (is U)
  n : Row lo8 g nv 1 N.length (bq N)
  io : IoD D lo0 g ov I
  un : ∀ b, At uv b → ¬ At nv b
  uo : ∀ b, At uv b → ¬ At ov b
  no_ : ∀ b, At nv b → ¬ At ov b
  d : ∀ b, D b → ¬ At uv b ∧ ¬ At nv b ∧ ¬ At ov b ∧ b < g.next
  o8 : ∀ b, At ov b → At ov8 b ∨ lo8 ≤ b
theorem IoD.at {D : Nat → Prop} {lo : Nat} {h : Heap} {ov : Value} {l : List IoT} (r : IoD D lo h ov l) {b : Nat} (g : At ov b) : lo ≤ b ∧ b < h.next := by
  obtain ⟨acs, h1, _⟩ := r
  exact h1.at g
section
variable {D : Nat → Prop} {lo0 lo8 : Nat} {g8 g g' : Heap} {ov8 uv nv ov : Value} {U : List Int} {N : List Bool} {I : List IoT}
theorem RbS.quiet (r : RbS D lo0 lo8 g8 g ov8 uv nv ov U N I) (f : Fr no g g') : RbS D lo0 lo8 g8 g' ov8 uv nv ov U N I where
  fr := r.fr.trans f (fun _ g => g.elim)
  l0 := Nat.le_trans r.l0 f.next
  l8 := r.l8
  u := r.u.fr f (fun _ _ _ g => g)
  n := r.n.fr f (fun _ _ _ g => g)
  io := r.io.frm f (fun _ _ g => g) (fun _ _ g => g)
  un := r.un
  uo := r.uo
  no_ := r.no_
  d := fun b h => ⟨(r.d b h).1, (r.d b h).2.1, (r.d b h).2.2.1, Nat.lt_of_lt_of_le (r.d b h).2.2.2 f.next⟩
  o8 := r.o8
theorem RbS.next (r : RbS D lo0 lo8 g8 g ov8 uv nv ov U N I) : lo8 ≤ g.next := by have := r.fr.next; have := r.l8; omega
theorem RbS.appU (r : RbS D lo0 lo8 g8 g ov8 uv nv ov U N I) {uv2 : Value} {x : Int} (row : Row g.next g' uv2 1 (U.length + 1) (is U ++ is [x])) (f : Fr (At uv) g g') : RbS D lo0 lo8 g8 g' ov8 uv2 nv ov (U ++ [x]) N I where
  fr := r.fr.trans f (fun b h => .inr (by have := (r.u.at h).1; have := r.l8; omega))
  l0 := Nat.le_trans r.l0 f.next
  l8 := r.l8
  u := by
    have e : is (U ++ [x]) = is U ++ is [x] := by unfold is; rw [List.map_append]
    rw [List.length_append, e]; exact row.lo2 r.next
  n := r.n.frm f (fun b h g => r.un b g h)
  io := r.io.frm f (fun b h g => r.uo b g h) (fun b h g => (r.d b h).1 g)
  un := fun b h g => by have := (row.at h).1; have := (r.n.at g).2; omega
  uo := fun b h g => by have := (row.at h).1; have := (r.io.at g).2; omega
  no_ := r.no_
  d := fun b h => ⟨fun g => by have := (row.at g).1; have := (r.d b h).2.2.2; omega, (r.d b h).2.1, (r.d b h).2.2.1, Nat.lt_of_lt_of_le (r.d b h).2.2.2 f.next⟩
  o8 := r.o8
theorem RbS.appN (r : RbS D lo0 lo8 g8 g ov8 uv nv ov U N I) {nv2 : Value} {x : Bool} (row : Row g.next g' nv2 1 (N.length + 1) (bq N ++ bq [x])) (f : Fr (At nv) g g') : RbS D lo0 lo8 g8 g' ov8 uv nv2 ov U (N ++ [x]) I where
  fr := r.fr.trans f (fun b h => .inr (by have := (r.n.at h).1; have := r.l8; omega))
  l0 := Nat.le_trans r.l0 f.next
  l8 := r.l8
  u := r.u.frm f (fun b h g => r.un b h g)
  n := by
    have e : bq (N ++ [x]) = bq N ++ bq [x] := by unfold bq; rw [List.map_append]
    rw [List.length_append, e]; exact row.lo2 r.next
  io := r.io.frm f (fun b h g => r.no_ b g h) (fun b h g => (r.d b h).2.1 g)
  un := fun b h g => by have := (row.at g).1; have := (r.u.at h).2; omega
  uo := r.uo
  no_ := fun b h g => by have := (row.at h).1; have := (r.io.at g).2; omega
  d := fun b h => ⟨(r.d b h).1, fun g => by have := (row.at g).1; have := (r.d b h).2.2.2; omega, (r.d b h).2.2.1, Nat.lt_of_lt_of_le (r.d b h).2.2.2 f.next⟩
  o8 := r.o8
/-- A write is put behind them: its bytes were made behind `q`. -/
theorem RbS.appO (r : RbS D lo0 lo8 g8 g ov8 uv nv ov U N I) {ov2 dv : Value} {acs : List Value} {x : IoT} {q : Nat} (row0 : Row lo0 g ov 3 I.length acs)
    (k : ∀ (j : Nat) (x : IoT), I[j]? = some x → ∃ dv, (acs.drop (j * 3)).take 3 = [.int .i64 x.1, .int .i64 x.2.1, dv] ∧ Sl g dv 1 x.2.2.1.length (us x.2.2.1) ∧ Byt x.2.2.1 ∧ ∀ b o n c, dv = .slice (some ⟨b, o, none⟩) n c → D b)
    (hd : Sl g dv 1 x.2.2.1.length (us x.2.2.1)) (hb : Byt x.2.2.1) (hdv : ∀ b o n c, dv = .slice (some ⟨b, o, none⟩) n c → At dv b) (hdl : ∀ b, At dv b → b < g.next)
    (hq : ∀ b, At dv b → q ≤ b) (hu : ∀ b, At uv b → b < q) (hn : ∀ b, At nv b → b < q) (ho : ∀ b, At ov b → b < q)
    (row : Row g.next g' ov2 3 (I.length + 1) (acs ++ [.int .i64 x.1, .int .i64 x.2.1, dv])) (f : Fr (At ov) g g') : RbS (fun b => D b ∨ At dv b) lo0 lo8 g8 g' ov8 uv nv ov2 U N (I ++ [x]) where
  fr := r.fr.trans f (fun b h => by rcases r.o8 b h with g | g; exact .inl g; exact .inr (by have := r.l8; omega))
  l0 := Nat.le_trans r.l0 f.next
  l8 := r.l8
  u := r.u.frm f (fun b h g => r.uo b h g)
  n := r.n.frm f (fun b h g => r.no_ b h g)
  io := IoD.snoc row0 k (fun b h => (r.d b h).2.2.1) hd hb (fun b o n c e => ⟨hdv b o n c e, fun g => by have := hq b (hdv b o n c e); have := ho b g; omega⟩) row f r.l0
  un := r.un
  uo := fun b h g => by have := (row.at g).1; have := (r.u.at h).2; omega
  no_ := fun b h g => by have := (row.at g).1; have := (r.n.at h).2; omega
  d := fun b h => by
    have hnx := f.next
    rcases h with h | h
    · exact ⟨(r.d b h).1, (r.d b h).2.1, fun g => by have := (row.at g).1; have := (r.d b h).2.2.2; omega, Nat.lt_of_lt_of_le (r.d b h).2.2.2 hnx⟩
    · have := hq b h
      have := hdl b h
      exact ⟨fun g => by have := hu b g; omega, fun g => by have := hn b g; omega, fun g => by have := (row.at g).1; omega, by omega⟩
  o8 := fun b h => .inr (by have := (row.at h).1; have := r.next; omega)
end
theorem zw_snoc {α β γ : Type} (f : α → β → γ) : ∀ (xs : List α) (x : α) (fr : List β), List.zipWith f (xs ++ [x]) fr = List.zipWith f xs fr ++ (match fr[xs.length]? with | some y => [f x y] | none => [])
  | [], x, [] => rfl
  | [], x, y :: fr => by simp
  | a :: xs, x, [] => by simp
  | a :: xs, x, y :: fr => by
    rw [List.cons_append, List.zipWith_cons_cons, zw_snoc f xs x fr]; rfl
section
variable {m o : List Int} {W : Nat → List Int} {fr : List Int} {l i : Nat}
theorem rbW_keep (h : newB m o l i = false) : rbW m o W fr l (i + 1) = rbW m o W fr l i ∧ freP m o l (i + 1) = freP m o l i := by
  have e : freP m o l (i + 1) = freP m o l i := by rw [freP_succ, h, if_neg Bool.false_ne_true, List.append_nil]
  exact ⟨by unfold rbW; rw [e], e⟩
theorem rbW_over (h : newB m o l i = true) (hn : fr.length ≤ (freP m o l i).length) : rbW m o W fr l (i + 1) = rbW m o W fr l i ∧ (freP m o l (i + 1)).length = (freP m o l i).length + 1 := by
  refine ⟨?_, by rw [freP_succ, h, if_pos rfl, List.length_append]; rfl⟩
  unfold rbW
  rw [freP_succ, h, if_pos rfl, zw_snoc, List.getElem?_eq_none hn, List.append_nil]
theorem rbW_new (h : newB m o l i = true) (hn : (freP m o l i).length < fr.length) : rbW m o W fr l (i + 1) = rbW m o W fr l i ++ [rbIo m o W fr (l, i) (fr.getD (freP m o l i).length 0)] ∧ (freP m o l (i + 1)).length = (freP m o l i).length + 1 := by
  refine ⟨?_, by rw [freP_succ, h, if_pos rfl, List.length_append]; rfl⟩
  unfold rbW
  rw [freP_succ, h, if_pos rfl, zw_snoc, List.getD_eq_getElem?_getD, List.getElem?_eq_getElem hn]; rfl
theorem rbW_le (hl : l ≤ 3) (hi : i ≤ 64) : (rbW m o W fr l i).length ≤ 256 := by
  have := freP_le m o l i hl hi
  unfold rbW
  rw [List.length_zipWith]; omega
theorem anB_succ (k : Nat) : anB m o W fr l i (k + 1) = (anB m o W fr l i k || ((rbA m o W fr l).getD (8 * i + k) 0 != 0)) := by
  unfold anB
  rw [List.range_succ, List.any_append, List.any_cons, List.any_nil, Bool.or_false]
theorem kpB_succ (k : Nat) : kpB m o l i (k + 1) = (kpB m o l i k && (if l = 0 then m.getD (8 * i + k) 0 == o.getD (8 * i + k) 0 else smB m o (l - 1) (8 * i + k))) := by
  unfold kpB
  rw [List.range_succ, List.all_append, List.all_cons, List.all_nil, Bool.and_true]
end
theorem rbP_at {m o : List Int} {W : Nat → List Int} {fr : List Int} {l i k : Nat} (hk : k < 8) : (rbP m o W fr l i)[k]? = some ((rbA m o W fr l).getD (8 * i + k) 0) := by
  unfold rbP
  rw [List.getElem?_map, List.getElem?_range hk]; rfl
theorem set_fill {l : List Int} (hl : l.length = 8) {k : Nat} (hk : k < 8) : (is (l.take k ++ List.replicate (8 - k) 0)).set (0 + k * 1) (.int .i64 l[k]) = is (l.take (k + 1) ++ List.replicate (8 - (k + 1)) 0) := by
  have e : (l.take k ++ List.replicate (8 - k) 0).set k l[k] = l.take (k + 1) ++ List.replicate (8 - (k + 1)) 0 := by
    rw [show 8 - k = (8 - (k + 1)) + 1 by omega, List.replicate_succ, List.set_append_right _ _ (by rw [List.length_take]; omega), show k - (l.take k).length = 0 by rw [List.length_take]; omega, List.set_cons_zero, List.take_succ_eq_append_getElem (by omega), List.append_assoc]; rfl
  rw [Nat.zero_add, Nat.mul_one, ← e]
  unfold is
  rw [List.map_set]
theorem set_fillD {l : List Int} (hl : l.length = 8) {k : Nat} (hk : k < 8) : (is (l.take k ++ List.replicate (8 - k) 0)).set (0 + k * 1) (.int .i64 (l.getD k 0)) = is (l.take (k + 1) ++ List.replicate (8 - (k + 1)) 0) := by
  rw [← set_fill hl hk, List.getD_eq_getElem?_getD, List.getElem?_eq_getElem (by omega)]; rfl
theorem is_getD {l : List Int} {i : Nat} (h : i < l.length) : apart prog 3 (is l) (i * 1) = some (.int .i64 (l.getD i 0)) := by
  rw [is_part h, List.getD_eq_getElem?_getD, List.getElem?_eq_getElem h]; rfl
theorem fill_get {l : List Int} (hl : l.length = 8) {k : Nat} (hk : k < 8) : apart prog 3 (is (l.take (k + 1) ++ List.replicate (8 - (k + 1)) 0)) (0 + k * 1) = some (.int .i64 (l.getD k 0)) := by
  show nth _ (0 + k * 1) = _
  rw [Nat.zero_add, Nat.mul_one, is_nth (by rw [List.length_append, List.length_take, List.length_replicate]; omega), List.getElem_append_left (by rw [List.length_take]; omega), List.getElem_take, List.getD_eq_getElem?_getD, List.getElem?_eq_getElem (by omega)]; rfl
theorem rbP_getD {m o : List Int} {W : Nat → List Int} {fr : List Int} {l i k : Nat} (hk : k < 8) : (rbP m o W fr l i).getD k 0 = (rbA m o W fr l).getD (8 * i + k) 0 := by
  rw [List.getD_eq_getElem?_getD, rbP_at hk]; rfl
theorem rbA_rng {m o : List Int} {W : Nat → List Int} {fr : List Int} (hml : m.length = 512) (hm : ∀ s, s < 512 → 0 ≤ m.getD s 0 ∧ m.getD s 0 < 4096) (hW : ∀ l q, l < 3 → q < lvN l → 0 ≤ (W l).getD q 0 ∧ (W l).getD q 0 < 4096) (hf : ∀ i, i < fr.length → 2 ≤ fr.getD i 0 ∧ fr.getD i 0 < 4096) {l : Nat} (hl : l < 3) (q : Nat) : 0 ≤ (rbA m o W fr l).getD q 0 ∧ (rbA m o W fr l).getD q 0 < 4096 := by
  have hd : ∀ (x : List Int), ¬ q < x.length → 0 ≤ x.getD q 0 ∧ x.getD q 0 < 4096 := fun x h => by
    rw [List.getD_eq_getElem?_getD, List.getElem?_eq_none (by omega)]; decide
  match l, hl with
  | 0, _ =>
    by_cases h : q < 512
    · exact hm q h
    · exact hd m (by omega)
  | l + 1, hl =>
    by_cases h : q < lvN l
    · rw [rbA_get h]
      unfold rbV
      split
      · decide
      split
      · exact hW l q (by omega) h
      split
      · rename_i g; have := hf _ g; omega
      · decide
    · exact hd _ (by rw [rbA, List.length_map, List.length_range]; exact h)
theorem list8 {l : List Int} (hl : l.length = 8) : ∃ a b c d e f g h : Int, l = [a, b, c, d, e, f, g, h] := by
  match l, hl with
  | [a, b, c, d, e, f, g, h], _ => exact ⟨a, b, c, d, e, f, g, h, rfl⟩
theorem rsucc {α : Type} (f : Nat → α) (i : Nat) : (List.range (i + 1)).map f = (List.range i).map f ++ [f i] := by rw [List.range_succ, List.map_append]; rfl
theorem append_nilI {h : Heap} {tv : Value} {l : List Int} (st : Sl h tv 1 l.length (is l)) (hl : l.length ≤ 100000) : ∃ v' h', aappend prog h 36 36 (.slice none 0 0) tv = some (v', h') ∧ Sl h' v' 1 l.length (is l) ∧ Fr no h h' := by
  by_cases hz : l.length = 0
  · have hn : l = [] := List.eq_nil_of_length_eq_zero hz
    subst hn
    have hs := Sl.src0 st
    refine ⟨.slice none 0 0, h, ?_, Sl.nil h 1, Fr.refl _ _⟩
    show (match asrc h 1 tv with
      | some (0, _) => some (Value.slice none 0 0, h)
      | some (m + 1, news) => _
      | none => none) = _
    rw [hs]
  · obtain ⟨b, o, c, rfl, _, rd⟩ := st.nz (by omega)
    obtain ⟨v', h', e1, e2, e3⟩ := append_gr (P := prog) (t := 36) (e := 3) (s := 1) (k := 0) (c' := c) (lo := h.next) (xv := .slice none 0 0) (cells := []) rfl rfl rfl rfl rfl (Nat.le_refl 1) (Row.nil h.next h 1).gr rd (by rw [is_len, Nat.mul_one]) (by omega) (allCells_map (f := Value.int .i64) (fun _ => rfl) _) (by show 2 * (0 + l.length) * 8 ≤ _; omega) (by omega)
    refine ⟨v', h', e1, ?_, e3.weak (m1 := no) (fun b g => by obtain ⟨n2, c2, g⟩ := g; injection g with g; cases g)⟩
    have := e2.sl (by omega)
    rw [Nat.zero_add, List.nil_append] at this
    exact this
end Go.Proofs.Ytdcggjkcbheolaa
end
section
set_option linter.unusedVariables false
set_option linter.unusedSectionVars false
set_option maxRecDepth 100000
open Go Go.Am Go.RowKit
namespace Go.Proofs.Ytdcggjkcbheolaa
open Go.Proofs.Try
theorem mayC_iff {m o ns : List Int} {b : Int} : mayC m o ns b = true ↔ (b ∈ m ∨ b ∈ o) ∨ b ∈ ns := by
  unfold mayC
  rw [Bool.or_eq_true, Bool.or_eq_true, List.contains_iff_mem, List.contains_iff_mem, List.contains_iff_mem]
theorem mayB_no {B : Nat} {m o ns fr : List Int} {i : Nat} (hi : i < fr.length) (h : mayA B fr i = true ∨ mayC m o ns (fr.getD i 0) = true) : mayB B m o ns fr = false := by
  unfold mayB
  rw [← Bool.not_eq_true, List.all_eq_true]
  intro g
  have := g i (List.mem_range.2 hi)
  rw [Bool.and_eq_true, Bool.not_eq_true', Bool.not_eq_true'] at this
  rcases h with h | h
  · rw [this.1] at h; cases h
  · rw [this.2] at h; cases h
theorem mem_getD {l : List Int} {b : Int} : b ∈ l ↔ ∃ k, k < l.length ∧ l.getD k 0 = b := by
  rw [List.mem_iff_getElem]
  constructor
  · rintro ⟨k, hk, e⟩; exact ⟨k, hk, by rw [List.getD_eq_getElem?_getD, List.getElem?_eq_getElem hk]; exact e⟩
  · rintro ⟨k, hk, e⟩; exact ⟨k, hk, by rw [List.getD_eq_getElem?_getD, List.getElem?_eq_getElem hk] at e; exact e⟩
set_option maxHeartbeats 8000000 in
theorem lawFree_ok {h : Heap} {fv mv nv ov : Value} {m o ns fr : List Int} {B : Nat} (sf : Sl h fv 1 fr.length (is fr)) (sm : Sl h mv 1 m.length (is m)) (sn : Sl h nv 1 ns.length (is ns)) (so : Sl h ov 1 o.length (is o)) (hm : m.length = 512) (ho : o.length = 512) (hf : fr.length ≤ 100000) (hn : ns.length ≤ 100000) :
    RunF prog 26 [fv, mv, nv, ov, .int .i64 (B : Int)] h fun v h' => v = .bool (mayB B m o ns fr) ∧ h = h' := by
  refine RunF.walk func26 rfl rfl ?_
  have sf0 := sf
  have sm0 := sm
  have sn0 := sn
  have so0 := so
  obtain ⟨fA, fc, rfl, _, _⟩ := sf.form
  obtain ⟨mA, mc, rfl, _, _⟩ := sm.form
  obtain ⟨nA, nc_, rfl, _, _⟩ := sn.form
  obtain ⟨oA, oc, rfl, _, _⟩ := so.form
  clear sf sm sn so
  refine RunC.seq (RunC.region (RunO.all rfl ?_))
  refine RunC.seq (RunC.seq (RunC.region (RunO.all rfl ?_)))
  refine RunC.block ?_
  refine RunC.loop (fun d E g => ∃ i : Nat, i + d = fr.length ∧ (∀ j, j < i → mayA B fr j = false ∧ mayC m o ns (fr.getD j 0) = false) ∧ h = g ∧ Le (upd (upd (upd (upd (upd (upd E0 0 (.slice fA fr.length fc)) 1 (.slice mA m.length mc)) 2 (.slice nA ns.length nc_)) 3 (.slice oA o.length oc)) 4 (.int .i64 (B : Int))) 11 (.int .i64 (i : Int))) E) ?st (k := fr.length) ?ini
  case ini => exact ⟨0, by omega, fun j hj => absurd hj (Nat.not_lt_zero _), rfl, Le.cons rfl (Le.cons rfl (Le.cons rfl (Le.cons rfl (Le.cons rfl (Le.cons rfl (Le.nil _))))))⟩
  rintro d E _ ⟨i, hi, hp, rfl, hE⟩
  refine RunC.le hE ?_
  clear hE
  refine RunC.seq (RunC.seq (RunC.region (RunO.all rfl ?_)))
  refine RunC.cond rfl (fun hlt => RunC.skip ?go) (fun hge => RunC.exit ?ex)
  case ex =>
    have hge := of_decide_eq_false hge
    refine RunC.seq (RunC.region (RunO.all rfl (RunC.ret ⟨_, rfl, ?_, rfl⟩)))
    have : mayB B m o ns fr = true := by
      unfold mayB
      rw [List.all_eq_true]
      intro j hj
      have hj := List.mem_range.1 hj
      rw [(hp j (by omega)).1, (hp j (by omega)).2]; rfl
    rw [this]
  have hlt := of_decide_eq_true hlt
  have hil : i < fr.length := by omega
  refine RunC.seq (RunC.block ?_)
  refine RunC.seq (RunC.seqE (upd (upd (upd (upd (upd (upd (upd E0 0 (.slice fA fr.length fc)) 1 (.slice mA m.length mc)) 2 (.slice nA ns.length nc_)) 3 (.slice oA o.length oc)) 4 (.int .i64 (B : Int))) 11 (.int .i64 (i : Int))) 48 (.bool (mayA B fr i))) ?_ ?_)
  · refine RunC.draw0 rfl ?_
    have hA : mayA B fr i = ((decide (fr.getD i 0 < 2) || decide (fr.getD i 0 ≥ (B : Int))) || (decide ((i : Int) > 0) && decide (fr.getD i 0 ≤ fr.getD (i - 1) 0))) := rfl
    rw [hA]
    (repeat (first | refine RunO.step rfl ?_ | refine RunO.loadG rfl rfl (Ow.ld (by assumption) (by rfl)) rfl ?_ | refine RunO.nil ?_))
    refine RunO.at (s := 1) (k := i) rfl rfl sf0 rfl rfl hil (is_getD hil) rfl rfl rfl ?_
    (repeat (first | refine RunO.step rfl ?_ | refine RunO.loadG rfl rfl (Ow.ld (by assumption) (by rfl)) rfl ?_ | refine RunO.nil ?_))
    by_cases h1 : fr.getD i 0 < 2
    · rw [decide_eq_true h1]
      (repeat (first | refine RunO.step rfl ?_ | refine RunO.loadG rfl rfl (Ow.ld (by assumption) (by rfl)) rfl ?_ | refine RunO.nil ?_))
      exact ⟨rfl, Le.cons rfl (Le.cons rfl (Le.cons rfl (Le.cons rfl (Le.cons rfl (Le.cons rfl (Le.cons rfl (Le.nil _)))))))⟩
    rw [decide_eq_false h1]
    (repeat (first | refine RunO.step rfl ?_ | refine RunO.loadG rfl rfl (Ow.ld (by assumption) (by rfl)) rfl ?_ | refine RunO.nil ?_))
    refine RunO.atG (s := 1) (k := i) rfl (fun _ => rfl) rfl rfl sf0 rfl rfl hil (is_getD hil) rfl rfl rfl ?_
    (repeat (first | refine RunO.step rfl ?_ | refine RunO.loadG rfl rfl (Ow.ld (by assumption) (by rfl)) rfl ?_ | refine RunO.nil ?_))
    by_cases h2 : fr.getD i 0 ≥ (B : Int)
    · rw [decide_eq_true h2]
      (repeat (first | refine RunO.step rfl ?_ | refine RunO.loadG rfl rfl (Ow.ld (by assumption) (by rfl)) rfl ?_ | refine RunO.nil ?_))
      exact ⟨rfl, Le.cons rfl (Le.cons rfl (Le.cons rfl (Le.cons rfl (Le.cons rfl (Le.cons rfl (Le.cons rfl (Le.nil _)))))))⟩
    rw [decide_eq_false h2]
    (repeat (first | refine RunO.step rfl ?_ | refine RunO.loadG rfl rfl (Ow.ld (by assumption) (by rfl)) rfl ?_ | refine RunO.nil ?_))
    by_cases h3 : (i : Int) > 0
    · rw [decide_eq_true h3]
      (repeat (first | refine RunO.step rfl ?_ | refine RunO.loadG rfl rfl (Ow.ld (by assumption) (by rfl)) rfl ?_ | refine RunO.nil ?_))
      refine RunO.atG (s := 1) (k := i) rfl (fun _ => rfl) rfl rfl sf0 rfl rfl hil (is_getD hil) rfl rfl rfl ?_
      (repeat (first | refine RunO.step rfl ?_ | refine RunO.loadG rfl rfl (Ow.ld (by assumption) (by rfl)) rfl ?_ | refine RunO.nil ?_))
      rw [fw64 (x := (i : Int) - 1) (by omega) (by omega), show (i : Int) - 1 = ((i - 1 : Nat) : Int) by omega]
      refine RunO.atG (s := 1) (k := i - 1) rfl (fun _ => rfl) rfl rfl sf0 rfl rfl (by omega) (is_getD (by omega)) rfl rfl rfl ?_
      (repeat (first | refine RunO.step rfl ?_ | refine RunO.loadG rfl rfl (Ow.ld (by assumption) (by rfl)) rfl ?_ | refine RunO.nil ?_))
      exact ⟨rfl, Le.cons rfl (Le.cons rfl (Le.cons rfl (Le.cons rfl (Le.cons rfl (Le.cons rfl (Le.cons rfl (Le.nil _)))))))⟩
    · rw [decide_eq_false h3]
      (repeat (first | refine RunO.step rfl ?_ | refine RunO.loadG rfl rfl (Ow.ld (by assumption) (by rfl)) rfl ?_ | refine RunO.nil ?_))
      exact ⟨rfl, Le.cons rfl (Le.cons rfl (Le.cons rfl (Le.cons rfl (Le.cons rfl (Le.cons rfl (Le.cons rfl (Le.nil _)))))))⟩
  cases hA : mayA B fr i with
  | true =>
    refine RunC.cond rfl (fun _ => ?_) (fun g => by cases g)
    refine RunC.seq (RunC.region (RunO.all rfl (RunC.ret ⟨_, rfl, ?_, rfl⟩)))
    rw [mayB_no hil (.inl hA)]
  | false =>
  refine RunC.cond rfl (fun g => by cases g) (fun _ => RunC.skip ?_)
  refine RunC.seq (RunC.seq (RunC.region (RunO.all rfl ?_)))
  refine RunC.block ?_
  refine RunC.loop (fun d E g => ∃ k : Nat, k + d = ns.length ∧ (∀ j, j < k → ns.getD j 0 ≠ fr.getD i 0) ∧ h = g ∧ Le (upd (upd (upd (upd (upd (upd (upd E0 0 (.slice fA fr.length fc)) 1 (.slice mA m.length mc)) 2 (.slice nA ns.length nc_)) 3 (.slice oA o.length oc)) 4 (.int .i64 (B : Int))) 11 (.int .i64 (i : Int))) 12 (.int .i64 (k : Int))) E) ?st2 (k := ns.length) ?ini2
  case ini2 => exact ⟨0, by omega, fun j hj => absurd hj (Nat.not_lt_zero _), rfl, Le.cons rfl (Le.cons rfl (Le.cons rfl (Le.cons rfl (Le.cons rfl (Le.cons rfl (Le.cons rfl (Le.nil _)))))))⟩
  rintro d2 E _ ⟨k, hk, hpk, rfl, hE⟩
  refine RunC.le hE ?_
  clear hE
  refine RunC.seq (RunC.seq (RunC.region (RunO.all rfl ?_)))
  refine RunC.cond rfl (fun hlt => RunC.skip ?go2) (fun hge => RunC.exit ?ex2)
  case go2 =>
    have hlt := of_decide_eq_true hlt
    have hkl : k < ns.length := by omega
    refine RunC.seq (RunC.block ?_)
    refine RunC.seq (RunC.draw0 rfl ?_)
    (repeat (first | refine RunO.step rfl ?_ | refine RunO.loadG rfl rfl (Ow.ld (by assumption) (by rfl)) rfl ?_ | refine RunO.nil ?_))
    refine RunO.at (s := 1) (k := k) rfl rfl sn0 rfl rfl hkl (is_getD hkl) rfl rfl rfl ?_
    (repeat (first | refine RunO.step rfl ?_ | refine RunO.loadG rfl rfl (Ow.ld (by assumption) (by rfl)) rfl ?_ | refine RunO.nil ?_))
    refine RunO.at (s := 1) (k := i) rfl rfl sf0 rfl rfl hil (is_getD hil) rfl rfl rfl ?_
    (repeat (first | refine RunO.step rfl ?_ | refine RunO.loadG rfl rfl (Ow.ld (by assumption) (by rfl)) rfl ?_ | refine RunO.nil ?_))
    by_cases he : ns.getD k 0 = fr.getD i 0
    · refine RunC.cond (t := true) (congrArg (fun b => some (Value.bool b)) (beq_iff_eq.2 he)) (fun _ => ?_) (fun g => by cases g)
      refine RunC.seq (RunC.region (RunO.all rfl (RunC.ret ⟨_, rfl, ?_, rfl⟩)))
      rw [mayB_no hil (.inr (mayC_iff.2 (.inr (mem_getD.2 ⟨k, hkl, he⟩))))]
    · refine RunC.cond (t := false) (congrArg (fun b => some (Value.bool b)) (beq_eq_false_iff_ne.2 he)) (fun g => by cases g) (fun _ => RunC.skip ?_)
      refine RunC.region (RunO.all rfl ?_)
      refine ⟨d2 - 1, by omega, k + 1, by omega, fun j hj => ?_, rfl, Le.cons (inc64x (by omega)) (Le.cons rfl (Le.cons rfl (Le.cons rfl (Le.cons rfl (Le.cons rfl (Le.cons rfl (Le.nil _)))))))⟩
      by_cases hjk : j = k
      · rw [hjk]; exact he
      · exact hpk j (by omega)
  have hge := of_decide_eq_false hge
  refine RunC.seq (RunC.region (RunO.all rfl ?_))
  refine RunC.block ?_
  have hns : ¬ fr.getD i 0 ∈ ns := fun g => by
    obtain ⟨j, hj, e⟩ := mem_getD.1 g
    exact hpk j (by omega) e
  clear hpk hk
  refine RunC.loop (fun d E g => ∃ k : Nat, k + d = 512 ∧ (∀ j, j < k → m.getD j 0 ≠ fr.getD i 0 ∧ o.getD j 0 ≠ fr.getD i 0) ∧ h = g ∧ Le (upd (upd (upd (upd (upd (upd (upd E0 0 (.slice fA fr.length fc)) 1 (.slice mA m.length mc)) 2 (.slice nA ns.length nc_)) 3 (.slice oA o.length oc)) 4 (.int .i64 (B : Int))) 11 (.int .i64 (i : Int))) 13 (.int .i64 (k : Int))) E) ?st3 (k := 512) ?ini3
  case ini3 => exact ⟨0, by omega, fun j hj => absurd hj (Nat.not_lt_zero _), rfl, Le.cons rfl (Le.cons rfl (Le.cons rfl (Le.cons rfl (Le.cons rfl (Le.cons rfl (Le.cons rfl (Le.nil _)))))))⟩
  rintro d3 E _ ⟨k, hk, hpk, rfl, hE⟩
  refine RunC.le hE ?_
  clear hE
  refine RunC.seq (RunC.seq (RunC.region (RunO.all rfl ?_)))
  refine RunC.cond rfl (fun hlt => RunC.skip ?go3) (fun hge => RunC.exit ?ex3)
  case ex3 =>
    have hge := of_decide_eq_false hge
    refine RunC.region (RunO.all rfl ?_)
    refine ⟨d - 1, by omega, i + 1, by omega, fun j hj => ?_, rfl, Le.cons (inc64x (by omega)) (Le.cons rfl (Le.cons rfl (Le.cons rfl (Le.cons rfl (Le.cons rfl (Le.nil _))))))⟩
    by_cases hji : j = i
    · subst hji
      refine ⟨hA, ?_⟩
      rw [← Bool.not_eq_true, mayC_iff]
      rintro ((g | g) | g)
      · obtain ⟨q, hq, e⟩ := mem_getD.1 g
        exact (hpk q (by omega)).1 e
      · obtain ⟨q, hq, e⟩ := mem_getD.1 g
        exact (hpk q (by omega)).2 e
      · exact hns g
    · exact hp j (by omega)
  have hlt3 := of_decide_eq_true hlt
  have hkm : k < m.length := by omega
  have hko : k < o.length := by omega
  refine RunC.seq (RunC.block ?_)
  refine RunC.seq (RunC.draw0 rfl ?_)
  (repeat (first | refine RunO.step rfl ?_ | refine RunO.loadG rfl rfl (Ow.ld (by assumption) (by rfl)) rfl ?_ | refine RunO.nil ?_))
  refine RunO.at (s := 1) (k := k) rfl rfl sm0 rfl rfl hkm (is_getD hkm) rfl rfl rfl ?_
  (repeat (first | refine RunO.step rfl ?_ | refine RunO.loadG rfl rfl (Ow.ld (by assumption) (by rfl)) rfl ?_ | refine RunO.nil ?_))
  refine RunO.at (s := 1) (k := i) rfl rfl sf0 rfl rfl hil (is_getD hil) rfl rfl rfl ?_
  (repeat (first | refine RunO.step rfl ?_ | refine RunO.loadG rfl rfl (Ow.ld (by assumption) (by rfl)) rfl ?_ | refine RunO.nil ?_))
  by_cases he : m.getD k 0 = fr.getD i 0
  · rw [show (m.getD k 0 == fr.getD i 0) = true from beq_iff_eq.2 he]
    (repeat (first | refine RunO.step rfl ?_ | refine RunO.loadG rfl rfl (Ow.ld (by assumption) (by rfl)) rfl ?_ | refine RunO.nil ?_))
    refine RunC.cond rfl (fun _ => ?_) (fun g => by cases g)
    refine RunC.seq (RunC.region (RunO.all rfl (RunC.ret ⟨_, rfl, ?_, rfl⟩)))
    rw [mayB_no hil (.inr (mayC_iff.2 (.inl (.inl (mem_getD.2 ⟨k, hkm, he⟩)))))]
  rw [show (m.getD k 0 == fr.getD i 0) = false from beq_eq_false_iff_ne.2 he]
  (repeat (first | refine RunO.step rfl ?_ | refine RunO.loadG rfl rfl (Ow.ld (by assumption) (by rfl)) rfl ?_ | refine RunO.nil ?_))
  refine RunO.atG (s := 1) (k := k) rfl (fun _ => rfl) rfl rfl so0 rfl rfl hko (is_getD hko) rfl rfl rfl ?_
  (repeat (first | refine RunO.step rfl ?_ | refine RunO.loadG rfl rfl (Ow.ld (by assumption) (by rfl)) rfl ?_ | refine RunO.nil ?_))
  refine RunO.atG (s := 1) (k := i) rfl (fun _ => rfl) rfl rfl sf0 rfl rfl hil (is_getD hil) rfl rfl rfl ?_
  (repeat (first | refine RunO.step rfl ?_ | refine RunO.loadG rfl rfl (Ow.ld (by assumption) (by rfl)) rfl ?_ | refine RunO.nil ?_))
  by_cases he2 : o.getD k 0 = fr.getD i 0
  · refine RunC.cond (t := true) (congrArg (fun b => some (Value.bool b)) (beq_iff_eq.2 he2)) (fun _ => ?_) (fun g => by cases g)
    refine RunC.seq (RunC.region (RunO.all rfl (RunC.ret ⟨_, rfl, ?_, rfl⟩)))
    rw [mayB_no hil (.inr (mayC_iff.2 (.inl (.inr (mem_getD.2 ⟨k, hko, he2⟩)))))]
  · refine RunC.cond (t := false) (congrArg (fun b => some (Value.bool b)) (beq_eq_false_iff_ne.2 he2)) (fun g => by cases g) (fun _ => RunC.skip ?_)
    refine RunC.region (RunO.all rfl ?_)
    refine ⟨d3 - 1, by omega, k + 1, by omega, fun j hj => ?_, rfl, Le.cons (inc64x (by omega)) (Le.cons rfl (Le.cons rfl (Le.cons rfl (Le.cons rfl (Le.cons rfl (Le.cons rfl (Le.nil _)))))))⟩
    by_cases hjk : j = k
    · rw [hjk]; exact ⟨he, he2⟩
    · exact hpk j (by omega)
/-- How many nodes are needed, or why not. -/
theorem buildNeedsBad_ok {h : Heap} {iv mv : Value} {L m : List Int} {root : Int} (he : beginE L root m ≠ 0) (sl : Sl h iv 1 L.length (us L)) (hb : Byt L) (hm : L.length ≤ 4611686018427387904) (smv : Sl h mv 1 m.length (is m)) :
    RunF prog 18 [iv, .int .i64 root, mv] h fun v h' => Fr no h h' ∧ v = .tuple #[.int .i64 0, .int .i64 (beginE L root m)] := by
  refine RunF.walk func18 rfl rfl ?_
  refine RunC.seq (RunC.region (RunO.all rfl ?_))
  refine RunC.seq (RunC.region (RunO.part 3 rfl ?_))
  refine RunO.callD (begin_ok (root := root) sl hb hm smv) rfl rfl rfl ?_
  rintro _ h1 ⟨f1, ⟨g, _⟩ | ⟨_, rfl⟩⟩
  · exact absurd g he
  refine RunO.all rfl ?_
  refine RunC.seq (RunC.seq (RunC.region (RunO.all rfl (RunC.cond (t := true) (congrArg (fun b => some (Value.bool b)) (bne_iff_ne.2 he)) (fun _ => ?_) (fun g => by cases g)))))
  exact RunC.seq (RunC.region (RunO.all rfl (RunC.ret ⟨_, rfl, f1, rfl⟩)))
end Go.Proofs.Ytdcggjkcbheolaa
end
section
set_option linter.unusedVariables false
set_option linter.unusedSectionVars false
set_option maxRecDepth 100000
open Go Go.Am Go.RowKit
namespace Go.Proofs.Ytdcggjkcbheolaa
open Go.Proofs.Try

theorem frNo2 {D : Nat → Prop} {g0 g8 g : Heap} {ov8 : Value} {I : List IoT} (F : Fr no g0 g8) (io : IoD D g0.next g8 ov8 I) (f : Fr (At ov8) g8 g) : Fr no g0 g := F.trans f (fun b h => .inr (io.at h).1)
theorem rbS_init {D : Nat → Prop} {g0 g8 : Heap} {ov8 : Value} {I : List IoT} (F : Fr no g0 g8) (io : IoD D g0.next g8 ov8 I) (hD : ∀ b, D b → ¬ At ov8 b ∧ b < g8.next) : RbS D g0.next g8.next g8 g8 ov8 (.slice none 0 0) (.slice none 0 0) ov8 [] [] I where
  fr := Fr.refl _ _
  l0 := F.next
  l8 := rfl
  u := Row.nil _ _ _
  n := Row.nil _ _ _
  io := io
  un := fun b g => by obtain ⟨n2, c2, g⟩ := g; injection g with g; cases g
  uo := fun b g => by obtain ⟨n2, c2, g⟩ := g; injection g with g; cases g
  no_ := fun b g => by obtain ⟨n2, c2, g⟩ := g; injection g with g; cases g
  d := fun b h => ⟨fun g => (by obtain ⟨n2, c2, g⟩ := g; injection g with g; cases g), fun g => (by obtain ⟨n2, c2, g⟩ := g; injection g with g; cases g), (hD b h).1, (hD b h).2⟩
  o8 := fun b g => .inl g
theorem row_at {lo : Nat} {h : Heap} {v : Value} {s k : Nat} {cs : List Value} (r : Row lo h v s k cs) {b o n c : Nat} (e : v = .slice (some ⟨b, o, none⟩) n c) : At v b := by
  rcases r.2 with ⟨e1, _⟩ | ⟨b2, _, e1, _⟩
  · rw [e1] at e; injection e with e; cases e
  · rw [e1] at e
    injection e with e2
    injection e2 with e2
    injection e2 with e3
    rw [e1, e3]
    exact ⟨_, _, rfl⟩
theorem nbC_ld {v : Nat → Value} {l : Nat} (hl : l < 3) : apart prog 36 (nbC v) (0 + l * 1) = some (v l) := nbC_get hl
theorem nbC_up {v : Nat → Value} {e : Nat} {x : Value} (he : e + 1 < 3) : apart prog 36 (nbC (fun k => if k = e then x else v k)) (0 + (e + 1) * 1) = some (v (e + 1)) := by
  rw [nbC_ld he]
  show some (if e + 1 = e then x else v (e + 1)) = _
  rw [if_neg (by omega)]
theorem nbC_at {v : Nat → Value} {e : Nat} {x : Value} (he : e < 3) : apart prog 36 (nbC (fun k => if k = e then x else v k)) (0 + e * 1) = some x := by
  rw [nbC_ld he]
  show some (if e = e then x else v e) = _
  rw [if_pos rfl]
set_option maxHeartbeats 16000000 in
theorem refBuild_ok {h : Heap} {iv mv fv : Value} {L m fr : List Int} {root : Int} (sl0 : Sl h iv 1 L.length (us L)) (hb : Byt L) (hd : devOk L.length = true) (te : treeE L root = 0) (sm0 : Sl h mv 1 m.length (is m)) (hml : m.length = 512)
    (hmr : ∀ s, s < 512 → 0 ≤ m.getD s 0 ∧ m.getD s 0 < 4096) (sf0 : Sl h fv 1 fr.length (is fr)) (hfl : fr.length ≤ 1000) (hfr : ∀ i, i < fr.length → 2 ≤ fr.getD i 0 ∧ fr.getD i 0 < 4096) :
    RunF prog 25 [iv, .int .i64 root, mv, fv] h fun v h' => Fr no h h' ∧ ∃ ov rv,
      ((freP m (treeM L root) 3 0).length ≤ fr.length → v = .tuple #[.int .i64 ((rbA m (treeM L root) (wasT L (L.length / 64) root) fr 3).getD 0 0), ov, rv, .int .i64 ((freP m (treeM L root) 3 0).length : Nat), .bool true] ∧
        Ios h' ov (rbW m (treeM L root) (wasT L (L.length / 64) root) fr 3 0) ∧ Sl h' rv 1 (fr.drop (freP m (treeM L root) 3 0).length).length (is (fr.drop (freP m (treeM L root) 3 0).length))) ∧
      (fr.length < (freP m (treeM L root) 3 0).length → v = .tuple #[.int .i64 0, .slice none 0 0, .slice none 0 0, .int .i64 ((freP m (treeM L root) 3 0).length : Nat), .bool false]) := by
  have hB := hd
  unfold devOk at hB
  have hB : L.length % 64 = 0 ∧ 4 ≤ L.length / 64 ∧ L.length / 64 ≤ 4096 := by simpa using hB
  have hm : L.length ≤ 4611686018427387904 := by omega
  refine RunF.walk func25 rfl rfl ?_
  refine RunC.seq (RunC.region (RunO.all rfl ?_))
  refine RunC.seq (RunC.region (RunO.part 2 rfl ?_))
  refine RunO.callD (refTree_ok (root := root) sl0 hb hd) rfl rfl rfl ?_
  rintro _ h1 ⟨f1, ⟨_, ob, nv, hob, rfl, oo, _⟩ | ⟨g, _⟩⟩
  case inr => rw [(treeE_ok te).1] at g; cases g
  have hol := treeM_len L root
  refine RunO.all rfl ?_
  refine RunC.seq (RunC.region ?_)
  refine RunO.make (m := 64) rfl rfl rfl rfl rfl rfl (Nat.le_of_ble_eq_true rfl) (by decide) rfl ?_
  have f2 : Fr no h1 (h1.push ⟨reps (cellsOf (.bool false)) 64, true⟩) := Fr.push _ _ _
  have F2 := f1.same f2
  replace oo := oo.fr f2 (fun g => g)
  clear f2 f1
  generalize h1.push ⟨reps (cellsOf (.bool false)) 64, true⟩ = h2 at *
  obtain ⟨sv, hsv⟩ : ∃ q, q = (.slice (some ⟨h1.next, 0, none⟩) 64 (exc 64) : Value) := ⟨_, rfl⟩
  rw [← hsv]
  replace sl0 := sl0.fr0 F2
  replace sm0 := sm0.fr0 F2
  replace sf0 := sf0.fr0 F2
  refine RunO.all rfl ?_
  refine RunC.seq (RunC.region (RunO.part 1 (h1 := h2.push ⟨nbC (fun _ => .slice none 0 0), true⟩) rfl ?_))
  have on := Ow.push h2 (nbC (fun _ => .slice none 0 0))
  have f3 : Fr no h2 (h2.push ⟨nbC (fun _ => .slice none 0 0), true⟩) := Fr.push _ _ _
  generalize h2.push ⟨nbC (fun _ => .slice none 0 0), true⟩ = h3 at *
  obtain ⟨nb, hnb⟩ : ∃ q, q = h2.next := ⟨_, rfl⟩
  rw [← hnb] at on ⊢
  refine RunO.nil ?_
  refine RunC.seq (RunC.region (RunO.part 2 (h1 := h3.push ⟨is [root], true⟩) rfl ?_))
  have or_ := Ow.push h3 (is [root])
  have hrb : nb < h3.next := on.1
  have f4 : Fr no h3 (h3.push ⟨is [root], true⟩) := Fr.push _ _ _
  replace on := on.fr f4 (fun g => g)
  have F4 := f3.same f4
  clear f3 f4
  generalize h3.push ⟨is [root], true⟩ = h4 at *
  generalize h3.next = rb at *
  refine RunO.step rfl ?_
  refine RunO.putQ (off := 0 + 2 * 1) rfl rfl on rfl rfl rfl (Nat.le_of_ble_eq_true rfl) ?_
  intro h5 on5 f5
  rw [nbC_set (by decide)] at on5
  have F5 : Fr no h2 h5 := F4.trans f5 (fun b g => .inr (by have g : b = nb := g; omega))
  have or5 := or_.fr f5 (fun g => by have g : rb = nb := g; omega)
  clear on f5 F4 or_
  refine RunO.nil ?_
  refine RunC.seqc (fun E' g => ∃ v : Nat → Value, Fr no h2 g ∧ Ow g nb (nbC v) ∧ (∀ l, l < 3 → Osl (nb + 1) g (v l) 1 (lvN l) (is (wasT L (L.length / 64) root l))) ∧ Le (upd (upd (upd (upd (upd (upd (upd (upd (upd E0 0 iv) 2 mv) 3 fv) 9 (.slice none 0 0)) 10 (.slice none 0 0)) 11 (.int .i64 0)) 13 (.slice (some ⟨ob, 0, none⟩) 512 (exc 512))) 16 sv) 17 (.pointer (some ⟨nb, 0, none⟩))) E') ?p1 ?p2
  case p1 =>
    refine RunC.seq (RunC.region (RunO.all rfl ?_))
    refine RunC.block ?_
    refine RunC.loop (fun d E g => ∃ v : Nat → Value, d ≤ 2 ∧ Fr no h2 g ∧ Ow g nb (nbC v) ∧ (∀ l, d ≤ l → l < 3 → Osl (nb + 1) g (v l) 1 (lvN l) (is (wasT L (L.length / 64) root l))) ∧ (∀ l, l < d → v l = .slice none 0 0) ∧ Le (upd (upd (upd (upd (upd (upd (upd (upd (upd (upd E0 0 iv) 2 mv) 3 fv) 9 (.slice none 0 0)) 10 (.slice none 0 0)) 11 (.int .i64 0)) 13 (.slice (some ⟨ob, 0, none⟩) 512 (exc 512))) 16 sv) 17 (.pointer (some ⟨nb, 0, none⟩))) 18 (.int .i64 ((d : Int) - 1))) E) ?st (k := 2) ?ini
    case ini =>
      refine ⟨_, Nat.le_refl _, F5, on5, fun l h1 h2 => ?_, fun l h1 => ?_, Le.cons rfl (Le.cons rfl (Le.cons rfl (Le.cons rfl (Le.cons rfl (Le.cons rfl (Le.cons rfl (Le.cons rfl (Le.cons rfl (Le.cons rfl (Le.nil _))))))))))⟩
      · obtain rfl : l = 2 := by omega
        exact ⟨rfl, by decide, .inr ⟨rb, exc 1, by omega, rfl, Cp.exc (Nat.le_refl _), or5⟩⟩
      · rw [if_neg (by omega)]
    clear or5 on5 F5
    rintro d E hs ⟨v, hd2, FS, onS, hvS, hnS, hE⟩
    refine RunC.le hE ?_
    clear hE
    refine RunC.seq (RunC.seq (RunC.region (RunO.all rfl ?_)))
    refine RunC.cond rfl (fun hlt => RunC.skip ?go) (fun hge => RunC.exit ?ex)
    case ex =>
      have hge := of_decide_eq_false hge
      obtain rfl : d = 0 := by omega
      exact ⟨v, FS, onS, fun l hl => hvS l (Nat.zero_le _) hl, Le.cons rfl (Le.cons rfl (Le.cons rfl (Le.cons rfl (Le.cons rfl (Le.cons rfl (Le.cons rfl (Le.cons rfl (Le.cons rfl (Le.nil _)))))))))⟩
    have hlt := of_decide_eq_true hlt
    obtain ⟨e, rfl⟩ : ∃ e, d = e + 1 := ⟨d - 1, by omega⟩
    have he2 : e < 2 := by omega
    rw [show ((e + 1 : Nat) : Int) - 1 = (e : Int) by omega]
    obtain ⟨lo2, hlo2⟩ : ∃ q, q = hs.next := ⟨_, rfl⟩
    have hup := hvS (e + 1) (Nat.le_refl _) (by omega)
    have hups := hup.sl
    obtain ⟨uA, uc, hue, _, _⟩ := hups.form
    have hlu : lvN e = lvN (e + 1) * 8 := by
      match e, he2 with
      | 0, _ => rfl
      | 1, _ => rfl
    have hlu64 : lvN e ≤ 64 := lvN_le (by omega)
    have hwl : (wasT L (L.length / 64) root e).length = lvN e := wasT_len ..
    have hnbS := onS.1
    refine RunC.seq (RunC.block ?_)
    refine RunC.seq (RunC.region (RunO.all rfl ?_))
    refine RunC.block ?_
    refine RunC.loop (fun d E g => ∃ (i : Nat) (ov : Value), i + d = lvN (e + 1) ∧ Fr (fun b => b = nb ∨ lo2 ≤ b) hs g ∧ Ow g nb (nbC (fun k => if k = e then ov else v k)) ∧ Row lo2 g ov 1 (8 * i) (is ((wasT L (L.length / 64) root e).take (8 * i))) ∧ Le (upd (upd (upd (upd (upd (upd (upd (upd (upd (upd (upd E0 0 iv) 2 mv) 3 fv) 9 (.slice none 0 0)) 10 (.slice none 0 0)) 11 (.int .i64 0)) 13 (.slice (some ⟨ob, 0, none⟩) 512 (exc 512))) 16 sv) 17 (.pointer (some ⟨nb, 0, none⟩))) 18 (.int .i64 (e : Int))) 19 (.int .i64 (i : Int))) E) ?st2 (k := lvN (e + 1)) ?ini2
    case ini2 =>
      refine ⟨0, .slice none 0 0, by omega, Fr.refl _ _, ?_, Row.nil _ _ _, Le.cons rfl (Le.cons rfl (Le.cons rfl (Le.cons rfl (Le.cons rfl (Le.cons rfl (Le.cons rfl (Le.cons rfl (Le.cons rfl (Le.cons rfl (Le.cons rfl (Le.nil _)))))))))))⟩
      have : (fun k => if k = e then Value.slice none 0 0 else v k) = v := by
        funext k
        by_cases g : k = e
        · rw [if_pos g, g, hnS e (by omega)]
        · rw [if_neg g]
      rw [this]
      exact onS
    rintro d2 E g1 ⟨i, ov, hi, fg, on1, row, hE⟩
    refine RunC.le hE ?_
    clear hE
    have hus1 : Sl g1 (v (e + 1)) 1 (lvN (e + 1)) (is (wasT L (L.length / 64) root (e + 1))) := by
      refine hups.frm (fun b o c e1 g => ?_) fg
      rcases g with g | g
      · rcases hup.2.2 with ⟨e2, _⟩ | ⟨b2, c2, hb2, e2, _⟩
        · rw [e1] at e2; injection e2 with e2; cases e2
        · rw [e1] at e2; injection e2 with e2; injection e2 with e2; injection e2 with e2; omega
      · have := hups.lt b o c e1; omega
    refine RunC.seq (RunC.seq (RunC.region (RunO.part 2 rfl ?_)))
    refine RunO.part 1 rfl ?_
    rw [fw64 (x := (e : Int) + 1) (by omega) (by omega), show (e : Int) + 1 = ((e + 1 : Nat) : Int) by omega]
    refine RunO.indexA (s := 1) (k := e + 1) rfl rfl rfl rfl rfl (by omega) rfl ?_
    refine RunO.load (v := v (e + 1)) rfl (on1.ld (nbC_up (by omega))) rfl ?_
    rw [hue]
    refine RunO.all rfl ?_
    refine RunC.cond rfl (fun hlt => RunC.skip ?go2) (fun hge => RunC.exit ?ex2)
    case ex2 =>
      have hge := of_decide_eq_false hge
      obtain rfl : i = lvN (e + 1) := by omega
      refine RunC.region (RunO.part 1 rfl ?_)
      refine RunO.part 1 rfl ?_
      rw [fw64 (x := (e : Int) - 1) (by omega) (by omega)]
      refine RunO.all rfl ?_
      refine ⟨e, by omega, fun k => if k = e then ov else v k, by omega, FS.trans fg (fun b g => .inr (by rcases g with g | g <;> (have := FS.next; omega))), on1, fun l h1 h2 => ?_, fun l h1 => ?_, Le.cons rfl (Le.cons rfl (Le.cons rfl (Le.cons rfl (Le.cons rfl (Le.cons rfl (Le.cons rfl (Le.cons rfl (Le.cons rfl (Le.cons rfl (Le.nil _))))))))))⟩
      · by_cases hle : l = e
        · subst hle
          show Osl (nb + 1) g1 (if l = l then ov else v l) 1 (lvN l) _
          rw [if_pos rfl]
          have r2 := (row.os (by omega)).lo (show nb + 1 ≤ lo2 by omega)
          rw [List.take_of_length_le (by omega), show 8 * lvN (l + 1) = lvN l by omega] at r2
          exact r2
        · show Osl (nb + 1) g1 (if l = e then ov else v l) 1 (lvN l) _
          rw [if_neg hle]
          exact (hvS l (by omega) h2).fr fg (fun b h3 h4 g => by rcases g with g | g <;> omega)
      · show (if l = e then ov else v l) = _
        rw [if_neg (by omega)]
        exact hnS l (by omega)
    have hlt2 := of_decide_eq_true hlt
    have hi1 : i < lvN (e + 1) := by omega
    have hwl1 : (wasT L (L.length / 64) root (e + 1)).length = lvN (e + 1) := wasT_len ..
    have hpt := is_part (l := (wasT L (L.length / 64) root (e + 1))) (i := i) (by omega)
    obtain ⟨at_, hat⟩ : ∃ q, q = (wasT L (L.length / 64) root (e + 1))[i] := ⟨_, rfl⟩
    have hatD : (wasT L (L.length / 64) root (e + 1)).getD i 0 = at_ := by rw [hat, List.getD_eq_getElem?_getD, List.getElem?_eq_getElem (by omega)]; rfl
    rw [← hat] at hpt
    have FG1 : Fr no h2 g1 := FS.trans fg (fun b g => .inr (by rcases g with g | g <;> (have := FS.next; omega)))
    refine RunC.seq (RunC.block ?_)
    refine RunC.seq (RunC.region (RunO.part 1 (h1 := g1.push ⟨is nZero, true⟩) rfl ?_))
    have op := Ow.push g1 (is nZero)
    have f6 : Fr no g1 (g1.push ⟨is nZero, true⟩) := Fr.push _ _ _
    have hov : ∀ b, At ov b → lo2 ≤ b ∧ b < g1.next := fun b g => row.at g
    generalize g1.push ⟨is nZero, true⟩ = g2 at *
    obtain ⟨pb, hpb⟩ : ∃ q, q = g1.next := ⟨_, rfl⟩
    rw [← hpb] at op ⊢
    have on2 := on1.fr f6 (fun g => g)
    have hgn := fg.next
    refine RunO.nil ?_
    refine RunC.seqc (fun E' g => Fr no g1 g ∧ Ow g pb (is (ptrsL L (L.length / 64) at_)) ∧ Le (upd (upd (upd (upd (upd (upd (upd (upd (upd (upd (upd (upd E0 0 iv) 2 mv) 3 fv) 9 (.slice none 0 0)) 10 (.slice none 0 0)) 11 (.int .i64 0)) 13 (.slice (some ⟨ob, 0, none⟩) 512 (exc 512))) 16 sv) 17 (.pointer (some ⟨nb, 0, none⟩))) 18 (.int .i64 (e : Int))) 19 (.int .i64 (i : Int))) 20 (.pointer (some ⟨pb, 0, none⟩))) E') ?pt ?ap
    case pt =>
      refine RunC.seq (RunC.region (RunO.part 2 rfl ?_))
      rw [fw64 (x := (e : Int) + 1) (by omega) (by omega), show (e : Int) + 1 = ((e + 1 : Nat) : Int) by omega]
      refine RunO.indexA (s := 1) (k := e + 1) rfl rfl rfl rfl rfl (by omega) rfl ?_
      refine RunO.load (v := v (e + 1)) rfl (on2.ld (nbC_up (by omega))) rfl ?_
      refine RunO.part 1 rfl ?_
      refine RunO.at (s := 1) (k := i) rfl rfl (hus1.fr0 f6) rfl rfl hi1 hpt rfl rfl rfl ?_
      refine RunO.all rfl ?_
      refine RunC.seq (RunC.region (RunO.all rfl ?_))
      by_cases h0 : at_ = 0
      · rw [show (at_ != 0) = false from by rw [h0]; rfl]
        refine RunC.cond rfl (fun g => by cases g) (fun _ => RunC.skip ?_)
        have e0 : ptrsL L (L.length / 64) at_ = nZero := by unfold ptrsL; rw [if_pos h0]
        exact ⟨f6, by rw [e0]; exact op, Le.cons rfl (Le.cons rfl (Le.cons rfl (Le.cons rfl (Le.cons rfl (Le.cons rfl (Le.cons rfl (Le.cons rfl (Le.cons rfl (Le.cons rfl (Le.cons rfl (Le.cons rfl (Le.nil _))))))))))))⟩
      · rw [show (at_ != 0) = true from bne_iff_ne.2 h0]
        refine RunC.cond rfl (fun _ => ?_) (fun g => by cases g)
        obtain ⟨a, ea, ha, hp, hne⟩ := was_at te hd (l := e + 1) (q := i) (by omega) hi1 (by rw [hatD]; exact h0)
        rw [hatD] at ea
        rw [ea, hp]
        refine RunC.seq (RunC.region (RunO.part 2 rfl ?_))
        refine RunO.callD (refBlock_ok (sl0.fr0 (FG1.same f6)) ha hm) rfl rfl rfl ?_
        rintro bv _ ⟨sb, rfl⟩
        have hbl := blkI_len (l := L) (i := a) ha
        have sb2 : Sl g2 bv 1 (blkI L a).length (us (blkI L a)) := by rw [hbl]; exact sb
        refine RunO.callD (refParseNode_ok sb2 (byt_blk hb a)) rfl rfl rfl ?_
        rintro _ g3 ⟨rfl, f7⟩
        have op3 := op.fr f7 (fun g => g)
        refine RunO.part 3 rfl ?_
        refine RunO.part 1 (h1 := g3.push ⟨nc 0 nZero, true⟩) rfl ?_
        have oq := Ow.push g3 (nc 0 nZero)
        have f8 : Fr no g3 (g3.push ⟨nc 0 nZero, true⟩) := Fr.push _ _ _
        have op4 := op3.fr f8 (fun g => g)
        generalize g3.push ⟨nc 0 nZero, true⟩ = g4 at *
        obtain ⟨qb, hqb⟩ : ∃ q, q = g3.next := ⟨_, rfl⟩
        rw [← hqb] at oq ⊢
        have hpq : pb < qb := by have := op3.1; omega
        have hvl := nodV_len (blkI L a)
        refine RunO.store rfl rfl (nc_store (lv := (nodV (blkI L a)).1) (ps := (nodV (blkI L a)).2) oq rfl hvl rfl) ?_
        have oq5 : Ow (g4.put qb (some ⟨nc (nodV (blkI L a)).1 (nodV (blkI L a)).2, true⟩)) qb (nc (nodV (blkI L a)).1 (nodV (blkI L a)).2) := Ow.put _ oq.1
        have f9 : Fr (· = qb) g4 (g4.put qb (some ⟨nc (nodV (blkI L a)).1 (nodV (blkI L a)).2, true⟩)) := Fr.put _ (.inl rfl)
        have op5 := op4.fr f9 (fun g => by have g : pb = qb := g; omega)
        show RunO prog _ _ _ _ (g4.put qb (some ⟨nc (nodV (blkI L a)).1 (nodV (blkI L a)).2, true⟩)) _
        generalize g4.put qb (some ⟨nc (nodV (blkI L a)).1 (nodV (blkI L a)).2, true⟩) = g5 at *
        refine RunO.all rfl ?_
        refine RunC.region (RunO.part 1 rfl ?_)
        refine RunO.load (v := .agg ⟨is (nodV (blkI L a)).2⟩) rfl (nc_ptrs hvl oq5) rfl ?_
        refine RunO.store rfl rfl (arr_store op5 rfl hvl rfl) ?_
        have op6 : Ow (g5.put pb (some ⟨is (nodV (blkI L a)).2, true⟩)) pb (is (nodV (blkI L a)).2) := Ow.put _ op5.1
        have f10 : Fr (· = pb) g5 (g5.put pb (some ⟨is (nodV (blkI L a)).2, true⟩)) := Fr.put _ (.inl rfl)
        show RunO prog _ _ _ _ (g5.put pb (some ⟨is (nodV (blkI L a)).2, true⟩)) _
        generalize g5.put pb (some ⟨is (nodV (blkI L a)).2, true⟩) = g6 at *
        refine RunO.nil ?_
        exact ⟨(((f6.same f7).same f8).trans f9 (fun b g => .inr (by have g : b = qb := g; have := f6.next; omega))).trans f10 (fun b g => .inr (by have g : b = pb := g; omega)), op6, Le.cons rfl (Le.cons rfl (Le.cons rfl (Le.cons rfl (Le.cons rfl (Le.cons rfl (Le.cons rfl (Le.cons rfl (Le.cons rfl (Le.cons rfl (Le.cons rfl (Le.cons rfl (Le.nil _))))))))))))⟩
    case ap =>
      rintro E' g3 ⟨f7, op3, hE⟩
      refine RunC.le hE ?_
      clear hE
      have on3 := on1.fr f7 (fun g => g)
      have row3 := row.fr f7 (fun _ _ _ g => g)
      have fg3 : Fr (fun b => b = nb ∨ lo2 ≤ b) hs g3 := fg.trans f7 (fun _ g => g.elim)
      have hp3 := op3.1
      have hpn : lo2 ≤ pb := by omega
      have hov3 : ∀ b, At ov b → b < pb := fun b g => by have := (hov b g).2; omega
      have hkid : ∀ k, k < 8 → ∃ hk : 8 * i + k < (wasT L (L.length / 64) root e).length, (wasT L (L.length / 64) root e)[8 * i + k] = (ptrsL L (L.length / 64) at_).getD k 0 := fun k hk => by
        have h1 := was_kid (L := L) (B := L.length / 64) (root := root) he2 hi1 hk
        rw [hatD] at h1
        refine ⟨by omega, ?_⟩
        rw [← h1, List.getD_eq_getElem?_getD, List.getElem?_eq_getElem (by omega)]; rfl
      have hpl := ptrsL_len L (L.length / 64) at_
      generalize ptrsL L (L.length / 64) at_ = ps at *
      refine RunC.seq (RunC.region (RunO.all rfl ?_))
      refine RunC.block ?_
      refine RunC.loop (fun d E g => ∃ (k : Nat) (ov : Value), k + d = 8 ∧ Fr (fun b => b = nb ∨ lo2 ≤ b) hs g ∧ Ow g nb (nbC (fun k => if k = e then ov else v k)) ∧ Ow g pb (is ps) ∧ Row lo2 g ov 1 (8 * i + k) (is ((wasT L (L.length / 64) root e).take (8 * i + k))) ∧ (∀ b, At ov b → b ≠ pb) ∧ Le (upd (upd (upd (upd (upd (upd (upd (upd (upd (upd (upd (upd (upd E0 0 iv) 2 mv) 3 fv) 9 (.slice none 0 0)) 10 (.slice none 0 0)) 11 (.int .i64 0)) 13 (.slice (some ⟨ob, 0, none⟩) 512 (exc 512))) 16 sv) 17 (.pointer (some ⟨nb, 0, none⟩))) 18 (.int .i64 (e : Int))) 19 (.int .i64 (i : Int))) 20 (.pointer (some ⟨pb, 0, none⟩))) 24 (.int .i64 (k : Int))) E) ?st3 (k := 8) ?ini3
      case ini3 => exact ⟨0, ov, by omega, fg3, on3, op3, row3, fun b g => by have := hov3 b g; omega, Le.cons rfl (Le.cons rfl (Le.cons rfl (Le.cons rfl (Le.cons rfl (Le.cons rfl (Le.cons rfl (Le.cons rfl (Le.cons rfl (Le.cons rfl (Le.cons rfl (Le.cons rfl (Le.cons rfl (Le.nil _)))))))))))))⟩
      clear on3 op3 row3 fg3 hov3 on2 op f6 on1 row fg hov hus1
      rintro d3 E g4 ⟨k, ov, hk, fg, on1, op, row, hne, hE⟩
      refine RunC.le hE ?_
      clear hE
      refine RunC.seq (RunC.seq (RunC.region (RunO.all rfl ?_)))
      refine RunC.cond rfl (fun hlt => RunC.skip ?go3) (fun hge => RunC.exit ?ex3)
      case ex3 =>
        have hge := of_decide_eq_false hge
        obtain rfl : k = 8 := by omega
        refine RunC.region (RunO.all rfl ?_)
        exact ⟨d2 - 1, by omega, i + 1, ov, by omega, fg, on1, by rw [show 8 * (i + 1) = 8 * i + 8 by omega]; exact row, Le.cons (inc64x (by omega)) (Le.cons rfl (Le.cons rfl (Le.cons rfl (Le.cons rfl (Le.cons rfl (Le.cons rfl (Le.cons rfl (Le.cons rfl (Le.cons rfl (Le.cons rfl (Le.nil _)))))))))))⟩
      have hlt3 := of_decide_eq_true hlt
      have hk8 : k < 8 := by omega
      obtain ⟨hkl, hkv⟩ := hkid k hk8
      have hov : ∀ b, At ov b → lo2 ≤ b ∧ b < g4.next := fun b g => row.at g
      have hnb4 := on1.1
      refine RunC.seq (RunC.block ?_)
      refine RunC.draw0 rfl ?_
      refine RunO.part 2 rfl ?_
      refine RunO.indexA (s := 1) (k := e) rfl rfl rfl rfl rfl (by omega) rfl ?_
      refine RunO.load (v := ov) rfl (on1.ld (nbC_at (by omega))) rfl ?_
      refine RunO.part 1 rfl ?_
      refine RunO.indexA (s := 1) (k := k) rfl rfl rfl rfl rfl hk8 rfl ?_
      refine RunO.load (v := .int .i64 ps[k]) rfl (op.ld (show nth (is ps) (0 + k * 1) = _ by rw [Nat.zero_add, Nat.mul_one]; exact is_nth (by omega))) rfl ?_
      refine RunO.part 1 (h1 := g4.push ⟨is [ps[k]], true⟩) rfl ?_
      have ot := Ow.push g4 (is [ps[k]])
      have f8 : Fr no g4 (g4.push ⟨is [ps[k]], true⟩) := Fr.push _ _ _
      generalize g4.push ⟨is [ps[k]], true⟩ = g5 at *
      have on5 := on1.fr f8 (fun g => g)
      have op5 := op.fr f8 (fun g => g)
      have hn8 := f8.next
      refine RunO.appendG (s := 1) (j := 1) rfl rfl rfl rfl rfl rfl rfl rfl (by decide) (row.fr f8 (fun _ _ _ g => g)).gr ot.all rfl (Nat.le_refl 1) rfl (by show 2 * (_ + 1) * 8 ≤ _; omega) (by omega) ?_
      intro ov2 g6 row2 f9
      have on6 := on5.fr f9 (fun g => by have := hov _ g; have := hnbS; omega)
      have op6 := op5.fr f9 (fun g => hne _ g rfl)
      have hn9 := f9.next
      refine RunO.indexA (s := 1) (k := e) rfl rfl rfl rfl rfl (by omega) rfl ?_
      have hov2 : cellsOf ov2 = [ov2] ∧ isCell ov2 = true := row2.cell
      refine RunO.putQ (off := 0 + e * 1) rfl rfl on6 rfl hov2.1 hov2.2 (by show 0 + e * 1 < 3; omega) ?_
      intro g7 on7 f10
      rw [nbC_set (by omega)] at on7
      have e1 : (fun k => if k = e then ov2 else (if k = e then ov else v k)) = (fun k => if k = e then ov2 else v k) := by
        funext k
        by_cases g : k = e
        · rw [if_pos g, if_pos g]
        · rw [if_neg g, if_neg g, if_neg g]
      have on7 : Ow g7 nb (nbC (fun k => if k = e then ov2 else (if k = e then ov else v k))) := on7
      rw [e1] at on7
      have row7 := row2.frm f10 (fun b g h => by have h : b = nb := h; have := (row2.at g).1; omega)
      refine RunO.nil ?_
      refine RunC.region (RunO.all rfl ?_)
      refine ⟨d3 - 1, by omega, k + 1, ov2, by omega, ((fg.trans f8 (fun _ g => g.elim)).trans f9 (fun b g => .inl (.inr (hov b g).1))).trans f10 (fun b g => .inl (.inl g)), on7, op6.fr f10 (fun g => by have g : pb = nb := g; omega), ?_, fun b g => ?_, Le.cons (inc64x (by omega)) (Le.cons rfl (Le.cons rfl (Le.cons rfl (Le.cons rfl (Le.cons rfl (Le.cons rfl (Le.cons rfl (Le.cons rfl (Le.cons rfl (Le.cons rfl (Le.cons rfl (Le.cons rfl (Le.nil _)))))))))))))⟩
      · have r3 := row7.lo2 (lo2 := lo2) (by have := fg.next; omega)
        rw [show 8 * i + (k + 1) = 8 * i + k + 1 by omega, List.take_succ_eq_append_getElem hkl, hkv]
        have e2 : is ((wasT L (L.length / 64) root e).take (8 * i + k) ++ [ps.getD k 0]) = is ((wasT L (L.length / 64) root e).take (8 * i + k)) ++ is [ps[k]] := by
          unfold is
          rw [List.map_append, List.getD_eq_getElem?_getD, List.getElem?_eq_getElem (by omega)]; rfl
        rw [e2]
        exact r3
      · have := (row2.at g).1
        have := op5.1
        omega
  rintro E' g0 ⟨v, F0, onv, hv, hE⟩
  refine RunC.le hE ?_
  clear hE
  replace sm0 := sm0.fr0 F0
  replace sf0 := sf0.fr0 F0
  replace oo := oo.fr F0 (fun g => g)
  have FH : Fr no h g0 := F2.same F0
  clear hnb hrb sl0 F0 F2 hsv
  have hvs : ∀ l, l < 3 → Sl g0 (v l) 1 (lvN l) (is (wasT L (L.length / 64) root l)) := fun l hl => (hv l hl).sl
  clear hv
  have hWn : ∀ l q, l < 3 → q < lvN l → zrB m l q = false → smB m (treeM L root) l q = true → ((wasT L (L.length / 64) root) l).getD q 0 ≠ 0 := fun l q h1 h2 h3 h4 => was_ne te hd hml h1 h2 h3 h4
  have hWr : ∀ l q, l < 3 → q < lvN l → 0 ≤ ((wasT L (L.length / 64) root) l).getD q 0 ∧ ((wasT L (L.length / 64) root) l).getD q 0 < 4096 := fun l q h1 h2 => by
    by_cases h0 : ((wasT L (L.length / 64) root) l).getD q 0 = 0
    · rw [h0]; decide
    · obtain ⟨a, e, ha, _⟩ := was_at te hd h1 h2 h0
      rw [e]; omega
  have hol2 : (treeM L root).length = 512 := hol
  have hWl : ∀ l, ((wasT L (L.length / 64) root) l).length = lvN l := fun l => wasT_len ..
  generalize (wasT L (L.length / 64) root) = Wf at *
  generalize (treeM L root) = o at *
  have hne : ∀ i, i < fr.length → fr.getD i 0 ≠ 0 := fun i hi => by have := hfr i hi; omega
  have hAr := fun l (hl : l < 3) q => rbA_rng (o := o) (W := Wf) (fr := fr) hml hmr hWr hfr hl q
  obtain ⟨fA, fc, hfe, _, _⟩ := sf0.form
  refine RunC.seq (RunC.region (RunO.all rfl ?_))
  refine RunC.seqc (fun E' g => ∃ (av ov : Value) (D : Nat → Prop), Fr no g0 g ∧ Sl g av 1 (rbA m o Wf fr 3).length (is (rbA m o Wf fr 3)) ∧ IoD D g0.next g ov (rbW m o Wf fr 3 0) ∧ Le (upd (upd (upd (upd (upd E0 3 fv) 9 ov) 10 (.slice none 0 0)) 11 (.int .i64 ((freP m o 3 0).length : Nat))) 25 av) E') ?p3 ?p4
  case p4 =>
    rintro E' g ⟨av, ov, D, F, sav, io, hE⟩
    refine RunC.le hE ?_
    clear hE
    have sfd := sf0.fr0 F
    rw [hfe] at sfd ⊢
    have hcl := freP_le m o 3 0 (by omega) (by omega)
    have hwl := rbW_le (m := m) (o := o) (W := Wf) (fr := fr) (l := 3) (i := 0) (by omega) (by omega)
    have h3l : (rbA m o Wf fr 3).length = 1 := by rw [rbA, List.length_map, List.length_range]; rfl
    generalize (freP m o 3 0).length = nd at *
    refine RunC.seq (RunC.seq (RunC.region (RunO.all rfl (RunC.cond rfl (fun ho => ?_) (fun ho => RunC.skip ?_)))))
    · have ho := of_decide_eq_true ho
      exact RunC.seq (RunC.region (RunO.all rfl (RunC.ret ⟨_, rfl, FH.same F, .slice none 0 0, .slice none 0 0, fun h => absurd h (by omega), fun _ => rfl⟩)))
    have ho := of_decide_eq_false ho
    have hle : nd ≤ fr.length := by omega
    refine RunC.seq (RunC.region (RunO.part 3 rfl ?_))
    refine RunO.sliceSl (s := 1) (len := fr.length) (k := nd) (m := fr.length) rfl rfl rfl rfl rfl sfd (.some _ _ _) (.none _) hle (Nat.le_refl _) rfl ?_
    intro tv st
    have hdl : (fr.drop nd).length = fr.length - nd := List.length_drop
    have st2 : Sl g tv 1 (fr.drop nd).length (is (fr.drop nd)) := by
      rw [Nat.mul_one, Nat.mul_one] at st
      have e : ((is fr).drop nd).take (fr.length - nd) = is (fr.drop nd) := by
        unfold is
        rw [← List.map_drop, List.take_of_length_le (by rw [List.length_map, hdl]; exact Nat.le_refl _)]
      rw [e, ← hdl] at st
      exact st
    obtain ⟨rv, g2, e1, sr, fr2⟩ := append_nilI st2 (by omega)
    refine RunO.one rfl (abuiltin_app e1) rfl ?_
    refine RunO.all rfl ?_
    obtain ⟨aA, ac, rfl, _, _⟩ := sav.form
    refine RunC.seq (RunC.region (RunO.part 1 rfl ?_))
    refine RunO.at (s := 1) (k := 0) rfl rfl (sav.fr0 fr2) rfl rfl (by omega) (is_getD (by omega)) rfl rfl rfl ?_
    refine RunO.all rfl ?_
    exact RunC.ret ⟨_, rfl, (FH.same F).same fr2, ov, rv, fun _ => ⟨rfl, (io.frm fr2 (fun _ _ g => g) (fun _ _ g => g)).ios (by omega), sr⟩, fun h => absurd h (by omega)⟩
  refine RunC.seq (RunC.region (RunO.all rfl ?_))
  refine RunC.block ?_
  refine RunC.loop (fun d E g => ∃ (lv : Nat) (av sv ov : Value) (D : Nat → Prop), lv + d = 3 ∧ Fr no g0 g ∧ Sl g av 1 (rbA m o Wf fr lv).length (is (rbA m o Wf fr lv)) ∧ (∀ l, lv = l + 1 → Sl g sv 1 (lvN l) (bq ((List.range (lvN l)).map (smB m o l)))) ∧ IoD D g0.next g ov (rbW m o Wf fr lv 0) ∧ (∀ b, D b → ¬ At ov b ∧ b < g.next) ∧
    (∀ b o n c, av = .slice (some ⟨b, o, none⟩) n c → ¬ At ov b) ∧ (∀ l, lv = l + 1 → ∀ b o n c, sv = .slice (some ⟨b, o, none⟩) n c → ¬ At ov b) ∧ Le (upd (upd (upd (upd (upd (upd (upd (upd (upd E0 3 fv) 9 ov) 10 (.slice none 0 0)) 11 (.int .i64 ((freP m o lv 0).length : Nat))) 13 (.slice (some ⟨ob, 0, none⟩) 512 (exc 512))) 16 sv) 17 (.pointer (some ⟨nb, 0, none⟩))) 25 av) 26 (.int .i64 (lv : Int))) E) ?stL (k := 3) ?iniL
  case iniL => exact ⟨0, mv, sv, .slice none 0 0, fun _ => False, rfl, Fr.refl _ _, sm0, fun l h => by omega, IoD.nil _ _ _, fun b h => h.elim, (fun b o n c e g => by obtain ⟨n2, c2, g⟩ := g; injection g with g; cases g), (fun l h => by omega), Le.cons rfl (Le.cons rfl (Le.cons rfl (Le.cons rfl (Le.cons rfl (Le.cons rfl (Le.cons rfl (Le.cons rfl (Le.cons rfl (Le.nil _)))))))))⟩
  rintro d E g8 ⟨lv, av, sv, ov8, D8, hlv, F8, sav, ssv, io8, hD8, hav, hsv, hE⟩
  refine RunC.le hE ?_
  clear hE
  refine RunC.seq (RunC.seq (RunC.region (RunO.all rfl ?_)))
  refine RunC.cond rfl (fun hlt => RunC.skip ?goL) (fun hge => RunC.exit ?exL)
  case exL =>
    have hge := of_decide_eq_false hge
    obtain rfl : lv = 3 := by omega
    exact ⟨av, ov8, D8, F8, sav, io8, Le.cons rfl (Le.cons rfl (Le.cons rfl (Le.cons rfl (Le.cons rfl (Le.nil _)))))⟩
  have hlt := of_decide_eq_true hlt
  have hl3 : lv < 3 := by omega
  have hal := rbA_len (o := o) (W := Wf) (fr := fr) hml hl3
  have hlv64 : lvN lv ≤ 64 := lvN_le hl3
  obtain ⟨aA, ac, rfl, _, _⟩ := sav.form
  refine RunC.seq (RunC.block ?_)
  refine RunC.seq (RunC.region (RunO.all rfl ?_))
  refine RunC.seq (RunC.region (RunO.all rfl ?_))
  refine RunC.seqc (fun E' g => ∃ (uv nv ov : Value) (D : Nat → Prop), RbS D g0.next g8.next g8 g ov8 uv nv ov ((List.range (lvN lv)).map (rbV m o Wf fr lv)) ((List.range (lvN lv)).map (smB m o lv)) (rbW m o Wf fr (lv + 1) 0) ∧ Le (upd (upd (upd (upd (upd (upd (upd (upd (upd E0 3 fv) 9 ov) 10 (.slice none 0 0)) 11 (.int .i64 ((freP m o (lv + 1) 0).length : Nat))) 13 (.slice (some ⟨ob, 0, none⟩) 512 (exc 512))) 17 (.pointer (some ⟨nb, 0, none⟩))) 26 (.int .i64 (lv : Int))) 27 uv) 28 nv) E') ?lvl ?aft
  case aft =>
    rintro E' g ⟨uv, nv, ov, D, rs, hE⟩
    refine RunC.le hE ?_
    clear hE
    refine RunC.region (RunO.all rfl ?_)
    refine RunC.region (RunO.all rfl ?_)
    exact ⟨d - 1, by omega, lv + 1, uv, nv, ov, D, by omega, frNo2 F8 io8 rs.fr, rs.u.sl (by rw [List.length_map, List.length_range]; omega), (fun l h => by
      obtain rfl : lv = l := by omega
      have := rs.n.sl (by rw [List.length_map, List.length_range]; omega)
      rw [List.length_map, List.length_range] at this
      exact this), rs.io, fun b h => ⟨(rs.d b h).2.2.1, (rs.d b h).2.2.2⟩, fun b o n c e => rs.uo b (row_at rs.u e), fun l h b o n c e => rs.no_ b (row_at rs.n e), Le.cons (inc64x (by omega)) (Le.cons rfl (Le.cons rfl (Le.cons rfl (Le.cons rfl (Le.cons rfl (Le.cons rfl (Le.cons rfl (Le.cons rfl (Le.nil _)))))))))⟩
  refine RunC.seq (RunC.region (RunO.all rfl ?_))
  refine RunC.block ?_
  refine RunC.loop (fun d E g => ∃ (i : Nat) (uv nv ov : Value) (D : Nat → Prop), i + d = lvN lv ∧ RbS D g0.next g8.next g8 g ov8 uv nv ov ((List.range i).map (rbV m o Wf fr lv)) ((List.range i).map (smB m o lv)) (rbW m o Wf fr lv i) ∧ Le (upd (upd (upd (upd (upd (upd (upd (upd (upd (upd (upd (upd E0 3 fv) 9 ov) 10 (.slice none 0 0)) 11 (.int .i64 ((freP m o lv i).length : Nat))) 13 (.slice (some ⟨ob, 0, none⟩) 512 (exc 512))) 16 sv) 17 (.pointer (some ⟨nb, 0, none⟩))) 25 (.slice aA (rbA m o Wf fr lv).length ac)) 26 (.int .i64 (lv : Int))) 27 uv) 28 nv) 29 (.int .i64 (i : Int))) E) ?stI (k := lvN lv) ?iniI
  case iniI => exact ⟨0, .slice none 0 0, .slice none 0 0, ov8, D8, by omega, rbS_init F8 io8 hD8, Le.cons rfl (Le.cons rfl (Le.cons rfl (Le.cons rfl (Le.cons rfl (Le.cons rfl (Le.cons rfl (Le.cons rfl (Le.cons rfl (Le.cons rfl (Le.cons rfl (Le.cons rfl (Le.nil _))))))))))))⟩
  rintro d2 E g ⟨i, uv, nv, ov, D, hi, rs, hE⟩
  refine RunC.le hE ?_
  clear hE
  refine RunC.seq (RunC.seq (RunC.region (RunO.part 3 rfl ?_)))
  refine RunO.part 1 rfl ?_
  rw [show (((rbA m o Wf fr lv).length : Nat) : Int).tdiv 8 = ((lvN lv : Nat) : Int) by rw [hal, Int.tdiv_eq_ediv_of_nonneg (by omega)]; omega, fw64 (x := ((lvN lv : Nat) : Int)) (by omega) (by omega)]
  refine RunO.all rfl ?_
  refine RunC.cond rfl (fun hlt => RunC.skip ?goI) (fun hge => RunC.exit ?exI)
  case exI =>
    have hge := of_decide_eq_false hge
    obtain rfl : i = lvN lv := by omega
    exact ⟨uv, nv, ov, D, by have e := freP_next m o lv; unfold rbW at rs ⊢; rw [← e]; exact rs, by rw [← freP_next]; exact Le.cons rfl (Le.cons rfl (Le.cons rfl (Le.cons rfl (Le.cons rfl (Le.cons rfl (Le.cons rfl (Le.cons rfl (Le.cons rfl (Le.nil _)))))))))⟩
  have hlt2 := of_decide_eq_true hlt
  have hil : i < lvN lv := by omega
  refine RunC.seqc (fun E' g => ∃ (uv nv ov : Value) (D : Nat → Prop), RbS D g0.next g8.next g8 g ov8 uv nv ov ((List.range (i + 1)).map (rbV m o Wf fr lv)) ((List.range (i + 1)).map (smB m o lv)) (rbW m o Wf fr lv (i + 1)) ∧ Le (upd (upd (upd (upd (upd (upd (upd (upd (upd (upd (upd (upd E0 3 fv) 9 ov) 10 (.slice none 0 0)) 11 (.int .i64 ((freP m o lv (i + 1)).length : Nat))) 13 (.slice (some ⟨ob, 0, none⟩) 512 (exc 512))) 16 sv) 17 (.pointer (some ⟨nb, 0, none⟩))) 25 (.slice aA (rbA m o Wf fr lv).length ac)) 26 (.int .i64 (lv : Int))) 27 uv) 28 nv) 29 (.int .i64 (i : Int))) E') ?b9 ?inc
  case inc =>
    rintro E' g ⟨uv, nv, ov, D, rs, hE⟩
    refine RunC.le hE ?_
    clear hE
    refine RunC.region (RunO.all rfl ?_)
    exact ⟨d2 - 1, by omega, i + 1, uv, nv, ov, D, by omega, rs, Le.cons (inc64x (by omega)) (Le.cons rfl (Le.cons rfl (Le.cons rfl (Le.cons rfl (Le.cons rfl (Le.cons rfl (Le.cons rfl (Le.cons rfl (Le.cons rfl (Le.cons rfl (Le.cons rfl (Le.nil _))))))))))))⟩
  refine RunC.block ?_
  have hP8 := rbP_len m o Wf fr lv i
  have hav1 : Sl g (.slice aA (rbA m o Wf fr lv).length ac) 1 (rbA m o Wf fr lv).length (is (rbA m o Wf fr lv)) := sav.frm (fun b o2 c e => hav b o2 _ c e) rs.fr
  have hsv1 : ∀ l, lv = l + 1 → Sl g sv 1 (lvN l) (bq ((List.range (lvN l)).map (smB m o l))) := fun l hl => (ssv l hl).frm (fun b o2 c e => hsv l hl b o2 _ c e) rs.fr
  have F0g : Fr no g0 g := frNo2 F8 io8 rs.fr
  refine RunC.seq (RunC.region (RunO.all rfl ?_))
  refine RunC.seq (RunC.region (RunO.part 1 (h1 := g.push ⟨is nZero, true⟩) rfl ?_))
  have op := Ow.push g (is nZero)
  have fp : Fr no g (g.push ⟨is nZero, true⟩) := Fr.push _ _ _
  generalize g.push ⟨is nZero, true⟩ = ga at *
  obtain ⟨pb, hpb⟩ : ∃ q, q = g.next := ⟨_, rfl⟩
  rw [← hpb] at op ⊢
  refine RunO.nil ?_
  refine RunC.seqc (fun E' g' => Fr no g g' ∧ Ow g' pb (is (rbP m o Wf fr lv i)) ∧ Le (upd (upd (upd (upd (upd (upd (upd (upd (upd (upd (upd (upd (upd (upd (upd E0 3 fv) 9 ov) 10 (.slice none 0 0)) 11 (.int .i64 ((freP m o lv i).length : Nat))) 13 (.slice (some ⟨ob, 0, none⟩) 512 (exc 512))) 16 sv) 17 (.pointer (some ⟨nb, 0, none⟩))) 25 (.slice aA (rbA m o Wf fr lv).length ac)) 26 (.int .i64 (lv : Int))) 27 uv) 28 nv) 29 (.int .i64 (i : Int))) 30 (.bool (!zrB m lv i))) 31 (.bool (smB m o lv i))) 32 (.pointer (some ⟨pb, 0, none⟩))) E') ?pl ?rest
  case pl =>
    refine RunC.seq (RunC.region (RunO.all rfl ?_))
    refine RunC.block ?_
    refine RunC.loop (fun d E g' => ∃ k : Nat, k + d = 8 ∧ Fr no g g' ∧ Ow g' pb (is ((rbP m o Wf fr lv i).take k ++ List.replicate (8 - k) 0)) ∧ Le (upd (upd (upd (upd (upd (upd (upd (upd (upd (upd (upd (upd (upd (upd (upd (upd E0 3 fv) 9 ov) 10 (.slice none 0 0)) 11 (.int .i64 ((freP m o lv i).length : Nat))) 13 (.slice (some ⟨ob, 0, none⟩) 512 (exc 512))) 16 sv) 17 (.pointer (some ⟨nb, 0, none⟩))) 25 (.slice aA (rbA m o Wf fr lv).length ac)) 26 (.int .i64 (lv : Int))) 27 uv) 28 nv) 29 (.int .i64 (i : Int))) 30 (.bool (anB m o Wf fr lv i k))) 31 (.bool (kpB m o lv i k))) 32 (.pointer (some ⟨pb, 0, none⟩))) 33 (.int .i64 (k : Int))) E) ?stK (k := 8) ?iniK
    case iniK => exact ⟨0, rfl, fp, op, Le.cons rfl (Le.cons rfl (Le.cons rfl (Le.cons rfl (Le.cons rfl (Le.cons rfl (Le.cons rfl (Le.cons rfl (Le.cons rfl (Le.cons rfl (Le.cons rfl (Le.cons rfl (Le.cons rfl (Le.cons rfl (Le.cons rfl (Le.cons rfl (Le.nil _))))))))))))))))⟩
    clear fp op
    rintro d3 E gb ⟨k, hk, fb, op, hE⟩
    refine RunC.le hE ?_
    clear hE
    refine RunC.seq (RunC.seq (RunC.region (RunO.all rfl ?_)))
    refine RunC.cond rfl (fun hlt => RunC.skip ?goK) (fun hge => RunC.exit ?exK)
    case exK =>
      have hge := of_decide_eq_false hge
      obtain rfl : k = 8 := by omega
      rw [List.take_of_length_le (by omega), show List.replicate (8 - 8) (0 : Int) = [] from rfl, List.append_nil] at op
      rw [anB_all hml hne hWn hl3 hil, kpB_all hml hol2 hl3 hil]
      exact ⟨fb, op, Le.cons rfl (Le.cons rfl (Le.cons rfl (Le.cons rfl (Le.cons rfl (Le.cons rfl (Le.cons rfl (Le.cons rfl (Le.cons rfl (Le.cons rfl (Le.cons rfl (Le.cons rfl (Le.cons rfl (Le.cons rfl (Le.cons rfl (Le.nil _)))))))))))))))⟩
    have hlt3 := of_decide_eq_true hlt
    have hk8 : k < 8 := by omega
    have hik : 8 * i + k < (rbA m o Wf fr lv).length := by omega
    have hPk := rbP_getD (m := m) (o := o) (W := Wf) (fr := fr) (l := lv) (i := i) hk8
    have hpt := is_getD hik
    rw [← hPk] at hpt
    refine RunC.seq (RunC.block ?_)
    refine RunC.seq (RunC.region ?_)
    (repeat (first | refine RunO.step rfl ?_ | refine RunO.loadG rfl rfl (Ow.ld (by assumption) (by rfl)) rfl ?_ | refine RunO.nil ?_))
    rw [fw64 (x := 8 * (i : Int)) (by omega) (by omega), fw64 (x := 8 * (i : Int) + (k : Int)) (by omega) (by omega), show 8 * (i : Int) + (k : Int) = ((8 * i + k : Nat) : Int) by omega]
    refine RunO.at (s := 1) (k := 8 * i + k) rfl rfl (hav1.fr0 fb) rfl rfl hik hpt rfl rfl rfl ?_
    refine RunO.indexA (s := 1) (k := k) rfl rfl rfl rfl rfl hk8 rfl ?_
    refine RunO.putQ (off := 0 + k * 1) rfl rfl op rfl rfl rfl (by rw [is_len, List.length_append, List.length_take, List.length_replicate]; omega) ?_
    intro gc oc fc
    rw [set_fillD hP8 hk8] at oc
    have fbc : Fr no g gc := fb.trans fc (fun b h => .inr (by have h : b = pb := h; omega))
    have hread := fill_get hP8 hk8
    refine RunO.nil ?_
    refine (RunC.seqE (upd (upd (upd (upd (upd (upd (upd (upd (upd (upd (upd (upd (upd (upd (upd (upd E0 3 fv) 9 ov) 10 (.slice none 0 0)) 11 (.int .i64 ((freP m o lv i).length : Nat))) 13 (.slice (some ⟨ob, 0, none⟩) 512 (exc 512))) 16 sv) 17 (.pointer (some ⟨nb, 0, none⟩))) 25 (.slice aA (rbA m o Wf fr lv).length ac)) 26 (.int .i64 (lv : Int))) 27 uv) 28 nv) 29 (.int .i64 (i : Int))) 30 (.bool (anB m o Wf fr lv i (k + 1)))) 31 (.bool (kpB m o lv i k))) 32 (.pointer (some ⟨pb, 0, none⟩))) 33 (.int .i64 (k : Int))) ?_ ?_)
    · rw [anB_succ]
      refine RunC.region ?_
      (repeat (first | refine RunO.step rfl ?_ | refine RunO.loadG rfl rfl (Ow.ld (by assumption) (by rfl)) rfl ?_ | refine RunO.nil ?_))
      cases anB m o Wf fr lv i k with
      | true =>
        (repeat (first | refine RunO.step rfl ?_ | refine RunO.loadG rfl rfl (Ow.ld (by assumption) (by rfl)) rfl ?_ | refine RunO.nil ?_))
        exact ⟨rfl, Le.cons rfl (Le.cons rfl (Le.cons rfl (Le.cons rfl (Le.cons rfl (Le.cons rfl (Le.cons rfl (Le.cons rfl (Le.cons rfl (Le.cons rfl (Le.cons rfl (Le.cons rfl (Le.cons rfl (Le.cons rfl (Le.cons rfl (Le.cons rfl (Le.nil _))))))))))))))))⟩
      | false =>
        (repeat (first | refine RunO.step rfl ?_ | refine RunO.loadG rfl rfl (Ow.ld (by assumption) (by rfl)) rfl ?_ | refine RunO.nil ?_))
        refine RunO.indexA (s := 1) (k := k) rfl rfl rfl rfl rfl hk8 rfl ?_
        refine RunO.loadG rfl rfl (oc.ld hread) rfl ?_
        rw [← hPk]
        (repeat (first | refine RunO.step rfl ?_ | refine RunO.loadG rfl rfl (Ow.ld (by assumption) (by rfl)) rfl ?_ | refine RunO.nil ?_))
        exact ⟨rfl, Le.cons rfl (Le.cons rfl (Le.cons rfl (Le.cons rfl (Le.cons rfl (Le.cons rfl (Le.cons rfl (Le.cons rfl (Le.cons rfl (Le.cons rfl (Le.cons rfl (Le.cons rfl (Le.cons rfl (Le.cons rfl (Le.cons rfl (Le.cons rfl (Le.nil _))))))))))))))))⟩
    have hfi : (8 * (i : Int) + (k : Int)) = ((8 * i + k : Nat) : Int) := by omega
    refine RunC.seq (RunC.region (RunO.all rfl (RunC.cond rfl (fun c0 => ?_) (fun c0 => ?_))))
    · have c0 : lv = 0 := by have := beq_iff_eq.1 c0; omega
      have hk1 : kpB m o lv i (k + 1) = (kpB m o lv i k && (m.getD (8 * i + k) 0 == o.getD (8 * i + k) 0)) := by rw [kpB_succ, if_pos c0]
      have hPm : (rbP m o Wf fr lv i).getD k 0 = m.getD (8 * i + k) 0 := by rw [hPk, c0]; rfl
      have so : Sl gc (.slice (some ⟨ob, 0, none⟩) 512 (exc 512)) 1 512 (is o) := (oo.fr (F0g.same fbc) (fun g => g)).all.sl (by rw [is_len, hol2]) (by decide) (Cp.exc (Nat.le_refl _))
      have hio : 8 * i + k < o.length := by have hl0 : lvN lv = 64 := by rw [c0]; rfl
                                            omega
      refine RunC.draw0 rfl ?_
      (repeat (first | refine RunO.step rfl ?_ | refine RunO.loadG rfl rfl (Ow.ld (by assumption) (by rfl)) rfl ?_ | refine RunO.nil ?_))
      cases hkp : kpB m o lv i k with
      | false =>
        rw [hkp, Bool.false_and] at hk1
        (repeat (first | refine RunO.step rfl ?_ | refine RunO.loadG rfl rfl (Ow.ld (by assumption) (by rfl)) rfl ?_ | refine RunO.nil ?_))
        exact RunC.region (RunO.all rfl ⟨d3 - 1, by omega, k + 1, by omega, fbc, oc, Le.cons (inc64x (by omega)) (Le.cons rfl (Le.cons (congrArg (fun b => some (Value.bool b)) hk1.symm) (Le.cons rfl (Le.cons rfl (Le.cons rfl (Le.cons rfl (Le.cons rfl (Le.cons rfl (Le.cons rfl (Le.cons rfl (Le.cons rfl (Le.cons rfl (Le.cons rfl (Le.cons rfl (Le.cons rfl (Le.nil _))))))))))))))))⟩)
      | true =>
        rw [hkp, Bool.true_and] at hk1
        (repeat (first | refine RunO.step rfl ?_ | refine RunO.loadG rfl rfl (Ow.ld (by assumption) (by rfl)) rfl ?_ | refine RunO.nil ?_))
        refine RunO.indexA (s := 1) (k := k) rfl rfl rfl rfl rfl hk8 rfl ?_
        refine RunO.loadG rfl rfl (oc.ld hread) rfl ?_
        (repeat (first | refine RunO.step rfl ?_ | refine RunO.loadG rfl rfl (Ow.ld (by assumption) (by rfl)) rfl ?_ | refine RunO.nil ?_))
        rw [fw64 (x := 8 * (i : Int)) (by omega) (by omega), fw64 (x := 8 * (i : Int) + (k : Int)) (by omega) (by omega), hfi]
        refine RunO.atG (s := 1) (k := 8 * i + k) rfl (fun _ => rfl) rfl rfl so rfl rfl (by omega) (is_getD hio) rfl rfl rfl ?_
        rw [hPm]
        (repeat (first | refine RunO.step rfl ?_ | refine RunO.loadG rfl rfl (Ow.ld (by assumption) (by rfl)) rfl ?_ | refine RunO.nil ?_))
        exact RunC.region (RunO.all rfl ⟨d3 - 1, by omega, k + 1, by omega, fbc, oc, Le.cons (inc64x (by omega)) (Le.cons rfl (Le.cons (congrArg (fun b => some (Value.bool b)) hk1.symm) (Le.cons rfl (Le.cons rfl (Le.cons rfl (Le.cons rfl (Le.cons rfl (Le.cons rfl (Le.cons rfl (Le.cons rfl (Le.cons rfl (Le.cons rfl (Le.cons rfl (Le.cons rfl (Le.cons rfl (Le.nil _))))))))))))))))⟩)
    · have c0 : lv ≠ 0 := by have := beq_eq_false_iff_ne.1 c0; omega
      have hk1 : kpB m o lv i (k + 1) = (kpB m o lv i k && smB m o (lv - 1) (8 * i + k)) := by rw [kpB_succ, if_neg c0]
      have hq : 8 * i + k < lvN (lv - 1) := by
        have := lvN_up (l := lv) (by omega) hl3
        omega
      have ssq := (hsv1 (lv - 1) (by omega)).fr0 fbc
      have hqp : apart prog 4 (bq ((List.range (lvN (lv - 1))).map (smB m o (lv - 1)))) ((8 * i + k) * 1) = some (.bool (smB m o (lv - 1) (8 * i + k))) := by
        rw [bq_part (by rw [List.length_map, List.length_range]; exact hq)]
        simp
      refine RunC.region ?_
      (repeat (first | refine RunO.step rfl ?_ | refine RunO.loadG rfl rfl (Ow.ld (by assumption) (by rfl)) rfl ?_ | refine RunO.nil ?_))
      cases hkp : kpB m o lv i k with
      | false =>
        rw [hkp, Bool.false_and] at hk1
        (repeat (first | refine RunO.step rfl ?_ | refine RunO.loadG rfl rfl (Ow.ld (by assumption) (by rfl)) rfl ?_ | refine RunO.nil ?_))
        exact RunC.region (RunO.all rfl ⟨d3 - 1, by omega, k + 1, by omega, fbc, oc, Le.cons (inc64x (by omega)) (Le.cons rfl (Le.cons (congrArg (fun b => some (Value.bool b)) hk1.symm) (Le.cons rfl (Le.cons rfl (Le.cons rfl (Le.cons rfl (Le.cons rfl (Le.cons rfl (Le.cons rfl (Le.cons rfl (Le.cons rfl (Le.cons rfl (Le.cons rfl (Le.cons rfl (Le.cons rfl (Le.nil _))))))))))))))))⟩)
      | true =>
        rw [hkp, Bool.true_and] at hk1
        (repeat (first | refine RunO.step rfl ?_ | refine RunO.loadG rfl rfl (Ow.ld (by assumption) (by rfl)) rfl ?_ | refine RunO.nil ?_))
        rw [fw64 (x := 8 * (i : Int)) (by omega) (by omega), fw64 (x := 8 * (i : Int) + (k : Int)) (by omega) (by omega), hfi]
        refine RunO.atG (s := 1) (k := 8 * i + k) rfl (fun _ => rfl) rfl rfl ssq rfl rfl hq hqp rfl rfl rfl ?_
        (repeat (first | refine RunO.step rfl ?_ | refine RunO.loadG rfl rfl (Ow.ld (by assumption) (by rfl)) rfl ?_ | refine RunO.nil ?_))
        exact RunC.region (RunO.all rfl ⟨d3 - 1, by omega, k + 1, by omega, fbc, oc, Le.cons (inc64x (by omega)) (Le.cons rfl (Le.cons (congrArg (fun b => some (Value.bool b)) hk1.symm) (Le.cons rfl (Le.cons rfl (Le.cons rfl (Le.cons rfl (Le.cons rfl (Le.cons rfl (Le.cons rfl (Le.cons rfl (Le.cons rfl (Le.cons rfl (Le.cons rfl (Le.cons rfl (Le.cons rfl (Le.nil _))))))))))))))))⟩)
  rintro E' gb ⟨fb, op, hE⟩
  refine RunC.le hE ?_
  clear hE
  have rs1 := rs.quiet fb
  have hpn : pb < gb.next := op.1
  have hgb : g.next ≤ gb.next := fb.next
  refine RunC.seq (RunC.region (RunO.part 2 rfl ?_))
  refine RunO.part 1 (h1 := gb.push ⟨bq [smB m o lv i], true⟩) rfl ?_
  have otb := Ow.push gb (bq [smB m o lv i])
  have ftb : Fr no gb (gb.push ⟨bq [smB m o lv i], true⟩) := Fr.push _ _ _
  generalize gb.push ⟨bq [smB m o lv i], true⟩ = gc at *
  have rs2 := rs1.quiet ftb
  have op2 := op.fr ftb (fun g => g)
  refine RunO.appendG (s := 1) (j := 1) rfl rfl rfl rfl rfl rfl rfl rfl (by decide) rs2.n.gr otb.all rfl (Nat.le_refl 1) rfl (by show 2 * (_ + 1) * 1 ≤ _; rw [List.length_map, List.length_range]; omega) (by rw [List.length_map, List.length_range]; omega) ?_
  intro nv2 gd rowN fN
  have rs3 := rs2.appN rowN fN
  have op3 := op2.fr fN (fun a => by have := (rs.n.at a).2; omega)
  have F3 : Fr no g0 gd := ((F0g.same fb).same ftb).trans fN (fun b a => .inr (by have := (rs.n.at a).1; have := F8.next; omega))
  clear rs1 rs2 op2 rowN
  refine RunO.all rfl ?_
  refine RunC.block ?_
  refine RunC.seq (RunC.region (RunO.all rfl (RunC.cond rfl (fun cz => ?_) (fun cz => ?_))))
  · have hz : zrB m lv i = true := by rw [Bool.not_not] at cz; exact cz
    have hn : newB m o lv i = false := by unfold newB; rw [hz]; rfl
    have hV : rbV m o Wf fr lv i = 0 := by unfold rbV; rw [if_pos hz]
    refine RunC.region (RunO.part 1 rfl ?_)
    refine RunO.part 1 (h1 := gd.push ⟨is [0], true⟩) rfl ?_
    have otz := Ow.push gd (is [0])
    have ftz : Fr no gd (gd.push ⟨is [0], true⟩) := Fr.push _ _ _
    generalize gd.push ⟨is [0], true⟩ = gez at *
    have hnz := rs3.next
    refine RunO.appendG (s := 1) (j := 1) rfl rfl rfl rfl rfl rfl rfl rfl (by decide) (rs3.quiet ftz).u.gr otz.all rfl (Nat.le_refl 1) rfl (by show 2 * (_ + 1) * 8 ≤ _; rw [List.length_map, List.length_range]; omega) (by rw [List.length_map, List.length_range]; omega) ?_
    intro uv2 gfz rowU fU
    have rs5 := (rs3.quiet ftz).appU (x := 0) rowU fU
    refine RunO.all rfl ?_
    rw [(rbW_keep (W := Wf) (fr := fr) hn).1, (rbW_keep (W := Wf) (fr := fr) hn).2]
    exact ⟨uv2, nv2, ov, D, by rw [rsucc, rsucc, hV]; exact rs5, Le.cons rfl (Le.cons rfl (Le.cons rfl (Le.cons rfl (Le.cons rfl (Le.cons rfl (Le.cons rfl (Le.cons rfl (Le.cons rfl (Le.cons rfl (Le.cons rfl (Le.cons rfl (Le.nil _))))))))))))⟩
  have hz : zrB m lv i = false := by rw [Bool.not_not] at cz; exact cz
  refine RunC.seq (RunC.region (RunO.all rfl (RunC.cond rfl (fun hs => ?_) (fun hs => ?_))))
  · have hn : newB m o lv i = false := by unfold newB; rw [hz, hs]; rfl
    have hV : rbV m o Wf fr lv i = (Wf lv).getD i 0 := by unfold rbV; rw [hz, hs, if_neg Bool.false_ne_true, if_pos rfl]
    have hvl := hvs lv hl3
    have hWll := hWl lv
    refine RunC.region (RunO.part 2 rfl ?_)
    refine RunO.indexA (s := 1) (k := lv) rfl rfl rfl rfl rfl hl3 rfl ?_
    refine RunO.load (v := v lv) rfl ((onv.fr F3 (fun g => g)).ld (nbC_ld hl3)) rfl ?_
    refine RunO.part 1 rfl ?_
    refine RunO.at (s := 1) (k := i) rfl rfl (hvl.fr0 F3) rfl rfl hil (is_getD (by omega)) rfl rfl rfl ?_
    refine RunO.part 1 (h1 := gd.push ⟨is [(Wf lv).getD i 0], true⟩) rfl ?_
    have ots := Ow.push gd (is [(Wf lv).getD i 0])
    have fts : Fr no gd (gd.push ⟨is [(Wf lv).getD i 0], true⟩) := Fr.push _ _ _
    generalize gd.push ⟨is [(Wf lv).getD i 0], true⟩ = ges at *
    have hns := rs3.next
    refine RunO.appendG (s := 1) (j := 1) rfl rfl rfl rfl rfl rfl rfl rfl (by decide) (rs3.quiet fts).u.gr ots.all rfl (Nat.le_refl 1) rfl (by show 2 * (_ + 1) * 8 ≤ _; rw [List.length_map, List.length_range]; omega) (by rw [List.length_map, List.length_range]; omega) ?_
    intro uv2 gfs rowU fU
    have rs5 := (rs3.quiet fts).appU (x := (Wf lv).getD i 0) rowU fU
    refine RunO.all rfl ?_
    rw [(rbW_keep (W := Wf) (fr := fr) hn).1, (rbW_keep (W := Wf) (fr := fr) hn).2]
    exact ⟨uv2, nv2, ov, D, by rw [rsucc, rsucc, hV]; exact rs5, Le.cons rfl (Le.cons rfl (Le.cons rfl (Le.cons rfl (Le.cons rfl (Le.cons rfl (Le.cons rfl (Le.cons rfl (Le.cons rfl (Le.cons rfl (Le.cons rfl (Le.cons rfl (Le.nil _))))))))))))⟩
  have hn : newB m o lv i = true := by unfold newB; rw [hz, hs]; rfl
  have hcl := freP_le m o lv i (by omega) (by omega)
  rw [hfe]
  refine RunC.seq (RunC.region (RunO.part 1 rfl ?_))
  refine RunO.part 1 rfl ?_
  rw [fw64 (x := ((freP m o lv i).length : Int) + 1) (by omega) (by omega), show ((freP m o lv i).length : Int) + 1 = (((freP m o lv i).length + 1 : Nat) : Int) by omega]
  refine RunO.all rfl ?_
  refine RunC.seq (RunC.seq (RunC.region (RunO.all rfl (RunC.cond rfl (fun ho => ?_) (fun ho => RunC.skip ?_)))))
  · have ho := of_decide_eq_true ho
    have hV : rbV m o Wf fr lv i = 2 := by unfold rbV; rw [hz, hs, if_neg Bool.false_ne_true, if_neg Bool.false_ne_true, if_neg (by omega)]
    refine RunC.seq (RunC.region (RunO.part 1 rfl ?_))
    refine RunO.part 1 (h1 := gd.push ⟨is [2], true⟩) rfl ?_
    have oto := Ow.push gd (is [2])
    have fto : Fr no gd (gd.push ⟨is [2], true⟩) := Fr.push _ _ _
    generalize gd.push ⟨is [2], true⟩ = geo at *
    have hno := rs3.next
    refine RunO.appendG (s := 1) (j := 1) rfl rfl rfl rfl rfl rfl rfl rfl (by decide) (rs3.quiet fto).u.gr oto.all rfl (Nat.le_refl 1) rfl (by show 2 * (_ + 1) * 8 ≤ _; rw [List.length_map, List.length_range]; omega) (by rw [List.length_map, List.length_range]; omega) ?_
    intro uv2 gfo rowU fU
    have rs5 := (rs3.quiet fto).appU (x := 2) rowU fU
    refine RunO.all rfl ?_
    refine RunC.exit ?_
    have hk := rbW_over (W := Wf) hn (show fr.length ≤ (freP m o lv i).length by omega)
    rw [hk.1, hk.2]
    exact ⟨uv2, nv2, ov, D, by rw [rsucc, rsucc, hV]; exact rs5, by rw [← hfe]; exact Le.cons rfl (Le.cons rfl (Le.cons rfl (Le.cons rfl (Le.cons rfl (Le.cons rfl (Le.cons rfl (Le.cons rfl (Le.cons rfl (Le.cons rfl (Le.cons rfl (Le.cons rfl (Le.nil _))))))))))))⟩
  have ho := of_decide_eq_false ho
  have hlt4 : (freP m o lv i).length < fr.length := by omega
  have hV : rbV m o Wf fr lv i = fr.getD (freP m o lv i).length 0 := by unfold rbV; rw [hz, hs, if_neg Bool.false_ne_true, if_neg Bool.false_ne_true, if_pos hlt4]
  refine RunC.seq (RunC.region (RunO.part 2 rfl ?_))
  refine RunO.part 1 rfl ?_
  rw [fw64 (x := (((freP m o lv i).length + 1 : Nat) : Int) - 1) (by omega) (by omega), show (((freP m o lv i).length + 1 : Nat) : Int) - 1 = (((freP m o lv i).length : Nat) : Int) by omega]
  have sfd := sf0.fr0 F3
  rw [hfe] at sfd
  refine RunO.at (s := 1) (k := (freP m o lv i).length) rfl rfl sfd rfl rfl hlt4 (is_getD hlt4) rfl rfl rfl ?_
  refine RunO.all rfl ?_
  have hk := rbW_new (W := Wf) (fr := fr) hn hlt4
  have hkI : rbIo m o Wf fr (lv, i) (fr.getD (freP m o lv i).length 0) = (1, (fr.getD (freP m o lv i).length 0), nodBlock (lv : Int) (rbP m o Wf fr lv i), ()) := rfl
  rw [hkI] at hk
  have hPr : ∀ x ∈ rbP m o Wf fr lv i, 0 ≤ x ∧ x ≤ 9223372036854775807 := fun x hx => by
    unfold rbP at hx
    obtain ⟨k, _, rfl⟩ := List.mem_map.1 hx
    have := hAr lv hl3 (8 * i + k)
    omega
  clear hkI
  obtain ⟨p0, p1, p2, p3, p4, p5, p6, p7, hP⟩ := list8 hP8
  rw [hP] at op3 hk hPr
  have hwl := rbW_le (m := m) (o := o) (W := Wf) (fr := fr) (l := lv) (i := i) (by omega) (by omega)
  refine RunC.seq (RunC.region (RunO.part 3 rfl ?_))
  refine RunO.load (v := .agg ⟨is [p0, p1, p2, p3, p4, p5, p6, p7]⟩) rfl (arr_load rfl op3) rfl ?_
  refine RunO.part 1 rfl ?_
  refine RunO.callD (refNodeBytes_ok (lv := (lv : Int)) (ps := [p0, p1, p2, p3, p4, p5, p6, p7]) rfl (by omega) (by omega) hPr) rfl rfl rfl ?_
  rintro dv ge ⟨rowD, fD⟩
  rcases rowD.2 with ⟨_, h0⟩ | ⟨b_, hb1, rfl, ob_⟩
  · omega
  have hndl : (nodBlock (lv : Int) [p0, p1, p2, p3, p4, p5, p6, p7]).length = 64 := nodBlock_len rfl
  have hndb : Byt (nodBlock (lv : Int) [p0, p1, p2, p3, p4, p5, p6, p7]) := nodBlock_byt rfl
  generalize nodBlock (lv : Int) [p0, p1, p2, p3, p4, p5, p6, p7] = nd at *
  refine RunO.part 1 rfl ?_
  refine RunO.part 1 (h1 := ge.push ⟨[.int .i64 1, .int .i64 (fr.getD (freP m o lv i).length 0), .slice (some ⟨b_, 0, none⟩) 64 (unkc 1)], true⟩) rfl ?_
  have otd := Ow.push ge ([.int .i64 1, .int .i64 (fr.getD (freP m o lv i).length 0), .slice (some ⟨b_, 0, none⟩) 64 (unkc 1)])
  have ftd : Fr no ge (ge.push ⟨[.int .i64 1, .int .i64 (fr.getD (freP m o lv i).length 0), .slice (some ⟨b_, 0, none⟩) 64 (unkc 1)], true⟩) := Fr.push _ _ _
  generalize ge.push ⟨[.int .i64 1, .int .i64 (fr.getD (freP m o lv i).length 0), .slice (some ⟨b_, 0, none⟩) 64 (unkc 1)], true⟩ = gf at *
  have rsf := (rs3.quiet fD).quiet ftd
  have ob2 := ob_.fr ftd (fun g => g)
  have hio := rsf.io
  obtain ⟨acs, rowI, kI⟩ := hio
  refine RunO.appendG (s := 3) (j := 1) rfl rfl rfl rfl rfl rfl rfl rfl (by decide) rowI.gr otd.all rfl (Nat.le_refl 1) rfl (by show 2 * (_ + 1) * 40 ≤ _; omega) (by omega) ?_
  intro ov2 gg rowO fO
  have hat : ∀ b, At (.slice (some ⟨b_, 0, none⟩) 64 (unkc 1)) b → b = b_ := fun b h => by
    obtain ⟨n2, c2, h⟩ := h
    injection h with h1
    injection h1 with h1
    injection h1 with h1
    exact h1.symm
  have rs4 := rsf.appO (dv := .slice (some ⟨b_, 0, none⟩) 64 (unkc 1)) (x := (1, (fr.getD (freP m o lv i).length 0), nd, ())) (q := gd.next) rowI kI (by rw [hndl]; exact ob2.all.sl (by rw [us_len, hndl]) (by decide) (Cp.unkc _ _)) hndb (fun b o2 n2 c2 e => by injection e with e1; injection e1 with e1; injection e1 with e1; rw [← e1]; exact ⟨_, _, rfl⟩) (fun b h => by rw [hat b h]; exact ob2.1) (fun b h => by rw [hat b h]; exact hb1) (fun b h => (rs3.u.at h).2) (fun b h => (rs3.n.at h).2) (fun b h => (rs3.io.at h).2) rowO fO
  refine RunO.all rfl ?_
  refine RunC.region (RunO.part 2 rfl ?_)
  refine RunO.part 1 (h1 := gg.push ⟨is [(fr.getD (freP m o lv i).length 0)], true⟩) rfl ?_
  have otw := Ow.push gg (is [(fr.getD (freP m o lv i).length 0)])
  have ftw : Fr no gg (gg.push ⟨is [(fr.getD (freP m o lv i).length 0)], true⟩) := Fr.push _ _ _
  generalize gg.push ⟨is [(fr.getD (freP m o lv i).length 0)], true⟩ = gew at *
  have hnw := rs4.next
  refine RunO.appendG (s := 1) (j := 1) rfl rfl rfl rfl rfl rfl rfl rfl (by decide) (rs4.quiet ftw).u.gr otw.all rfl (Nat.le_refl 1) rfl (by show 2 * (_ + 1) * 8 ≤ _; rw [List.length_map, List.length_range]; omega) (by rw [List.length_map, List.length_range]; omega) ?_
  intro uv2 gfw rowU fU
  have rs5 := (rs4.quiet ftw).appU (x := (fr.getD (freP m o lv i).length 0)) rowU fU
  refine RunO.all rfl ?_
  rw [hk.1, hk.2]
  exact ⟨uv2, nv2, ov2, _, by rw [rsucc, rsucc, hV]; exact rs5, by rw [← hfe]; exact Le.cons rfl (Le.cons rfl (Le.cons rfl (Le.cons rfl (Le.cons rfl (Le.cons rfl (Le.cons rfl (Le.cons rfl (Le.cons rfl (Le.cons rfl (Le.cons rfl (Le.cons rfl (Le.nil _))))))))))))⟩
end Go.Proofs.Ytdcggjkcbheolaa
end
section
set_option linter.unusedVariables false
set_option maxRecDepth 100000
open Go Go.Am Go.RowKit
namespace Go.Proofs.Ytdcggjkcbheolaa
open Go.Proofs.Try
theorem any_take {α : Type} {p : α → Bool} {l : List α} {i : Nat} (h : i < l.length) : (l.take (i + 1)).any p = ((l.take i).any p || p l[i]) := by
  rw [List.take_succ_eq_append_getElem h, List.any_append]; simp
set_option maxHeartbeats 4000000 in
theorem refMap_ok {h : Heap} {v : Value} {m : List Int} {B : Int} (sl : Sl h v 1 m.length (is m)) : RunF prog 23 [v, .int .i64 B] h fun r h' => r = .int .i64 (mapE m B) ∧ h = h' := by
  refine RunF.walk func23 rfl rfl ?_
  have sl0 := sl
  obtain ⟨A, c, rfl, hc, hA⟩ := sl.form
  have hE : mapE m B = if m.length = 512 then (if m.any (offMap B) then 1 else 0) else 2 := rfl
  rw [hE]
  refine RunC.seq (RunC.region (RunO.all rfl ?_))
  refine RunC.seq (RunC.seq (RunC.region (RunO.all rfl ?_)))
  by_cases hl : m.length = 512
  case neg =>
    rw [if_neg hl, show ((m.length : Int) != 512) = true from bne_iff_ne.2 (by omega)]
    refine RunC.cond rfl (fun _ => ?_) (fun g => by cases g)
    exact RunC.seq (RunC.region (RunO.all rfl (RunC.ret ⟨_, rfl, rfl, rfl⟩)))
  rw [if_pos hl, show ((m.length : Int) != 512) = false by simp; omega]
  refine RunC.cond rfl (fun g => by cases g) (fun _ => RunC.skip ?_)
  obtain ⟨iv, hiv⟩ : ∃ iv, iv = Value.slice A m.length c := ⟨_, rfl⟩
  refine RunC.seq (RunC.seq (RunC.region (RunO.all rfl ?_)))
  refine RunC.block ?_
  let I : Nat → Env → Heap → Prop := fun d E h' => ∃ i : Nat, i + d = 512 ∧ h = h' ∧ (m.take i).any (offMap B) = false ∧ Le (upd (upd (upd E0 0 (.slice A m.length c)) 1 (.int .i64 B)) 5 (.int .i64 (i : Int))) E
  refine RunC.loop I ?_ (k := 512) ?_
  · rintro d E _ ⟨i, hi, rfl, hno, hE⟩
    refine RunC.le hE ?_
    clear hE
    refine RunC.seq (RunC.seq (RunC.region (RunO.all rfl ?_)))
    refine RunC.cond rfl (fun hlt => ?_) (fun hge => ?_)
    · have hlt := of_decide_eq_true hlt
      have hi5 : i < m.length := by omega
      refine RunC.skip ?_
      have hat := any_take (p := offMap B) hi5
      rw [hno, Bool.false_or] at hat
      have hoff : offMap B m[i] = (m[i] != 0 && (decide (m[i] < 2) || decide (m[i] ≥ B))) := rfl
      have hp := is_part hi5
      refine RunC.seq (RunC.block (RunC.seqE (upd (upd (upd (upd E0 0 (.slice A m.length c)) 1 (.int .i64 B)) 5 (.int .i64 (i : Int))) 34 (.bool (offMap B m[i]))) ?_ ?_))
      · rw [hoff]
        generalize m[i] = b at *
        refine RunC.region (RunO.part 2 rfl ?_)
        refine RunO.at (s := 1) (k := i) rfl rfl sl0 rfl rfl hi5 hp rfl rfl rfl ?_
        refine RunO.part 2 rfl ?_
        cases (b != 0) with
        | false => exact RunO.all rfl ⟨rfl, Le.cons rfl (Le.cons rfl (Le.cons rfl (Le.cons rfl (Le.nil _))))⟩
        | true =>
          refine RunO.part 2 rfl ?_
          refine RunO.atG (s := 1) (k := i) rfl (fun _ => rfl) rfl rfl sl0 rfl rfl hi5 hp rfl rfl rfl ?_
          refine RunO.part 2 rfl ?_
          cases decide (b < 2) with
          | true => exact RunO.all rfl ⟨rfl, Le.cons rfl (Le.cons rfl (Le.cons rfl (Le.cons rfl (Le.nil _))))⟩
          | false =>
            refine RunO.part 2 rfl ?_
            refine RunO.atG (s := 1) (k := i) rfl (fun _ => rfl) rfl rfl sl0 rfl rfl hi5 hp rfl rfl rfl ?_
            exact RunO.all rfl ⟨rfl, Le.cons rfl (Le.cons rfl (Le.cons rfl (Le.cons rfl (Le.nil _))))⟩
      cases ho : offMap B m[i] with
      | true =>
        refine RunC.cond rfl (fun _ => ?_) (fun g => by cases g)
        rw [show m.any (offMap B) = true from List.any_eq_true.2 ⟨m[i], List.getElem_mem hi5, ho⟩]
        exact RunC.seq (RunC.region (RunO.all rfl (RunC.ret ⟨_, rfl, rfl, rfl⟩)))
      | false =>
        rw [ho] at hat
        refine RunC.cond rfl (fun g => by cases g) (fun _ => RunC.skip ?_)
        refine RunC.region (RunO.all rfl ?_)
        exact ⟨d - 1, by omega, i + 1, by omega, rfl, hat, Le.cons (inc64 (by omega)) (Le.cons rfl (Le.cons rfl (Le.nil _)))⟩
    · have hge := of_decide_eq_false hge
      obtain rfl : i = 512 := by omega
      refine RunC.exit ?_
      rw [List.take_of_length_le (by omega)] at hno
      rw [hno]
      exact RunC.seq (RunC.region (RunO.all rfl (RunC.ret ⟨_, rfl, rfl, rfl⟩)))
  · exact ⟨0, by omega, rfl, rfl, Le.cons rfl (Le.cons rfl (Le.cons rfl (Le.nil _)))⟩
end Go.Proofs.Ytdcggjkcbheolaa
end
section
set_option linter.unusedVariables false
set_option maxRecDepth 100000
open Go Go.Am
namespace Go.Proofs.Ytdcggjkcbheolaa
open Go.Proofs.Try
end Go.Proofs.Ytdcggjkcbheolaa
end
section
set_option linter.unusedVariables false
set_option maxRecDepth 100000
open Go Go.Am
namespace Go.Proofs.Ytdcggjkcbheolaa
open Go.Proofs.Try
def idB (n : Int) : Bool := !(decide (n < 1)) && !(decide (n > 4611686018427387903))
def parB (id pa : Int) : Bool := idB id && ((pa != id) && (pa == 0 || idB pa))
/-- A record's cells. -/
def rc (n id pa ro sz ki fr di : Int) : List Value := [.int .i64 n, .int .i64 id, .int .i64 pa, .int .i64 ro, .int .i64 sz, .int .i64 ki, .int .i64 fr, .int .i64 di]
def recIs (n id pa ro sz : Int) : Bool := (((ptrB n && ptrB ro) && parB id pa) && inB sz 0 512)
def recOk (n id pa ro sz ki fr di : Int) : Bool :=
  if ki = 0 then ((recIs n id pa ro sz && fr == 0) && di == 0) else if ki = 1 then ((recIs n id pa ro sz && inB fr 1 65535) && inB di 0 4294967295) else false
end Go.Proofs.Ytdcggjkcbheolaa
end
section
set_option linter.unusedVariables false
set_option maxRecDepth 100000
open Go Go.Am
namespace Go.Proofs.Ytdcggjkcbheolaa
open Go.Proofs.Try
def rSiz : List Nat := [4, 8, 8, 4, 4, 4, 4, 4]
def rLay : List (Nat × Nat) := layF 4 rSiz
def rMag : List Int := [83, 78, 65, 80]
/-- A record's block. -/
def recBlock (n id pa ro sz ki fr di : Int) : List Int := makeB rMag rLay [n, id, pa, ro, sz, ki, fr, di]
/-- The numbers of a record's block. -/
def rNum (l : List Int) (i : Nat) : Int := (numsB rLay l).getD i 0
def rOkL (l : List Int) : Bool := recOk (rNum l 0) (rNum l 1) (rNum l 2) (rNum l 3) (rNum l 4) (rNum l 5) (rNum l 6) (rNum l 7)
def rCode (l : List Int) : Int := if readB rMag rLay l = 0 then (if rOkL l then 0 else 1) else readB rMag rLay l
def rCells (l : List Int) : List Value := if rCode l = 0 then rc (rNum l 0) (rNum l 1) (rNum l 2) (rNum l 3) (rNum l 4) (rNum l 5) (rNum l 6) (rNum l 7) else rc 0 0 0 0 0 0 0 0
end Go.Proofs.Ytdcggjkcbheolaa
end
section
set_option linter.unusedVariables false
set_option maxRecDepth 100000
open Go Go.Am Go.RowKit
namespace Go.Proofs.Ytdcggjkcbheolaa
open Go.Proofs.Try
/-- A record. -/
structure R8 where
  nx : Int
  id : Int
  pa : Int
  ro : Int
  sz : Int
  ki : Int
  fr : Int
  di : Int
deriving DecidableEq
def rc8 (r : R8) : List Value := rc r.nx r.id r.pa r.ro r.sz r.ki r.fr r.di
def rPar (l : List Int) : R8 := if rCode l = 0 then ⟨rNum l 0, rNum l 1, rNum l 2, rNum l 3, rNum l 4, rNum l 5, rNum l 6, rNum l 7⟩ else ⟨0, 0, 0, 0, 0, 0, 0, 0⟩
def recCs (l : List R8) : List Value := l.flatMap rc8
/-- May a record be the next one? -/
def mayR (l : List R8) (w : Nat) (r : R8) : Bool := if r.ki == 1 then ((l.length : Int) == 0) else (!(l.any fun x => x.id == r.id) && decide ((w : Int) < 60))
end Go.Proofs.Ytdcggjkcbheolaa
end
section
set_option linter.unusedVariables false
set_option maxRecDepth 100000
open Go Go.Am Go.RowKit
namespace Go.Proofs.Ytdcggjkcbheolaa
open Go.Proofs.Try
/-- A chain of records, followed: what was met, and the block that is none of them. -/
def folB (B : Nat) (bs : List Int) (a : Int) : Bool := (decide (a < 2) || decide (a ≥ (B : Int))) || bs.contains a
def fol (L : List Int) (B : Nat) : Nat → Int → List R8 → List Int → Nat → List R8 × List Int × Nat × Int
  | 0, a, l, bs, w => (l, bs, w, a)
  | f + 1, a, l, bs, w => if a = 0 then (l, bs, w, 0) else if folB B bs a then (l, bs, w, a) else
    if (rCode (blkI L a.toNat) != 0) || !mayR l w (rPar (blkI L a.toNat)) then (l, bs, w, a) else
      fol L B f (rPar (blkI L a.toNat)).nx (l ++ [rPar (blkI L a.toNat)]) (bs ++ [a]) (if (rPar (blkI L a.toNat)).ki == 0 then w + 1 else w)
def folOf (L : List Int) (a : Int) : List R8 × List Int × Nat × Int := fol L (L.length / 64) (L.length / 64) a [] [] 0
/-- What follow leaves in memory. -/
def FolR (lo : Nat) (h : Heap) (kb : Nat) (x : List R8 × List Int × Nat × Int) : Prop :=
  ∃ lv bv, lo ≤ kb ∧ Ow h kb [lv, bv, .int .i64 (x.2.2.1 : Int), .int .i64 x.2.2.2] ∧ Row lo h lv 8 x.1.length (recCs x.1) ∧ Row lo h bv 1 x.2.1.length (is x.2.1)
end Go.Proofs.Ytdcggjkcbheolaa
end
section
set_option linter.unusedVariables false
set_option linter.unusedSectionVars false
set_option maxRecDepth 100000
open Go Go.Am Go.RowKit
namespace Go.Proofs.Ytdcggjkcbheolaa
open Go.Proofs.Try
def bo (l : List Bool) : List Value := l.map Value.bool
/-- A tree that was walked: its block, its map, its nodes. -/
abbrev Tr3 : Type := Nat × List Int × List Int
def tps (l : List Tr3) : List Value := l.map fun t => .pointer (some ⟨t.1, 0, none⟩)
/-- It reads so, and is in range. -/
def TrOk (B : Nat) (h : Heap) (t : Tr3) : Prop :=
  ∃ iv mv nv, Ow h t.1 (wc iv B mv nv false) ∧ Sl h mv 1 t.2.1.length (is t.2.1) ∧ Sl h nv 1 t.2.2.length (is t.2.2) ∧ t.2.1.length = 512 ∧ t.2.2.length ≤ 100000 ∧ (∀ x ∈ t.2.1, 0 ≤ x ∧ x < (B : Int)) ∧ ∀ x ∈ t.2.2, 0 ≤ x ∧ x < (B : Int)
/-- The marks. -/
structure CW (h : Heap) (B pb nb rb sb : Nat) (N R S : List Bool) : Prop where
  op : Ow h pb [.slice (some ⟨nb, 0, none⟩) B (exc B), .slice (some ⟨rb, 0, none⟩) B (exc B), .slice (some ⟨sb, 0, none⟩) B (exc B)]
  on : Ow h nb (bo N)
  or : Ow h rb (bo R)
  os : Ow h sb (bo S)
  ln : N.length = B
  lr : R.length = B
  ls : S.length = B
structure CD (pb nb rb sb : Nat) : Prop where
  pn : pb ≠ nb
  pr : pb ≠ rb
  ps : pb ≠ sb
  nr : nb ≠ rb
  ns : nb ≠ sb
  rs : rb ≠ sb
section
variable {h : Heap} {B pb nb rb sb : Nat} {N R S : List Bool} (d : CD pb nb rb sb) (t : CW h B pb nb rb sb N R S)
include d t
end
/-- What a block is of two kinds. -/
def isN (TL : List Tr3) (j : Nat) : Bool := TL.any fun t => t.2.2.contains (j : Int)
def isS (TL : List Tr3) (j : Nat) : Bool := TL.any fun t => decide (j ≠ 0) && t.2.1.contains (j : Int)
def clP (bl : List Int) (TL : List Tr3) (j : Nat) : Bool := (isS TL j && (isN TL j || bl.contains (j : Int))) || (isN TL j && bl.contains (j : Int))
def imC (s5 : List Value) (sl : Value) (rv bv tv : Value) : List Value := s5 ++ [sl, rv, bv, tv]
end Go.Proofs.Ytdcggjkcbheolaa
end
section
set_option linter.unusedVariables false
set_option linter.unusedSectionVars false
set_option maxRecDepth 100000
open Go Go.Am Go.RowKit
namespace Go.Proofs.Ytdcggjkcbheolaa
open Go.Proofs.Try
/-- The cells of an open image. -/
def imc (s : S5) (slot : Int) (rv bv tv : Value) : List Value := sc5 s ++ [.int .i64 slot, rv, bv, tv]
end Go.Proofs.Ytdcggjkcbheolaa
end
section
set_option linter.unusedVariables false
set_option linter.unusedSectionVars false
set_option maxRecDepth 100000
open Go Go.Am Go.RowKit
namespace Go.Proofs.Ytdcggjkcbheolaa
open Go.Proofs.Try
/- An open image: what the page says of the parts. -/
/-- A record is right. -/
def r8Ok (r : R8) : Bool := recOk r.nx r.id r.pa r.ro r.sz r.ki r.fr r.di
end Go.Proofs.Ytdcggjkcbheolaa
end
section
set_option linter.unusedVariables false
set_option linter.unusedSectionVars false
set_option maxRecDepth 100000
open Go Go.Am Go.RowKit
namespace Go.Proofs.Ytdcggjkcbheolaa
open Go.Proofs.Try
def bey (m : List Int) (k : Int) : Bool := (m.drop k.toNat).any (· != 0)
def lkS (L : List Int) : S5 := (pickS L).1
def lkF (L : List Int) : List R8 × List Int × Nat × Int := folOf L (lkS L).2.2.2.2
def lkR (L : List Int) : List (Int × Int) := ((lkS L).2.2.1, (lkS L).2.2.2.1) :: (lkF L).1.map fun r => (r.ro, r.sz)
def lkX (L : List Int) (p : Int × Int) : Bool := !treeOk L p.1 || bey (treeM L p.1) p.2
def lkT (L : List Int) : List (List Int × List Int) := (lkR L).map fun p => (treeM L p.1, treeN L p.1)
def clV (B : Nat) (bl : List Int) (T : List (List Int × List Int)) : Int := match (List.range B).find? (clP bl (T.map fun t => (0, t))) with
  | some i => (i : Int)
  | none => 0
def lkC (L : List Int) : Int := clV (L.length / 64) (lkF L).2.1 (lkT L)
def lkM (L : List Int) : Int × Int := match (lkR L).find? (lkX L) with
  | some p => (p.1, 6)
  | none => (lkC L, if lkC L = 0 then 0 else 6)
def lk (L : List Int) : Int × Int := if devOk L.length then (if (pickS L).2.2 then (if (lkF L).2.2.2 = 0 then lkM L else ((lkF L).2.2.2, 7)) else (0, 8)) else (0, 2)
/-- An open image in memory. -/
def LkR (lo : Nat) (h : Heap) (xb : Nat) (L : List Int) : Prop :=
  ∃ rv bv tv TL, lo ≤ xb ∧ Ow h xb (imc (lkS L) (pickS L).2.1 rv bv tv) ∧ Row lo h rv 8 (lkF L).1.length (recCs (lkF L).1) ∧ Row lo h bv 1 (lkF L).2.1.length (is (lkF L).2.1) ∧ Sl h tv 1 TL.length (tps TL) ∧ TL.map (·.2) = lkT L ∧ ∀ t ∈ TL, TrOk (L.length / 64) h t
/-- A tree's blocks, apart from what Look writes. -/
def TrW (B : Nat) (h : Heap) (xb : Nat) (tv : Value) (t : Tr3) : Prop :=
  ∃ iv mb nv, Ow h t.1 (wc iv B (.slice (some ⟨mb, 0, none⟩) 512 (exc 512)) nv false) ∧ Ow h mb (is t.2.1) ∧ Row 0 h nv 1 t.2.2.length (is t.2.2) ∧ t.2.1.length = 512 ∧ t.2.2.length ≤ 73 ∧ (∀ x ∈ t.2.1, 0 ≤ x ∧ x < (B : Int)) ∧ (∀ x ∈ t.2.2, 2 ≤ x ∧ x < (B : Int)) ∧
    (t.1 ≠ xb ∧ ¬ At tv t.1) ∧ (mb ≠ xb ∧ ¬ At tv mb) ∧ ∀ b, At nv b → b ≠ xb ∧ ¬ At tv b
end Go.Proofs.Ytdcggjkcbheolaa
end
section
set_option linter.unusedVariables false
set_option linter.unusedSectionVars false
set_option maxRecDepth 100000
open Go Go.Am Go.RowKit
namespace Go.Proofs.Ytdcggjkcbheolaa
open Go.Proofs.Try
end Go.Proofs.Ytdcggjkcbheolaa
end
section
set_option linter.unusedVariables false
set_option linter.unusedSectionVars false
set_option maxRecDepth 100000
open Go Go.Am Go.RowKit
namespace Go.Proofs.Ytdcggjkcbheolaa
open Go.Proofs.Try
def recsE (L : List Int) (a : Int) : Int := if devOk L.length then (if (folOf L a).2.2.2 = 0 then 0 else 7) else 2
/-- A state's cells. -/
def stc (s : S5) (slot : Int) (rv : Value) : List Value := sc5 s ++ [.int .i64 slot, rv]
/-- Is this the whole record of an id? -/
def fdP (id : Int) (r : R8) : Bool := (r.id == id) && (r.ki == 0)
/-- A new image. -/
def newI (B : Nat) : List Int := superBlock 1 (B : Int) 0 0 0 ++ List.replicate (B * 64 - 64) 0
end Go.Proofs.Ytdcggjkcbheolaa
end
section
set_option linter.unusedVariables false
set_option linter.unusedSectionVars false
set_option maxRecDepth 100000
open Go Go.Am Go.RowKit
namespace Go.Proofs.Ytdcggjkcbheolaa
open Go.Proofs.Try
end Go.Proofs.Ytdcggjkcbheolaa
end
section
set_option linter.unusedVariables false
set_option maxRecDepth 100000
open Go Go.Am Go.RowKit
namespace Go.Proofs.Ytdcggjkcbheolaa
open Go.Proofs.Try
end Go.Proofs.Ytdcggjkcbheolaa
end
section
set_option linter.unusedVariables false
set_option linter.unusedSectionVars false
set_option maxRecDepth 100000
open Go Go.Am Go.RowKit
namespace Go.Proofs.Ytdcggjkcbheolaa
open Go.Proofs.Try
/- A chain that was followed to its end. -/
def nxt (a : Int) (l : List R8) (i : Nat) : Int := if i = 0 then a else (l.getD (i - 1) ⟨0, 0, 0, 0, 0, 0, 0, 0⟩).nx
structure FolI (L : List Int) (B : Nat) (a : Int) (l : List R8) (bs : List Int) (cur : Int) : Prop where
  len : l.length = bs.length
  blk : ∀ i (hi : i < l.length), bs.getD i 0 = nxt a l i ∧ 2 ≤ bs.getD i 0 ∧ bs.getD i 0 < (B : Int) ∧ rCode (blkI L (bs.getD i 0).toNat) = 0 ∧ l[i] = rPar (blkI L (bs.getD i 0).toNat)
  apart : ∀ i (hi : i < l.length) j (hj : j < l.length), j < i → l[j].id ≠ l[i].id ∧ l[i].ki ≠ 1
  cur : cur = nxt a l l.length
end Go.Proofs.Ytdcggjkcbheolaa
end
section
set_option linter.unusedVariables false
set_option maxRecDepth 100000
open Go Go.Am Go.RowKit
namespace Go.Proofs.Ytdcggjkcbheolaa
open Go.Proofs.Try
end Go.Proofs.Ytdcggjkcbheolaa
end
section
set_option linter.unusedVariables false
namespace Go.Am
open Go.RowKit
section
variable {P : Program} {n : Nat} {ops rest : List Oper} {E E1 : Env} {h h1 : Heap} {Q : Env → Heap → Prop}
end
end Go.Am
end
section
set_option linter.unusedVariables false
set_option linter.unusedSectionVars false
set_option maxRecDepth 100000
open Go Go.Am Go.RowKit
namespace Go.Proofs.Ytdcggjkcbheolaa
open Go.Proofs.Try

/-- Rows of numbers. -/
def RwsI (h : Heap) (v : Value) (rows : List (List Int)) : Prop :=
  ∃ cs, Sl h v 1 rows.length cs ∧ ∀ (j : Nat) (x : List Int), rows[j]? = some x → ∃ w, cs[j]? = some w ∧ Sl h w 1 x.length (is x)
end Go.Proofs.Ytdcggjkcbheolaa
end
section
set_option linter.unusedVariables false
set_option linter.unusedSectionVars false
set_option maxRecDepth 100000
open Go Go.Am Go.RowKit
namespace Go.Proofs.Ytdcggjkcbheolaa
open Go.Proofs.Try

/- Steps in a growing slice, of any data. -/
def IoW (lo : Nat) (h : Heap) (lv : Value) (l : List IoT) : Prop := ∃ acs, Row lo h lv 3 l.length acs ∧ ∀ (j : Nat) (x : IoT), l[j]? = some x → ∃ dv, (acs.drop (j * 3)).take 3 = [.int .i64 x.1, .int .i64 x.2.1, dv] ∧ Sl h dv 1 x.2.2.1.length (us x.2.2.1) ∧ Byt x.2.2.1 ∧ ∀ b o c, dv = .slice (some ⟨b, o, none⟩) x.2.2.1.length c → ¬ At lv b
def placeB (a : Int) : Bool := decide (a ≥ 2) && decide (a < 4096)
def nx0 (x : R8) (a : Int) : R8 := ⟨a, x.id, x.pa, x.ro, x.sz, x.ki, x.fr, x.di⟩
structure MayOk (old : List R8) (bl : List Int) (n : Nat) (x : R8) (w : Bool) (free : List Int) : Prop where
  len : old.length = bl.length
  le : n ≤ old.length
  ok : ∀ r ∈ old, r8Ok r = true
  fst : w = true → r8Ok (nx0 x 0) = true
  pl : ∀ a ∈ bl, placeB a = true
  pf : ∀ a ∈ free, placeB a = true
  up : ∀ i, i + 1 < free.length → free.getD i 0 < free.getD (i + 1) 0
  lo : old.length ≤ 10000
  lf : free.length ≤ 10000
end Go.Proofs.Ytdcggjkcbheolaa
end
section
set_option linter.unusedVariables false
set_option linter.unusedSectionVars false
set_option maxRecDepth 100000
open Go Go.Am Go.RowKit
namespace Go.Proofs.Ytdcggjkcbheolaa
open Go.Proofs.Try
/-- Whole numbers of an int. -/
def In64 (x : Int) : Prop := -9223372036854775808 ≤ x ∧ x ≤ 9223372036854775807
abbrev I8 : Sh := .int .i64
abbrev ShS5 : Sh := .pair I8 (.pair I8 (.pair I8 (.pair I8 (.pair I8 .unit))))
abbrev ShR8 : Sh := .pair I8 (.pair I8 (.pair I8 (.pair I8 (.pair I8 (.pair I8 (.pair I8 (.pair I8 .unit)))))))
abbrev ShState : Sh := .pair ShS5 (.pair I8 (.pair (.slice ShR8) .unit))
def r8Of (y : ShR8.T) : R8 := ⟨y.1, y.2.1, y.2.2.1, y.2.2.2.1, y.2.2.2.2.1, y.2.2.2.2.2.1, y.2.2.2.2.2.2.1, y.2.2.2.2.2.2.2.1⟩
def R8In (r : R8) : Prop := In64 r.nx ∧ In64 r.id ∧ In64 r.pa ∧ In64 r.ro ∧ In64 r.sz ∧ In64 r.ki ∧ In64 r.fr ∧ In64 r.di
def S5In (s : S5) : Prop := In64 s.1 ∧ In64 s.2.1 ∧ In64 s.2.2.1 ∧ In64 s.2.2.2.1 ∧ In64 s.2.2.2.2
end Go.Proofs.Ytdcggjkcbheolaa
end
section
set_option linter.unusedVariables false
open Go Go.Am Go.RowKit
namespace Go.Am
section
variable {P : Program} {n : Nat} {ops rest : List Oper} {m : Nat → Prop} {E E1 : Env} {h h1 : Heap} {Q : Env → Heap → Prop}
end
end Go.Am
end
