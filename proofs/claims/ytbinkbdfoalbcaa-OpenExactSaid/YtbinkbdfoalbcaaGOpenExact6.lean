/- OpenExact: a calculus over an abstract machine that stands beside the model, and contracts of functions by it (part 6).
Conditions: what each theorem says of its arguments. -/
import Derived.Test.YtbinkbdfoalbcaaGOpenExact5
section
set_option linter.unusedVariables false
set_option maxRecDepth 100000
open Go Go.Am Go.RowKit
namespace Go.Proofs.Ytbinkbdfoalbcaa
open Go.Proofs.Try
def bs (l : List Bool) : List Value := l.map Value.bool
theorem bs_len (l : List Bool) : (bs l).length = l.length := List.length_map _
theorem bs_part {l : List Bool} {i : Nat} (h : i < l.length) : apart prog 4 (bs l) (i * 1) = some (.bool l[i]) := by
  show nth (bs l) (i * 1) = _
  rw [Nat.mul_one, nth_eq, bs, List.getElem?_map, List.getElem?_eq_getElem h]; rfl
theorem bs_set (l : List Bool) (i : Nat) (x : Bool) : (bs l).set i (.bool x) = bs (l.set i x) := by unfold bs; rw [List.map_set]
/-- The page's walk through a tree, as cells. -/
def rwc (iv : Value) (B sb db mb : Nat) (nv : Value) (ok : Bool) : List Value := [iv, .int .i64 (B : Int), nv, .slice (some ⟨sb, 0, none⟩) B (exc B), .slice (some ⟨db, 0, none⟩) B (exc B), .slice (some ⟨mb, 0, none⟩) 512 (exc 512), .bool ok]
structure RW (lo : Nat) (h : Heap) (iv : Value) (B wb sb db mb : Nat) (nv : Value) (m ns : List Int) (sn dt : List Bool) (ok : Bool) : Prop where
  ow : Ow h wb (rwc iv B sb db mb nv ok)
  os : Ow h sb (bs sn)
  od : Ow h db (bs dt)
  om : Ow h mb (is m)
  row : Row lo h nv 1 ns.length (is ns)
  lm : m.length = 512
  ls : sn.length = B
  ld : dt.length = B
  ln : lo ≤ h.next
structure RB (lo wb sb db mb : Nat) : Prop where
  w : wb < lo
  s : sb < lo
  d : db < lo
  m : mb < lo
  ws : wb ≠ sb
  wd : wb ≠ db
  wm : wb ≠ mb
  sd : sb ≠ db
  sm : sb ≠ mb
  dm : db ≠ mb
def RM (lo wb sb db mb : Nat) : Nat → Prop := fun b => b = wb ∨ b = sb ∨ b = db ∨ b = mb ∨ lo ≤ b
/-- What a walk writes: its own blocks, the row of the nodes. -/
def RR (wb sb db mb : Nat) (nv : Value) : Nat → Prop := fun b => b = wb ∨ b = sb ∨ b = db ∨ b = mb ∨ At nv b
/-- Seen are the nodes, data the map's. -/
def Cpl (B : Nat) (m ns : List Int) (sn dt : List Bool) : Prop := (∀ i, i < B → sn.getD i false = ns.contains (i : Int)) ∧ ∀ i, 0 < i → i < B → dt.getD i false = m.contains (i : Int)
theorem RW.quiet {lo : Nat} {h h' : Heap} {iv : Value} {B wb sb db mb : Nat} {nv : Value} {m ns : List Int} {sn dt : List Bool} {ok : Bool} (t : RW lo h iv B wb sb db mb nv m ns sn dt ok) (f : Fr no h h') : RW lo h' iv B wb sb db mb nv m ns sn dt ok :=
  ⟨t.ow.fr f (fun g => g), t.os.fr f (fun g => g), t.od.fr f (fun g => g), t.om.fr f (fun g => g), t.row.fr f (fun _ _ _ g => g), t.lm, t.ls, t.ld, Nat.le_trans t.ln f.next⟩
/-- Ok is put down. -/
theorem RW.fail {lo : Nat} {h : Heap} {iv : Value} {B wb sb db mb : Nat} {nv : Value} {m ns : List Int} {sn dt : List Bool} {ok : Bool} (rb : RB lo wb sb db mb) (t : RW lo h iv B wb sb db mb nv m ns sn dt ok) (x : Bool) :
    astore prog h 4 ⟨wb, 6, none⟩ (.bool x) = some (h.put wb (some ⟨rwc iv B sb db mb nv x, true⟩)) ∧ RW lo (h.put wb (some ⟨rwc iv B sb db mb nv x, true⟩)) iv B wb sb db mb nv m ns sn dt x ∧ Fr (RR wb sb db mb nv) h (h.put wb (some ⟨rwc iv B sb db mb nv x, true⟩)) := by
  have f : Fr (· = wb) h (h.put wb (some ⟨rwc iv B sb db mb nv x, true⟩)) := Fr.put _ (.inl rfl)
  refine ⟨store1_ow t.ow rfl rfl rfl (Nat.le_of_ble_eq_true rfl), ⟨Ow.put _ t.ow.1, t.os.fr f (fun e => rb.ws e.symm), t.od.fr f (fun e => rb.wd e.symm), t.om.fr f (fun e => rb.wm e.symm), t.row.fr f (fun b h1 _ e => by have := rb.w; omega), t.lm, t.ls, t.ld, t.ln⟩, f.weak (fun i e => .inl (.inl e))⟩
theorem contains_set0 {m : List Int} {k : Nat} {p : Int} (hk : k < m.length) (h0 : m.getD k 0 = 0) {x : Int} (hx : x ≠ 0) : (m.set k p).contains x = (x == p || m.contains x) := by
  rw [Bool.eq_iff_iff]
  simp only [List.contains_eq_mem, decide_eq_true_eq, Bool.or_eq_true, beq_iff_eq]
  constructor
  · intro h
    rcases List.mem_or_eq_of_mem_set h with g | g
    · exact .inr g
    · exact .inl g
  · rintro (rfl | h)
    · exact List.mem_of_getElem? (List.getElem?_set_self hk)
    · obtain ⟨j, hj⟩ := List.getElem?_of_mem h
      have hne : k ≠ j := by
        intro e; subst e
        rw [List.getD_eq_getElem?_getD, hj] at h0
        exact hx h0
      exact List.mem_of_getElem? (by rw [List.getElem?_set_ne hne]; exact hj)
theorem getD_setB (l : List Bool) (k s : Nat) (p : Bool) (hk : k < l.length) : (l.set k p).getD s false = if s = k then p else l.getD s false := by
  rw [List.getD_eq_getElem?_getD, List.getElem?_set]
  by_cases e : k = s
  · subst e; rw [if_pos rfl, if_pos hk, if_pos rfl]; rfl
  · rw [if_neg e, if_neg (fun g => e g.symm), List.getD_eq_getElem?_getD]
theorem sl_rm {h h' : Heap} {iv : Value} {n s : Nat} {cs : List Value} {M : Nat → Prop} (sl : Sl h iv s n cs) (hn : ∀ b o c, iv = .slice (some ⟨b, o, none⟩) n c → ¬ M b) (f : Fr M h h') : Sl h' iv s n cs := by
  refine ⟨sl.1, sl.2.1, sl.2.2.imp (fun y => y) ?_⟩
  rintro ⟨b, o, c, h1, h2, h3⟩
  exact ⟨b, o, c, h1, h2, h3.fr f (hn b o c h1)⟩
/-- A walk that has failed goes no further. -/
theorem rnode_dead {h : Heap} {lo : Nat} {iv : Value} {B wb sb db mb : Nat} {nv : Value} {m ns : List Int} {sn dt : List Bool} {at_ lv from_ : Int} (rb : RB lo wb sb db mb) (t : RW lo h iv B wb sb db mb nv m ns sn dt false) :
    RunF prog 82 [.pointer (some ⟨wb, 0, none⟩), .int .i64 at_, .int .i64 lv, .int .i64 from_] h fun v h' => v = .tuple #[] ∧ RW lo h' iv B wb sb db mb nv m ns sn dt false ∧ Fr (RR wb sb db mb nv) h h' := by
  refine RunF.walk func82 rfl rfl ?_
  have ow := t.ow
  obtain ⟨e1, e2, e3⟩ := t.fail rb false
  refine RunC.seq (RunC.seq (RunC.region (RunO.part 3 rfl ?_)))
  refine RunO.load (v := .bool false) rfl (ow.ld rfl) rfl (RunO.all rfl ?_)
  refine RunC.cond rfl (fun _ => ?_) (fun g => by cases g)
  refine RunC.seq (RunC.region (RunO.part 3 rfl ?_))
  refine RunO.store rfl rfl e1 (RunO.all rfl ?_)
  exact RunC.ret ⟨_, rfl, rfl, e2, e3⟩
theorem tstep_none {r : Int → Nat → TS → TS} {B : Nat} {leaf : Bool} {w : TS} {t : Nat} (hB : 1 ≤ B) : tstep r B leaf w 0 t = w := by
  unfold tstep
  rw [show decide ((0 : Int) ≥ (B : Int)) = false from decide_eq_false (by omega)]
  cases w.2.2 <;> cases leaf <;> rfl
def RNodeOk (L : List Int) (B lo wb sb db mb : Nat) (iv : Value) (lv : Nat) : Prop := ∀ {h : Heap} {nv : Value} {m ns : List Int} {sn dt : List Bool} {at_ : Int} {from_ : Nat},
    Sl h iv 1 L.length (us L) → RW lo h iv B wb sb db mb nv m ns sn dt true → Cpl B m ns sn dt → ns.length + nN lv ≤ 100000 → from_ + 8 ^ (lv + 1) ≤ 512 → (∀ s, from_ ≤ s → s < from_ + 8 ^ (lv + 1) → m.getD s 0 = 0) →
    RunF prog 82 [.pointer (some ⟨wb, 0, none⟩), .int .i64 at_, .int .i64 (lv : Int), .int .i64 (from_ : Int)] h fun v h' => v = .tuple #[] ∧ Fr (RR wb sb db mb nv) h h' ∧ ∃ nv' m' ns' sn' dt' ok', RW lo h' iv B wb sb db mb nv' m' ns' sn' dt' ok' ∧ (∀ b, At nv' b → At nv b ∨ h.next ≤ b) ∧ ns'.length ≤ ns.length + nN lv ∧
      ok' = !(tgo L B lv at_ from_ (m, ns, false)).2.2 ∧ (ok' = true → tgo L B lv at_ from_ (m, ns, false) = (m', ns', false) ∧ Cpl B m' ns' sn' dt')
theorem refIn10_ok {h : Heap} {a lo hi : Int} : RunF prog 51 [.int .i64 a, .int .i64 lo, .int .i64 hi] h fun v h' => v = .bool (inB a lo hi) ∧ h = h' := by
  refine RunF.walk func51 rfl rfl ?_
  refine RunC.seq (RunC.region (RunO.all rfl ?_))
  refine RunC.seq (RunC.region (RunO.part 4 rfl ?_))
  unfold inB
  cases decide (a ≥ lo) with
  | true => exact RunO.all rfl (RunC.ret ⟨_, rfl, by simp, rfl⟩)
  | false => exact RunO.all rfl (RunC.ret ⟨_, rfl, by simp, rfl⟩)
theorem atIn_inB {B : Nat} {a : Int} (hB : B ≤ 4096) : inB a 2 (fwrap .i64 ((B : Int) - 1)) = atIn B a := by
  rw [fw64 (by omega) (by omega), Bool.eq_iff_iff, inB_iff, atIn_iff]
  omega
set_option maxHeartbeats 16000000 in
theorem rnode_body {L : List Int} {B lo wb sb db mb : Nat} {iv : Value} (hb : Byt L) (hB : B * 64 ≤ L.length) (hB1 : 1 ≤ B) (hB2 : B ≤ 4096) (hm : L.length ≤ 4611686018427387904) (rb : RB lo wb sb db mb) (hiv : ∀ b o c, iv = .slice (some ⟨b, o, none⟩) L.length c → ¬ RM lo wb sb db mb b)
    {lv : Nat} (hlv : lv ≤ 2) (hrec : ∀ k, lv = k + 1 → RNodeOk L B lo wb sb db mb iv k) : RNodeOk L B lo wb sb db mb iv lv := by
  intro h nv m ns sn dt at_ from_ sl t hcp hns hfrom hz
  have hlv8 : 8 ^ lv ≤ 64 := by
    have : 8 ^ lv ≤ 8 ^ 2 := Nat.pow_le_pow_right (by decide) hlv
    exact this
  have hp8 : 8 ^ (lv + 1) = 8 ^ lv * 8 := Nat.pow_succ ..
  have hpos : 1 ≤ 8 ^ lv := Nat.pow_pos (by decide)
  have hgo : tgo L B lv at_ from_ (m, ns, false) = if (!atIs L B at_ (lv : Int) || ns.contains at_) = true then (m, ns, true) else (List.range 8).foldl (tst L B lv (atV L B at_).2 from_) (m, ns ++ [at_], false) := tgo_eq ..
  rw [hgo]
  clear hgo
  have hbad : ∀ {h' : Heap} {nv' : Value} {m' ns' : List Int} {sn' dt' : List Bool} {ok : Bool} {T : TS}, RW lo h' iv B wb sb db mb nv' m' ns' sn' dt' ok → Fr (RR wb sb db mb nv) h h' → (∀ b, At nv' b → At nv b ∨ h.next ≤ b) → ns'.length ≤ ns.length + nN lv → T.2.2 = true →
      ∃ h'', astore prog h' 4 ⟨wb, 6, none⟩ (.bool false) = some h'' ∧ Value.tuple #[] = .tuple #[] ∧ Fr (RR wb sb db mb nv) h h'' ∧ ∃ nv' m' ns' sn' dt' ok', RW lo h'' iv B wb sb db mb nv' m' ns' sn' dt' ok' ∧ (∀ b, At nv' b → At nv b ∨ h.next ≤ b) ∧ ns'.length ≤ ns.length + nN lv ∧ ok' = !T.2.2 ∧ (ok' = true → T = (m', ns', false) ∧ Cpl B m' ns' sn' dt') := by
    intro h' nv' m' ns' sn' dt' ok T t' F' hr' hl' hT
    obtain ⟨e1, e2, e3⟩ := t'.fail rb false
    refine ⟨_, e1, rfl, F'.trans e3 (fun b g => ?_), nv', m', ns', sn', dt', false, e2, hr', hl', by rw [hT]; rfl, fun g => by cases g⟩
    rcases g with g | g | g | g | g
    · exact .inl (.inl g)
    · exact .inl (.inr (.inl g))
    · exact .inl (.inr (.inr (.inl g)))
    · exact .inl (.inr (.inr (.inr (.inl g))))
    · exact (hr' b g).imp (fun g => .inr (.inr (.inr (.inr g)))) id
  refine RunF.walk func82 rfl rfl ?_
  have ow := t.ow
  -- is it one that may be?
  refine RunC.seq (RunC.seqE (upd (upd (upd (upd (upd E0 0 (.pointer (some ⟨wb, 0, none⟩))) 1 (.int .i64 at_)) 2 (.int .i64 (lv : Int))) 3 (.int .i64 (from_ : Int))) 37 (.bool (!atIn B at_ || ns.contains at_))) ?_ ?_)
  · refine RunC.region (RunO.part 3 rfl ?_)
    refine RunO.load (v := .bool true) rfl (ow.ld rfl) rfl ?_
    refine RunO.part 6 rfl ?_
    refine RunO.loadG (v := .int .i64 (B : Int)) rfl rfl (ow.ld rfl) rfl ?_
    refine RunO.part 1 rfl ?_
    refine RunO.callDG rfl refIn10_ok rfl rfl rfl ?_
    rintro _ _ ⟨rfl, rfl⟩
    rw [atIn_inB hB2]
    refine RunO.part 3 rfl ?_
    cases hin : atIn B at_ with
    | false => exact RunO.all rfl ⟨rfl, Le.cons rfl (Le.cons rfl (Le.cons rfl (Le.cons rfl (Le.cons rfl (Le.nil _)))))⟩
    | true =>
      obtain ⟨ha2, haB⟩ := atIn_iff.1 hin
      obtain ⟨a, rfl⟩ := Int.eq_ofNat_of_zero_le (show 0 ≤ at_ by omega)
      have has : a < sn.length := by rw [t.ls]; omega
      have hse : sn[a] = ns.contains (a : Int) := by
        have := hcp.1 a (by omega)
        rwa [List.getD_eq_getElem?_getD, List.getElem?_eq_getElem has] at this
      refine RunO.part 3 rfl ?_
      refine RunO.loadG (v := .slice (some ⟨sb, 0, none⟩) B (exc B)) rfl rfl (ow.ld rfl) rfl ?_
      refine RunO.part 1 rfl ?_
      have sls : Sl h (.slice (some ⟨sb, 0, none⟩) B (exc B)) 1 B (bs sn) := t.os.all.sl (by rw [bs_len, t.ls, Nat.mul_one]) (by omega) (Cp.exc (Nat.le_refl _))
      refine RunO.atG (s := 1) (k := a) (u := .bool (ns.contains (a : Int))) rfl (fun _ => rfl) rfl rfl sls rfl rfl (by omega) (by rw [bs_part has, hse]) rfl rfl rfl ?_
      exact RunO.all rfl ⟨rfl, Le.cons rfl (Le.cons rfl (Le.cons rfl (Le.cons rfl (Le.cons rfl (Le.nil _)))))⟩
  by_cases hmay : (!atIn B at_ || ns.contains at_) = true
  · rw [hmay]
    have hcond : (!atIs L B at_ (lv : Int) || ns.contains at_) = true := by
      unfold atIs
      cases hi : atIn B at_ with
      | false => rfl
      | true => rw [hi, Bool.not_true, Bool.false_or] at hmay; rw [hmay, Bool.or_true]
    rw [if_pos hcond]
    refine RunC.cond rfl (fun _ => ?_) (fun g => by cases g)
    obtain ⟨h2, e1, e2⟩ := hbad (T := (m, ns, true)) t (Fr.refl _ _) (fun b g => .inl g) (by omega) rfl
    refine RunC.seq (RunC.region (RunO.part 3 rfl ?_))
    refine RunO.store rfl rfl e1 (RunO.all rfl ?_)
    exact RunC.ret ⟨_, rfl, e2⟩
  rw [Bool.not_eq_true] at hmay
  rw [hmay]
  rw [Bool.or_eq_false_iff, Bool.not_eq_false'] at hmay
  obtain ⟨hin, hnc⟩ := hmay
  obtain ⟨ha2, haB⟩ := atIn_iff.1 hin
  obtain ⟨a, rfl⟩ := Int.eq_ofNat_of_zero_le (show 0 ≤ at_ by omega)
  have haL : (a + 1) * 64 ≤ L.length := Nat.le_trans (Nat.mul_le_mul_right 64 (by omega)) hB
  refine RunC.cond rfl (fun g => by cases g) (fun _ => RunC.skip ?_)
  refine RunC.seq (RunC.region (RunO.part 3 rfl ?_))
  refine RunO.load (v := iv) rfl (ow.ld rfl) rfl ?_
  refine RunO.part 1 rfl ?_
  refine RunO.callD (refBlock_ok (i := a) sl haL hm) rfl rfl rfl ?_
  rintro bv _ ⟨slb, rfl⟩
  have hbl := blkI_len haL
  refine RunO.callD (refParseNode_ok (by rw [hbl]; exact slb) (byt_blk hb a)) rfl rfl rfl ?_
  rintro _ h1 ⟨rfl, f1⟩
  have hvv : atV L B (a : Int) = nodV (blkI L a) := by unfold atV; rw [hin, if_pos rfl, Int.toNat_natCast]
  have his : atIs L B (a : Int) (lv : Int) = (nCode (blkI L a) == 0 && (nodV (blkI L a)).1 == (lv : Int)) := by unfold atIs; rw [hin, hvv, Int.toNat_natCast, Bool.true_and]
  have hvl := nodV_len (blkI L a)
  have hptr : nCode (blkI L a) = 0 → ∀ x ∈ (nodV (blkI L a)).2, x = 0 ∨ 2 ≤ x := by
    intro hc x hx
    have hv : nodV (blkI L a) = (nLv (blkI L a), nPs (blkI L a)) := by unfold nodV; rw [if_pos hc]
    rw [hv] at hx
    have hok : nodOk (nLv (blkI L a)) (nPs (blkI L a)) = true := by
      unfold nCode at hc
      split at hc
      · split at hc
        · assumption
        · cases hc
      · rename_i h1; exact absurd hc h1
    unfold nodOk at hok
    rw [Bool.and_eq_true, List.all_eq_true] at hok
    have := hok.1 x hx
    unfold ptrB at this
    rw [Bool.or_eq_true, beq_iff_eq, Bool.and_eq_true, decide_eq_true_eq] at this
    omega
  rw [his, hvv, hnc, Bool.or_false]
  generalize nCode (blkI L a) = cd at *
  generalize nodV (blkI L a) = nd at *
  obtain ⟨nl, ps⟩ := nd
  simp only at hvl hptr ⊢
  refine RunO.part 4 (h1 := h1.push ⟨nc 0 nZero, true⟩) rfl ?_
  refine RunO.store rfl rfl (nc_store (lv := nl) (ps := ps) (Ow.push h1 (nc 0 nZero)) rfl hvl rfl) (RunO.all rfl ?_)
  have on : Ow ((h1.push ⟨nc 0 nZero, true⟩).put h1.next (some ⟨nc nl ps, true⟩)) h1.next (nc nl ps) := Ow.put _ (Nat.lt_succ_self _)
  have f2 : Fr no h1 ((h1.push ⟨nc 0 nZero, true⟩).put h1.next (some ⟨nc nl ps, true⟩)) := (Fr.push _ _ _).trans (Fr.put (m := (· = h1.next)) _ (.inl rfl)) (fun j hj => .inr (by omega))
  have f12 := f1.same f2
  have hq : lo ≤ h1.next := Nat.le_trans t.ln f1.next
  have hnv : ∀ b, At nv b → b < h.next := fun b ha => (t.row.at ha).2
  have hnrow : ∀ b, At nv b → b ≠ h1.next := fun b ha => by have := hnv b ha; have := f1.next; omega
  have hqh0 : h.next ≤ h1.next := f1.next
  generalize (h1.push ⟨nc 0 nZero, true⟩).put h1.next (some ⟨nc nl ps, true⟩) = h2 at *
  generalize h1.next = q at *
  have t2 := t.quiet f12
  have F2 : Fr (RR wb sb db mb nv) h h2 := f12.weak (fun _ g => g.elim)
  have hqh : h.next ≤ q := hqh0
  clear t ow
  -- its kind, its level
  refine RunC.seq (RunC.seqE (upd (upd (upd (upd (upd (upd E0 0 (.pointer (some ⟨wb, 0, none⟩))) 1 (.int .i64 (a : Int))) 2 (.int .i64 (lv : Int))) 3 (.int .i64 (from_ : Int))) 8 (.pointer (some ⟨q, 0, none⟩))) 58 (.bool (!(cd == 0 && nl == (lv : Int))))) ?_ ?_)
  · refine RunC.region (RunO.part 3 rfl ?_)
    have e1 : (cd != 0) = !(cd == 0) := rfl
    rw [e1]
    cases (cd == 0) with
    | false => exact RunO.all rfl ⟨rfl, Le.cons rfl (Le.cons rfl (Le.cons rfl (Le.cons rfl (Le.cons rfl (Le.cons rfl (Le.nil _))))))⟩
    | true =>
      refine RunO.part 1 rfl ?_
      refine RunO.loadG (v := .int .i64 nl) rfl rfl (on.ld rfl) rfl ?_
      exact RunO.all rfl ⟨rfl, Le.cons rfl (Le.cons rfl (Le.cons rfl (Le.cons rfl (Le.cons rfl (Le.cons rfl (Le.nil _))))))⟩
  by_cases hone : (cd == 0 && nl == (lv : Int)) = true
  case neg =>
    rw [Bool.not_eq_true] at hone
    rw [hone, if_pos (show (!false) = true from rfl)]
    refine RunC.cond rfl (fun _ => ?_) (fun g => by cases g)
    obtain ⟨h3, e1, e2⟩ := hbad (T := (m, ns, true)) t2 F2 (fun b g => .inl g) (by omega) rfl
    refine RunC.seq (RunC.region (RunO.part 3 rfl ?_))
    refine RunO.store rfl rfl e1 (RunO.all rfl ?_)
    exact RunC.ret ⟨_, rfl, e2⟩
  rw [hone, if_neg (show ¬ (!true) = true by decide)]
  rw [Bool.and_eq_true, beq_iff_eq, beq_iff_eq] at hone
  replace hptr := hptr hone.1
  refine RunC.cond rfl (fun g => by cases g) (fun _ => RunC.skip ?_)
  -- it is seen
  have ow2 := t2.ow
  have has : a < sn.length := by rw [t2.ls]; omega
  refine RunC.seq (RunC.region (RunO.part 3 rfl ?_))
  refine RunO.load (v := .slice (some ⟨sb, 0, none⟩) B (exc B)) rfl (ow2.ld rfl) rfl ?_
  refine RunO.part 1 rfl ?_
  refine RunO.index (s := 1) rfl rfl rfl rfl (show a < B by omega) rfl ?_
  refine RunO.store rfl rfl (store1_ow t2.os rfl rfl rfl (by rw [bs_len]; omega)) (RunO.nil ?_)
  rw [show (bs sn).set (0 + a * 1) (.bool true) = bs (sn.set a true) by rw [Nat.zero_add, Nat.mul_one, bs_set]]
  have fs : Fr (· = sb) h2 (h2.put sb (some ⟨bs (sn.set a true), true⟩)) := Fr.put _ (.inl rfl)
  have t3 : RW lo (h2.put sb (some ⟨bs (sn.set a true), true⟩)) iv B wb sb db mb nv m ns (sn.set a true) dt true :=
    ⟨t2.ow.fr fs rb.ws, Ow.put _ t2.os.1, t2.od.fr fs (fun e => rb.sd e.symm), t2.om.fr fs (fun e => rb.sm e.symm), t2.row.fr fs (fun b h1 _ e => by have := rb.s; omega), t2.lm, by rw [List.length_set]; exact t2.ls, t2.ld, t2.ln⟩
  have on3 := on.fr fs (show ¬ q = sb by have := rb.s; omega)
  have F3 : Fr (RR wb sb db mb nv) h (h2.put sb (some ⟨bs (sn.set a true), true⟩)) := F2.trans fs (fun b e => .inl (.inr (.inl e)))
  have hn3 : (h2.put sb (some ⟨bs (sn.set a true), true⟩)).next = h2.next := rfl
  generalize h2.put sb (some ⟨bs (sn.set a true), true⟩) = h3 at *
  clear t2 ow2 on
  -- one node more
  have ow3 := t3.ow
  refine RunC.seq (RunC.region (RunO.part 4 rfl ?_))
  refine RunO.load (v := nv) rfl (ow3.ld rfl) rfl ?_
  refine RunO.part 2 (h1 := h3.push ⟨is [(a : Int)], true⟩) rfl ?_
  have fp : Fr no h3 (h3.push ⟨is [(a : Int)], true⟩) := Fr.push _ _ _
  have ob := Ow.push h3 (is [(a : Int)])
  have t3p := t3.quiet fp
  have on4 := on3.fr fp (fun g => g)
  generalize h3.push ⟨is [(a : Int)], true⟩ = h4 at *
  refine RunO.append2 (s := 1) (m := 1) rfl rfl rfl rfl rfl rfl rfl rfl (Nat.le_refl 1) t3p.row ob.all rfl (Nat.le_refl 1) rfl (by show 2 * (ns.length + 1) * 8 ≤ _; omega) (by omega) ?_
  intro nv2 h5 row5 f5
  have hat : ∀ b, At nv b → lo ≤ b := fun b ha => (t3p.row.at ha).1
  have ow5 := t3p.ow.fr f5 (fun g => by have := hat _ g; have := rb.w; omega)
  have os5 := t3p.os.fr f5 (fun g => by have := hat _ g; have := rb.s; omega)
  have od5 := t3p.od.fr f5 (fun g => by have := hat _ g; have := rb.d; omega)
  have om5 := t3p.om.fr f5 (fun g => by have := hat _ g; have := rb.m; omega)
  have on5 := on4.fr f5 (fun g => hnrow _ g rfl)
  have hnv2 : ∀ b, At nv2 b → q < b := fun b g => Nat.lt_of_lt_of_le on4.1 (row5.at g).1
  refine RunO.part 2 rfl ?_
  refine RunO.store rfl rfl (store1_ow ow5 rfl row5.cell.1 row5.cell.2 (Nat.le_of_ble_eq_true rfl)) (RunO.all rfl ?_)
  change RunC _ _ _ _ (h5.put wb (some ⟨rwc iv B sb db mb nv2 true, true⟩)) _ _ _
  replace row5 := Row.lo row5 t3p.ln
  rw [← is_app] at row5
  have fw : Fr (· = wb) h5 (h5.put wb (some ⟨rwc iv B sb db mb nv2 true, true⟩)) := Fr.put _ (.inl rfl)
  have t6 : RW lo (h5.put wb (some ⟨rwc iv B sb db mb nv2 true, true⟩)) iv B wb sb db mb nv2 m (ns ++ [(a : Int)]) (sn.set a true) dt true :=
    ⟨Ow.put _ ow5.1, os5.fr fw (fun e => rb.ws e.symm), od5.fr fw (fun e => rb.wd e.symm), om5.fr fw (fun e => rb.wm e.symm), by
      have := row5.fr fw (fun b h1 _ e => by have := rb.w; omega)
      rw [List.length_append]; exact this, t3p.lm, t3p.ls, t3p.ld, Nat.le_trans t3p.ln f5.next⟩
  have on6 := on5.fr fw (show ¬ q = wb by have := rb.w; omega)
  have F6 : Fr (RR wb sb db mb nv) h (h5.put wb (some ⟨rwc iv B sb db mb nv2 true, true⟩)) :=
    ((F3.quiet fp).trans f5 (fun b g => .inl (.inr (.inr (.inr (.inr g)))))).trans fw (fun b e => .inl (.inl e))
  generalize h5.put wb (some ⟨rwc iv B sb db mb nv2 true, true⟩) = h6 at *
  clear t3 t3p ow3 ow5 os5 od5 om5 on3 on4 on5 row5 f5 fp ob fw F3 fs F2 f12 f2 f1
  have hcp6 : Cpl B m (ns ++ [(a : Int)]) (sn.set a true) dt := by
    refine ⟨fun i hi => ?_, hcp.2⟩
    rw [getD_setB _ _ _ _ has, hcp.1 i hi, Bool.eq_iff_iff]
    simp only [List.contains_eq_mem, List.mem_append, List.mem_singleton, decide_eq_true_eq]
    by_cases e : i = a
    · subst e; simp
    · rw [if_neg e]
      simp only [decide_eq_true_eq]
      constructor
      · exact .inl
      · rintro (g | g)
        · exact g
        · exact absurd (by omega) e
  have hn6 : (ns ++ [(a : Int)]).length + 8 * rN lv ≤ 100000 ∧ (ns ++ [(a : Int)]).length + 8 * rN lv = ns.length + nN lv := by
    rw [nN_eq] at hns ⊢
    rw [List.length_append, List.length_singleton]; omega
  generalize ns ++ [(a : Int)] = ns6 at *
  generalize sn.set a true = sn6 at *
  -- the span
  refine RunC.seq (RunC.region (RunO.all rfl ?_))
  refine RunC.seqc (fun E' h' => h' = h6 ∧ Le (upd (upd (upd (upd (upd E0 0 (.pointer (some ⟨wb, 0, none⟩))) 2 (.int .i64 (lv : Int))) 3 (.int .i64 (from_ : Int))) 8 (.pointer (some ⟨q, 0, none⟩))) 10 (.int .i64 ((8 ^ lv : Nat) : Int))) E') ?_ ?_
  · refine RunC.seq (RunC.region (RunO.all rfl ?_))
    refine RunC.block ?_
    let I : Nat → Env → Heap → Prop := fun d E h' => ∃ i : Nat, i + d = lv ∧ h' = h6 ∧ Le (upd (upd (upd (upd (upd (upd E0 0 (.pointer (some ⟨wb, 0, none⟩))) 2 (.int .i64 (lv : Int))) 3 (.int .i64 (from_ : Int))) 8 (.pointer (some ⟨q, 0, none⟩))) 10 (.int .i64 ((8 ^ i : Nat) : Int))) 11 (.int .i64 (i : Int))) E
    refine RunC.loop I ?_ (k := lv) ?_
    · rintro d E h' ⟨i, hi, rfl, hE⟩
      refine RunC.le hE ?_
      clear hE
      refine RunC.seq (RunC.seq (RunC.region (RunO.all rfl ?_)))
      refine RunC.cond rfl (fun hlt => ?_) (fun hge => ?_)
      · have hlt := of_decide_eq_true hlt
        have hi8 : 8 ^ i ≤ 64 := by
          have : 8 ^ i ≤ 8 ^ 2 := Nat.pow_le_pow_right (by decide) (by omega)
          exact this
        have hi0 : 1 ≤ 8 ^ i := Nat.pow_pos (by decide)
        refine RunC.skip ?_
        refine RunC.seq (RunC.block ?_)
        refine RunC.region (RunO.part 2 rfl ?_)
        rw [fw64 (x := ((8 ^ i : Nat) : Int) * 8) (by omega) (by omega), show ((8 ^ i : Nat) : Int) * 8 = ((8 ^ (i + 1) : Nat) : Int) by rw [Nat.pow_succ]; omega]
        refine RunO.all rfl ?_
        refine RunC.region (RunO.all rfl ?_)
        exact ⟨d - 1, by omega, i + 1, by omega, rfl, Le.cons (inc64 (by omega)) (Le.cons rfl (Le.cons rfl (Le.cons rfl (Le.cons rfl (Le.cons rfl (Le.nil _))))))⟩
      · have hge := of_decide_eq_false hge
        obtain rfl : i = lv := by omega
        exact RunC.exit ⟨rfl, Le.cons rfl (Le.cons rfl (Le.cons rfl (Le.cons rfl (Le.cons rfl (Le.nil _)))))⟩
    · exact ⟨0, by omega, rfl, Le.cons rfl (Le.cons rfl (Le.cons rfl (Le.cons rfl (Le.cons rfl (Le.cons rfl (Le.nil _))))))⟩
  rintro E' _ ⟨rfl, hE⟩
  refine RunC.le hE ?_
  clear hE
  refine RunC.seq (RunC.region (RunO.all rfl ?_))
  refine RunC.block ?_
  obtain ⟨T, hT⟩ : ∃ T : Nat → TS, T = fun i => (List.range i).foldl (tst L B lv ps from_) (m, ns6, false) := ⟨_, rfl⟩
  have hT8 : (List.range 8).foldl (tst L B lv ps from_) (m, ns6, false) = T 8 := by rw [hT]
  rw [hT8]
  have hTs : ∀ i, T (i + 1) = tst L B lv ps from_ (T i) i := fun i => by rw [hT]; show List.foldl _ _ (List.range (i + 1)) = _; rw [List.range_succ, List.foldl_append]; rfl
  have hTb : ∀ i, i ≤ 8 → (T i).2.2 = true → (T 8).2.2 = true := fun i hi hbi => by
    cases e : (T 8).2.2 with
    | true => rfl
    | false =>
      rw [← hT8] at e
      have := fold_pre e hi
      rw [hT] at hbi
      rw [this] at hbi; cases hbi
  have hTz : ∀ i, i < 8 → (T i).2.2 = false → ∀ s, from_ + i * 8 ^ lv ≤ s → s < from_ + i * 8 ^ lv + 8 ^ lv → (T i).1.getD s 0 = 0 := fun i hi hbi s h1 h2 => by
    have hle : i * 8 ^ lv + 8 ^ lv ≤ 8 ^ lv * 8 := by rw [← Nat.succ_mul, Nat.mul_comm]; exact Nat.mul_le_mul_left _ hi
    rw [hT] at hbi
    have S := fold_spec (N := i) (fun k _ => tgo_spec L B k) hfrom t6.lm hz (by omega) hbi i (Nat.le_refl i)
    have := S.map s (by omega)
    rw [if_neg (by omega), hz s (by omega) (by omega)] at this
    rw [hT]; exact this
  have hT0 : T 0 = (m, ns6, false) := by rw [hT]; rfl
  clear hT
  let I : Nat → Env → Heap → Prop := fun d E h' => ∃ (i : Nat) (nv' : Value) (m' ns' : List Int) (sn' dt' : List Bool) (ok' : Bool), i + d = 8 ∧ RW lo h' iv B wb sb db mb nv' m' ns' sn' dt' ok' ∧ (∀ b, At nv' b → At nv b ∨ h.next ≤ b) ∧ (∀ b, At nv' b → b ≠ q) ∧ ns'.length ≤ ns6.length + i * rN lv ∧ ok' = !(T i).2.2 ∧ (ok' = true → T i = (m', ns', false) ∧ Cpl B m' ns' sn' dt') ∧ Fr (RR wb sb db mb nv) h h' ∧ Ow h' q (nc nl ps) ∧
    Le (upd (upd (upd (upd (upd (upd E0 0 (.pointer (some ⟨wb, 0, none⟩))) 2 (.int .i64 (lv : Int))) 3 (.int .i64 (from_ : Int))) 8 (.pointer (some ⟨q, 0, none⟩))) 10 (.int .i64 ((8 ^ lv : Nat) : Int))) 12 (.int .i64 (i : Int))) E
  refine RunC.loop I ?_ (k := 8) ?_
  · rintro d E h7 ⟨i, nv7, m7, ns7, sn7, dt7, ok7, hi, t7, hr7, hq7, hl7, hok7, hal7, F7, on7, hE⟩
    refine RunC.le hE ?_
    clear hE
    refine RunC.seq (RunC.seq (RunC.region (RunO.all rfl ?_)))
    refine RunC.cond rfl (fun hlt => ?_) (fun hge => ?_)
    · have hlt := of_decide_eq_true hlt
      have hi8 : i < 8 := by omega
      have hps : i < ps.length := by omega
      have hpi : ps.getD i 0 = ps[i] := by rw [List.getD_eq_getElem?_getD, List.getElem?_eq_getElem hps]; rfl
      have hld : apart prog 3 (nc nl ps) (1 + i * 1) = some (.int .i64 ps[i]) := by
        show nth (nc nl ps) (1 + i * 1) = _
        rw [Nat.mul_one, Nat.add_comm]; exact is_nth hps
      have hp02 := hptr _ (List.getElem_mem hps)
      have hstep := hTs i
      unfold tst at hstep
      rw [hpi] at hstep
      have hzi := hTz i hi8
      have hTbi := hTb i (by omega)
      have hTbi1 := hTb (i + 1) (by omega)
      generalize ps[i] = p at *
      have hto : from_ + i * 8 ^ lv + 8 ^ lv ≤ 512 := by
        have : i * 8 ^ lv + 8 ^ lv ≤ 8 ^ lv * 8 := by rw [← Nat.succ_mul, Nat.mul_comm]; exact Nat.mul_le_mul_left _ hi8
        omega
      obtain ⟨to_, hto_⟩ : ∃ t, t = from_ + i * 8 ^ lv := ⟨_, rfl⟩
      rw [← hto_] at hstep hto hzi
      have hrl : ns7.length + rN lv ≤ 100000 := by
        have : i * rN lv + rN lv ≤ 8 * rN lv := by rw [← Nat.succ_mul]; exact Nat.mul_le_mul_right _ hi8
        omega
      have hsuc : (i + 1) * rN lv = i * rN lv + rN lv := Nat.succ_mul ..
      -- what the loop goes on with
      have next : ∀ (h8 : Heap) (nv8 : Value) (m8 ns8 : List Int) (sn8 dt8 : List Bool) (ok8 : Bool), RW lo h8 iv B wb sb db mb nv8 m8 ns8 sn8 dt8 ok8 → (∀ b, At nv8 b → At nv b ∨ h.next ≤ b) → (∀ b, At nv8 b → b ≠ q) → ns8.length ≤ ns7.length + rN lv → ok8 = !(T (i + 1)).2.2 → (ok8 = true → T (i + 1) = (m8, ns8, false) ∧ Cpl B m8 ns8 sn8 dt8) → Fr (RR wb sb db mb nv) h h8 → Ow h8 q (nc nl ps) →
          ∀ E, Le (upd (upd (upd (upd (upd (upd E0 0 (.pointer (some ⟨wb, 0, none⟩))) 2 (.int .i64 (lv : Int))) 3 (.int .i64 (from_ : Int))) 8 (.pointer (some ⟨q, 0, none⟩))) 10 (.int .i64 ((8 ^ lv : Nat) : Int))) 12 (.int .i64 ((i + 1 : Nat) : Int))) E → ∃ d', d' < d ∧ I d' E h8 := by
        intro h8 nv8 m8 ns8 sn8 dt8 ok8 a1 a2 a3 a4 a5 a6 a7 a8 E a9
        exact ⟨d - 1, by omega, i + 1, nv8, m8, ns8, sn8, dt8, ok8, by omega, a1, a2, a3, by omega, a5, a6, a7, a8, a9⟩
      refine RunC.skip ?_
      refine RunC.seq (RunC.block ?_)
      refine RunC.seq (RunC.region (RunO.part 2 rfl ?_))
      refine RunO.indexA (s := 1) rfl rfl rfl rfl rfl hi8 rfl ?_
      refine RunO.load (v := .int .i64 p) rfl (on7.ld hld) rfl (RunO.all rfl ?_)
      refine RunC.seq (RunC.seq (RunC.region (RunO.all rfl ?_)))
      by_cases hp0 : p = 0
      · subst hp0
        have hT1 : T (i + 1) = T i := by rw [hstep]; exact tstep_none hB1
        rw [← hT1] at hok7 hal7
        refine RunC.cond rfl (fun _ => RunC.exit ?_) (fun g => by cases g)
        exact RunC.region (RunO.all rfl (next h7 nv7 m7 ns7 sn7 dt7 ok7 t7 hr7 hq7 (by omega) hok7 hal7 F7 on7 _ (Le.cons (inc64 (by omega)) (Le.cons rfl (Le.cons rfl (Le.cons rfl (Le.cons rfl (Le.cons rfl (Le.nil _)))))))))
      rw [show (p == 0) = false from beq_eq_false_iff_ne.2 hp0]
      refine RunC.cond rfl (fun g => by cases g) (fun _ => RunC.skip ?_)
      obtain ⟨pn, rfl⟩ := Int.eq_ofNat_of_zero_le (show 0 ≤ p by omega)
      have ow7 := t7.ow
      refine RunC.seq (RunC.seq (RunC.region (RunO.part 4 rfl ?_)))
      refine RunO.load (v := .int .i64 (B : Int)) rfl (ow7.ld rfl) rfl (RunO.all rfl ?_)
      by_cases hpB : B ≤ pn
      · -- beyond the device
        have hbadi : (T (i + 1)).2.2 = true := by
          rw [hstep]
          unfold tstep
          split
          · assumption
          · rw [if_pos (by rw [decide_eq_true_eq]; omega)]
        rw [show decide ((pn : Int) ≥ (B : Int)) = true from decide_eq_true (by omega)]
        refine RunC.cond rfl (fun _ => ?_) (fun g => by cases g)
        obtain ⟨h8, e1, e2⟩ := hbad (T := T 8) t7 F7 hr7 (by
          have : i * rN lv ≤ 8 * rN lv := Nat.mul_le_mul_right _ (by omega)
          omega) (hTbi1 hbadi)
        refine RunC.seq (RunC.region (RunO.part 3 rfl ?_))
        refine RunO.store rfl rfl e1 (RunO.all rfl ?_)
        exact RunC.ret ⟨_, rfl, e2⟩
      rw [show decide ((pn : Int) ≥ (B : Int)) = false from decide_eq_false (by omega)]
      refine RunC.cond rfl (fun g => by cases g) (fun _ => RunC.skip ?_)
      have hgo : (T i).2.2 = false → T (i + 1) = if (lv == 0) = true then ((T i).1.set to_ (pn : Int), (T i).2.1, (T i).2.2) else trec L B lv (pn : Int) to_ (T i) := fun hbi => by
        rw [hstep]
        unfold tstep
        rw [if_neg (by rw [hbi]; exact Bool.false_ne_true), if_neg (by rw [decide_eq_true_eq]; omega), show ((pn : Int) != 0) = true from bne_iff_ne.2 hp0]
        cases (lv == 0) <;> rfl
      have hdead : (T i).2.2 = true → (T (i + 1)).2.2 = true := fun hbi => by
        rw [hstep]
        unfold tstep
        rw [if_pos hbi]; exact hbi
      refine RunC.seq (RunC.seq (RunC.region (RunO.all rfl ?_)))
      cases hl0 : lv == 0 with
      | true =>
        have hl00 : lv = 0 := beq_iff_eq.1 hl0
        rw [show ((lv : Int) == 0) = true from beq_iff_eq.2 (by omega)]
        refine RunC.cond rfl (fun _ => ?_) (fun g => by cases g)
        have e8 : 8 ^ lv = 1 := by rw [hl00]
        have hmt : to_ < m7.length := by rw [t7.lm]; omega
        have htoi : (from_ : Int) + (i : Int) = (to_ : Int) := by rw [hto_, e8]; omega
        refine RunC.seq (RunC.region (RunO.part 3 rfl ?_))
        refine RunO.load (v := .slice (some ⟨mb, 0, none⟩) 512 (exc 512)) rfl (ow7.ld rfl) rfl ?_
        refine RunO.part 3 rfl ?_
        rw [htoi, fw64 (x := (to_ : Int)) (by omega) (by omega)]
        refine RunO.part 1 rfl ?_
        refine RunO.index (s := 1) rfl rfl rfl rfl (by have := t7.lm; omega) rfl ?_
        refine RunO.store rfl rfl (store1_ow t7.om rfl rfl rfl (by rw [is_len]; simpa using hmt)) (RunO.nil ?_)
        have ei : (is m7).set (0 + to_ * 1) (.int .i64 (pn : Int)) = is (m7.set to_ (pn : Int)) := by rw [Nat.zero_add, Nat.mul_one]; unfold is; rw [List.map_set]
        rw [ei]
        have fm : Fr (· = mb) h7 (h7.put mb (some ⟨is (m7.set to_ (pn : Int)), true⟩)) := Fr.put _ (.inl rfl)
        have t8 : RW lo (h7.put mb (some ⟨is (m7.set to_ (pn : Int)), true⟩)) iv B wb sb db mb nv7 (m7.set to_ (pn : Int)) ns7 sn7 dt7 ok7 :=
          ⟨t7.ow.fr fm rb.wm, t7.os.fr fm rb.sm, t7.od.fr fm rb.dm, Ow.put _ t7.om.1, t7.row.fr fm (fun b h1 _ e => by have := rb.m; omega), by rw [List.length_set]; exact t7.lm, t7.ls, t7.ld, t7.ln⟩
        have on8 := on7.fr fm (show ¬ q = mb by have := rb.m; omega)
        have F8 : Fr (RR wb sb db mb nv) h (h7.put mb (some ⟨is (m7.set to_ (pn : Int)), true⟩)) := F7.trans fm (fun b e => .inl (.inr (.inr (.inr (.inl e)))))
        generalize h7.put mb (some ⟨is (m7.set to_ (pn : Int)), true⟩) = h8 at *
        have ow8 := t8.ow
        have hpd : pn < dt7.length := by rw [t8.ld]; omega
        refine RunC.seq (RunC.region (RunO.part 3 rfl ?_))
        refine RunO.load (v := .slice (some ⟨db, 0, none⟩) B (exc B)) rfl (ow8.ld rfl) rfl ?_
        refine RunO.part 1 rfl ?_
        refine RunO.index (s := 1) rfl rfl rfl rfl (show pn < B by omega) rfl ?_
        refine RunO.store rfl rfl (store1_ow t8.od rfl rfl rfl (by rw [bs_len]; omega)) (RunO.nil ?_)
        rw [show (bs dt7).set (0 + pn * 1) (.bool true) = bs (dt7.set pn true) by rw [Nat.zero_add, Nat.mul_one, bs_set]]
        have fd : Fr (· = db) h8 (h8.put db (some ⟨bs (dt7.set pn true), true⟩)) := Fr.put _ (.inl rfl)
        have t9 : RW lo (h8.put db (some ⟨bs (dt7.set pn true), true⟩)) iv B wb sb db mb nv7 (m7.set to_ (pn : Int)) ns7 sn7 (dt7.set pn true) ok7 :=
          ⟨t8.ow.fr fd rb.wd, t8.os.fr fd rb.sd, Ow.put _ t8.od.1, t8.om.fr fd (fun e => rb.dm e.symm), t8.row.fr fd (fun b h1 _ e => by have := rb.d; omega), t8.lm, t8.ls, by rw [List.length_set]; exact t8.ld, t8.ln⟩
        have on9 := on8.fr fd (show ¬ q = db by have := rb.d; omega)
        have F9 : Fr (RR wb sb db mb nv) h (h8.put db (some ⟨bs (dt7.set pn true), true⟩)) := F8.trans fd (fun b e => .inl (.inr (.inr (.inl e))))
        refine RunC.exit ?_
        refine RunC.region (RunO.all rfl (next _ nv7 _ ns7 sn7 _ ok7 t9 hr7 hq7 (by omega) ?_ ?_ F9 on9 _ (Le.cons (inc64 (by omega)) (Le.cons rfl (Le.cons rfl (Le.cons rfl (Le.cons rfl (Le.cons rfl (Le.nil _)))))))))
        · rw [hok7]
          cases hbi : (T i).2.2 with
          | true => rw [hdead hbi]
          | false => rw [hgo hbi, if_pos hl0]; show (!false) = !(T i).2.2; rw [hbi]
        · intro hok
          have hbi : (T i).2.2 = false := by rw [hok] at hok7; cases e : (T i).2.2 with
            | false => rfl
            | true => rw [e] at hok7; cases hok7
          obtain ⟨g1, g2, g3⟩ := hal7 hok
          rw [hgo hbi, if_pos hl0, g1]
          refine ⟨rfl, g2, fun x hx hxB => ?_⟩
          have hz0 : m7.getD to_ 0 = 0 := by
            have := hzi hbi to_ (Nat.le_refl _) (by omega)
            rwa [g1] at this
          rw [getD_setB _ _ _ _ hpd, contains_set0 hmt hz0 (by omega), g3 x hx hxB]
          by_cases e : x = pn
          · subst e; simp
          · rw [if_neg e, show ((x : Int) == (pn : Int)) = false from beq_eq_false_iff_ne.2 (by omega)]; rfl
      | false =>
        obtain ⟨k, rfl⟩ : ∃ k, lv = k + 1 := by
          cases lv with
          | zero => cases hl0
          | succ k => exact ⟨k, rfl⟩
        rw [show (((k + 1 : Nat) : Int) == 0) = false from beq_eq_false_iff_ne.2 (by omega)]
        refine RunC.cond rfl (fun g => by cases g) (fun _ => RunC.skip ?_)
        refine RunC.region (RunO.part 3 rfl ?_)
        refine RunO.part 1 rfl ?_
        rw [fw64 (x := ((k + 1 : Nat) : Int) - 1) (by omega) (by omega), show ((k + 1 : Nat) : Int) - 1 = (k : Int) by omega]
        refine RunO.part 3 rfl ?_
        refine RunO.part 1 rfl ?_
        have hmul : (i : Int) * ((8 ^ (k + 1) : Nat) : Int) = ((i * 8 ^ (k + 1) : Nat) : Int) := by rw [Int.natCast_mul]
        rw [hmul, fw64 (x := ((i * 8 ^ (k + 1) : Nat) : Int)) (by omega) (by omega)]
        refine RunO.part 1 rfl ?_
        rw [fw64 (x := (from_ : Int) + ((i * 8 ^ (k + 1) : Nat) : Int)) (by omega) (by omega), show (from_ : Int) + ((i * 8 ^ (k + 1) : Nat) : Int) = (to_ : Int) by omega]
        cases hok : ok7 with
        | false =>
          rw [hok] at t7 hok7
          have hbi : (T i).2.2 = true := by
            cases e : (T i).2.2 with
            | true => rfl
            | false => rw [e] at hok7; cases hok7
          refine RunO.callD (rnode_dead rb t7) rfl rfl rfl ?_
          rintro _ h8 ⟨rfl, t8, f8⟩
          have on8 := on7.fr f8 (by
            have := rb.w; have := rb.s; have := rb.d; have := rb.m
            rintro (e | e | e | e | e)
            · omega
            · omega
            · omega
            · omega
            · exact hq7 _ e rfl)
          have F8 : Fr (RR wb sb db mb nv) h h8 := F7.trans f8 (fun b g => by
            rcases g with g | g | g | g | g
            · exact .inl (.inl g)
            · exact .inl (.inr (.inl g))
            · exact .inl (.inr (.inr (.inl g)))
            · exact .inl (.inr (.inr (.inr (.inl g))))
            · exact (hr7 b g).imp (fun g => .inr (.inr (.inr (.inr g)))) id)
          refine RunO.all rfl ?_
          exact RunC.region (RunO.all rfl (next h8 nv7 m7 ns7 sn7 dt7 false t8 hr7 hq7 (by omega) (by rw [hdead hbi]; rfl) (fun g => by cases g) F8 on8 _ (Le.cons (inc64 (by omega)) (Le.cons rfl (Le.cons rfl (Le.cons rfl (Le.cons rfl (Le.cons rfl (Le.nil _)))))))))
        | true =>
          rw [hok] at t7 hok7
          have hbi : (T i).2.2 = false := by
            cases e : (T i).2.2 with
            | false => rfl
            | true => rw [e] at hok7; cases hok7
          obtain ⟨g1, g2⟩ := hal7 hok
          have hM : Fr (RM lo wb sb db mb) h h7 := F7.weak (fun b g => by
            rcases g with g | g | g | g | g
            · exact .inl (.inl g)
            · exact .inl (.inr (.inl g))
            · exact .inl (.inr (.inr (.inl g)))
            · exact .inl (.inr (.inr (.inr (.inl g))))
            · exact .inl (.inr (.inr (.inr (.inr (hat b g))))))
          refine RunO.callD (hrec k rfl (at_ := (pn : Int)) (from_ := to_) (sl_rm sl hiv hM) t7 g2 hrl hto (fun s h1 h2 => by have := hzi hbi s h1 h2; rwa [g1] at this)) rfl rfl rfl ?_
          rintro _ h8 ⟨rfl, f8, nv8, m8, ns8, sn8, dt8, ok8, t8, r8, l8, o8, a8⟩
          have hT1 : T (i + 1) = tgo L B k (pn : Int) to_ (m7, ns7, false) := by rw [hgo hbi, if_neg (by rw [hl0]; exact Bool.false_ne_true), g1]; rfl
          rw [← hT1] at o8 a8
          have on8 := on7.fr f8 (by
            have := rb.w; have := rb.s; have := rb.d; have := rb.m
            rintro (e | e | e | e | e)
            · omega
            · omega
            · omega
            · omega
            · exact hq7 _ e rfl)
          have F8 : Fr (RR wb sb db mb nv) h h8 := F7.trans f8 (fun b g => by
            rcases g with g | g | g | g | g
            · exact .inl (.inl g)
            · exact .inl (.inr (.inl g))
            · exact .inl (.inr (.inr (.inl g)))
            · exact .inl (.inr (.inr (.inr (.inl g))))
            · exact (hr7 b g).imp (fun g => .inr (.inr (.inr (.inr g)))) id)
          have hq8 : ∀ b, At nv8 b → b ≠ q := fun b g => by
            rcases r8 b g with e | e
            · exact hq7 b e
            · have := on7.1; omega
          have hr8 : ∀ b, At nv8 b → At nv b ∨ h.next ≤ b := fun b g => by
            rcases r8 b g with e | e
            · exact hr7 b e
            · exact .inr (Nat.le_trans F7.next e)
          refine RunO.all rfl ?_
          exact RunC.region (RunO.all rfl (next h8 nv8 m8 ns8 sn8 dt8 ok8 t8 hr8 hq8 l8 o8 a8 F8 on8 _ (Le.cons (inc64 (by omega)) (Le.cons rfl (Le.cons rfl (Le.cons rfl (Le.cons rfl (Le.cons rfl (Le.nil _)))))))))
    · have hge := of_decide_eq_false hge
      obtain rfl : i = 8 := by omega
      refine RunC.exit ?_
      exact ⟨_, rfl, rfl, F7, nv7, m7, ns7, sn7, dt7, ok7, t7, hr7, by omega, hok7, hal7⟩
  · refine ⟨0, nv2, m, ns6, sn6, dt, true, by omega, t6, fun b g => .inr ?_, fun b g => ?_, by omega, by rw [hT0]; rfl, fun _ => ⟨hT0, hcp6⟩, F6, on6, Le.cons rfl (Le.cons rfl (Le.cons rfl (Le.cons rfl (Le.cons rfl (Le.cons rfl (Le.nil _))))))⟩
    · have := hnv2 b g; omega
    · have := hnv2 b g; omega
theorem rnode_ok {L : List Int} {B lo wb sb db mb : Nat} {iv : Value} (hb : Byt L) (hB : B * 64 ≤ L.length) (hB1 : 1 ≤ B) (hB2 : B ≤ 4096) (hm : L.length ≤ 4611686018427387904) (rb : RB lo wb sb db mb) (hiv : ∀ b o c, iv = .slice (some ⟨b, o, none⟩) L.length c → ¬ RM lo wb sb db mb b) : ∀ (lv : Nat), lv ≤ 2 → RNodeOk L B lo wb sb db mb iv lv := by
  intro lv
  induction lv with
  | zero => intro h; exact rnode_body hb hB hB1 hB2 hm rb hiv h (fun k e => by cases e)
  | succ k ih =>
    intro h
    exact rnode_body hb hB hB1 hB2 hm rb hiv h (fun j e => by cases e; exact ih (by omega))
end Go.Proofs.Ytbinkbdfoalbcaa
end
section
set_option linter.unusedVariables false
namespace Go.Am
open Go.RowKit
section
variable {P : Program} {n : Nat} {ops rest : List Oper} {E E1 : Env} {h h1 : Heap} {Q : Env → Heap → Prop}
theorem RunO.appendG {d : Tmp} {t ty e : TypeId} {x y : Operand} {pos : String} {after : Array Edge} {i : TypeInfo} {z : Value} {lo s k j c' : Nat} {xv : Value} {cells news : List Value} {a : Addr}
    (hx : gE E x = some xv) (hy : gE E y = some (.slice (some a) j c')) (hd : Nat.ble (Nat.succ d) n = true)
    (hu : P.underlying t = some (.slice e)) (hi : P.info? e = some i) (hz : zeroOf P e = some z) (hlz : lenIs (cellsOf z) i.size = true) (hs : i.size = s) (hs1 : 1 ≤ s) (row : Gr lo h xv s k cells)
    (rd : Rd h a news) (hn : news.length = j * s) (hm : 1 ≤ j) (ha : allCells news = true) (hb : 2 * (k + j) * i.bytes ≤ 281474976710656) (hb2 : k + j ≤ 9223372036854775807)
    (r : ∀ v' h', Row h.next h' v' s (k + j) (cells ++ news) → Fr (At xv) h h' → RunO P n ops rest (upd E d v') h' Q) : RunO P n ops (⟨some d, .call ⟨.builtin .append, #[x, y], #[t, t]⟩, ty, pos, after, none⟩ :: rest) E h Q := by
  obtain ⟨v', h', h1, h2, h3⟩ := append_gr (c' := c') hu hi hz hlz hs hs1 row rd hn hm ha hb hb2
  refine RunO.one rfl (v := v') (h1 := h') ?_ (by simp only [eput, hd, cond_true]) (r v' h' h2 h3)
  simp only [eop, gs, hx, hy, abuiltin, h1]
end
end Go.Am
end
section
set_option linter.unusedVariables false
set_option linter.unusedSectionVars false
set_option maxRecDepth 100000
open Go Go.Am Go.RowKit
namespace Go.Proofs.Ytbinkbdfoalbcaa
open Go.Proofs.Try

set_option maxHeartbeats 32000000 in
theorem refRecords10_ok {h : Heap} {iv : Value} {L : List Int} {a : Int} (sl : Sl h iv 1 L.length (us L)) (hb : Byt L) (hd : devOk L.length = true) :
    RunF prog 24 [iv, .int .i64 a] h fun v h' => Fr no h h' ∧ (((folOf L a).2.2.2 = 0 ∧ ∃ lv bv, v = .tuple #[lv, bv, .int .i64 0, .bool true] ∧ Gr h.next h' lv 8 (folOf L a).1.length (recCs (folOf L a).1) ∧ Gr h.next h' bv 1 (folOf L a).2.1.length (is (folOf L a).2.1)) ∨
      ((folOf L a).2.2.2 ≠ 0 ∧ v = .tuple #[.slice none 0 0, .slice none 0 0, .int .i64 (folOf L a).2.2.2, .bool false])) := by
  have hdl : L.length % 64 = 0 ∧ 4 ≤ L.length / 64 ∧ L.length / 64 ≤ 4096 := by
    unfold devOk at hd
    simpa using hd
  have hm : L.length ≤ 4611686018427387904 := by omega
  refine RunF.walk func24 rfl rfl ?_
  refine RunC.seq (RunC.region (RunO.all rfl ?_))
  refine RunC.seq (RunC.region (RunO.part 1 rfl ?_))
  refine RunO.callD (refBlocks_ok sl hm) rfl rfl rfl ?_
  rintro _ _ ⟨rfl, rfl⟩
  have hfo : folOf L a = fol L (L.length / 64) (L.length / 64) a [] [] 0 := rfl
  obtain ⟨B, hB⟩ : ∃ B, B = L.length / 64 := ⟨_, rfl⟩
  rw [← hB] at hfo hdl ⊢
  refine RunO.all rfl ?_
  refine RunC.seq (RunC.region (RunO.all rfl ?_))
  refine RunC.seq (RunC.seq (RunC.region (RunO.all rfl ?_)))
  refine RunC.block ?_
  refine RunC.loop (fun d E h' => ∃ (at_ : Int) (l : List R8) (bs : List Int) (w : Nat) (lv bv : Value), d + bs.length = B ∧ l.length = bs.length ∧ bs.Nodup ∧ (∀ x ∈ bs, 2 ≤ x ∧ x < (B : Int)) ∧ w ≤ bs.length ∧ (l = [] → w = 0) ∧ folOf L a = fol L B d at_ l bs w ∧
      Fr no h h' ∧ Gr h.next h' lv 8 l.length (recCs l) ∧ Gr h.next h' bv 1 bs.length (is bs) ∧ (∀ b, At lv b → ¬ At bv b) ∧
      Le ((upd (upd (upd (upd (upd (upd E0 0 (iv)) 8 (.int .i64 (B : Int))) 10 (.int .i64 (w : Int))) 4 (lv)) 5 (bv)) 11 (.int .i64 at_))) E) ?st (k := B) ?ini
  case ini => exact ⟨a, [], [], 0, _, _, by simp, rfl, List.nodup_nil, fun x hx => absurd hx List.not_mem_nil, Nat.le_refl 0, fun _ => rfl, hfo, Fr.refl _ _, (Row.nil _ _ _).gr, (Row.nil _ _ _).gr, (fun b g => by obtain ⟨_, _, e⟩ := g; cases e), Le.cons rfl (Le.cons rfl (Le.cons rfl (Le.cons rfl (Le.cons rfl (Le.cons rfl (Le.nil _))))))⟩
  rintro d E g1 ⟨at_, l, bs, w, lv, bv, hdb, hll, hnd, hbr, hw, hw0, hfo, fg, rl, rb, hx, hE⟩
  refine RunC.le hE ?_
  clear hE
  refine RunC.seq (RunC.seq (RunC.region (RunO.all rfl ?_)))
  by_cases ha0 : at_ = 0
  · subst ha0
    refine RunC.cond rfl (fun g => by cases g) (fun _ => RunC.exit ?_)
    rw [fol_end] at hfo
    refine RunC.seq (RunC.region (RunO.all rfl (RunC.ret ⟨_, rfl, fg, .inl ⟨by rw [hfo], lv, bv, rfl, ?_, ?_⟩⟩)))
    · rw [hfo]; exact rl
    · rw [hfo]; exact rb
  rw [show (at_ != 0) = true from bne_iff_ne.2 ha0]
  refine RunC.cond rfl (fun _ => RunC.skip ?_) (fun g => by cases g)
  have hbl := nd_blocks hnd hbr
  obtain ⟨f, rfl⟩ : ∃ f, d = f + 1 := ⟨d - 1, by omega⟩
  have hstep : fol L B (f + 1) at_ l bs w = if folB B bs at_ then (l, bs, w, at_) else
    if (rCode (blkI L at_.toNat) != 0) || !mayR l w (rPar (blkI L at_.toNat)) then (l, bs, w, at_) else
      fol L B f (rPar (blkI L at_.toNat)).nx (l ++ [rPar (blkI L at_.toNat)]) (bs ++ [at_]) (if (rPar (blkI L at_.toNat)).ki == 0 then w + 1 else w) := by
    show (if at_ = 0 then _ else _) = _
    rw [if_neg ha0]
  rw [hstep] at hfo
  refine RunC.block ?_
  have slb := rb.sl (by omega)
  have sll := rl.sl (by omega)
  have sl1 := sl.fr0 fg
  -- the place
  refine RunC.seq (RunC.seq (RunC.region (RunO.part 2 rfl ?_)))
  refine RunO.part 1 rfl ?_
  rw [fw64 (x := (B : Int) - 1) (by omega) (by omega)]
  refine RunO.callD refIn10_ok rfl rfl rfl ?_
  rintro _ _ ⟨rfl, rfl⟩
  have hF : folB B bs at_ = (!inB at_ 2 ((B : Int) - 1) || bs.contains at_) := by
    unfold folB inB
    have e1 : decide (at_ < 2) = !decide (at_ ≥ 2) := by
      by_cases c : at_ < 2
      · rw [decide_eq_true c, decide_eq_false (by omega)]; rfl
      · rw [decide_eq_false c, decide_eq_true (by omega)]; rfl
    have e2 : decide (at_ ≥ (B : Int)) = !decide (at_ ≤ (B : Int) - 1) := by
      by_cases c : at_ ≥ (B : Int)
      · rw [decide_eq_true c, decide_eq_false (by omega)]; rfl
      · rw [decide_eq_false c, decide_eq_true (by omega)]; rfl
    rw [e1, e2]
    cases decide (at_ ≥ 2) <;> cases decide (at_ ≤ (B : Int) - 1) <;> rfl
  rw [hF] at hfo
  cases h2 : inB at_ 2 ((B : Int) - 1) with
  | false =>
    rw [h2, if_pos (by rfl)] at hfo
    refine RunO.all rfl (RunC.cond rfl (fun _ => ?_) (fun g => by cases g))
    exact RunC.seq (RunC.region (RunO.all rfl (RunC.ret ⟨_, rfl, fg, .inr ⟨by rw [hfo]; exact ha0, by rw [hfo]⟩⟩)))
  | true =>
  rw [h2] at hfo
  refine RunO.part 4 rfl ?_
  refine RunO.callDG rfl (refHas_ok slb (by omega)) rfl rfl rfl ?_
  rintro _ _ ⟨rfl, rfl⟩
  cases h4 : bs.contains at_ with
  | true =>
    rw [h4, if_pos (by rfl)] at hfo
    refine RunO.all rfl (RunC.cond rfl (fun _ => ?_) (fun g => by cases g))
    exact RunC.seq (RunC.region (RunO.all rfl (RunC.ret ⟨_, rfl, fg, .inr ⟨by rw [hfo]; exact ha0, by rw [hfo]⟩⟩)))
  | false =>
  rw [h4, if_neg (by simp)] at hfo
  refine RunO.all rfl (RunC.cond rfl (fun g => by cases g) (fun _ => RunC.skip ?_))
  obtain ⟨i1, i2⟩ := (inB_iff _ _ _).1 h2
  obtain ⟨an, han⟩ := Int.eq_ofNat_of_zero_le (show 0 ≤ at_ by omega)
  subst han
  rw [Int.toNat_natCast] at hfo
  have haL : (an + 1) * 64 ≤ L.length := by
    have : an + 1 ≤ B := by omega
    have := Nat.mul_le_mul_right 64 this
    omega
  -- the record
  refine RunC.seq (RunC.region (RunO.part 2 rfl ?_))
  refine RunO.callD (refBlock_ok sl1 haL hm) rfl rfl rfl ?_
  rintro b0 _ ⟨sb0, rfl⟩
  have hbl2 := blkI_len haL
  rw [← hbl2] at sb0
  have hparse := refParseRecord_ok sb0 (byt_blk hb an)
  rw [rCells_eq] at hparse
  have hok8 : rCode (blkI L an) = 0 → r8Ok (rPar (blkI L an)) = true := fun e => rPar_ok e
  refine RunO.callD hparse rfl rfl rfl ?_
  rintro _ g3 ⟨rfl, f3⟩
  generalize rPar (blkI L an) = r at *
  generalize rCode (blkI L an) = rcd at *
  refine RunO.part 4 (h1 := g3.push ⟨rc8 ⟨0, 0, 0, 0, 0, 0, 0, 0⟩, true⟩) rfl ?_
  refine RunO.store rfl rfl (store_ow (s := 8) (Ow.push g3 (rc8 ⟨0, 0, 0, 0, 0, 0, 0, 0⟩)) rfl rfl rfl (Nat.le_refl 8)) (RunO.all rfl ?_)
  have e8 : (rc8 ⟨0, 0, 0, 0, 0, 0, 0, 0⟩).take 0 ++ cellsOf (.agg ⟨rc8 r⟩) ++ (rc8 ⟨0, 0, 0, 0, 0, 0, 0, 0⟩).drop (0 + 8) = rc8 r := rfl
  rw [e8]
  have on : Ow ((g3.push ⟨rc8 ⟨0, 0, 0, 0, 0, 0, 0, 0⟩, true⟩).put g3.next (some ⟨rc8 r, true⟩)) g3.next (rc8 r) := Ow.put _ (Nat.lt_succ_self _)
  have f4 : Fr no g3 ((g3.push ⟨rc8 ⟨0, 0, 0, 0, 0, 0, 0, 0⟩, true⟩).put g3.next (some ⟨rc8 r, true⟩)) := (Fr.push _ _ _).trans (Fr.put (m := (· = g3.next)) _ (.inl rfl)) (fun j hj => .inr (by omega))
  have f34 := f3.same f4
  have hgn : h.next ≤ g3.next := Nat.le_trans fg.next f3.next
  have hlx : ∀ b, At lv b → b < g3.next := fun b g => by have := (rl.at g).2; have := f3.next; omega
  have hbx : ∀ b, At bv b → b < g3.next := fun b g => by have := (rb.at g).2; have := f3.next; omega
  replace rl := rl.fr0 f34
  replace rb := rb.fr0 f34
  replace fg := fg.same f34
  replace sll := sll.fr0 f34
  generalize (g3.push ⟨rc8 ⟨0, 0, 0, 0, 0, 0, 0, 0⟩, true⟩).put g3.next (some ⟨rc8 r, true⟩) = g4 at *
  obtain ⟨pb, hpb⟩ : ∃ q, q = g3.next := ⟨_, rfl⟩
  rw [← hpb] at on hlx hbx ⊢
  have hfn : h.next ≤ pb := by omega
  obtain ⟨lA, lc, rfl, _, _⟩ := sll.form
  obtain ⟨bA, bc, rfl, _, _⟩ := slb.form
  -- is it one
  refine RunC.seq (RunC.seq (RunC.region (RunO.part 3 rfl ?_)))
  by_cases hc0 : rcd = 0
  case neg =>
    rw [show (rcd != 0) = true from bne_iff_ne.2 hc0] at hfo ⊢
    rw [Bool.true_or, if_pos rfl] at hfo
    refine RunO.all rfl (RunC.cond rfl (fun _ => ?_) (fun g => by cases g))
    exact RunC.seq (RunC.region (RunO.all rfl (RunC.ret ⟨_, rfl, fg, .inr ⟨by rw [hfo]; exact ha0, by rw [hfo]⟩⟩)))
  subst hc0
  have hok8 := hok8 rfl
  rw [show ((0 : Int) != 0) = false from rfl, Bool.false_or] at hfo
  have hki : r.ki = 0 ∨ r.ki = 1 := by
    have h : recOk r.nx r.id r.pa r.ro r.sz r.ki r.fr r.di = true := hok8
    unfold recOk at h
    by_cases e0 : r.ki = 0
    · exact .inl e0
    · rw [if_neg e0] at h
      by_cases e1 : r.ki = 1
      · exact .inr e1
      · rw [if_neg e1] at h; cases h
  have hM : mayR l w r = if r.ki == 1 then ((l.length : Int) == 0) else (!(l.any fun x => x.id == r.id) && decide ((w : Int) < 60)) := rfl
  refine RunO.mono (Q := fun E' h' => g4 = h' ∧ Le ((upd (upd (upd (upd (upd (upd (upd (upd E0 0 (iv)) 8 (.int .i64 (B : Int))) 10 (.int .i64 (w : Int))) 4 (.slice lA l.length lc)) 5 (.slice bA bs.length bc)) 11 (.int .i64 (an : Int))) 12 (.pointer (some ⟨pb, 0, none⟩))) 52 (.bool (r.ki == 1 && decide ((l.length : Int) > 0))))) E') ?tst ?nx
  case tst =>
    refine RunO.part 1 rfl ?_
    refine RunO.loadG (v := .int .i64 r.ki) rfl rfl (on.ld rfl) rfl ?_
    refine RunO.part 1 rfl ?_
    cases (r.ki == 1) with
    | false => exact RunO.all rfl ⟨rfl, Le.cons rfl (Le.cons rfl (Le.cons rfl (Le.cons rfl (Le.cons rfl (Le.cons rfl (Le.cons rfl (Le.cons rfl (Le.nil _))))))))⟩
    | true =>
      refine RunO.part 4 rfl ?_
      exact RunO.all rfl ⟨rfl, Le.cons rfl (Le.cons rfl (Le.cons rfl (Le.cons rfl (Le.cons rfl (Le.cons rfl (Le.cons rfl (Le.cons rfl (Le.nil _))))))))⟩
  rintro E' _ ⟨rfl, hE⟩
  refine RunC.le hE ?_
  clear hE
  cases hT : (r.ki == 1 && decide ((l.length : Int) > 0)) with
  | true =>
    rw [Bool.and_eq_true] at hT
    have hmf : mayR l w r = false := by
      rw [hM, hT.1, if_pos rfl]
      exact beq_eq_false_iff_ne.2 (by have := of_decide_eq_true hT.2; omega)
    rw [hmf, if_pos (by rfl)] at hfo
    refine RunC.cond rfl (fun _ => ?_) (fun g => by cases g)
    exact RunC.seq (RunC.region (RunO.all rfl (RunC.ret ⟨_, rfl, fg, .inr ⟨by rw [hfo]; exact ha0, by rw [hfo]⟩⟩)))
  | false =>
  refine RunC.cond rfl (fun g => by cases g) (fun _ => RunC.skip ?_)
  have hl1 : r.ki = 1 → l = [] := fun e => by
    rw [beq_iff_eq.2 e, Bool.true_and] at hT
    have := of_decide_eq_false hT
    exact List.eq_nil_of_length_eq_zero (by omega)
  -- how many are whole
  obtain ⟨w2, hw2⟩ : ∃ w2, w2 = if r.ki == 0 then w + 1 else w := ⟨_, rfl⟩
  have hw2l : w2 ≤ w + 1 := by rw [hw2]; split <;> omega
  refine RunC.seqc (fun E' h' => g4 = h' ∧ Le ((upd (upd (upd (upd (upd (upd (upd E0 0 (iv)) 8 (.int .i64 (B : Int))) 10 (.int .i64 (w2 : Int))) 4 (.slice lA l.length lc)) 5 (.slice bA bs.length bc)) 11 (.int .i64 (an : Int))) 12 (.pointer (some ⟨pb, 0, none⟩)))) E') ?wh ?go
  case wh =>
    refine RunC.seq (RunC.region (RunO.part 1 rfl ?_))
    refine RunO.load (v := .int .i64 r.ki) rfl (on.ld rfl) rfl (RunO.all rfl ?_)
    cases hk : (r.ki == 0) with
    | true =>
      rw [hk, if_pos rfl] at hw2
      refine RunC.cond rfl (fun _ => ?_) (fun g => by cases g)
      refine RunC.region (RunO.part 2 rfl ?_)
      rw [fw64 (x := (w : Int) + 1) (by omega) (by omega), show (w : Int) + 1 = (w2 : Int) by omega]
      exact RunO.all rfl ⟨rfl, Le.cons rfl (Le.cons rfl (Le.cons rfl (Le.cons rfl (Le.cons rfl (Le.cons rfl (Le.cons rfl (Le.nil _)))))))⟩
    | false =>
      rw [hk, if_neg Bool.false_ne_true] at hw2
      subst hw2
      exact RunC.cond rfl (fun g => by cases g) (fun _ => RunC.skip ⟨rfl, Le.cons rfl (Le.cons rfl (Le.cons rfl (Le.cons rfl (Le.cons rfl (Le.cons rfl (Le.cons rfl (Le.nil _)))))))⟩)
  rintro E' _ ⟨rfl, hE⟩
  refine RunC.le hE ?_
  clear hE
  -- is its id new
  refine RunC.seq (RunC.seq (RunC.region (RunO.all rfl ?_)))
  refine RunC.block ?_
  refine RunC.loop (fun d E h' => ∃ i : Nat, i + d = l.length ∧ ((l.take i).any fun x => x.id == r.id) = false ∧ g4 = h' ∧ Le ((upd (upd (upd (upd (upd (upd (upd (upd E0 0 (iv)) 8 (.int .i64 (B : Int))) 10 (.int .i64 (w2 : Int))) 4 (.slice lA l.length lc)) 5 (.slice bA bs.length bc)) 11 (.int .i64 (an : Int))) 12 (.pointer (some ⟨pb, 0, none⟩))) 14 (.int .i64 (i : Int)))) E) ?st2 (k := l.length) ?ini2
  case ini2 => exact ⟨0, by omega, rfl, rfl, Le.cons rfl (Le.cons rfl (Le.cons rfl (Le.cons rfl (Le.cons rfl (Le.cons rfl (Le.cons rfl (Le.cons rfl (Le.nil _))))))))⟩
  rintro d2 E _ ⟨i, hi, hany, rfl, hE⟩
  refine RunC.le hE ?_
  clear hE
  refine RunC.seq (RunC.seq (RunC.region (RunO.all rfl ?_)))
  refine RunC.cond rfl (fun hlt => RunC.skip ?go2) (fun hge => RunC.exit ?ex2)
  case go2 =>
    have hlt := of_decide_eq_true hlt
    have hlt : i < l.length := by omega
    have hfld := recCs_fld (l := l) (i := i) (j := 1) hlt (by decide)
    have hfld : apart prog 3 (recCs l) (i * 8 + 1) = some (.int .i64 l[i].id) := hfld
    have hat : ((l.take (i + 1)).any fun x => x.id == r.id) = (l[i].id == r.id) := by
      rw [List.take_succ_eq_append_getElem hlt, List.any_append, hany]; simp
    have hmem := List.getElem_mem hlt
    refine RunC.seq (RunC.block ?_)
    refine RunC.seq (RunC.draw0 rfl (RunO.part 2 rfl ?_))
    refine RunO.fldG (k := i) (off := 1) rfl (fun _ => rfl) (fun _ _ => rfl) rfl rfl sll rfl rfl hlt (fun _ _ => rfl) hfld rfl rfl rfl rfl rfl ?_
    generalize l[i] = y at *
    refine RunO.part 1 rfl ?_
    refine RunO.loadG (v := .int .i64 r.id) rfl rfl (on.ld rfl) rfl ?_
    refine RunO.part 1 rfl ?_
    cases hb : (y.id == r.id) with
    | true =>
      have hmf : mayR l w r = false := by
        have h1 : (r.ki == 1) = false := beq_eq_false_iff_ne.2 (fun e => by rw [hl1 e] at hmem; cases hmem)
        have h2 : (l.any fun x => x.id == r.id) = true := List.any_eq_true.2 ⟨y, hmem, hb⟩
        rw [hM, h1, h2]; rfl
      rw [hmf, if_pos (by rfl)] at hfo
      refine RunO.all rfl (RunC.cond rfl (fun _ => ?_) (fun g => by cases g))
      exact RunC.seq (RunC.region (RunO.all rfl (RunC.ret ⟨_, rfl, fg, .inr ⟨by rw [hfo]; exact ha0, by rw [hfo]⟩⟩)))
    | false =>
      refine RunO.all rfl (RunC.cond rfl (fun g => by cases g) (fun _ => RunC.skip ?_))
      refine RunC.region (RunO.all rfl ?_)
      exact ⟨d2 - 1, by omega, i + 1, by omega, by rw [hat, hb], rfl, Le.cons (inc64 (by omega)) (Le.cons rfl (Le.cons rfl (Le.cons rfl (Le.cons rfl (Le.cons rfl (Le.cons rfl (Le.cons rfl (Le.nil _))))))))⟩
  have hge := of_decide_eq_false hge
  obtain rfl : i = l.length := by omega
  rw [List.take_length] at hany
  refine RunC.seq (RunC.seq (RunC.region (RunO.all rfl ?_)))
  by_cases hw60 : (w2 : Int) > 60
  · have hmf : mayR l w r = false := by
      have h1 : (r.ki == 1) = false := beq_eq_false_iff_ne.2 (fun e => by
        have := hw0 (hl1 e)
        rw [e] at hw2
        have hw2 : w2 = w := hw2
        omega)
      rw [hM, h1, hany, decide_eq_false (by omega)]; rfl
    rw [hmf, if_pos (by rfl)] at hfo
    rw [decide_eq_true hw60]
    refine RunC.cond rfl (fun _ => ?_) (fun g => by cases g)
    exact RunC.seq (RunC.region (RunO.all rfl (RunC.ret ⟨_, rfl, fg, .inr ⟨by rw [hfo]; exact ha0, by rw [hfo]⟩⟩)))
  rw [decide_eq_false hw60]
  refine RunC.cond rfl (fun g => by cases g) (fun _ => RunC.skip ?_)
  have hmt : mayR l w r = true := by
    rcases hki with e | e
    · rw [hM, e, hany, decide_eq_true]
      · rfl
      · rw [e] at hw2
        have hw2 : w2 = w + 1 := hw2
        omega
    · rw [hM, e, hl1 e]; rfl
  rw [hmt, if_neg (by decide), ← hw2] at hfo
  -- it is taken up
  refine RunC.seq (RunC.region (RunO.part 1 rfl ?_))
  refine RunO.load (v := .agg ⟨rc8 r⟩) rfl (on.ld rfl) rfl ?_
  refine RunO.part 1 (h1 := g4.push ⟨rc8 r, true⟩) rfl ?_
  have ot := Ow.push g4 (rc8 r)
  have f5 : Fr no g4 (g4.push ⟨rc8 r, true⟩) := Fr.push _ _ _
  have rl5 := rl.fr0 f5
  have rb5 := rb.fr0 f5
  have on5 := on.fr f5 (fun g => g)
  have fg5 := fg.same f5
  generalize g4.push ⟨rc8 r, true⟩ = g5 at *
  refine RunO.appendG (s := 8) (j := 1) rfl rfl rfl rfl rfl rfl rfl rfl (by decide) rl5 ot.all rfl (Nat.le_refl 1) rfl (by show 2 * (_ + 1) * 64 ≤ _; omega) (by omega) ?_
  intro lv2 g6 rl6 f6
  have hat5 : ∀ b, At (.slice lA l.length lc) b → h.next ≤ b ∧ b < pb := fun b g => ⟨(rl.at g).1, hlx b g⟩
  have hbt5 : ∀ b, At (.slice bA bs.length bc) b → h.next ≤ b ∧ b < pb := fun b g => ⟨(rb.at g).1, hbx b g⟩
  have rb6 := rb5.frm f6 (fun b g e => hx b e g)
  have on6 := on5.fr f6 (fun g => by have := (hat5 pb g).2; omega)
  have fg6 : Fr no h g6 := fg5.trans f6 (fun b g => .inr (hat5 b g).1)
  have hn6 := f6.next
  refine RunO.part 2 rfl ?_
  refine RunO.part 1 (h1 := g6.push ⟨is [(an : Int)], true⟩) rfl ?_
  have ot2 := Ow.push g6 (is [(an : Int)])
  have f7 : Fr no g6 (g6.push ⟨is [(an : Int)], true⟩) := Fr.push _ _ _
  have rl7 := rl6.fr f7 (fun _ _ _ g => g)
  have rb7 := rb6.fr0 f7
  have on7 := on6.fr f7 (fun g => g)
  have fg7 := fg6.same f7
  have hn7 := f7.next
  generalize g6.push ⟨is [(an : Int)], true⟩ = g7 at *
  refine RunO.appendG (s := 1) (j := 1) rfl rfl rfl rfl rfl rfl rfl rfl (by decide) rb7 ot2.all rfl (Nat.le_refl 1) rfl (by show 2 * (_ + 1) * 8 ≤ _; omega) (by omega) ?_
  intro bv2 g8 rb8 f8
  have hpg5 : pb < g5.next := on5.1
  have rl8 := rl7.frm f8 (fun b g e => by have := (rl6.at g).1; have := (hbt5 b e).2; omega)
  have on8 := on7.fr f8 (fun g => by have := (hbt5 pb g).2; omega)
  have fg8 : Fr no h g8 := fg7.trans f8 (fun b g => .inr (hbt5 b g).1)
  refine RunO.all rfl ?_
  refine RunC.region (RunO.part 1 rfl ?_)
  refine RunO.load (v := .int .i64 r.nx) rfl (on8.ld rfl) rfl (RunO.all rfl ?_)
  have hg5n := fg5.next
  refine ⟨f, by omega, r.nx, l ++ [r], bs ++ [(an : Int)], w2, lv2, bv2, ?_, ?_, nodup_snoc hnd ?_, ?_, ?_, fun e => ?_, hfo, fg8, ?_, ?_, ?_, Le.cons rfl (Le.cons rfl (Le.cons rfl (Le.cons rfl (Le.cons rfl (Le.cons rfl (Le.nil _))))))⟩
  · rw [List.length_append, List.length_singleton]; omega
  · rw [List.length_append, List.length_append, hll]; rfl
  · intro g
    rw [List.contains_iff_mem.2 g] at h4; cases h4
  · intro x g
    rcases List.mem_append.1 g with g | g
    · exact hbr x g
    · rw [List.mem_singleton.1 g]; omega
  · rw [List.length_append, List.length_singleton]; omega
  · exact absurd e (by simp)
  · have e1 : recCs l ++ rc8 r = recCs (l ++ [r]) := by rw [recCs_app]; show _ = _ ++ (rc8 r ++ []); rw [List.append_nil]
    rw [← e1, List.length_append]
    exact (Row.lo rl8 (by omega)).gr
  · have e1 : is bs ++ is [(an : Int)] = is (bs ++ [(an : Int)]) := (List.map_append ..).symm
    rw [← e1, List.length_append]
    exact (Row.lo rb8 (by omega)).gr
  · intro b g g2
    have := (rl6.at g).2
    have := (rb8.at g2).1
    omega
end Go.Proofs.Ytbinkbdfoalbcaa
end
section
set_option linter.unusedVariables false
set_option maxRecDepth 100000
open Go Go.Am Go.RowKit
namespace Go.Proofs.Ytbinkbdfoalbcaa
open Go.Proofs.Try
theorem reps_bs (n : Nat) : reps (cellsOf (Value.bool false)) n = bs (List.replicate n false) := by
  rw [show cellsOf (Value.bool false) = [.bool false] from rfl, reps_one]; unfold bs; rw [List.map_replicate]
theorem reps_is0 (n : Nat) : reps (cellsOf (Value.int .i64 0)) n = is (List.replicate n 0) := by
  rw [show cellsOf (Value.int .i64 0) = [.int .i64 0] from rfl, reps_one]; unfold is; rw [List.map_replicate]
theorem getD_rep {α : Type} (x d : α) (n i : Nat) (h : x = d) : (List.replicate n x).getD i d = d := by
  rw [List.getD_eq_getElem?_getD, List.getElem?_replicate]; split
  · exact h
  · rfl
def rz : List Value := [.slice none 0 0, .int .i64 0, .slice none 0 0, .slice none 0 0, .slice none 0 0, .slice none 0 0, .bool false]
/-- No block is a node's and a sector's. -/
def apartB (sn dt : List Bool) (i : Nat) : Bool := !sn.getD i false || !dt.getD i false
theorem treeApart {L : List Int} {B : Nat} {root : Int} {m ns : List Int} {sn dt : List Bool} (S : TSpec L B 2 root 0 (List.replicate 512 0, [], false) (m, ns, false)) (c : Cpl B m ns sn dt) : (!false && !(m.any fun b => ns.contains b)) = (true && (List.range B).all (apartB sn dt)) := by
  rw [Bool.not_false, Bool.true_and, Bool.true_and, Bool.eq_iff_iff, Bool.not_eq_true', List.any_eq_false, List.all_eq_true]
  have hns : ∀ x, x ∈ ns → 2 ≤ x ∧ x < B := fun x hx => by
    rcases S.all x hx with g | ⟨k, _, g⟩
    · cases g
    · exact atIs_ne g
  constructor
  · intro H i hi
    rw [List.mem_range] at hi
    unfold apartB
    rw [c.1 i hi]
    cases hc : ns.contains (i : Int) with
    | false => rfl
    | true =>
      have hin : (i : Int) ∈ ns := by simpa using hc
      rw [c.2 i (by have := hns _ hin; omega) hi]
      cases hd : m.contains (i : Int) with
      | false => rfl
      | true =>
        have him : (i : Int) ∈ m := by simpa using hd
        exact absurd hc (H _ him)
  · intro H x hx hc
    have hin : x ∈ ns := by simpa using hc
    have hb := hns x hin
    obtain ⟨i, rfl⟩ := Int.eq_ofNat_of_zero_le (show 0 ≤ x by omega)
    have := H i (List.mem_range.2 (by omega))
    unfold apartB at this
    rw [c.1 i (by omega), c.2 i (by omega) (by omega), hc, show m.contains (i : Int) = true by simpa using hx] at this
    cases this
set_option maxHeartbeats 8000000 in
theorem refTree_ok {h : Heap} {iv : Value} {L : List Int} {root : Int} (sl : Sl h iv 1 L.length (us L)) (hb : Byt L) (hd : devOk L.length = true) :
    RunF prog 55 [iv, .int .i64 root] h fun v h' => Fr no h h' ∧ ((treeOk L root = true ∧ ∃ mb nv, h.next ≤ mb ∧ v = .tuple #[.slice (some ⟨mb, 0, none⟩) 512 (exc 512), nv, .bool true] ∧ Ow h' mb (is (treeM L root)) ∧ Row h.next h' nv 1 (treeN L root).length (is (treeN L root))) ∨ (treeOk L root = false ∧ v = .tuple #[.slice none 0 0, .slice none 0 0, .bool false])) := by
  have hdl : L.length % 64 = 0 ∧ 4 ≤ L.length / 64 ∧ L.length / 64 ≤ 4096 := by
    unfold devOk at hd
    simpa using hd
  have hm : L.length ≤ 4611686018427387904 := by omega
  refine RunF.walk func55 rfl rfl ?_
  have sl0 := sl
  obtain ⟨A, c, rfl, hc, hA⟩ := sl.form
  have hAlt : ∀ b o c', Value.slice A L.length c = .slice (some ⟨b, o, none⟩) L.length c' → b < h.next := fun b o c' e => by
    obtain ⟨b', o', rfl, rd⟩ := hA (by omega)
    cases e; exact rd.2.1
  refine RunC.seq (RunC.region (RunO.all rfl ?_))
  refine RunC.seq (RunC.region (RunO.part 1 rfl ?_))
  refine RunO.callD (refBlocks_ok sl hm) rfl rfl rfl ?_
  rintro _ _ ⟨rfl, rfl⟩
  refine RunO.all rfl ?_
  have hTW : ∀ x, treeW L x = tgo L (L.length / 64) 2 x 0 (List.replicate 512 0, [], false) := fun x => rfl
  obtain ⟨B, hBe⟩ : ∃ B, B = L.length / 64 := ⟨_, rfl⟩
  rw [← hBe] at hdl hTW ⊢
  refine RunC.seq (RunC.draw0 rfl ?_)
  refine RunO.part 3 rfl ?_
  refine RunO.make (m := B) rfl rfl rfl rfl rfl rfl (show 1 * B ≤ _ by omega) (by omega) rfl ?_
  rw [reps_bs]
  have os := Ow.push h (bs (List.replicate B false))
  have f1 : Fr no h (h.push ⟨bs (List.replicate B false), true⟩) := Fr.push _ _ _
  have hn1 : (h.push ⟨bs (List.replicate B false), true⟩).next = h.next + 1 := rfl
  generalize h.push ⟨bs (List.replicate B false), true⟩ = h1 at *
  generalize hsb : h.next = sb at os hn1 ⊢
  refine RunO.part 1 rfl ?_
  refine RunO.make (m := B) rfl rfl rfl rfl rfl rfl (show 1 * B ≤ _ by omega) (by omega) rfl ?_
  rw [reps_bs]
  have od := Ow.push h1 (bs (List.replicate B false))
  have f2 : Fr no h1 (h1.push ⟨bs (List.replicate B false), true⟩) := Fr.push _ _ _
  have hn2 : (h1.push ⟨bs (List.replicate B false), true⟩).next = h1.next + 1 := rfl
  replace os := os.fr f2 (fun g => g)
  generalize h1.push ⟨bs (List.replicate B false), true⟩ = h2 at *
  generalize hdb : h1.next = db at od hn2 ⊢
  refine RunO.make (m := 512) rfl rfl rfl rfl rfl rfl (Nat.le_of_ble_eq_true rfl) (by decide) rfl ?_
  rw [reps_is0]
  have om := Ow.push h2 (is (List.replicate 512 0))
  have f3 : Fr no h2 (h2.push ⟨is (List.replicate 512 0), true⟩) := Fr.push _ _ _
  have hn3 : (h2.push ⟨is (List.replicate 512 0), true⟩).next = h2.next + 1 := rfl
  replace os := os.fr f3 (fun g => g)
  replace od := od.fr f3 (fun g => g)
  generalize h2.push ⟨is (List.replicate 512 0), true⟩ = h3 at *
  generalize hmb : h2.next = mb at om hn3 ⊢
  refine RunO.part 2 (h1 := h3.push ⟨rz, true⟩) rfl ?_
  obtain ⟨iv, hive⟩ : ∃ iv, iv = Value.slice A L.length c := ⟨_, rfl⟩
  rw [← hive] at sl0 hAlt ⊢
  have hcl : (cellsOf (.agg ⟨rwc iv B sb db mb (.slice none 0 0) true⟩)).length = 7 := rfl
  have hac : allCells (cellsOf (.agg ⟨rwc iv B sb db mb (.slice none 0 0) true⟩)) = true := by
    rw [hive]; rfl
  refine RunO.store rfl rfl (store_ow (s := 7) (v := .agg ⟨rwc iv B sb db mb (.slice none 0 0) true⟩) (Ow.push h3 rz) rfl hcl hac (Nat.le_refl 7)) (RunO.nil ?_)
  change RunC _ _ _ _ ((h3.push ⟨rz, true⟩).put h3.next (some ⟨rwc iv B sb db mb (.slice none 0 0) true, true⟩)) _ _ _
  have ow : Ow ((h3.push ⟨rz, true⟩).put h3.next (some ⟨rwc iv B sb db mb (.slice none 0 0) true, true⟩)) h3.next (rwc iv B sb db mb (.slice none 0 0) true) := Ow.put _ (Nat.lt_succ_self _)
  have f4 : Fr no h3 ((h3.push ⟨rz, true⟩).put h3.next (some ⟨rwc iv B sb db mb (.slice none 0 0) true, true⟩)) := (Fr.push _ _ _).trans (Fr.put (m := (· = h3.next)) _ (.inl rfl)) (fun j hj => .inr (by omega))
  have hn4 : ((h3.push ⟨rz, true⟩).put h3.next (some ⟨rwc iv B sb db mb (.slice none 0 0) true, true⟩)).next = h3.next + 1 := rfl
  replace os := os.fr f4 (fun g => g)
  replace od := od.fr f4 (fun g => g)
  replace om := om.fr f4 (fun g => g)
  have f14 := ((f1.same f2).same f3).same f4
  generalize (h3.push ⟨rz, true⟩).put h3.next (some ⟨rwc iv B sb db mb (.slice none 0 0) true, true⟩) = h4 at *
  generalize h3.next = wb at *
  have rb : RB h4.next wb sb db mb := ⟨by omega, by omega, by omega, by omega, by omega, by omega, by omega, by omega, by omega, by omega⟩
  have t4 : RW h4.next h4 iv B wb sb db mb (.slice none 0 0) (List.replicate 512 0) [] (List.replicate B false) (List.replicate B false) true := ⟨ow, os, od, om, Row.nil _ _ _, List.length_replicate, List.length_replicate, List.length_replicate, Nat.le_refl _⟩
  have hiv : ∀ b o c, iv = .slice (some ⟨b, o, none⟩) L.length c → ¬ RM h4.next wb sb db mb b := fun b o c e => by
    have := hAlt b o c e
    rintro (e | e | e | e | e) <;> omega
  have hcp : Cpl B (List.replicate 512 0) [] (List.replicate B false) (List.replicate B false) := by
    refine ⟨fun i hi => getD_rep _ _ _ _ rfl, fun i h0 hi => ?_⟩
    rw [getD_rep _ _ _ _ rfl, eq_comm, ← Bool.not_eq_true]
    simp only [List.contains_eq_mem, decide_eq_true_eq, List.mem_replicate]
    omega
  have sl4 := sl0.fr0 f14
  refine RunC.seq (RunC.seq (RunC.region (RunO.all rfl ?_)))
  by_cases hr : root = 0
  · have h1 : treeOk L root = true := by unfold treeOk; rw [hr]; rfl
    have h2 : treeM L root = List.replicate 512 0 := by unfold treeM; rw [hr]; rfl
    have h3' : treeN L root = [] := by unfold treeN; rw [hr]; rfl
    rw [h1, h2, h3']
    subst hr
    refine RunC.cond rfl (fun _ => ?_) (fun g => by cases g)
    refine RunC.seq (RunC.region (RunO.part 1 rfl ?_))
    refine RunO.load (v := .slice (some ⟨mb, 0, none⟩) 512 (exc 512)) rfl (ow.ld rfl) rfl (RunO.all rfl ?_)
    exact RunC.ret ⟨_, rfl, f14, .inl ⟨rfl, mb, _, by omega, rfl, om, Row.nil _ _ _⟩⟩
  rw [show (root == 0) = false from beq_eq_false_iff_ne.2 hr]
  refine RunC.cond rfl (fun g => by cases g) (fun _ => RunC.skip ?_)
  have hTok : treeOk L root = (!(treeW L root).2.2 && !((treeW L root).1.any fun b => (treeW L root).2.1.contains b)) := by unfold treeOk; rw [show (root == 0) = false from beq_eq_false_iff_ne.2 hr]; rfl
  have hTm : treeM L root = (treeW L root).1 := by unfold treeM; rw [show (root == 0) = false from beq_eq_false_iff_ne.2 hr]; rfl
  have hTn : treeN L root = (treeW L root).2.1 := by unfold treeN; rw [show (root == 0) = false from beq_eq_false_iff_ne.2 hr]; rfl
  rw [hTok, hTm, hTn, hTW]
  have hspec := tgo_spec L B 2 root 0 (List.replicate 512 0, [], false) (by decide) List.length_replicate rfl (fun s _ _ => getD_rep _ _ _ _ rfl)
  refine RunC.seq (RunC.region (RunO.part 1 rfl ?_))
  refine RunO.callD (rnode_ok hb (by omega) (by omega) hdl.2.2 hm rb hiv 2 (by decide) (at_ := root) (from_ := 0) sl4 t4 hcp (by decide) (by decide) (fun s _ _ => getD_rep _ _ _ _ rfl)) rfl rfl rfl ?_
  rintro _ h5 ⟨rfl, f5, nv, m, ns, sn, dt, ok, t5, hr5, hl5, hok, hal⟩
  refine RunO.nil ?_
  have F5 : Fr no h h5 := f14.trans f5 (fun b g => .inr (by
    rcases g with e | e | e | e | ⟨n, c, e⟩
    · omega
    · omega
    · omega
    · omega
    · cases e))
  have hw : wb < h5.next := t5.ow.1
  -- what is to be found
  have goal : (!(tgo L B 2 root 0 (List.replicate 512 0, [], false)).2.2 && !((tgo L B 2 root 0 (List.replicate 512 0, [], false)).1.any fun b => (tgo L B 2 root 0 (List.replicate 512 0, [], false)).2.1.contains b)) = (ok && (List.range B).all (apartB sn dt)) := by
    rw [← hok]
    cases hk : ok with
    | false => rfl
    | true =>
      obtain ⟨g1, g2⟩ := hal hk
      have S := hspec (by rw [hk] at hok; cases e : (tgo L B 2 root 0 (List.replicate 512 0, [], false)).2.2 with
        | false => rfl
        | true => rw [e] at hok; cases hok)
      rw [g1] at S ⊢
      exact treeApart S g2
  rw [goal]
  have hmn : ok = true → (tgo L B 2 root 0 (List.replicate 512 0, [], false)).1 = m ∧ (tgo L B 2 root 0 (List.replicate 512 0, [], false)).2.1 = ns := fun hk => by rw [(hal hk).1]; exact ⟨rfl, rfl⟩
  generalize tgo L B 2 root 0 (List.replicate 512 0, [], false) = TT at *
  refine RunC.seqc (fun E' h' => ∃ ok', RW h4.next h' iv B wb sb db mb nv m ns sn dt ok' ∧ ok' = (ok && (List.range B).all (apartB sn dt)) ∧ Fr (· = wb) h5 h' ∧ Le (upd (upd E0 7 (.int .i64 (B : Int))) 9 (.pointer (some ⟨wb, 0, none⟩))) E') ?_ ?_
  · refine RunC.seq (RunC.region (RunO.all rfl ?_))
    refine RunC.block ?_
    let I : Nat → Env → Heap → Prop := fun d E h' => ∃ (i : Nat) (ok' : Bool), i + d = B ∧ RW h4.next h' iv B wb sb db mb nv m ns sn dt ok' ∧ ok' = (ok && (List.range i).all (apartB sn dt)) ∧ Fr (· = wb) h5 h' ∧ Le (upd (upd (upd E0 7 (.int .i64 (B : Int))) 9 (.pointer (some ⟨wb, 0, none⟩))) 10 (.int .i64 (i : Int))) E
    refine RunC.loop I ?_ (k := B) ?_
    · rintro d E h6 ⟨i, ok', hi, t6, ho, F6, hE⟩
      refine RunC.le hE ?_
      clear hE
      have ow6 := t6.ow
      refine RunC.seq (RunC.seq (RunC.region (RunO.part 4 rfl ?_)))
      by_cases hlt : i < B
      case neg =>
        rw [show decide ((i : Int) < (B : Int)) = false from decide_eq_false (by omega)]
        refine RunO.all rfl ?_
        obtain rfl : i = B := by omega
        exact RunC.cond rfl (fun g => by cases g) (fun _ => RunC.exit ⟨ok', t6, ho, F6, Le.cons rfl (Le.cons rfl (Le.nil _))⟩)
      rw [show decide ((i : Int) < (B : Int)) = true from decide_eq_true (by omega)]
      refine RunO.part 1 rfl ?_
      refine RunO.loadG (v := .bool ok') rfl rfl (ow6.ld rfl) rfl (RunO.all rfl ?_)
      cases hk : ok' with
      | false =>
        refine RunC.cond rfl (fun g => by cases g) (fun _ => RunC.exit ⟨false, hk ▸ t6, ?_, F6, Le.cons rfl (Le.cons rfl (Le.nil _))⟩)
        rw [hk] at ho
        cases ok with
        | false => rfl
        | true =>
          rw [Bool.true_and] at ho ⊢
          have := List.all_eq_false.1 ho.symm
          obtain ⟨x, hx, hx2⟩ := this
          exact (List.all_eq_false.2 ⟨x, List.mem_range.2 (by have := List.mem_range.1 hx; omega), hx2⟩).symm
      | true =>
        rw [hk] at t6 ho
        refine RunC.cond rfl (fun _ => RunC.skip ?_) (fun g => by cases g)
        have hs : i < sn.length := by rw [t6.ls]; exact hlt
        have hdl' : i < dt.length := by rw [t6.ld]; exact hlt
        have sls : Sl h6 (.slice (some ⟨sb, 0, none⟩) B (exc B)) 1 B (bs sn) := t6.os.all.sl (by rw [bs_len, t6.ls, Nat.mul_one]) (by omega) (Cp.exc (Nat.le_refl _))
        have sld : Sl h6 (.slice (some ⟨db, 0, none⟩) B (exc B)) 1 B (bs dt) := t6.od.all.sl (by rw [bs_len, t6.ld, Nat.mul_one]) (by omega) (Cp.exc (Nat.le_refl _))
        have hap : apartB sn dt i = (!sn[i] || !dt[i]) := by
          unfold apartB
          rw [List.getD_eq_getElem?_getD, List.getElem?_eq_getElem hs, List.getD_eq_getElem?_getD, List.getElem?_eq_getElem hdl']; rfl
        have ho2 : (!sn[i] || !dt[i]) = (ok && (List.range (i + 1)).all (apartB sn dt)) := by
          rw [List.range_succ, List.all_append, ← Bool.and_assoc, ← ho, Bool.true_and]
          show _ = (apartB sn dt i && true)
          rw [Bool.and_true, hap]
        obtain ⟨e1, e2, e3⟩ := t6.fail rb (!sn[i] || !dt[i])
        have f7 : Fr (· = wb) h5 (h6.put wb (some ⟨rwc iv B sb db mb nv (!sn[i] || !dt[i]), true⟩)) := F6.same (Fr.put _ (.inl rfl))
        have hI : ∀ E, Le (upd (upd (upd E0 7 (.int .i64 (B : Int))) 9 (.pointer (some ⟨wb, 0, none⟩))) 10 (.int .i64 ((i + 1 : Nat) : Int))) E → ∃ d', d' < d ∧ I d' E (h6.put wb (some ⟨rwc iv B sb db mb nv (!sn[i] || !dt[i]), true⟩)) :=
          fun E hE => ⟨d - 1, by omega, i + 1, _, by omega, e2, ho2, f7, hE⟩
        have hbs := bs_part hs
        have hbd := bs_part hdl'
        clear ho2 hap e2 e3
        refine RunC.seq (RunC.block ?_)
        refine RunC.region (RunO.part 1 rfl ?_)
        refine RunO.load (v := .slice (some ⟨sb, 0, none⟩) B (exc B)) rfl (ow6.ld rfl) rfl ?_
        refine RunO.part 1 rfl ?_
        refine RunO.at (s := 1) (k := i) (u := .bool sn[i]) rfl rfl sls rfl rfl hlt hbs rfl rfl rfl ?_
        refine RunO.part 2 rfl ?_
        generalize sn[i] = x at *
        generalize dt[i] = y at *
        cases x with
        | false =>
          refine RunO.part 7 rfl ?_
          refine RunO.part 1 rfl ?_
          refine RunO.store rfl rfl e1 (RunO.nil ?_)
          exact RunC.region (RunO.all rfl (hI _ (Le.cons (inc64 (by omega)) (Le.cons rfl (Le.cons rfl (Le.nil _))))))
        | true =>
          refine RunO.part 1 rfl ?_
          refine RunO.loadG (v := .slice (some ⟨db, 0, none⟩) B (exc B)) rfl rfl (ow6.ld rfl) rfl ?_
          refine RunO.part 1 rfl ?_
          refine RunO.atG (s := 1) (k := i) (u := .bool y) rfl (fun _ => rfl) rfl rfl sld rfl rfl hlt hbd rfl rfl rfl ?_
          refine RunO.part 3 rfl ?_
          refine RunO.store rfl rfl e1 (RunO.nil ?_)
          exact RunC.region (RunO.all rfl (hI _ (Le.cons (inc64 (by omega)) (Le.cons rfl (Le.cons rfl (Le.nil _))))))
    · exact ⟨0, ok, by omega, t5, by simp, Fr.refl _ _, Le.cons rfl (Le.cons rfl (Le.cons rfl (Le.nil _)))⟩
  rintro E' h6 ⟨ok', t6, ho, F6, hE⟩
  refine RunC.le hE ?_
  clear hE
  have ow6 := t6.ow
  rw [← ho]
  have F06 : Fr no h h6 := F5.trans F6 (fun b e => .inr (by omega))
  refine RunC.seq (RunC.seq (RunC.region (RunO.part 1 rfl ?_)))
  refine RunO.load (v := .bool ok') rfl (ow6.ld rfl) rfl (RunO.all rfl ?_)
  cases hk : ok' with
  | false =>
    refine RunC.cond rfl (fun _ => ?_) (fun g => by cases g)
    exact RunC.seq (RunC.region (RunO.all rfl (RunC.ret ⟨_, rfl, F06, .inr ⟨rfl, rfl⟩⟩)))
  | true =>
    refine RunC.cond rfl (fun g => by cases g) (fun _ => RunC.skip ?_)
    have hkk : ok = true := by
      rw [hk] at ho
      cases ok with
      | true => rfl
      | false => cases ho
    obtain ⟨g1, g2⟩ := hmn hkk
    rw [g1, g2]
    refine RunC.seq (RunC.draw0 rfl ?_)
    refine RunO.part 1 rfl ?_
    refine RunO.load (v := .slice (some ⟨mb, 0, none⟩) 512 (exc 512)) rfl (ow6.ld rfl) rfl ?_
    refine RunO.part 1 rfl ?_
    refine RunO.load (v := nv) rfl (ow6.ld rfl) rfl (RunO.all rfl ?_)
    exact RunC.ret ⟨_, rfl, F06, .inl ⟨rfl, mb, nv, by omega, rfl, t6.om, Row.lo t6.row (by omega)⟩⟩
end Go.Proofs.Ytbinkbdfoalbcaa
end
section
set_option linter.unusedVariables false
set_option linter.unusedSectionVars false
set_option maxRecDepth 100000
open Go Go.Am Go.RowKit
namespace Go.Proofs.Ytbinkbdfoalbcaa
open Go.Proofs.Try
/-- The cells of the page's image. -/
def imx (s : S5) (slot : Int) (rv bv mv nv : Value) : List Value := sc5 s ++ [.int .i64 slot, rv, bv, mv, nv]
/-- Rows of numbers, by the cells that hold them. -/
def JEl (N : Nat → Prop) (h : Heap) (cs : List Value) (rows : List (List Int)) : Prop :=
  cs.length = rows.length ∧ ∀ (j : Nat) (x : List Int), rows[j]? = some x → ∃ w, cs[j]? = some w ∧ Sl h w 1 x.length (is x) ∧ ∀ b o c, w = .slice (some ⟨b, o, none⟩) x.length c → N b
theorem JEl.frm {N M : Nat → Prop} {h h' : Heap} {cs : List Value} {rows : List (List Int)} (r : JEl N h cs rows) (f : Fr M h h') (hn : ∀ b, N b → ¬ M b) : JEl N h' cs rows := by
  refine ⟨r.1, fun j x hx => ?_⟩
  obtain ⟨w, e, sw, hw⟩ := r.2 j x hx
  exact ⟨w, e, sw.frm (fun b o c e => hn b (hw b o c e)) f, hw⟩
theorem JEl.fr0 {N : Nat → Prop} {h h' : Heap} {cs : List Value} {rows : List (List Int)} (r : JEl N h cs rows) (f : Fr no h h') : JEl N h' cs rows := r.frm f (fun _ _ g => g)
theorem JEl.weak {N M : Nat → Prop} {h : Heap} {cs : List Value} {rows : List (List Int)} (r : JEl N h cs rows) (hn : ∀ b, b < h.next → N b → M b) : JEl M h cs rows := by
  refine ⟨r.1, fun j x hx => ?_⟩
  obtain ⟨w, e, sw, hw⟩ := r.2 j x hx
  exact ⟨w, e, sw, fun b o c e => hn b (sw.lt b o c e) (hw b o c e)⟩
theorem JEl.nil (N : Nat → Prop) (h : Heap) : JEl N h [] [] := ⟨rfl, fun j x hx => by cases hx⟩
theorem JEl.snoc {N : Nat → Prop} {h : Heap} {cs : List Value} {rows : List (List Int)} {w : Value} {x : List Int} (r : JEl N h cs rows) (sw : Sl h w 1 x.length (is x)) (hw : ∀ b o c, w = .slice (some ⟨b, o, none⟩) x.length c → N b) : JEl N h (cs ++ [w]) (rows ++ [x]) := by
  refine ⟨by rw [List.length_append, List.length_append, r.1]; rfl, fun j y hy => ?_⟩
  by_cases hj : j < rows.length
  · rw [List.getElem?_append_left hj] at hy
    obtain ⟨u, e, su⟩ := r.2 j y hy
    exact ⟨u, by rw [List.getElem?_append_left (by rw [r.1]; exact hj)]; exact e, su⟩
  · have hj2 : j = rows.length := by
      have := (List.getElem?_eq_some_iff.1 hy).1
      rw [List.length_append, List.length_singleton] at this
      omega
    subst hj2
    rw [List.getElem?_append_right (Nat.le_refl _), Nat.sub_self] at hy
    have hy : some x = some y := hy
    cases hy
    exact ⟨w, by rw [List.getElem?_append_right (by rw [r.1]; exact Nat.le_refl _), r.1, Nat.sub_self]; rfl, sw, hw⟩
def isF (bl NS SS : List Int) (j : Nat) : Int := (if NS.contains (j : Int) then 1 else 0) + (if bl.contains (j : Int) then 2 else 0) + (if SS.contains (j : Int) then 4 else 0)
def isA (B : Nat) (bl NS SS : List Int) : List Int := (List.range B).map (isF bl NS SS)
def cfP (bl NS SS : List Int) (j : Nat) : Bool := (SS.contains (j : Int) && (NS.contains (j : Int) || bl.contains (j : Int))) || (NS.contains (j : Int) && bl.contains (j : Int))
structure BadI (B : Nat) (bl NS SS : List Int) (bad : Nat) : Prop where
  le : bad ≤ B
  lo : ∀ j, j < B → cfP bl NS SS j = true → bad ≤ j
  is : bad < B → cfP bl NS SS bad = true
theorem isA_len (B : Nat) (bl NS SS : List Int) : (isA B bl NS SS).length = B := by unfold isA; rw [List.length_map, List.length_range]
theorem isA_get {B : Nat} {bl NS SS : List Int} {a : Nat} (h : a < B) : (isA B bl NS SS)[a]? = some (isF bl NS SS a) := by unfold isA; rw [List.getElem?_map, List.getElem?_range h]; rfl
theorem cont_snoc (l : List Int) (a b : Int) : (l ++ [a]).contains b = (l.contains b || b == a) := by
  rw [List.contains_eq_any_beq, List.contains_eq_any_beq, List.any_append]; simp
theorem isA_set {B : Nat} {bl NS SS NS' SS' bl' : List Int} {a : Nat} (h : a < B) (hj : ∀ j, j ≠ a → isF bl' NS' SS' j = isF bl NS SS j) : (isA B bl NS SS).set a (isF bl' NS' SS' a) = isA B bl' NS' SS' := by
  apply List.ext_getElem?
  intro j
  rw [List.getElem?_set]
  split
  · rename_i e
    subst e
    rw [if_pos (by rw [isA_len]; exact h), isA_get h]
  · rename_i e
    by_cases hB : j < B
    · rw [isA_get hB, isA_get hB, hj j (fun g => e g.symm)]
    · rw [List.getElem?_eq_none (by rw [isA_len]; omega), List.getElem?_eq_none (by rw [isA_len]; omega)]
theorem isA_same {B : Nat} {bl NS SS NS' SS' : List Int} (hj : ∀ j, isF bl NS' SS' j = isF bl NS SS j) : isA B bl NS SS = isA B bl NS' SS' := by
  unfold isA
  exact List.map_congr_left (fun j _ => (hj j).symm)
theorem isF_node {bl NS SS : List Int} {a j : Nat} (h : j ≠ a) : isF bl (NS ++ [(a : Int)]) SS j = isF bl NS SS j := by
  unfold isF
  rw [cont_snoc, show ((j : Int) == (a : Int)) = false from beq_eq_false_iff_ne.2 (by omega), Bool.or_false]
theorem isF_sec {bl NS SS : List Int} {a j : Nat} (h : j ≠ a) : isF bl NS (SS ++ [(a : Int)]) j = isF bl NS SS j := by
  unfold isF
  rw [cont_snoc, show ((j : Int) == (a : Int)) = false from beq_eq_false_iff_ne.2 (by omega), Bool.or_false]
theorem cfP_node {bl NS SS : List Int} {a j : Nat} (h : j ≠ a) : cfP bl (NS ++ [(a : Int)]) SS j = cfP bl NS SS j := by
  unfold cfP
  rw [cont_snoc, show ((j : Int) == (a : Int)) = false from beq_eq_false_iff_ne.2 (by omega), Bool.or_false]
theorem cfP_sec {bl NS SS : List Int} {a j : Nat} (h : j ≠ a) : cfP bl NS (SS ++ [(a : Int)]) j = cfP bl NS SS j := by
  unfold cfP
  rw [cont_snoc, show ((j : Int) == (a : Int)) = false from beq_eq_false_iff_ne.2 (by omega), Bool.or_false]
theorem cfP_nodeA (bl NS SS : List Int) (a : Nat) : cfP bl (NS ++ [(a : Int)]) SS a = (SS.contains (a : Int) || bl.contains (a : Int)) := by
  unfold cfP
  rw [cont_snoc, beq_self_eq_true, Bool.or_true]
  cases SS.contains (a : Int) <;> cases bl.contains (a : Int) <;> rfl
theorem cfP_secA (bl NS SS : List Int) (a : Nat) : cfP bl NS (SS ++ [(a : Int)]) a = (NS.contains (a : Int) || bl.contains (a : Int)) := by
  unfold cfP
  rw [cont_snoc, beq_self_eq_true, Bool.or_true]
  cases NS.contains (a : Int) <;> cases bl.contains (a : Int) <;> rfl
theorem BadI.step {B : Nat} {bl NS SS NS' SS' : List Int} {bad a : Nat} {t : Bool} (b : BadI B bl NS SS bad) (ha : a < B) (hj : ∀ j, j ≠ a → cfP bl NS' SS' j = cfP bl NS SS j) (ht : cfP bl NS' SS' a = t) (hm : cfP bl NS SS a = true → t = true) : BadI B bl NS' SS' (if t then min bad a else bad) := by
  have h1 := b.le
  refine ⟨by split <;> omega, fun j hjB hc => ?_, fun hlt => ?_⟩
  · by_cases e : j = a
    · subst e
      rw [ht] at hc
      rw [if_pos hc]; omega
    · rw [hj j e] at hc
      have := b.lo j hjB hc
      split <;> omega
  · cases t with
    | true =>
      rw [if_pos rfl] at hlt ⊢
      by_cases e : min bad a = a
      · rw [e]; exact ht
      · have e2 : min bad a = bad := by omega
        rw [e2] at hlt ⊢
        rw [hj bad (by omega)]
        exact b.is hlt
    | false =>
      rw [if_neg Bool.false_ne_true] at hlt ⊢
      by_cases e : bad = a
      · subst e
        have := hm (b.is hlt)
        cases this
      · rw [hj bad e]
        exact b.is hlt
theorem cfP_mono_node {bl NS SS : List Int} {a : Nat} (h : cfP bl NS SS a = true) : (SS.contains (a : Int) || bl.contains (a : Int)) = true := by
  unfold cfP at h
  revert h
  cases SS.contains (a : Int) <;> cases bl.contains (a : Int) <;> cases NS.contains (a : Int) <;> simp
theorem cfP_mono_sec {bl NS SS : List Int} {a : Nat} (h : cfP bl NS SS a = true) : (NS.contains (a : Int) || bl.contains (a : Int)) = true := by
  unfold cfP at h
  revert h
  cases SS.contains (a : Int) <;> cases bl.contains (a : Int) <;> cases NS.contains (a : Int) <;> simp
/- What the page's tests say. -/
theorem isF_t1 (bl NS SS : List Int) (a : Nat) : (((isF bl NS SS a).tdiv 2).tmod 2 == 1) = bl.contains (a : Int) := by
  unfold isF
  cases NS.contains (a : Int) <;> cases bl.contains (a : Int) <;> cases SS.contains (a : Int) <;> rfl
theorem isF_t2 (bl NS SS : List Int) (a : Nat) : ((isF bl NS SS a).tdiv 4 == 1) = SS.contains (a : Int) := by
  unfold isF
  cases NS.contains (a : Int) <;> cases bl.contains (a : Int) <;> cases SS.contains (a : Int) <;> rfl
theorem isF_t3 (bl NS SS : List Int) (a : Nat) : ((isF bl NS SS a).tmod 2 == 0) = !NS.contains (a : Int) := by
  unfold isF
  cases NS.contains (a : Int) <;> cases bl.contains (a : Int) <;> cases SS.contains (a : Int) <;> rfl
theorem isF_t4 (bl NS SS : List Int) (a : Nat) : ((isF bl NS SS a).tmod 4 != 0) = (NS.contains (a : Int) || bl.contains (a : Int)) := by
  unfold isF
  cases NS.contains (a : Int) <;> cases bl.contains (a : Int) <;> cases SS.contains (a : Int) <;> rfl
theorem isF_t5 (bl NS SS : List Int) (a : Nat) : ((isF bl NS SS a).tdiv 4 == 0) = !SS.contains (a : Int) := by
  unfold isF
  cases NS.contains (a : Int) <;> cases bl.contains (a : Int) <;> cases SS.contains (a : Int) <;> rfl
theorem isF_rng (bl NS SS : List Int) (a : Nat) : 0 ≤ isF bl NS SS a ∧ isF bl NS SS a ≤ 7 := by
  unfold isF
  cases NS.contains (a : Int) <;> cases bl.contains (a : Int) <;> cases SS.contains (a : Int) <;> decide
theorem isF_addN {bl NS SS : List Int} {a : Nat} (h : NS.contains (a : Int) = false) : isF bl NS SS a + 1 = isF bl (NS ++ [(a : Int)]) SS a := by
  unfold isF
  rw [cont_snoc, beq_self_eq_true, Bool.or_true, h, if_pos rfl, if_neg Bool.false_ne_true]; omega
theorem isF_sameN {bl NS SS : List Int} {a : Nat} (h : NS.contains (a : Int) = true) (j : Nat) : isF bl (NS ++ [(a : Int)]) SS j = isF bl NS SS j := by
  by_cases e : j = a
  · subst e; unfold isF; rw [cont_snoc, beq_self_eq_true, Bool.or_true, h]
  · exact isF_node e
theorem isF_addS {bl NS SS : List Int} {a : Nat} (h : SS.contains (a : Int) = false) : isF bl NS SS a + 4 = isF bl NS (SS ++ [(a : Int)]) a := by
  unfold isF
  rw [cont_snoc, beq_self_eq_true, Bool.or_true, h, if_pos rfl, if_neg Bool.false_ne_true]; omega
theorem isF_sameS {bl NS SS : List Int} {a : Nat} (h : SS.contains (a : Int) = true) (j : Nat) : isF bl NS (SS ++ [(a : Int)]) j = isF bl NS SS j := by
  by_cases e : j = a
  · subst e; unfold isF; rw [cont_snoc, beq_self_eq_true, Bool.or_true, h]
  · exact isF_sec e
theorem isv_set (l : List Int) (i : Nat) (x : Int) : (is l).set (0 + i * 1) (.int .i64 x) = is (l.set i x) := by unfold is; rw [List.map_set, Nat.zero_add, Nat.mul_one]
/-- The first block that is two things. -/
theorem badI_cl {B : Nat} {bl NS SS : List Int} {T : List (List Int × List Int)} {bad : Nat} (b : BadI B bl NS SS bad) (hc : ∀ j, cfP bl NS SS j = clP bl (T.map fun t => (0, t)) j) : clV B bl T = if bad < B then (bad : Int) else 0 := by
  unfold clV
  by_cases h : bad < B
  · rw [if_pos h]
    have hb := b.is h
    rw [hc] at hb
    have := find_first (p := clP bl (T.map fun t => (0, t))) (l := List.range B) (i := bad) (by rw [List.length_range]; exact h) (fun j hj hjb => by
      rw [List.getElem_range]
      cases e : clP bl (T.map fun t => (0, t)) j with
      | false => rfl
      | true =>
        rw [← hc] at e
        have := b.lo j (by omega) e
        omega) (by rw [List.getElem_range]; exact hb)
    rw [this, List.getElem_range]
  · rw [if_neg h, List.find?_eq_none.2 (fun j hj => by
      have hj := List.mem_range.1 hj
      intro e
      rw [← hc] at e
      have := b.lo j hj e
      have := b.le
      omega)]
def nsO (L : List Int) (T : List (Int × Int)) : List Int := T.flatMap fun p => treeN L p.1
def ssO (L : List Int) (T : List (Int × Int)) : List Int := T.flatMap fun p => (treeM L p.1).filter (· != 0)
theorem cf_cl (L : List Int) (bl : List Int) (T : List (Int × Int)) (j : Nat) : cfP bl (nsO L T) (ssO L T) j = clP bl ((T.map fun p => (treeM L p.1, treeN L p.1)).map fun t => (0, t)) j := by
  have e1 : (nsO L T).contains (j : Int) = isN ((T.map fun p => (treeM L p.1, treeN L p.1)).map fun t => (0, t)) j := by
    unfold nsO isN
    rw [List.map_map, List.any_map, List.contains_eq_any_beq, List.any_flatMap]
    refine congrArg (T.any ·) (funext fun p => ?_)
    show _ = (treeN L p.1).contains (j : Int)
    rw [List.contains_eq_any_beq]
  have e2 : (ssO L T).contains (j : Int) = isS ((T.map fun p => (treeM L p.1, treeN L p.1)).map fun t => (0, t)) j := by
    unfold ssO isS
    rw [List.map_map, List.any_map, List.contains_eq_any_beq, List.any_flatMap]
    refine congrArg (T.any ·) (funext fun p => ?_)
    show _ = (decide (j ≠ 0) && (treeM L p.1).contains (j : Int))
    rw [List.any_filter, List.contains_eq_any_beq]
    by_cases h0 : j = 0
    · subst h0
      rw [show decide ((0 : Nat) ≠ 0) = false from rfl, Bool.false_and, List.any_eq_false]
      intro x _
      by_cases hx : x = 0
      · subst hx; decide
      · have : ((((0 : Nat) : Int)) == x) = false := beq_eq_false_iff_ne.2 (fun e => hx e.symm)
        rw [this]; simp
    · rw [decide_eq_true h0, Bool.true_and]
      refine congrArg ((treeM L p.1).any ·) (funext fun x => ?_)
      by_cases hx : x = 0
      · subst hx
        have : ((j : Int) == 0) = false := beq_eq_false_iff_ne.2 (by omega)
        rw [this]; rfl
      · rw [show (x != 0) = true from bne_iff_ne.2 hx, Bool.true_and]
  unfold cfP clP
  rw [e1, e2]
theorem isF_w1 (bl NS SS : List Int) (a : Nat) : fwrap .i64 ((isF bl NS SS a).tdiv 2) = (isF bl NS SS a).tdiv 2 := by
  unfold isF
  cases NS.contains (a : Int) <;> cases bl.contains (a : Int) <;> cases SS.contains (a : Int) <;> rfl
theorem isF_w2 (bl NS SS : List Int) (a : Nat) : fwrap .i64 ((isF bl NS SS a).tdiv 4) = (isF bl NS SS a).tdiv 4 := by
  unfold isF
  cases NS.contains (a : Int) <;> cases bl.contains (a : Int) <;> cases SS.contains (a : Int) <;> rfl
theorem isA_zero (B : Nat) : isA B [] [] [] = List.replicate B 0 := by
  unfold isA
  apply List.ext_getElem?
  intro j
  rw [List.getElem?_map, List.getElem?_replicate]
  by_cases h : j < B
  · rw [List.getElem?_range h, if_pos h]; rfl
  · rw [List.getElem?_eq_none (by rw [List.length_range]; omega), if_neg h]; rfl
theorem isA_bl {B : Nat} {bl : List Int} {i a : Nat} (hi : i < bl.length) (ha : bl[i] = (a : Int)) (hB : a < B) : (isA B (bl.take i) [] []).set a 2 = isA B (bl.take (i + 1)) [] [] := by
  have e : bl.take (i + 1) = bl.take i ++ [(a : Int)] := by rw [List.take_succ_eq_append_getElem hi, ha]
  have h2 : isF (bl.take (i + 1)) [] [] a = 2 := by
    unfold isF
    rw [e, cont_snoc, beq_self_eq_true, Bool.or_true]; rfl
  rw [← h2]
  refine isA_set hB (fun j hj => ?_)
  unfold isF
  rw [e, cont_snoc, show ((j : Int) == (a : Int)) = false from beq_eq_false_iff_ne.2 (by omega), Bool.or_false]
theorem minNat (a b : Nat) : (cond (decide ((b : Int) < (a : Int))) (b : Int) (a : Int)) = ((min a b : Nat) : Int) := by
  by_cases h : b < a
  · rw [decide_eq_true (by omega)]; show (b : Int) = _; omega
  · rw [decide_eq_false (by omega)]; show (a : Int) = _; omega
theorem badI_init (B : Nat) (bl : List Int) : BadI B bl [] [] B := ⟨Nat.le_refl _, fun j hj hc => by unfold cfP at hc; simp at hc, fun h => absurd h (Nat.lt_irrefl _)⟩
theorem nth_sl {cs : List Value} {i : Nat} {w : Value} (h : cs[i]? = some w) : apart prog 30 cs (i * 1) = some w := by
  show nth cs (i * 1) = _
  rw [Nat.mul_one, nth_eq, h]
end Go.Proofs.Ytbinkbdfoalbcaa
end
section
set_option linter.unusedVariables false
set_option linter.unusedSectionVars false
set_option maxRecDepth 100000
open Go Go.Am Go.RowKit
namespace Go.Proofs.Ytbinkbdfoalbcaa
open Go.Proofs.Try

theorem eres_cc {E : Env} {h : Heap} {a b : Tmp} {t u : TypeId} {ad bd : Addr} {v w : Value} (h1 : E a = some (.pointer (some ad))) (h2 : aload prog h t ad = some v) (h3 : E b = some (.pointer (some bd))) (h4 : aload prog h u bd = some w) :
    eresults prog [.cell a t, .cell b u] E h = some (.tuple #[v, w]) := by
  simp only [eresults, eres, h1, h2, h3, h4]
set_option maxHeartbeats 64000000 in
theorem refOpen10_ok {h : Heap} {iv : Value} {L : List Int} (sl : Sl h iv 1 L.length (us L)) (hb : Byt L) (hm : L.length ≤ 4611686018427387904) :
    RunF prog 27 [iv] h fun v h' => Fr no h h' ∧ (((lk L).2 = 0 ∧ ∃ rv bv mv nv cm cn, v = .tuple #[.agg ⟨imx (lkS L) (pickS L).2.1 rv bv mv nv⟩, .agg ⟨[.int .i64 0, .int .i64 0]⟩] ∧ Sl h' rv 8 (lkF L).1.length (recCs (lkF L).1) ∧ Sl h' bv 1 (lkF L).2.1.length (is (lkF L).2.1) ∧
      Sl h' mv 1 (lkR L).length cm ∧ JEl (fun _ => True) h' cm ((lkR L).map fun p => treeM L p.1) ∧ Sl h' nv 1 (lkR L).length cn ∧ JEl (fun _ => True) h' cn ((lkR L).map fun p => treeN L p.1)) ∨
      ((lk L).2 ≠ 0 ∧ v = .tuple #[.agg ⟨(imx (0, 0, 0, 0, 0) 0 (.slice none 0 0) (.slice none 0 0) (.slice none 0 0) (.slice none 0 0))⟩, .agg ⟨[.int .i64 (lk L).1, .int .i64 (lk L).2]⟩])) := by
  have hlk : lk L = if devOk L.length then (if (pickS L).2.2 then (if (lkF L).2.2.2 = 0 then lkM L else ((lkF L).2.2.2, 7)) else (0, 8)) else (0, 2) := rfl
  refine RunF.walk func27 rfl rfl ?_
  refine RunC.seq (RunC.region (RunO.part 1 (h1 := h.push ⟨(imx (0, 0, 0, 0, 0) 0 (.slice none 0 0) (.slice none 0 0) (.slice none 0 0) (.slice none 0 0)), true⟩) rfl ?_))
  have o2 := Ow.push h (imx (0, 0, 0, 0, 0) 0 (.slice none 0 0) (.slice none 0 0) (.slice none 0 0) (.slice none 0 0))
  have f0 : Fr no h (h.push ⟨(imx (0, 0, 0, 0, 0) 0 (.slice none 0 0) (.slice none 0 0) (.slice none 0 0) (.slice none 0 0)), true⟩) := Fr.push _ _ _
  have F : Fr (fun b => h.next ≤ b) h (h.push ⟨(imx (0, 0, 0, 0, 0) 0 (.slice none 0 0) (.slice none 0 0) (.slice none 0 0) (.slice none 0 0)), true⟩) := Fr.push _ _ _
  generalize h.push ⟨(imx (0, 0, 0, 0, 0) 0 (.slice none 0 0) (.slice none 0 0) (.slice none 0 0) (.slice none 0 0)), true⟩ = ha at *
  obtain ⟨q2, e2⟩ : ∃ q, q = h.next := ⟨_, rfl⟩
  rw [← e2] at o2 ⊢
  have hq2 := o2.1
  refine RunO.all (h1 := ha.push ⟨[.int .i64 0, .int .i64 0], true⟩) rfl ?_
  have o3 := Ow.push ha [.int .i64 0, .int .i64 0]
  have fa : Fr no ha (ha.push ⟨[.int .i64 0, .int .i64 0], true⟩) := Fr.push _ _ _
  replace o2 := o2.fr fa (fun g => g)
  replace f0 := f0.same fa
  replace F := F.quiet fa
  generalize ha.push ⟨[.int .i64 0, .int .i64 0], true⟩ = hb_ at *
  obtain ⟨q3, e3⟩ : ∃ q, q = ha.next := ⟨_, rfl⟩
  rw [← e3] at o3 ⊢
  have hq23 : q2 < q3 := by omega
  have hq3 := o3.1
  refine RunC.seq (RunC.region (RunO.all (h1 := hb_.push ⟨(imx (0, 0, 0, 0, 0) 0 (.slice none 0 0) (.slice none 0 0) (.slice none 0 0) (.slice none 0 0)), true⟩) rfl ?_))
  have ox := Ow.push hb_ (imx (0, 0, 0, 0, 0) 0 (.slice none 0 0) (.slice none 0 0) (.slice none 0 0) (.slice none 0 0))
  have fc : Fr no hb_ (hb_.push ⟨(imx (0, 0, 0, 0, 0) 0 (.slice none 0 0) (.slice none 0 0) (.slice none 0 0) (.slice none 0 0)), true⟩) := Fr.push _ _ _
  replace o2 := o2.fr fc (fun g => g)
  replace o3 := o3.fr fc (fun g => g)
  replace f0 := f0.same fc
  replace F := F.quiet fc
  generalize hb_.push ⟨(imx (0, 0, 0, 0, 0) 0 (.slice none 0 0) (.slice none 0 0) (.slice none 0 0) (.slice none 0 0)), true⟩ = g0 at *
  obtain ⟨xb, ex⟩ : ∃ q, q = hb_.next := ⟨_, rfl⟩
  rw [← ex] at ox ⊢
  have hq34 : q3 < xb := by omega
  have hlo : h.next ≤ q2 := by omega
  clear fa fc
  have s0 := sl.fr0 f0
  -- the device
  refine RunC.seq (RunC.region (RunO.part 1 rfl ?_))
  refine RunO.callD (refBlocks_ok s0 hm) rfl rfl rfl ?_
  rintro _ _ ⟨rfl, rfl⟩
  refine RunO.all rfl ?_
  cases hd : devOk L.length with
  | false =>
    rw [hd, if_neg Bool.false_ne_true] at hlk
    refine RunC.seq (RunC.seq (RunC.region (RunO.all rfl (RunC.cond rfl (fun _ => ?_) (fun g => by cases g)))))
    refine RunC.seq (RunC.region ?_)
    refine RunO.load (v := .agg ⟨(imx (0, 0, 0, 0, 0) 0 (.slice none 0 0) (.slice none 0 0) (.slice none 0 0) (.slice none 0 0))⟩) rfl (ox.ld rfl) rfl ?_
    refine RunO.part 1 rfl ?_
    refine RunO.store rfl rfl (store_ow (s := 10) o2 rfl rfl rfl (Nat.le_refl 10)) ?_
    show RunO prog _ _ _ _ (g0.put q2 (some ⟨(imx (0, 0, 0, 0, 0) 0 (.slice none 0 0) (.slice none 0 0) (.slice none 0 0) (.slice none 0 0)), true⟩)) _
    have w2 : Ow (g0.put q2 (some ⟨(imx (0, 0, 0, 0, 0) 0 (.slice none 0 0) (.slice none 0 0) (.slice none 0 0) (.slice none 0 0)), true⟩)) q2 (imx (0, 0, 0, 0, 0) 0 (.slice none 0 0) (.slice none 0 0) (.slice none 0 0) (.slice none 0 0)) := Ow.put _ o2.1
    have v2 : Fr (· = q2) g0 (g0.put q2 (some ⟨(imx (0, 0, 0, 0, 0) 0 (.slice none 0 0) (.slice none 0 0) (.slice none 0 0) (.slice none 0 0)), true⟩)) := Fr.put _ (.inl rfl)
    generalize g0.put q2 (some ⟨(imx (0, 0, 0, 0, 0) 0 (.slice none 0 0) (.slice none 0 0) (.slice none 0 0) (.slice none 0 0)), true⟩) = gA at *
    have w3 := o3.fr v2 (fun e => by have e : q3 = q2 := e; omega)
    refine RunO.store rfl rfl (store_ow (s := 2) w3 rfl rfl rfl (Nat.le_refl 2)) (RunO.all rfl ?_)
    show RunC prog _ _ _ (gA.put q3 (some ⟨[.int .i64 (0), .int .i64 (2)], true⟩)) _ _ _
    have w4 : Ow (gA.put q3 (some ⟨[.int .i64 (0), .int .i64 (2)], true⟩)) q3 [.int .i64 (0), .int .i64 (2)] := Ow.put _ w3.1
    have v3 : Fr (· = q3) gA (gA.put q3 (some ⟨[.int .i64 (0), .int .i64 (2)], true⟩)) := Fr.put _ (.inl rfl)
    have w5 := w2.fr v3 (fun e => by have e : q2 = q3 := e; omega)
    generalize gA.put q3 (some ⟨[.int .i64 (0), .int .i64 (2)], true⟩) = gB at *
    have VF : Fr no h gB := frNo ((F.trans v2 (fun b e => .inl (by have e : b = q2 := e; omega))).trans v3 (fun b e => .inl (by have e : b = q3 := e; omega)))
    exact RunC.ret ⟨_, eres_cc rfl (w5.all.part (k := 0) rfl) rfl (w4.all.part (k := 0) rfl), VF, .inr ⟨by rw [hlk]; first | decide | (show (7 : Int) ≠ 0; decide) | (show (6 : Int) ≠ 0; decide), by rw [hlk]; rfl⟩⟩
  | true =>
  rw [hd, if_pos rfl] at hlk
  have hdl : L.length % 64 = 0 ∧ 4 ≤ L.length / 64 ∧ L.length / 64 ≤ 4096 := by
    unfold devOk at hd
    simpa using hd
  refine RunC.seq (RunC.seq (RunC.region (RunO.all rfl (RunC.cond rfl (fun g => by cases g) (fun _ => RunC.skip ?_)))))
  -- the superblock
  refine RunC.seq (RunC.region (RunO.part 1 rfl ?_))
  refine RunO.callD (refPick_ok s0 hb hd) rfl rfl rfl ?_
  rintro _ g1 ⟨rfl, f1⟩
  have hS : lkS L = (pickS L).1 := rfl
  have hsz := fun h => lkR_sz (L := L) h
  obtain ⟨S, hSe⟩ : ∃ S, S = (pickS L).1 := ⟨_, rfl⟩
  obtain ⟨slot, hslot⟩ : ∃ S, S = (pickS L).2.1 := ⟨_, rfl⟩
  rw [← hSe, ← hslot]
  refine RunO.part 5 (h1 := g1.push ⟨sc5 (0, 0, 0, 0, 0), true⟩) rfl ?_
  refine RunO.store rfl rfl (store_ow (s := 5) (Ow.push g1 (sc5 (0, 0, 0, 0, 0))) rfl rfl rfl (Nat.le_refl 5)) (RunO.all rfl ?_)
  have os : Ow ((g1.push ⟨sc5 (0, 0, 0, 0, 0), true⟩).put g1.next (some ⟨sc5 S, true⟩)) g1.next (sc5 S) := Ow.put _ (Nat.lt_succ_self _)
  have f2 : Fr no g1 ((g1.push ⟨sc5 (0, 0, 0, 0, 0), true⟩).put g1.next (some ⟨sc5 S, true⟩)) := (Fr.push _ _ _).trans (Fr.put (m := (· = g1.next)) _ (.inl rfl)) (fun j hj => .inr (by omega))
  change RunC _ _ _ _ ((g1.push ⟨sc5 (0, 0, 0, 0, 0), true⟩).put g1.next (some ⟨sc5 S, true⟩)) _ _ _
  generalize (g1.push ⟨sc5 (0, 0, 0, 0, 0), true⟩).put g1.next (some ⟨sc5 S, true⟩) = g2 at *
  obtain ⟨sb, esb⟩ : ∃ q, q = g1.next := ⟨_, rfl⟩
  rw [← esb] at os ⊢
  have hx1 : xb < sb := by have := ox.1; have := f1.next; omega
  have f12 := f1.same f2
  replace o2 := o2.fr f12 (fun g => g)
  replace o3 := o3.fr f12 (fun g => g)
  replace ox := ox.fr f12 (fun g => g)
  replace F := F.quiet f12
  replace s0 := s0.fr0 f12
  cases hp : (pickS L).2.2 with
  | false =>
    rw [hp, if_neg Bool.false_ne_true] at hlk
    refine RunC.seq (RunC.seq (RunC.region (RunO.all rfl (RunC.cond rfl (fun _ => ?_) (fun g => by cases g)))))
    refine RunC.seq (RunC.region ?_)
    refine RunO.load (v := .agg ⟨(imx (0, 0, 0, 0, 0) 0 (.slice none 0 0) (.slice none 0 0) (.slice none 0 0) (.slice none 0 0))⟩) rfl (ox.ld rfl) rfl ?_
    refine RunO.part 1 rfl ?_
    refine RunO.store rfl rfl (store_ow (s := 10) o2 rfl rfl rfl (Nat.le_refl 10)) ?_
    show RunO prog _ _ _ _ (g2.put q2 (some ⟨(imx (0, 0, 0, 0, 0) 0 (.slice none 0 0) (.slice none 0 0) (.slice none 0 0) (.slice none 0 0)), true⟩)) _
    have w2 : Ow (g2.put q2 (some ⟨(imx (0, 0, 0, 0, 0) 0 (.slice none 0 0) (.slice none 0 0) (.slice none 0 0) (.slice none 0 0)), true⟩)) q2 (imx (0, 0, 0, 0, 0) 0 (.slice none 0 0) (.slice none 0 0) (.slice none 0 0) (.slice none 0 0)) := Ow.put _ o2.1
    have v2 : Fr (· = q2) g2 (g2.put q2 (some ⟨(imx (0, 0, 0, 0, 0) 0 (.slice none 0 0) (.slice none 0 0) (.slice none 0 0) (.slice none 0 0)), true⟩)) := Fr.put _ (.inl rfl)
    generalize g2.put q2 (some ⟨(imx (0, 0, 0, 0, 0) 0 (.slice none 0 0) (.slice none 0 0) (.slice none 0 0) (.slice none 0 0)), true⟩) = gA at *
    have w3 := o3.fr v2 (fun e => by have e : q3 = q2 := e; omega)
    refine RunO.store rfl rfl (store_ow (s := 2) w3 rfl rfl rfl (Nat.le_refl 2)) (RunO.all rfl ?_)
    show RunC prog _ _ _ (gA.put q3 (some ⟨[.int .i64 (0), .int .i64 (8)], true⟩)) _ _ _
    have w4 : Ow (gA.put q3 (some ⟨[.int .i64 (0), .int .i64 (8)], true⟩)) q3 [.int .i64 (0), .int .i64 (8)] := Ow.put _ w3.1
    have v3 : Fr (· = q3) gA (gA.put q3 (some ⟨[.int .i64 (0), .int .i64 (8)], true⟩)) := Fr.put _ (.inl rfl)
    have w5 := w2.fr v3 (fun e => by have e : q2 = q3 := e; omega)
    generalize gA.put q3 (some ⟨[.int .i64 (0), .int .i64 (8)], true⟩) = gB at *
    have VF : Fr no h gB := frNo ((F.trans v2 (fun b e => .inl (by have e : b = q2 := e; omega))).trans v3 (fun b e => .inl (by have e : b = q3 := e; omega)))
    exact RunC.ret ⟨_, eres_cc rfl (w5.all.part (k := 0) rfl) rfl (w4.all.part (k := 0) rfl), VF, .inr ⟨by rw [hlk]; first | decide | (show (7 : Int) ≠ 0; decide) | (show (6 : Int) ≠ 0; decide), by rw [hlk]; rfl⟩⟩
  | true =>
  rw [hp, if_pos rfl] at hlk
  refine RunC.seq (RunC.seq (RunC.region (RunO.all rfl (RunC.cond rfl (fun g => by cases g) (fun _ => RunC.skip ?_)))))
  -- the records
  refine RunC.seq (RunC.region (RunO.part 2 rfl ?_))
  refine RunO.load (v := .int .i64 S.2.2.2.2) rfl (os.ld rfl) rfl ?_
  have hFe : lkF L = folOf L S.2.2.2.2 := by unfold lkF lkS; rw [hSe]
  refine RunO.callD (refRecords10_ok (a := S.2.2.2.2) s0 hb hd) rfl rfl rfl ?_
  rw [← hFe]
  rintro _ g3 ⟨f3, ⟨hbad, rv, bv, rfl, rl, rb⟩ | ⟨hbad, rfl⟩⟩
  case inr =>
    rw [if_neg hbad] at hlk
    refine RunO.all rfl ?_
    refine RunC.seq (RunC.seq (RunC.region (RunO.all rfl (RunC.cond rfl (fun _ => ?_) (fun g => by cases g)))))
    refine RunC.seq (RunC.region ?_)
    replace o2 := o2.fr f3 (fun g => g)
    replace o3 := o3.fr f3 (fun g => g)
    replace ox := ox.fr f3 (fun g => g)
    replace F := F.quiet f3
    refine RunO.load (v := .agg ⟨(imx (0, 0, 0, 0, 0) 0 (.slice none 0 0) (.slice none 0 0) (.slice none 0 0) (.slice none 0 0))⟩) rfl (ox.ld rfl) rfl ?_
    refine RunO.part 2 rfl ?_
    refine RunO.store rfl rfl (store_ow (s := 10) o2 rfl rfl rfl (Nat.le_refl 10)) ?_
    show RunO prog _ _ _ _ (g3.put q2 (some ⟨(imx (0, 0, 0, 0, 0) 0 (.slice none 0 0) (.slice none 0 0) (.slice none 0 0) (.slice none 0 0)), true⟩)) _
    have w2 : Ow (g3.put q2 (some ⟨(imx (0, 0, 0, 0, 0) 0 (.slice none 0 0) (.slice none 0 0) (.slice none 0 0) (.slice none 0 0)), true⟩)) q2 (imx (0, 0, 0, 0, 0) 0 (.slice none 0 0) (.slice none 0 0) (.slice none 0 0) (.slice none 0 0)) := Ow.put _ o2.1
    have v2 : Fr (· = q2) g3 (g3.put q2 (some ⟨(imx (0, 0, 0, 0, 0) 0 (.slice none 0 0) (.slice none 0 0) (.slice none 0 0) (.slice none 0 0)), true⟩)) := Fr.put _ (.inl rfl)
    generalize g3.put q2 (some ⟨(imx (0, 0, 0, 0, 0) 0 (.slice none 0 0) (.slice none 0 0) (.slice none 0 0) (.slice none 0 0)), true⟩) = gA at *
    have w3 := o3.fr v2 (fun e => by have e : q3 = q2 := e; omega)
    refine RunO.store rfl rfl (store_ow (s := 2) w3 rfl rfl rfl (Nat.le_refl 2)) (RunO.all rfl ?_)
    show RunC prog _ _ _ (gA.put q3 (some ⟨[.int .i64 ((lkF L).2.2.2), .int .i64 (7)], true⟩)) _ _ _
    have w4 : Ow (gA.put q3 (some ⟨[.int .i64 ((lkF L).2.2.2), .int .i64 (7)], true⟩)) q3 [.int .i64 ((lkF L).2.2.2), .int .i64 (7)] := Ow.put _ w3.1
    have v3 : Fr (· = q3) gA (gA.put q3 (some ⟨[.int .i64 ((lkF L).2.2.2), .int .i64 (7)], true⟩)) := Fr.put _ (.inl rfl)
    have w5 := w2.fr v3 (fun e => by have e : q2 = q3 := e; omega)
    generalize gA.put q3 (some ⟨[.int .i64 ((lkF L).2.2.2), .int .i64 (7)], true⟩) = gB at *
    have VF : Fr no h gB := frNo ((F.trans v2 (fun b e => .inl (by have e : b = q2 := e; omega))).trans v3 (fun b e => .inl (by have e : b = q3 := e; omega)))
    exact RunC.ret ⟨_, eres_cc rfl (w5.all.part (k := 0) rfl) rfl (w4.all.part (k := 0) rfl), VF, .inr ⟨by rw [hlk]; first | decide | (show (7 : Int) ≠ 0; decide) | (show (6 : Int) ≠ 0; decide), by rw [hlk]; rfl⟩⟩
  rw [if_pos hbad] at hlk
  refine RunO.all rfl ?_
  refine RunC.seq (RunC.seq (RunC.region (RunO.all rfl (RunC.cond rfl (fun g => by cases g) (fun _ => RunC.skip ?_)))))
  have hRl : (lkR L).length = (lkF L).1.length + 1 := by unfold lkR; rw [List.length_cons, List.length_map]
  have hfo := fol_ok (L := L) (B := L.length / 64) (L.length / 64) S.2.2.2.2 [] [] 0 (fun r h => absurd h List.not_mem_nil) (fun x h => absurd h List.not_mem_nil) rfl
  have hFe2 : lkF L = fol L (L.length / 64) (L.length / 64) S.2.2.2.2 [] [] 0 := hFe
  rw [← hFe2] at hfo
  obtain ⟨hrok, hbr, hrbl, hbn⟩ := hfo
  have hbn : (lkF L).2.1.length ≤ 4096 := by have : ([] : List Int).length = 0 := rfl; omega
  have hR0 : (lkR L)[0]? = some (S.2.2.1, S.2.2.2.1) := by unfold lkR; rw [hS, ← hSe]; rfl
  have hRs : ∀ k r, (lkF L).1[k]? = some r → (lkR L)[k + 1]? = some (r.ro, r.sz) := fun k r e => by unfold lkR; rw [List.getElem?_cons_succ, List.getElem?_map, e]; rfl
  have srl := rl.sl (by omega)
  have sbl := rb.sl (by omega)
  obtain ⟨rA, rc_, rfl, _, _⟩ := srl.form
  obtain ⟨bA, bc, rfl, _, _⟩ := sbl.form
  have hrat : ∀ b, At (.slice rA (lkF L).1.length rc_) b → g2.next ≤ b := fun b g => (rl.at g).1
  have hbat : ∀ b, At (.slice bA (lkF L).2.1.length bc) b → g2.next ≤ b := fun b g => (rb.at g).1
  have hsb2 : sb < g2.next := os.1
  replace o2 := o2.fr f3 (fun g => g)
  replace o3 := o3.fr f3 (fun g => g)
  replace ox := ox.fr f3 (fun g => g)
  replace os := os.fr f3 (fun g => g)
  replace F := F.quiet f3
  replace s0 := s0.fr0 f3
  refine RunC.seq (RunC.region ?_)
  refine RunO.load (v := .agg ⟨sc5 S⟩) rfl (os.ld rfl) rfl ?_
  refine RunO.part 5 rfl ?_
  refine RunO.store rfl rfl (store_ow (s := 7) ox rfl rfl rfl (Nat.le_of_ble_eq_true rfl)) ?_
  have e1 : (imx (0, 0, 0, 0, 0) 0 (.slice none 0 0) (.slice none 0 0) (.slice none 0 0) (.slice none 0 0)).take 0 ++ cellsOf (.agg ⟨sc5 S ++ [.int .i64 slot, .slice rA (lkF L).1.length rc_]⟩) ++ (imx (0, 0, 0, 0, 0) 0 (.slice none 0 0) (.slice none 0 0) (.slice none 0 0) (.slice none 0 0)).drop (0 + 7) = imx S slot (.slice rA (lkF L).1.length rc_) (.slice none 0 0) (.slice none 0 0) (.slice none 0 0) := rfl
  show RunO prog _ _ _ _ (g3.put xb (some ⟨imx S slot (.slice rA (lkF L).1.length rc_) (.slice none 0 0) (.slice none 0 0) (.slice none 0 0), true⟩)) _
  have ox1 : Ow (g3.put xb (some ⟨imx S slot (.slice rA (lkF L).1.length rc_) (.slice none 0 0) (.slice none 0 0) (.slice none 0 0), true⟩)) xb (imx S slot (.slice rA (lkF L).1.length rc_) (.slice none 0 0) (.slice none 0 0) (.slice none 0 0)) := Ow.put _ ox.1
  have fx1 : Fr (· = xb) g3 (g3.put xb (some ⟨imx S slot (.slice rA (lkF L).1.length rc_) (.slice none 0 0) (.slice none 0 0) (.slice none 0 0), true⟩)) := Fr.put _ (.inl rfl)
  generalize g3.put xb (some ⟨imx S slot (.slice rA (lkF L).1.length rc_) (.slice none 0 0) (.slice none 0 0) (.slice none 0 0), true⟩) = g4 at *
  refine RunO.part 1 rfl ?_
  refine RunO.store rfl rfl (store1_ow ox1 rfl rfl rfl (Nat.le_of_ble_eq_true rfl)) (RunO.all rfl ?_)
  show RunC prog _ _ _ (g4.put xb (some ⟨imx S slot (.slice rA (lkF L).1.length rc_) (.slice bA (lkF L).2.1.length bc) (.slice none 0 0) (.slice none 0 0), true⟩)) _ _ _
  have ox2 : Ow (g4.put xb (some ⟨imx S slot (.slice rA (lkF L).1.length rc_) (.slice bA (lkF L).2.1.length bc) (.slice none 0 0) (.slice none 0 0), true⟩)) xb (imx S slot (.slice rA (lkF L).1.length rc_) (.slice bA (lkF L).2.1.length bc) (.slice none 0 0) (.slice none 0 0)) := Ow.put _ ox1.1
  have fx2 : Fr (· = xb) g4 (g4.put xb (some ⟨imx S slot (.slice rA (lkF L).1.length rc_) (.slice bA (lkF L).2.1.length bc) (.slice none 0 0) (.slice none 0 0), true⟩)) := Fr.put _ (.inl rfl)
  generalize g4.put xb (some ⟨imx S slot (.slice rA (lkF L).1.length rc_) (.slice bA (lkF L).2.1.length bc) (.slice none 0 0) (.slice none 0 0), true⟩) = g5 at *
  have fx := fx1.same fx2
  replace o2 := o2.fr fx (fun e => by have e : q2 = xb := e; omega)
  replace o3 := o3.fr fx (fun e => by have e : q3 = xb := e; omega)
  replace os := os.fr fx (fun e => by have e : sb = xb := e; omega)
  replace F := F.trans fx (fun b e => .inl (by have e : b = xb := e; omega))
  replace rl := rl.frm fx (fun b g e => by have := hrat b g; have e : b = xb := e; omega)
  replace rb := rb.frm fx (fun b g e => by have := hbat b g; have e : b = xb := e; omega)
  replace s0 := sl.fr0 (frNo F)
  have hlo5 : xb < g5.next ∧ sb < g5.next := ⟨ox2.1, os.1⟩
  -- the trees
  refine RunC.seq (RunC.seq (RunC.region (RunO.all rfl ?_)))
  refine RunC.block ?_
  refine RunC.loop (fun d E h' => ∃ (k : Nat) (mv nv : Value) (cm cn : List Value), k + d = (lkR L).length ∧ (∀ j (hj : j < (lkR L).length), j < k → lkX L (lkR L)[j] = false) ∧ Fr (· = xb) g5 h' ∧ Ow h' xb (imx S slot (.slice rA (lkF L).1.length rc_) (.slice bA (lkF L).2.1.length bc) mv nv) ∧ Row g5.next h' mv 1 k cm ∧ Row g5.next h' nv 1 k cn ∧
      JEl (fun b => g5.next ≤ b ∧ ¬ At mv b ∧ ¬ At nv b) h' cm (((lkR L).map fun p => treeM L p.1).take k) ∧ JEl (fun b => g5.next ≤ b ∧ ¬ At mv b ∧ ¬ At nv b) h' cn (((lkR L).map fun p => treeN L p.1).take k) ∧ (∀ b, At mv b → ¬ At nv b) ∧
      Le ((upd (upd (upd (upd (upd (upd (upd (upd (upd E0 0 (iv)) 2 (.pointer (some ⟨q2, 0, none⟩))) 3 (.pointer (some ⟨q3, 0, none⟩))) 4 (.pointer (some ⟨xb, 0, none⟩))) 5 (.int .i64 ((L.length / 64 : Nat) : Int))) 7 (.pointer (some ⟨sb, 0, none⟩))) 9 (.slice rA (lkF L).1.length rc_)) 10 (.slice bA (lkF L).2.1.length bc)) 12 (.int .i64 ((k : Int) - 1)))) E) ?st (k := (lkR L).length) ?ini
  case ini => exact ⟨0, _, _, [], [], by omega, fun j hj h => absurd h (Nat.not_lt_zero _), Fr.refl _ _, ox2, Row.nil _ _ _, Row.nil _ _ _, JEl.nil _ _, JEl.nil _ _, (fun b g => by obtain ⟨_, _, e⟩ := g; cases e), Le.cons rfl (Le.cons rfl (Le.cons rfl (Le.cons rfl (Le.cons rfl (Le.cons rfl (Le.cons rfl (Le.cons rfl (Le.cons rfl (Le.nil _)))))))))⟩
  rintro d E g6 ⟨k, mv, nv, cm, cn, hk, hno, ft, ox3, rm, rn, jm, jn, hmn, hE⟩
  refine RunC.le hE ?_
  clear hE
  have hmat : ∀ b, At mv b → g5.next ≤ b := fun b g => (rm.at g).1
  have hnat : ∀ b, At nv b → g5.next ≤ b := fun b g => (rn.at g).1
  have o26 := o2.fr ft (fun e => by have e : q2 = xb := e; omega)
  have o36 := o3.fr ft (fun e => by have e : q3 = xb := e; omega)
  have os6 := os.fr ft (fun e => by have e : sb = xb := e; omega)
  have F6 := F.trans ft (fun b e => .inl (by have e : b = xb := e; omega))
  have rl6 := rl.frm ft (fun b g e => by have := hrat b g; have e : b = xb := e; omega)
  have rb6 := rb.frm ft (fun b g e => by have := hbat b g; have e : b = xb := e; omega)
  have s06 := sl.fr0 (frNo F6)
  refine RunC.seq (RunC.seq (RunC.region (RunO.all rfl ?_)))
  refine RunC.cond rfl (fun hlt => RunC.skip ?go) (fun hge => RunC.exit ?ex)
  case go =>
    have hlt := of_decide_eq_true hlt
    have hlt : k < (lkR L).length := by omega
    have hkn : (lkR L).length ≤ 4097 := by omega
    obtain ⟨p, hpe⟩ : ∃ p, p = (lkR L)[k] := ⟨_, rfl⟩
    have hpk : (lkR L)[k]? = some p := by rw [hpe]; exact List.getElem?_eq_getElem hlt
    have hpsz := lkR_sz hp p (by rw [hpe]; exact List.getElem_mem hlt)
    obtain ⟨root, size⟩ := p
    obtain ⟨z, hz⟩ := Int.eq_ofNat_of_zero_le hpsz.1
    have hz : size = (z : Int) := hz
    subst hz
    have hz512 : z ≤ 512 := by have : (z : Int) ≤ 512 := hpsz.2; omega
    refine RunC.seq (RunC.block ?_)
    refine RunC.seq (RunC.draw0 rfl (RunO.part 1 rfl ?_))
    refine RunO.load (v := .int .i64 S.2.2.1) rfl (os6.ld rfl) rfl ?_
    refine RunO.part 1 rfl ?_
    refine RunO.load (v := .int .i64 S.2.2.2.1) rfl (os6.ld rfl) rfl ?_
    refine RunO.all rfl ?_
    refine RunC.seqc (fun E' h' => g6 = h' ∧ Le ((upd (upd (upd (upd (upd (upd (upd (upd (upd (upd (upd E0 0 (iv)) 2 (.pointer (some ⟨q2, 0, none⟩))) 3 (.pointer (some ⟨q3, 0, none⟩))) 4 (.pointer (some ⟨xb, 0, none⟩))) 5 (.int .i64 ((L.length / 64 : Nat) : Int))) 7 (.pointer (some ⟨sb, 0, none⟩))) 9 (.slice rA (lkF L).1.length rc_)) 10 (.slice bA (lkF L).2.1.length bc)) 12 (.int .i64 ((k : Int) - 1))) 13 (.int .i64 root)) 14 (.int .i64 (z : Int)))) E') ?pk ?nx
    case pk =>
      refine RunC.seq (RunC.region (RunO.all rfl ?_))
      by_cases hk0 : k = 0
      · subst hk0
        rw [hR0] at hpk
        have e := Option.some.inj hpk
        rw [show decide (((0 : Nat) : Int) - 1 ≥ 0) = false from rfl]
        refine RunC.cond rfl (fun g => by cases g) (fun _ => RunC.skip ⟨rfl, ?_⟩)
        rw [show S.2.2.1 = root from congrArg Prod.fst e, show S.2.2.2.1 = (z : Int) from congrArg Prod.snd e]
        exact Le.cons rfl (Le.cons rfl (Le.cons rfl (Le.cons rfl (Le.cons rfl (Le.cons rfl (Le.cons rfl (Le.cons rfl (Le.cons rfl (Le.cons rfl (Le.cons rfl (Le.nil _)))))))))))
      · have hk1 : k - 1 < (lkF L).1.length := by omega
        have hr := hRs (k - 1) _ (List.getElem?_eq_getElem hk1)
        rw [show k - 1 + 1 = k by omega, hpk] at hr
        have e := Option.some.inj hr
        have hf1 : apart prog 3 (recCs (lkF L).1) ((k - 1) * 8 + 3) = some (.int .i64 root) := by
          rw [recCs_fld hk1 (by decide)]
          show some (Value.int .i64 (lkF L).1[k - 1].ro) = _
          rw [show (lkF L).1[k - 1].ro = root from (congrArg Prod.fst e).symm]
        have hf2 : apart prog 3 (recCs (lkF L).1) ((k - 1) * 8 + 4) = some (.int .i64 (z : Int)) := by
          rw [recCs_fld hk1 (by decide)]
          show some (Value.int .i64 (lkF L).1[k - 1].sz) = _
          rw [show (lkF L).1[k - 1].sz = (z : Int) from (congrArg Prod.snd e).symm]
        rw [show decide ((k : Int) - 1 ≥ 0) = true from decide_eq_true (by omega)]
        refine RunC.cond rfl (fun _ => ?_) (fun g => by cases g)
        rw [show (k : Int) - 1 = ((k - 1 : Nat) : Int) by omega]
        refine RunC.draw0 rfl (RunO.part 2 rfl ?_)
        refine RunO.fldG (k := k - 1) (off := 3) rfl (fun _ => rfl) (fun _ _ => rfl) rfl rfl (rl6.sl (by omega)) rfl rfl hk1 (fun _ _ => rfl) hf1 rfl rfl rfl rfl rfl ?_
        refine RunO.part 2 rfl ?_
        refine RunO.fldG (k := k - 1) (off := 4) rfl (fun _ => rfl) (fun _ _ => rfl) rfl rfl (rl6.sl (by omega)) rfl rfl hk1 (fun _ _ => rfl) hf2 rfl rfl rfl rfl rfl ?_
        exact RunO.all rfl ⟨rfl, Le.cons rfl (Le.cons rfl (Le.cons rfl (Le.cons rfl (Le.cons rfl (Le.cons rfl (Le.cons rfl (Le.cons rfl (Le.cons rfl (Le.cons rfl (Le.cons rfl (Le.nil _)))))))))))⟩
    rintro E' _ ⟨rfl, hE⟩
    refine RunC.le hE ?_
    clear hE
    have hX : lkX L (lkR L)[k] = (!treeOk L root || bey (treeM L root) (z : Int)) := by rw [← hpe]; rfl
    have hfind : lkX L (lkR L)[k] = true → lk L = (root, 6) := fun e => by
      rw [hlk]
      unfold lkM
      rw [find_first hlt (fun j hj hjk => hno j hj hjk) e, ← hpe]
    refine RunC.seq (RunC.region (RunO.part 2 rfl ?_))
    refine RunO.callD (refTree_ok (root := root) s06 hb hd) rfl rfl rfl ?_
    rintro _ g7 ⟨f7, ⟨hok, mb, nw, hmb, rfl, om, rnw⟩ | ⟨hok, rfl⟩⟩
    case inr =>
      have hx : lkX L (lkR L)[k] = true := by rw [hX, hok]; rfl
      have hlk := hfind hx
      refine RunO.all rfl ?_
      refine RunC.seqc (fun E' h' => g7 = h' ∧ Le ((upd (upd (upd (upd (upd (upd (upd (upd (upd (upd (upd E0 0 (iv)) 2 (.pointer (some ⟨q2, 0, none⟩))) 3 (.pointer (some ⟨q3, 0, none⟩))) 4 (.pointer (some ⟨xb, 0, none⟩))) 5 (.int .i64 ((L.length / 64 : Nat) : Int))) 7 (.pointer (some ⟨sb, 0, none⟩))) 9 (.slice rA (lkF L).1.length rc_)) 10 (.slice bA (lkF L).2.1.length bc)) 12 (.int .i64 ((k : Int) - 1))) 13 (.int .i64 root)) 17 (.bool false))) E') ?lp ?nx2
      case lp =>
        refine RunC.seq (RunC.region (RunO.all rfl ?_))
        refine RunC.block ?_
        refine RunC.loop (fun d E h' => d = 0 ∧ g7 = h' ∧ Le ((upd (upd (upd (upd (upd (upd (upd (upd (upd (upd (upd (upd E0 0 (iv)) 2 (.pointer (some ⟨q2, 0, none⟩))) 3 (.pointer (some ⟨q3, 0, none⟩))) 4 (.pointer (some ⟨xb, 0, none⟩))) 5 (.int .i64 ((L.length / 64 : Nat) : Int))) 7 (.pointer (some ⟨sb, 0, none⟩))) 9 (.slice rA (lkF L).1.length rc_)) 10 (.slice bA (lkF L).2.1.length bc)) 12 (.int .i64 ((k : Int) - 1))) 13 (.int .i64 root)) 17 (.bool false)) 18 (.int .i64 (z : Int)))) E) ?st3 (k := 0) ?ini3
        case ini3 => exact ⟨rfl, rfl, Le.cons rfl (Le.cons rfl (Le.cons rfl (Le.cons rfl (Le.cons rfl (Le.cons rfl (Le.cons rfl (Le.cons rfl (Le.cons rfl (Le.cons rfl (Le.cons rfl (Le.cons rfl (Le.nil _))))))))))))⟩
        rintro d3 E _ ⟨rfl, rfl, hE⟩
        refine RunC.le hE ?_
        clear hE
        refine RunC.seq (RunC.seq (RunC.region (RunO.part 3 rfl ?_)))
        cases decide ((z : Int) < 512) with
        | true => exact RunO.all rfl (RunC.cond rfl (fun g => by cases g) (fun _ => RunC.exit ⟨rfl, Le.cons rfl (Le.cons rfl (Le.cons rfl (Le.cons rfl (Le.cons rfl (Le.cons rfl (Le.cons rfl (Le.cons rfl (Le.cons rfl (Le.cons rfl (Le.cons rfl (Le.nil _)))))))))))⟩))
        | false => exact RunO.all rfl (RunC.cond rfl (fun g => by cases g) (fun _ => RunC.exit ⟨rfl, Le.cons rfl (Le.cons rfl (Le.cons rfl (Le.cons rfl (Le.cons rfl (Le.cons rfl (Le.cons rfl (Le.cons rfl (Le.cons rfl (Le.cons rfl (Le.cons rfl (Le.nil _)))))))))))⟩))
      rintro E' _ ⟨rfl, hE⟩
      refine RunC.le hE ?_
      clear hE
      have o27 := o26.fr f7 (fun g => g)
      have o37 := o36.fr f7 (fun g => g)
      have F7 := F6.quiet f7
      refine RunC.seq (RunC.seq (RunC.region (RunO.all rfl (RunC.cond rfl (fun _ => ?_) (fun g => by cases g)))))
      refine RunC.seq (RunC.region ?_)
      refine RunO.part 3 rfl ?_
      refine RunO.store rfl rfl (store_ow (s := 10) o27 rfl rfl rfl (Nat.le_refl 10)) ?_
      show RunO prog _ _ _ _ (g7.put q2 (some ⟨(imx (0, 0, 0, 0, 0) 0 (.slice none 0 0) (.slice none 0 0) (.slice none 0 0) (.slice none 0 0)), true⟩)) _
      have w2 : Ow (g7.put q2 (some ⟨(imx (0, 0, 0, 0, 0) 0 (.slice none 0 0) (.slice none 0 0) (.slice none 0 0) (.slice none 0 0)), true⟩)) q2 (imx (0, 0, 0, 0, 0) 0 (.slice none 0 0) (.slice none 0 0) (.slice none 0 0) (.slice none 0 0)) := Ow.put _ o27.1
      have v2 : Fr (· = q2) g7 (g7.put q2 (some ⟨(imx (0, 0, 0, 0, 0) 0 (.slice none 0 0) (.slice none 0 0) (.slice none 0 0) (.slice none 0 0)), true⟩)) := Fr.put _ (.inl rfl)
      generalize g7.put q2 (some ⟨(imx (0, 0, 0, 0, 0) 0 (.slice none 0 0) (.slice none 0 0) (.slice none 0 0) (.slice none 0 0)), true⟩) = gA at *
      have w3 := o37.fr v2 (fun e => by have e : q3 = q2 := e; omega)
      refine RunO.store rfl rfl (store_ow (s := 2) w3 rfl rfl rfl (Nat.le_refl 2)) (RunO.all rfl ?_)
      show RunC prog _ _ _ (gA.put q3 (some ⟨[.int .i64 (root), .int .i64 (6)], true⟩)) _ _ _
      have w4 : Ow (gA.put q3 (some ⟨[.int .i64 (root), .int .i64 (6)], true⟩)) q3 [.int .i64 (root), .int .i64 (6)] := Ow.put _ w3.1
      have v3 : Fr (· = q3) gA (gA.put q3 (some ⟨[.int .i64 (root), .int .i64 (6)], true⟩)) := Fr.put _ (.inl rfl)
      have w5 := w2.fr v3 (fun e => by have e : q2 = q3 := e; omega)
      generalize gA.put q3 (some ⟨[.int .i64 (root), .int .i64 (6)], true⟩) = gB at *
      have VF : Fr no h gB := frNo ((F7.trans v2 (fun b e => .inl (by have e : b = q2 := e; omega))).trans v3 (fun b e => .inl (by have e : b = q3 := e; omega)))
      exact RunC.ret ⟨_, eres_cc rfl (w5.all.part (k := 0) rfl) rfl (w4.all.part (k := 0) rfl), VF, .inr ⟨by rw [hlk]; first | decide | (show (7 : Int) ≠ 0; decide) | (show (6 : Int) ≠ 0; decide), by rw [hlk]; rfl⟩⟩
    have hml : (treeM L root).length = 512 := treeM_len L root
    have o27 := o26.fr f7 (fun g => g)
    have o37 := o36.fr f7 (fun g => g)
    have F7 := F6.quiet f7
    have ft7 := ft.quiet f7
    have ox7 := ox3.fr f7 (fun g => g)
    have rm7 := rm.fr f7 (fun _ _ _ g => g)
    have rn7 := rn.fr f7 (fun _ _ _ g => g)
    have jm7 := jm.fr0 f7
    have jn7 := jn.fr0 f7
    have hg6n : g5.next ≤ g6.next := ft.next
    have sm7 : Sl g7 (.slice (some ⟨mb, 0, none⟩) 512 (exc 512)) 1 (treeM L root).length (is (treeM L root)) := by rw [hml]; exact om.all.sl (by rw [is_len, hml]) (by decide) (Cp.exc (Nat.le_refl _))
    have snw := rnw.sl (by have := treeN_len L root; omega)
    have hnat7 : ∀ b, At nw b → g6.next ≤ b := fun b g => (rnw.at g).1
    obtain ⟨nA, nc_, rfl, _, _⟩ := snw.form
    refine RunO.all rfl ?_
    -- beyond its size
    refine RunC.seqc (fun E' h' => g7 = h' ∧ Le ((upd (upd (upd (upd (upd (upd (upd (upd (upd (upd (upd (upd (upd E0 0 (iv)) 2 (.pointer (some ⟨q2, 0, none⟩))) 3 (.pointer (some ⟨q3, 0, none⟩))) 4 (.pointer (some ⟨xb, 0, none⟩))) 5 (.int .i64 ((L.length / 64 : Nat) : Int))) 7 (.pointer (some ⟨sb, 0, none⟩))) 9 (.slice rA (lkF L).1.length rc_)) 10 (.slice bA (lkF L).2.1.length bc)) 12 (.int .i64 ((k : Int) - 1))) 13 (.int .i64 root)) 15 (.slice (some ⟨mb, 0, none⟩) 512 (exc 512))) 16 (.slice nA (treeN L root).length nc_)) 17 (.bool (!bey (treeM L root) (z : Int))))) E') ?lp2 ?nx3
    case lp2 =>
      refine RunC.seq (RunC.region (RunO.all rfl ?_))
      refine RunC.block ?_
      refine RunC.loop (fun d E h' => ∃ (j : Nat) (ok : Bool), j + d = 512 ∧ z ≤ j ∧ ok = !((((treeM L root).drop z).take (j - z)).any (· != 0)) ∧ g7 = h' ∧ Le ((upd (upd (upd (upd (upd (upd (upd (upd (upd (upd (upd (upd (upd (upd E0 0 (iv)) 2 (.pointer (some ⟨q2, 0, none⟩))) 3 (.pointer (some ⟨q3, 0, none⟩))) 4 (.pointer (some ⟨xb, 0, none⟩))) 5 (.int .i64 ((L.length / 64 : Nat) : Int))) 7 (.pointer (some ⟨sb, 0, none⟩))) 9 (.slice rA (lkF L).1.length rc_)) 10 (.slice bA (lkF L).2.1.length bc)) 12 (.int .i64 ((k : Int) - 1))) 13 (.int .i64 root)) 15 (.slice (some ⟨mb, 0, none⟩) 512 (exc 512))) 16 (.slice nA (treeN L root).length nc_)) 17 (.bool ok)) 18 (.int .i64 (j : Int)))) E) ?st4 (k := 512 - z) ?ini4
      case ini4 => exact ⟨z, true, by omega, Nat.le_refl _, by rw [Nat.sub_self]; rfl, rfl, Le.cons rfl (Le.cons rfl (Le.cons rfl (Le.cons rfl (Le.cons rfl (Le.cons rfl (Le.cons rfl (Le.cons rfl (Le.cons rfl (Le.cons rfl (Le.cons rfl (Le.cons rfl (Le.cons rfl (Le.cons rfl (Le.nil _))))))))))))))⟩
      rintro d3 E _ ⟨j, ok, hj, hzj, hokj, rfl, hE⟩
      refine RunC.le hE ?_
      clear hE
      have hbey : bey (treeM L root) (z : Int) = ((treeM L root).drop z).any (· != 0) := rfl
      refine RunC.seq (RunC.seq (RunC.region (RunO.part 3 rfl ?_)))
      by_cases hj5 : j = 512
      · rw [show decide ((j : Int) < 512) = false from decide_eq_false (by omega)]
        refine RunO.all rfl (RunC.cond rfl (fun g => by cases g) (fun _ => RunC.exit ⟨rfl, ?_⟩))
        have e : ok = !bey (treeM L root) (z : Int) := by rw [hokj, hbey, List.take_of_length_le (by rw [List.length_drop, hml]; omega)]
        rw [e]
        exact Le.cons rfl (Le.cons rfl (Le.cons rfl (Le.cons rfl (Le.cons rfl (Le.cons rfl (Le.cons rfl (Le.cons rfl (Le.cons rfl (Le.cons rfl (Le.cons rfl (Le.cons rfl (Le.cons rfl (Le.nil _)))))))))))))
      rw [show decide ((j : Int) < 512) = true from decide_eq_true (by omega)]
      cases ok with
      | false =>
        refine RunO.all rfl (RunC.cond rfl (fun g => by cases g) (fun _ => RunC.exit ⟨rfl, ?_⟩))
        have e : bey (treeM L root) (z : Int) = true := by
          have h1 : (((treeM L root).drop z).take (j - z)).any (· != 0) = true := by
            cases hq : (((treeM L root).drop z).take (j - z)).any (· != 0) with
            | true => rfl
            | false => rw [hq] at hokj; cases hokj
          obtain ⟨x, hx, hx2⟩ := List.any_eq_true.1 h1
          rw [hbey]
          exact List.any_eq_true.2 ⟨x, List.mem_of_mem_take hx, hx2⟩
        rw [e]
        exact Le.cons rfl (Le.cons rfl (Le.cons rfl (Le.cons rfl (Le.cons rfl (Le.cons rfl (Le.cons rfl (Le.cons rfl (Le.cons rfl (Le.cons rfl (Le.cons rfl (Le.cons rfl (Le.cons rfl (Le.nil _)))))))))))))
      | true =>
        have hjl : j < (treeM L root).length := by omega
        have hpt := is_part hjl
        have hst : (((treeM L root).drop z).take (j + 1 - z)).any (· != 0) = ((treeM L root)[j] != 0) := by
          have hdl2 : j - z < ((treeM L root).drop z).length := by rw [List.length_drop]; omega
          have hprev : (((treeM L root).drop z).take (j - z)).any (· != 0) = false := by
            cases hq : (((treeM L root).drop z).take (j - z)).any (· != 0) with
            | false => rfl
            | true => rw [hq] at hokj; cases hokj
          rw [show j + 1 - z = (j - z) + 1 by omega, List.take_succ_eq_append_getElem hdl2, List.any_append, hprev, List.any_cons, List.any_nil, Bool.false_or, Bool.or_false, List.getElem_drop]
          congr 2
          omega
        refine RunO.all rfl (RunC.cond rfl (fun _ => RunC.skip ?_) (fun g => by cases g))
        refine RunC.seq (RunC.block ?_)
        rw [hml] at sm7
        refine RunC.region (RunO.part 2 rfl ?_)
        refine RunO.atG (s := 1) (k := j) rfl (fun _ => rfl) rfl rfl sm7 rfl rfl (by omega) hpt rfl rfl rfl ?_
        refine RunO.all rfl ?_
        refine RunC.region (RunO.all rfl ?_)
        exact ⟨d3 - 1, by omega, j + 1, ((treeM L root)[j] == 0), by omega, by omega, by rw [hst]; exact (Bool.not_not _).symm, rfl, Le.cons (inc64 (by omega)) (Le.cons rfl (Le.cons rfl (Le.cons rfl (Le.cons rfl (Le.cons rfl (Le.cons rfl (Le.cons rfl (Le.cons rfl (Le.cons rfl (Le.cons rfl (Le.cons rfl (Le.cons rfl (Le.cons rfl (Le.nil _))))))))))))))⟩
    rintro E' _ ⟨rfl, hE⟩
    refine RunC.le hE ?_
    clear hE
    cases hby : bey (treeM L root) (z : Int) with
    | true =>
      have hlk := hfind (by rw [hX, hok, hby]; rfl)
      refine RunC.seq (RunC.seq (RunC.region (RunO.all rfl (RunC.cond rfl (fun _ => ?_) (fun g => by cases g)))))
      refine RunC.seq (RunC.region ?_)
      refine RunO.part 3 rfl ?_
      refine RunO.store rfl rfl (store_ow (s := 10) o27 rfl rfl rfl (Nat.le_refl 10)) ?_
      show RunO prog _ _ _ _ (g7.put q2 (some ⟨(imx (0, 0, 0, 0, 0) 0 (.slice none 0 0) (.slice none 0 0) (.slice none 0 0) (.slice none 0 0)), true⟩)) _
      have w2 : Ow (g7.put q2 (some ⟨(imx (0, 0, 0, 0, 0) 0 (.slice none 0 0) (.slice none 0 0) (.slice none 0 0) (.slice none 0 0)), true⟩)) q2 (imx (0, 0, 0, 0, 0) 0 (.slice none 0 0) (.slice none 0 0) (.slice none 0 0) (.slice none 0 0)) := Ow.put _ o27.1
      have v2 : Fr (· = q2) g7 (g7.put q2 (some ⟨(imx (0, 0, 0, 0, 0) 0 (.slice none 0 0) (.slice none 0 0) (.slice none 0 0) (.slice none 0 0)), true⟩)) := Fr.put _ (.inl rfl)
      generalize g7.put q2 (some ⟨(imx (0, 0, 0, 0, 0) 0 (.slice none 0 0) (.slice none 0 0) (.slice none 0 0) (.slice none 0 0)), true⟩) = gA at *
      have w3 := o37.fr v2 (fun e => by have e : q3 = q2 := e; omega)
      refine RunO.store rfl rfl (store_ow (s := 2) w3 rfl rfl rfl (Nat.le_refl 2)) (RunO.all rfl ?_)
      show RunC prog _ _ _ (gA.put q3 (some ⟨[.int .i64 (root), .int .i64 (6)], true⟩)) _ _ _
      have w4 : Ow (gA.put q3 (some ⟨[.int .i64 (root), .int .i64 (6)], true⟩)) q3 [.int .i64 (root), .int .i64 (6)] := Ow.put _ w3.1
      have v3 : Fr (· = q3) gA (gA.put q3 (some ⟨[.int .i64 (root), .int .i64 (6)], true⟩)) := Fr.put _ (.inl rfl)
      have w5 := w2.fr v3 (fun e => by have e : q2 = q3 := e; omega)
      generalize gA.put q3 (some ⟨[.int .i64 (root), .int .i64 (6)], true⟩) = gB at *
      have VF : Fr no h gB := frNo ((F7.trans v2 (fun b e => .inl (by have e : b = q2 := e; omega))).trans v3 (fun b e => .inl (by have e : b = q3 := e; omega)))
      exact RunC.ret ⟨_, eres_cc rfl (w5.all.part (k := 0) rfl) rfl (w4.all.part (k := 0) rfl), VF, .inr ⟨by rw [hlk]; first | decide | (show (7 : Int) ≠ 0; decide) | (show (6 : Int) ≠ 0; decide), by rw [hlk]; rfl⟩⟩
    | false =>
    refine RunC.seq (RunC.seq (RunC.region (RunO.all rfl (RunC.cond rfl (fun g => by cases g) (fun _ => RunC.skip ?_)))))
    have hmx : ∀ b, At mv b → g5.next ≤ b ∧ b < g6.next := fun b g => rm.at g
    have hnx_ : ∀ b, At nv b → g5.next ≤ b ∧ b < g6.next := fun b g => rn.at g
    have hg67 : g6.next ≤ g7.next := f7.next
    refine RunC.drawW (fun b => b = xb ∨ At mv b ∨ At nv b) (p := (4, 6)) (ps := []) rfl ?_
    refine RunW.pure rfl rfl (fun _ => rfl) rfl ?_
    refine RunW.load (v := mv) rfl rfl (ox7.ld rfl) rfl ?_
    refine RunW.pure rfl rfl (fun _ => rfl) rfl ?_
    refine RunW.new (ob := ⟨[.slice (some ⟨mb, 0, none⟩) 512 (exc 512)], true⟩) rfl rfl (fun _ => rfl) rfl ?_
    have ot := Ow.push g7 [.slice (some ⟨mb, 0, none⟩) 512 (exc 512)]
    have f8 : Fr no g7 (g7.push ⟨[.slice (some ⟨mb, 0, none⟩) 512 (exc 512)], true⟩) := Fr.push _ _ _
    have rm8 := rm7.fr f8 (fun _ _ _ g => g)
    have rn8 := rn7.fr f8 (fun _ _ _ g => g)
    have ox8 := ox7.fr f8 (fun g => g)
    have hn8 : g7.next < (g7.push ⟨[.slice (some ⟨mb, 0, none⟩) 512 (exc 512)], true⟩).next := ot.1
    generalize g7.push ⟨[.slice (some ⟨mb, 0, none⟩) 512 (exc 512)], true⟩ = g8 at *
    obtain ⟨tb, htb⟩ : ∃ q, q = (g7.lo g7.next).next := ⟨_, rfl⟩
    have htb2 : tb = g7.next := htb
    rw [← htb]
    rw [← htb2] at ot hn8
    refine RunW.append2 (s := 1) (j := 1) rfl rfl rfl rfl rfl rfl rfl rfl rfl (by decide) rm8 ot.all rfl (Nat.le_refl 1) rfl (by show 2 * (_ + 1) * 24 ≤ _; omega) (by omega) (fun b g => .inr (.inl g)) ?_
    intro mv2 g9 rm9 f9
    have ox9 := ox8.fr f9 (fun g => by have := hmx xb g; omega)
    have rn9 := rn8.frm f9 (fun b g e => hmn b e g)
    refine RunW.pure rfl rfl (fun _ => rfl) rfl ?_
    refine RunW.load (v := nv) rfl rfl (ox9.ld rfl) rfl ?_
    refine RunW.pure rfl rfl (fun _ => rfl) rfl ?_
    refine RunW.new (ob := ⟨[.slice nA (treeN L root).length nc_], true⟩) rfl rfl (fun _ => rfl) rfl ?_
    have ou := Ow.push g9 [.slice nA (treeN L root).length nc_]
    have fa : Fr no g9 (g9.push ⟨[.slice nA (treeN L root).length nc_], true⟩) := Fr.push _ _ _
    have rma := rm9.fr fa (fun _ _ _ g => g)
    have rna := rn9.fr fa (fun _ _ _ g => g)
    have oxa := ox9.fr fa (fun g => g)
    have hna : g9.next < (g9.push ⟨[.slice nA (treeN L root).length nc_], true⟩).next := ou.1
    have hn9 := f9.next
    generalize g9.push ⟨[.slice nA (treeN L root).length nc_], true⟩ = ga at *
    refine RunW.append2 (s := 1) (j := 1) rfl rfl rfl rfl rfl rfl rfl rfl rfl (by decide) rna ou.all rfl (Nat.le_refl 1) rfl (by show 2 * (_ + 1) * 24 ≤ _; omega) (by omega) (fun b g => .inr (.inr g)) ?_
    intro nv2 gb rnb fb
    have hm2 : ∀ b, At mv2 b → g8.next ≤ b ∧ b < g9.next := fun b g => rm9.at g
    have hn2 : ∀ b, At nv2 b → ga.next ≤ b ∧ b < gb.next := fun b g => rnb.at g
    have oxb := oxa.fr fb (fun g => by have := hnx_ xb g; omega)
    have rmb := rma.frm fb (fun b g e => by have := hm2 b g; have := hnx_ b e; omega)
    refine RunW.pure rfl rfl (fun _ => rfl) rfl ?_
    have fsb : Fr (· = xb) (gb.lo gb.next) ((gb.lo gb.next).put xb (some ⟨imx S slot (.slice rA (lkF L).1.length rc_) (.slice bA (lkF L).2.1.length bc) mv2 nv, true⟩)) := Fr.put _ (.inl rfl)
    have oxc : Ow ((gb.lo gb.next).put xb (some ⟨imx S slot (.slice rA (lkF L).1.length rc_) (.slice bA (lkF L).2.1.length bc) mv2 nv, true⟩)) xb (imx S slot (.slice rA (lkF L).1.length rc_) (.slice bA (lkF L).2.1.length bc) mv2 nv) := Ow.put _ oxb.1
    have rmc := Row.frm (h := gb.lo gb.next) rmb fsb (fun b g e => by have := hm2 b g; have e : b = xb := e; omega)
    have rnc := Row.frm (h := gb.lo gb.next) rnb fsb (fun b g e => by have := hn2 b g; have e : b = xb := e; omega)
    refine RunW.store rfl rfl rfl (store1_ow (h := gb.lo gb.next) oxb rfl (rm9.cell).1 (rm9.cell).2 (Nat.le_of_ble_eq_true rfl)) (Fr.put _ (.inl (.inl rfl))) ?_
    show RunW prog _ _ _ _ _ ((gb.lo gb.next).put xb (some ⟨imx S slot (.slice rA (lkF L).1.length rc_) (.slice bA (lkF L).2.1.length bc) mv2 nv, true⟩)) _
    generalize (gb.lo gb.next).put xb (some ⟨imx S slot (.slice rA (lkF L).1.length rc_) (.slice bA (lkF L).2.1.length bc) mv2 nv, true⟩) = gc at *
    refine RunW.pure rfl rfl (fun _ => rfl) rfl ?_
    have fsc : Fr (· = xb) (gc.lo gc.next) ((gc.lo gc.next).put xb (some ⟨imx S slot (.slice rA (lkF L).1.length rc_) (.slice bA (lkF L).2.1.length bc) mv2 nv2, true⟩)) := Fr.put _ (.inl rfl)
    have oxd : Ow ((gc.lo gc.next).put xb (some ⟨imx S slot (.slice rA (lkF L).1.length rc_) (.slice bA (lkF L).2.1.length bc) mv2 nv2, true⟩)) xb (imx S slot (.slice rA (lkF L).1.length rc_) (.slice bA (lkF L).2.1.length bc) mv2 nv2) := Ow.put _ oxc.1
    have rmd := Row.frm (h := gc.lo gc.next) rmc fsc (fun b g e => by have := hm2 b g; have e : b = xb := e; omega)
    have rnd := Row.frm (h := gc.lo gc.next) rnc fsc (fun b g e => by have := hn2 b g; have e : b = xb := e; omega)
    refine RunW.store rfl rfl rfl (store1_ow (h := gc.lo gc.next) oxc rfl (rnb.cell).1 (rnb.cell).2 (Nat.le_of_ble_eq_true rfl)) (Fr.put _ (.inl (.inl rfl))) ?_
    show RunW prog _ _ _ _ _ ((gc.lo gc.next).put xb (some ⟨imx S slot (.slice rA (lkF L).1.length rc_) (.slice bA (lkF L).2.1.length bc) mv2 nv2, true⟩)) _
    generalize (gc.lo gc.next).put xb (some ⟨imx S slot (.slice rA (lkF L).1.length rc_) (.slice bA (lkF L).2.1.length bc) mv2 nv2, true⟩) = gd at *
    refine RunW.nil ⟨?_, fun lw FW => ?_⟩
    · show cond (fpOk (.wr (idsOf [mv, .slice (some ⟨tb, 0, none⟩) 1 (exc 1)])) (.rd xb)) true false = true
      rw [idsN rm8 (fun b g => by have := hmx b g; omega) (by omega)]; rfl
    have oxz : Ow (gd.lo lw) xb (imx S slot (.slice rA (lkF L).1.length rc_) (.slice bA (lkF L).2.1.length bc) mv2 nv2) := oxd
    have rmz : Row g8.next (gd.lo lw) mv2 1 (k + 1) (cm ++ [.slice (some ⟨mb, 0, none⟩) 512 (exc 512)]) := rmd
    have rnz : Row ga.next (gd.lo lw) nv2 1 (k + 1) (cn ++ [.slice nA (treeN L root).length nc_]) := rnd
    have hNV : ∀ b o c, (.slice nA (treeN L root).length nc_ : Value) = .slice (some ⟨b, o, none⟩) (treeN L root).length c → g6.next ≤ b ∧ b < g7.next := fun b o c e => ⟨Gr.ge rnw.gr b o _ c e, snw.lt b o c e⟩
    have hmbl : mb < g7.next := om.1
    have NN : ∀ {cs : List Value} {rows : List (List Int)}, JEl (fun b => g5.next ≤ b ∧ ¬ At mv b ∧ ¬ At nv b) g7 cs rows → JEl (fun b => g5.next ≤ b ∧ ¬ At mv2 b ∧ ¬ At nv2 b) (gd.lo lw) cs rows := fun j =>
      ((j.weak (M := fun b => b < g7.next ∧ (g5.next ≤ b ∧ ¬ At mv b ∧ ¬ At nv b)) (fun b hb hN => ⟨hb, hN⟩)).frm FW (fun b hN hM => by
        rcases hM with e | e | e
        · omega
        · exact hN.2.2.1 e
        · exact hN.2.2.2 e)).weak (fun b _ hN => ⟨hN.2.1, fun g => by have := hm2 b g; omega, fun g => by have := hn2 b g; omega⟩)
    have hNmb : g5.next ≤ mb ∧ ¬ At mv mb ∧ ¬ At nv mb := ⟨by omega, fun g => by have := hmx mb g; omega, fun g => by have := hnx_ mb g; omega⟩
    have jm8 := NN (jm7.snoc (w := .slice (some ⟨mb, 0, none⟩) 512 (exc 512)) (x := treeM L root) sm7 (fun b o c e => by rw [hml] at e; cases e; exact hNmb))
    have jn8 := NN (jn7.snoc (w := .slice nA (treeN L root).length nc_) (x := treeN L root) snw (fun b o c e => by
      have h1 := hNV b o c e
      exact ⟨by omega, fun g => by have := hmx b g; omega, fun g => by have := hnx_ b g; omega⟩))
    have tkM : ((lkR L).map fun p => treeM L p.1).take (k + 1) = ((lkR L).map fun p => treeM L p.1).take k ++ [treeM L root] := by
      rw [List.take_succ_eq_append_getElem (by rw [List.length_map]; exact hlt), List.getElem_map, ← hpe]
    have tkN : ((lkR L).map fun p => treeN L p.1).take (k + 1) = ((lkR L).map fun p => treeN L p.1).take k ++ [treeN L root] := by
      rw [List.take_succ_eq_append_getElem (by rw [List.length_map]; exact hlt), List.getElem_map, ← hpe]
    refine RunC.region (RunO.part 2 rfl ?_)
    rw [fw64 (x := (k : Int) - 1 + 1) (by omega) (by omega), show (k : Int) - 1 + 1 = ((k + 1 : Nat) : Int) - 1 by omega]
    refine RunO.all rfl ?_
    refine ⟨d - 1, by omega, k + 1, mv2, nv2, cm ++ [.slice (some ⟨mb, 0, none⟩) 512 (exc 512)], cn ++ [.slice nA (treeN L root).length nc_], by omega, fun j hj hjk => ?_, ft7.trans FW (fun b g => ?_), oxz, Row.lo rmz (by omega), Row.lo rnz (by omega), by rw [tkM]; exact jm8, by rw [tkN]; exact jn8, fun b g g2 => ?_, Le.cons rfl (Le.cons rfl (Le.cons rfl (Le.cons rfl (Le.cons rfl (Le.cons rfl (Le.cons rfl (Le.cons rfl (Le.cons rfl (Le.nil _)))))))))⟩
    · by_cases e : j = k
      · subst e; rw [hX, hok, hby]; rfl
      · exact hno j hj (by omega)
    · rcases g with g | g | g
      · exact .inl g
      · exact .inr (hmat b g)
      · exact .inr (hnat b g)
    · have := hm2 b g; have := hn2 b g2; omega
  have hge := of_decide_eq_false hge
  obtain rfl : k = (lkR L).length := by omega
  rw [List.take_of_length_le (by rw [List.length_map]; exact Nat.le_refl _)] at jm jn
  have hallX : ∀ p ∈ lkR L, treeOk L p.1 = true := fun p hpm => by
    obtain ⟨j, hj, e⟩ := List.mem_iff_getElem.1 hpm
    have := hno j hj hj
    rw [e] at this
    unfold lkX at this
    rw [Bool.or_eq_false_iff] at this
    have h1 := this.1
    cases hq : treeOk L p.1 with
    | true => rfl
    | false => rw [hq] at h1; cases h1
  have hfnone : (lkR L).find? (lkX L) = none := List.find?_eq_none.2 (fun p hpm => by
    obtain ⟨j, hj, e⟩ := List.mem_iff_getElem.1 hpm
    have := hno j hj hj
    rw [e] at this
    rw [this]; simp)
  have hlkM : lkM L = (lkC L, if lkC L = 0 then 0 else 6) := by unfold lkM; rw [hfnone]
  rw [hlkM] at hlk
  obtain ⟨B, hB⟩ : ∃ B, B = L.length / 64 := ⟨_, rfl⟩
  have hC : lkC L = clV (L.length / 64) (lkF L).2.1 (lkT L) := rfl
  rw [← hB] at hC hbr hdl ⊢
  have hrng := fun p hpm => tree_rng (L := L) hd (hallX p hpm)
  rw [← hB] at hrng
  obtain ⟨bl, hbl⟩ : ∃ b, b = (lkF L).2.1 := ⟨_, rfl⟩
  -- what each block is
  refine RunC.seq (RunC.region (RunO.part 1 rfl ?_))
  refine RunO.make (m := B) rfl rfl rfl rfl rfl rfl (show 8 * B ≤ _ by omega) (by omega) rfl ?_
  rw [reps_is]
  have oi := Ow.push g6 (is (List.replicate B 0))
  have f7 : Fr no g6 (g6.push ⟨is (List.replicate B 0), true⟩) := Fr.push _ _ _
  have hmat6 : ∀ b, At mv b → b < g6.next := fun b g => (rm.at g).2
  have hnat6 : ∀ b, At nv b → b < g6.next := fun b g => (rn.at g).2
  have jm6 := jm.weak (M := fun b => g5.next ≤ b ∧ b < g6.next) (fun b hb hN => ⟨hN.1, hb⟩)
  have jn6 := jn.weak (M := fun b => g5.next ≤ b ∧ b < g6.next) (fun b hb hN => ⟨hN.1, hb⟩)
  replace o26 := o26.fr f7 (fun g => g)
  replace o36 := o36.fr f7 (fun g => g)
  replace ox3 := ox3.fr f7 (fun g => g)
  replace rl6 := rl6.fr0 f7
  replace rb6 := rb6.fr0 f7
  replace rm := rm.fr f7 (fun _ _ _ g => g)
  replace rn := rn.fr f7 (fun _ _ _ g => g)
  replace jm6 := jm6.fr0 f7
  replace jn6 := jn6.fr0 f7
  clear jm jn
  replace F6 := F6.quiet f7
  have hix : xb < g6.next ∧ q2 < g6.next ∧ q3 < g6.next := ⟨by have := ft.next; omega, by have := ft.next; omega, by have := ft.next; omega⟩
  have hbat6 : ∀ b, At (.slice bA (lkF L).2.1.length bc) b → b < g6.next := fun b g => by
    have := (rb.at g).2
    have := ft.next
    omega
  have hrat6 : ∀ b, At (.slice rA (lkF L).1.length rc_) b → b < g6.next := fun b g => by
    have := (rl.at g).2
    have := ft.next
    omega
  generalize g6.push ⟨is (List.replicate B 0), true⟩ = g7 at *
  obtain ⟨ib, hib⟩ : ∃ q, q = g6.next := ⟨_, rfl⟩
  rw [← hib] at oi ⊢
  rw [← isA_zero B] at oi
  have srm := rm.sl (by omega)
  have srn := rn.sl (by omega)
  obtain ⟨mA, mc, rfl, _, _⟩ := srm.form
  obtain ⟨nA, nc_, rfl, _, _⟩ := srn.form
  refine RunO.all rfl ?_
  refine RunC.seq (RunC.seq (RunC.region (RunO.all rfl ?_)))
  refine RunC.block ?_
  refine RunC.loop (fun d E h' => ∃ i : Nat, i + d = (lkF L).2.1.length ∧ Fr (· = ib) g7 h' ∧ Ow h' ib (is (isA B ((lkF L).2.1.take i) [] [])) ∧ Le ((upd (upd (upd (upd (upd (upd (upd (upd E0 0 (iv)) 2 (.pointer (some ⟨q2, 0, none⟩))) 3 (.pointer (some ⟨q3, 0, none⟩))) 4 (.pointer (some ⟨xb, 0, none⟩))) 5 (.int .i64 (B : Int))) 10 (.slice bA (lkF L).2.1.length bc)) 19 (.slice (some ⟨ib, 0, none⟩) B (exc B))) 20 (.int .i64 (i : Int)))) E) ?sa (k := (lkF L).2.1.length) ?ia
  case ia => exact ⟨0, by omega, Fr.refl _ _, oi, Le.cons rfl (Le.cons rfl (Le.cons rfl (Le.cons rfl (Le.cons rfl (Le.cons rfl (Le.cons rfl (Le.cons rfl (Le.nil _))))))))⟩
  rintro d E g8 ⟨i, hi, fi, oi8, hE⟩
  refine RunC.le hE ?_
  clear hE
  have sb8 := (rb6.frm fi (fun b g e => by have := hbat6 b g; have e : b = ib := e; omega)).sl (by omega)
  refine RunC.seq (RunC.seq (RunC.region (RunO.all rfl ?_)))
  refine RunC.cond rfl (fun hlt => RunC.skip ?goa) (fun hge => RunC.exit ?exa)
  case goa =>
    have hlt := of_decide_eq_true hlt
    have hlt : i < (lkF L).2.1.length := by omega
    have hpt := is_part hlt
    have hr := hbr _ (List.getElem_mem hlt)
    obtain ⟨a, ha⟩ := Int.eq_ofNat_of_zero_le (show 0 ≤ (lkF L).2.1[i] by omega)
    rw [ha] at hpt
    have haB : a < B := by omega
    have hset := isA_bl hlt ha haB
    refine RunC.seq (RunC.block ?_)
    refine RunC.region (RunO.part 3 rfl ?_)
    refine RunO.at (s := 1) (k := i) rfl rfl sb8 rfl rfl hlt hpt rfl rfl rfl ?_
    refine RunO.index (s := 1) (k := a) rfl rfl rfl rfl haB rfl ?_
    refine RunO.store rfl rfl (store1_ow oi8 rfl rfl rfl (by rw [is_len, isA_len]; omega)) (RunO.nil ?_)
    rw [isv_set, hset]
    refine RunC.region (RunO.all rfl ?_)
    exact ⟨d - 1, by omega, i + 1, by omega, fi.same (Fr.put _ (.inl rfl)), Ow.put _ oi8.1, Le.cons (inc64 (by omega)) (Le.cons rfl (Le.cons rfl (Le.cons rfl (Le.cons rfl (Le.cons rfl (Le.cons rfl (Le.cons rfl (Le.nil _))))))))⟩
  have hge := of_decide_eq_false hge
  obtain rfl : i = (lkF L).2.1.length := by omega
  rw [List.take_length] at oi8
  refine RunC.seq (RunC.region (RunO.all rfl ?_))
  -- the trees' blocks
  refine RunC.seq (RunC.seq (RunC.region (RunO.all rfl ?_)))
  refine RunC.block ?_
  refine RunC.loop (fun d E h' => ∃ (i bad : Nat), i + d = (lkR L).length ∧ Fr (· = ib) g7 h' ∧ Ow h' ib (is (isA B (lkF L).2.1 (nsO L ((lkR L).take i)) (ssO L ((lkR L).take i)))) ∧ BadI B (lkF L).2.1 (nsO L ((lkR L).take i)) (ssO L ((lkR L).take i)) bad ∧ Le ((upd (upd (upd (upd (upd (upd (upd (upd (upd E0 0 (iv)) 2 (.pointer (some ⟨q2, 0, none⟩))) 3 (.pointer (some ⟨q3, 0, none⟩))) 4 (.pointer (some ⟨xb, 0, none⟩))) 5 (.int .i64 (B : Int))) 10 (.slice bA (lkF L).2.1.length bc)) 19 (.slice (some ⟨ib, 0, none⟩) B (exc B))) 11 (.int .i64 (bad : Int))) 21 (.int .i64 (i : Int)))) E) ?sb (k := (lkR L).length) ?ib_
  case ib_ => exact ⟨0, B, by omega, fi, oi8, badI_init _ _, Le.cons rfl (Le.cons rfl (Le.cons rfl (Le.cons rfl (Le.cons rfl (Le.cons rfl (Le.cons rfl (Le.cons rfl (Le.cons rfl (Le.nil _)))))))))⟩
  rintro d E g9 ⟨i, bad, hi, ff, oi9, bI, hE⟩
  refine RunC.le hE ?_
  clear hE
  have ox9 := ox3.fr ff (fun e => by have e : xb = ib := e; omega)
  have srm9 := (rm.frm ff (fun b g e => by have := hmat6 b g; have e : b = ib := e; omega)).sl (by omega)
  have srn9 := (rn.frm ff (fun b g e => by have := hnat6 b g; have e : b = ib := e; omega)).sl (by omega)
  refine RunC.seq (RunC.seq (RunC.region (RunO.part 2 rfl ?_)))
  refine RunO.load (v := .slice mA (lkR L).length mc) rfl (ox9.ld rfl) rfl ?_
  refine RunO.all rfl ?_
  refine RunC.cond rfl (fun hlt => RunC.skip ?gob) (fun hge => RunC.exit ?exb)
  case exb =>
    have hge := of_decide_eq_false hge
    obtain rfl : i = (lkR L).length := by omega
    rw [List.take_length] at bI
    have hcl : lkC L = if bad < B then (bad : Int) else 0 := by
      rw [hC]
      exact badI_cl bI (fun j => cf_cl L _ _ j)
    have o29 := o26.fr ff (fun e => by have e : q2 = ib := e; omega)
    have o39 := o36.fr ff (fun e => by have e : q3 = ib := e; omega)
    have F9 := F6.trans ff (fun b e => .inl (by have e : b = ib := e; have := F6.next; omega))
    refine RunC.seq (RunC.seq (RunC.region (RunO.all rfl ?_)))
    by_cases hbB : bad < B
    · rw [show decide ((bad : Int) < (B : Int)) = true from decide_eq_true (by omega)]
      rw [if_pos hbB] at hcl
      have hb0 : bad ≠ 0 := fun e => by
        have := bI.is hbB
        rw [cf_cl, e] at this
        rw [clP_zero (fun x hx => (hbr x hx).1) (fun t ht x hx => by
          obtain ⟨t1, ht1, rfl⟩ := List.mem_map.1 ht
          obtain ⟨p, hpm, rfl⟩ := List.mem_map.1 ht1
          exact ((hrng p hpm).2 x hx).1)] at this
        cases this
      rw [hcl, if_neg (show ¬ (bad : Int) = 0 by omega)] at hlk
      refine RunC.cond rfl (fun _ => ?_) (fun g => by cases g)
      refine RunC.seq (RunC.region ?_)
      refine RunO.part 3 rfl ?_
      refine RunO.store rfl rfl (store_ow (s := 10) o29 rfl rfl rfl (Nat.le_refl 10)) ?_
      show RunO prog _ _ _ _ (g9.put q2 (some ⟨(imx (0, 0, 0, 0, 0) 0 (.slice none 0 0) (.slice none 0 0) (.slice none 0 0) (.slice none 0 0)), true⟩)) _
      have w2 : Ow (g9.put q2 (some ⟨(imx (0, 0, 0, 0, 0) 0 (.slice none 0 0) (.slice none 0 0) (.slice none 0 0) (.slice none 0 0)), true⟩)) q2 (imx (0, 0, 0, 0, 0) 0 (.slice none 0 0) (.slice none 0 0) (.slice none 0 0) (.slice none 0 0)) := Ow.put _ o29.1
      have v2 : Fr (· = q2) g9 (g9.put q2 (some ⟨(imx (0, 0, 0, 0, 0) 0 (.slice none 0 0) (.slice none 0 0) (.slice none 0 0) (.slice none 0 0)), true⟩)) := Fr.put _ (.inl rfl)
      generalize g9.put q2 (some ⟨(imx (0, 0, 0, 0, 0) 0 (.slice none 0 0) (.slice none 0 0) (.slice none 0 0) (.slice none 0 0)), true⟩) = gA at *
      have w3 := o39.fr v2 (fun e => by have e : q3 = q2 := e; omega)
      refine RunO.store rfl rfl (store_ow (s := 2) w3 rfl rfl rfl (Nat.le_refl 2)) (RunO.all rfl ?_)
      show RunC prog _ _ _ (gA.put q3 (some ⟨[.int .i64 ((bad : Int)), .int .i64 (6)], true⟩)) _ _ _
      have w4 : Ow (gA.put q3 (some ⟨[.int .i64 ((bad : Int)), .int .i64 (6)], true⟩)) q3 [.int .i64 ((bad : Int)), .int .i64 (6)] := Ow.put _ w3.1
      have v3 : Fr (· = q3) gA (gA.put q3 (some ⟨[.int .i64 ((bad : Int)), .int .i64 (6)], true⟩)) := Fr.put _ (.inl rfl)
      have w5 := w2.fr v3 (fun e => by have e : q2 = q3 := e; omega)
      generalize gA.put q3 (some ⟨[.int .i64 ((bad : Int)), .int .i64 (6)], true⟩) = gB at *
      have VF : Fr no h gB := frNo ((F9.trans v2 (fun b e => .inl (by have e : b = q2 := e; omega))).trans v3 (fun b e => .inl (by have e : b = q3 := e; omega)))
      exact RunC.ret ⟨_, eres_cc rfl (w5.all.part (k := 0) rfl) rfl (w4.all.part (k := 0) rfl), VF, .inr ⟨by rw [hlk]; show (6 : Int) ≠ 0; decide, by rw [hlk]; rfl⟩⟩
    · rw [show decide ((bad : Int) < (B : Int)) = false from decide_eq_false (by omega)]
      rw [if_neg hbB] at hcl
      rw [hcl, if_pos rfl] at hlk
      refine RunC.cond rfl (fun g => by cases g) (fun _ => RunC.skip ?_)
      refine RunC.seq (RunC.region ?_)
      refine RunO.load (v := .agg ⟨(imx S slot (.slice rA (lkF L).1.length rc_) (.slice bA (lkF L).2.1.length bc) (.slice mA (lkR L).length mc) (.slice nA (lkR L).length nc_))⟩) rfl (ox9.ld rfl) rfl ?_
      refine RunO.part 1 rfl ?_
      refine RunO.store rfl rfl (store_ow (s := 10) o29 rfl rfl rfl (Nat.le_refl 10)) ?_
      show RunO prog _ _ _ _ (g9.put q2 (some ⟨(imx S slot (.slice rA (lkF L).1.length rc_) (.slice bA (lkF L).2.1.length bc) (.slice mA (lkR L).length mc) (.slice nA (lkR L).length nc_)), true⟩)) _
      have w2 : Ow (g9.put q2 (some ⟨(imx S slot (.slice rA (lkF L).1.length rc_) (.slice bA (lkF L).2.1.length bc) (.slice mA (lkR L).length mc) (.slice nA (lkR L).length nc_)), true⟩)) q2 (imx S slot (.slice rA (lkF L).1.length rc_) (.slice bA (lkF L).2.1.length bc) (.slice mA (lkR L).length mc) (.slice nA (lkR L).length nc_)) := Ow.put _ o29.1
      have v2 : Fr (· = q2) g9 (g9.put q2 (some ⟨(imx S slot (.slice rA (lkF L).1.length rc_) (.slice bA (lkF L).2.1.length bc) (.slice mA (lkR L).length mc) (.slice nA (lkR L).length nc_)), true⟩)) := Fr.put _ (.inl rfl)
      generalize g9.put q2 (some ⟨(imx S slot (.slice rA (lkF L).1.length rc_) (.slice bA (lkF L).2.1.length bc) (.slice mA (lkR L).length mc) (.slice nA (lkR L).length nc_)), true⟩) = gA at *
      have w3 := o39.fr v2 (fun e => by have e : q3 = q2 := e; omega)
      refine RunO.store rfl rfl (store_ow (s := 2) w3 rfl rfl rfl (Nat.le_refl 2)) (RunO.all rfl ?_)
      show RunC prog _ _ _ (gA.put q3 (some ⟨[.int .i64 (0), .int .i64 (0)], true⟩)) _ _ _
      have w4 : Ow (gA.put q3 (some ⟨[.int .i64 (0), .int .i64 (0)], true⟩)) q3 [.int .i64 (0), .int .i64 (0)] := Ow.put _ w3.1
      have v3 : Fr (· = q3) gA (gA.put q3 (some ⟨[.int .i64 (0), .int .i64 (0)], true⟩)) := Fr.put _ (.inl rfl)
      have w5 := w2.fr v3 (fun e => by have e : q2 = q3 := e; omega)
      generalize gA.put q3 (some ⟨[.int .i64 (0), .int .i64 (0)], true⟩) = gB at *
      have VF : Fr no h gB := frNo ((F9.trans v2 (fun b e => .inl (by have e : b = q2 := e; omega))).trans v3 (fun b e => .inl (by have e : b = q3 := e; omega)))
      exact RunC.ret ⟨_, eres_cc rfl (w5.all.part (k := 0) rfl) rfl (w4.all.part (k := 0) rfl), VF, .inl ⟨by rw [hlk], _, _, _, _, cm, cn, by rw [hS, ← hSe]; first | done | rfl, (((rl6.frm ff (fun b g e => by have := hrat6 b g; have e : b = ib := e; omega)).frm v2 (fun b g e => by have := hrat b g; have e : b = q2 := e; omega)).frm v3 (fun b g e => by have := hrat b g; have e : b = q3 := e; omega)).sl (by omega), (((rb6.frm ff (fun b g e => by have := hbat6 b g; have e : b = ib := e; omega)).frm v2 (fun b g e => by have := hbat b g; have e : b = q2 := e; omega)).frm v3 (fun b g e => by have := hbat b g; have e : b = q3 := e; omega)).sl (by omega), (((rm.frm ff (fun b g e => by have := hmat6 b g; have e : b = ib := e; omega)).frm v2 (fun b g e => by have := hmat b g; have e : b = q2 := e; omega)).frm v3 (fun b g e => by have := hmat b g; have e : b = q3 := e; omega)).sl (by omega), (((jm6.frm ff (fun b g e => by have e : b = ib := e; omega)).frm v2 (fun b g e => by have e : b = q2 := e; omega)).frm v3 (fun b g e => by have e : b = q3 := e; omega)).weak (fun _ _ _ => trivial), (((rn.frm ff (fun b g e => by have := hnat6 b g; have e : b = ib := e; omega)).frm v2 (fun b g e => by have := hnat b g; have e : b = q2 := e; omega)).frm v3 (fun b g e => by have := hnat b g; have e : b = q3 := e; omega)).sl (by omega), (((jn6.frm ff (fun b g e => by have e : b = ib := e; omega)).frm v2 (fun b g e => by have e : b = q2 := e; omega)).frm v3 (fun b g e => by have e : b = q3 := e; omega)).weak (fun _ _ _ => trivial)⟩⟩
  have hlt := of_decide_eq_true hlt
  have hlt : i < (lkR L).length := by omega
  obtain ⟨p, hpe⟩ : ∃ p, p = (lkR L)[i] := ⟨_, rfl⟩
  have hpm : p ∈ lkR L := by rw [hpe]; exact List.getElem_mem hlt
  obtain ⟨hrm, hrn⟩ := hrng p hpm
  have hml := treeM_len L p.1
  have hnl := treeN_len L p.1
  have tkN : nsO L ((lkR L).take (i + 1)) = nsO L ((lkR L).take i) ++ treeN L p.1 := by
    unfold nsO
    rw [List.take_succ_eq_append_getElem hlt, List.flatMap_append, ← hpe]; simp
  have tkS : ssO L ((lkR L).take (i + 1)) = ssO L ((lkR L).take i) ++ (treeM L p.1).filter (· != 0) := by
    unfold ssO
    rw [List.take_succ_eq_append_getElem hlt, List.flatMap_append, ← hpe]; simp
  obtain ⟨mw, emw, smw, hmwb⟩ := jm6.2 i (treeM L p.1) (by rw [List.getElem?_map, List.getElem?_eq_getElem hlt, ← hpe]; rfl)
  obtain ⟨nw, enw, snw, hnwb⟩ := jn6.2 i (treeN L p.1) (by rw [List.getElem?_map, List.getElem?_eq_getElem hlt, ← hpe]; rfl)
  obtain ⟨mwA, mwc, rfl, _, _⟩ := smw.form
  obtain ⟨nwA, nwc, rfl, _, _⟩ := snw.form
  have pmw := nth_sl emw
  have pnw := nth_sl enw
  have smF : ∀ {h' : Heap}, Fr (· = ib) g7 h' → Sl h' (.slice mwA (treeM L p.1).length mwc) 1 (treeM L p.1).length (is (treeM L p.1)) := fun f => smw.frm (fun b o c e g => by have := hmwb b o c e; have g : b = ib := g; omega) f
  have snF : ∀ {h' : Heap}, Fr (· = ib) g7 h' → Sl h' (.slice nwA (treeN L p.1).length nwc) 1 (treeN L p.1).length (is (treeN L p.1)) := fun f => snw.frm (fun b o c e g => by have := hnwb b o c e; have g : b = ib := g; omega) f
  have srmF : ∀ {h' : Heap}, Fr (· = ib) g7 h' → Sl h' (.slice mA (lkR L).length mc) 1 (lkR L).length cm := fun f => (rm.frm f (fun b g e => by have := hmat6 b g; have e : b = ib := e; omega)).sl (by omega)
  have srnF : ∀ {h' : Heap}, Fr (· = ib) g7 h' → Sl h' (.slice nA (lkR L).length nc_) 1 (lkR L).length cn := fun f => (rn.frm f (fun b g e => by have := hnat6 b g; have e : b = ib := e; omega)).sl (by omega)
  have oxF : ∀ {h' : Heap}, Fr (· = ib) g7 h' → Ow h' xb (imx S slot (.slice rA (lkF L).1.length rc_) (.slice bA (lkF L).2.1.length bc) (.slice mA (lkR L).length mc) (.slice nA (lkR L).length nc_)) := fun f => ox3.fr f (fun e => by have e : xb = ib := e; omega)
  clear ox9 srm9 srn9
  obtain ⟨NS, hNS⟩ : ∃ q, q = nsO L ((lkR L).take i) := ⟨_, rfl⟩
  obtain ⟨SS, hSS⟩ : ∃ q, q = ssO L ((lkR L).take i) := ⟨_, rfl⟩
  rw [← hNS, ← hSS] at oi9 bI
  rw [← hNS] at tkN
  rw [← hSS] at tkS
  refine RunC.seq (RunC.block ?_)
  -- its nodes
  refine RunC.seqc (fun E' h' => ∃ bad : Nat, Fr (· = ib) g7 h' ∧ Ow h' ib (is (isA B (lkF L).2.1 (NS ++ treeN L p.1) SS)) ∧ BadI B (lkF L).2.1 (NS ++ treeN L p.1) SS bad ∧ Le ((upd (upd (upd (upd (upd (upd (upd (upd (upd E0 0 (iv)) 2 (.pointer (some ⟨q2, 0, none⟩))) 3 (.pointer (some ⟨q3, 0, none⟩))) 4 (.pointer (some ⟨xb, 0, none⟩))) 5 (.int .i64 (B : Int))) 10 (.slice bA (lkF L).2.1.length bc)) 19 (.slice (some ⟨ib, 0, none⟩) B (exc B))) 11 (.int .i64 (bad : Int))) 21 (.int .i64 (i : Int)))) E') ?nds ?scs
  case nds =>
    refine RunC.seq (RunC.region (RunO.all rfl ?_))
    refine RunC.block ?_
    refine RunC.loop (fun d E h' => ∃ (q bad : Nat), q + d = (treeN L p.1).length ∧ Fr (· = ib) g7 h' ∧ Ow h' ib (is (isA B (lkF L).2.1 (NS ++ (treeN L p.1).take q) SS)) ∧ BadI B (lkF L).2.1 (NS ++ (treeN L p.1).take q) SS bad ∧ Le ((upd (upd (upd (upd (upd (upd (upd (upd (upd (upd E0 0 (iv)) 2 (.pointer (some ⟨q2, 0, none⟩))) 3 (.pointer (some ⟨q3, 0, none⟩))) 4 (.pointer (some ⟨xb, 0, none⟩))) 5 (.int .i64 (B : Int))) 10 (.slice bA (lkF L).2.1.length bc)) 19 (.slice (some ⟨ib, 0, none⟩) B (exc B))) 11 (.int .i64 (bad : Int))) 21 (.int .i64 (i : Int))) 22 (.int .i64 (q : Int)))) E) ?sn (k := (treeN L p.1).length) ?in_
    case in_ => exact ⟨0, bad, by omega, ff, by rw [List.take_zero, List.append_nil]; exact oi9, by rw [List.take_zero, List.append_nil]; exact bI, Le.cons rfl (Le.cons rfl (Le.cons rfl (Le.cons rfl (Le.cons rfl (Le.cons rfl (Le.cons rfl (Le.cons rfl (Le.cons rfl (Le.cons rfl (Le.nil _))))))))))⟩
    clear oi9 bI ff bad
    rintro d2 E ga ⟨q, bad, hq, ff, oia, bI, hE⟩
    refine RunC.le hE ?_
    clear hE
    refine RunC.seq (RunC.seq (RunC.region (RunO.part 2 rfl ?_)))
    refine RunO.load (v := .slice nA (lkR L).length nc_) rfl ((oxF ff).ld rfl) rfl ?_
    refine RunO.part 1 rfl ?_
    refine RunO.at (s := 1) (k := i) rfl rfl (srnF ff) rfl rfl hlt pnw rfl rfl rfl ?_
    refine RunO.all rfl ?_
    refine RunC.cond rfl (fun hlt2 => RunC.skip ?gon) (fun hge2 => RunC.exit ?exn)
    case exn =>
      have hge2 := of_decide_eq_false hge2
      obtain rfl : q = (treeN L p.1).length := by omega
      rw [List.take_length] at oia bI
      exact ⟨bad, ff, oia, bI, Le.cons rfl (Le.cons rfl (Le.cons rfl (Le.cons rfl (Le.cons rfl (Le.cons rfl (Le.cons rfl (Le.cons rfl (Le.cons rfl (Le.nil _)))))))))⟩
    have hlt2 := of_decide_eq_true hlt2
    have hlt2 : q < (treeN L p.1).length := by omega
    have hpt := is_part hlt2
    have hr := hrn _ (List.getElem_mem hlt2)
    obtain ⟨a, ha⟩ := Int.eq_ofNat_of_zero_le (show 0 ≤ (treeN L p.1)[q] by omega)
    rw [ha] at hpt
    have haB : a < B := by omega
    have tkq : NS ++ (treeN L p.1).take (q + 1) = NS ++ (treeN L p.1).take q ++ [(a : Int)] := by rw [List.take_succ_eq_append_getElem hlt2, ha, List.append_assoc]
    generalize NS ++ (treeN L p.1).take q = NQ at *
    have spt := fun (SX : List Int) (NX : List Int) => ix_at (isA_get (bl := (lkF L).2.1) (NS := NX) (SS := SX) haB)
    have sia : Sl ga (.slice (some ⟨ib, 0, none⟩) B (exc B)) 1 B (is (isA B (lkF L).2.1 NQ SS)) := oia.all.sl (by rw [is_len, isA_len, Nat.mul_one]) (by omega) (Cp.exc (by omega))
    obtain ⟨t, ht⟩ : ∃ t, t = (SS.contains (a : Int) || (lkF L).2.1.contains (a : Int)) := ⟨_, rfl⟩
    obtain ⟨bad2, hbad2⟩ : ∃ b, b = if t then min bad a else bad := ⟨_, rfl⟩
    have bI2 : BadI B (lkF L).2.1 (NQ ++ [(a : Int)]) SS bad2 := by
      rw [hbad2]
      exact bI.step haB (fun j hj => cfP_node hj) (by rw [cfP_nodeA]; exact ht.symm) (fun e => by rw [ht]; exact cfP_mono_node e)
    refine RunC.seqc (fun E' h' => Fr (· = ib) g7 h' ∧ Ow h' ib (is (isA B (lkF L).2.1 (NQ ++ [(a : Int)]) SS)) ∧ Le ((upd (upd (upd (upd (upd (upd (upd (upd (upd (upd E0 0 (iv)) 2 (.pointer (some ⟨q2, 0, none⟩))) 3 (.pointer (some ⟨q3, 0, none⟩))) 4 (.pointer (some ⟨xb, 0, none⟩))) 5 (.int .i64 (B : Int))) 10 (.slice bA (lkF L).2.1.length bc)) 19 (.slice (some ⟨ib, 0, none⟩) B (exc B))) 11 (.int .i64 (bad2 : Int))) 21 (.int .i64 (i : Int))) 22 (.int .i64 (q : Int)))) E') ?pt ?nq
    case nq =>
      rintro E' gc ⟨fg, oig, hE⟩
      refine RunC.le hE ?_
      clear hE
      refine RunC.region (RunO.all rfl ?_)
      exact ⟨d2 - 1, by omega, q + 1, bad2, by omega, fg, by rw [tkq]; exact oig, by rw [tkq]; exact bI2, Le.cons (inc64 (by omega)) (Le.cons rfl (Le.cons rfl (Le.cons rfl (Le.cons rfl (Le.cons rfl (Le.cons rfl (Le.cons rfl (Le.cons rfl (Le.cons rfl (Le.nil _))))))))))⟩
    refine RunC.block ?_
    refine RunC.seq (RunC.region (RunO.part 1 rfl ?_))
    refine RunO.load (v := .slice nA (lkR L).length nc_) rfl ((oxF ff).ld rfl) rfl ?_
    refine RunO.part 1 rfl ?_
    refine RunO.at (s := 1) (k := i) rfl rfl (srnF ff) rfl rfl hlt pnw rfl rfl rfl ?_
    refine RunO.part 1 rfl ?_
    refine RunO.at (s := 1) (k := q) rfl rfl (snF ff) rfl rfl hlt2 hpt rfl rfl rfl ?_
    refine RunO.all rfl ?_
    refine RunC.seqc (fun E' h' => ga = h' ∧ Le ((upd (upd (upd (upd (upd (upd (upd (upd (upd (upd (upd E0 0 (iv)) 2 (.pointer (some ⟨q2, 0, none⟩))) 3 (.pointer (some ⟨q3, 0, none⟩))) 4 (.pointer (some ⟨xb, 0, none⟩))) 5 (.int .i64 (B : Int))) 10 (.slice bA (lkF L).2.1.length bc)) 19 (.slice (some ⟨ib, 0, none⟩) B (exc B))) 11 (.int .i64 (bad2 : Int))) 21 (.int .i64 (i : Int))) 22 (.int .i64 (q : Int))) 23 (.int .i64 (a : Int)))) E') ?tb ?ad
    case tb =>
      refine RunC.seqc (fun E' h' => ga = h' ∧ Le ((upd (upd (upd (upd (upd (upd (upd (upd (upd (upd (upd (upd E0 0 (iv)) 2 (.pointer (some ⟨q2, 0, none⟩))) 3 (.pointer (some ⟨q3, 0, none⟩))) 4 (.pointer (some ⟨xb, 0, none⟩))) 5 (.int .i64 (B : Int))) 10 (.slice bA (lkF L).2.1.length bc)) 19 (.slice (some ⟨ib, 0, none⟩) B (exc B))) 11 (.int .i64 (bad : Int))) 21 (.int .i64 (i : Int))) 22 (.int .i64 (q : Int))) 23 (.int .i64 (a : Int))) 179 (.bool t))) E') ?t1 ?t2
      case t1 =>
        refine RunC.region (RunO.part 2 rfl ?_)
        refine RunO.at (s := 1) (k := a) rfl rfl sia rfl rfl haB (spt SS NQ) rfl rfl rfl ?_
        refine RunO.part 1 rfl ?_
        rw [isF_w1]
        refine RunO.part 2 rfl ?_
        rw [isF_t1]
        cases hbc : (lkF L).2.1.contains (a : Int) with
        | true =>
          rw [hbc, Bool.or_true] at ht
          rw [ht]
          exact RunO.all rfl ⟨rfl, Le.cons rfl (Le.cons rfl (Le.cons rfl (Le.cons rfl (Le.cons rfl (Le.cons rfl (Le.cons rfl (Le.cons rfl (Le.cons rfl (Le.cons rfl (Le.cons rfl (Le.cons rfl (Le.nil _))))))))))))⟩
        | false =>
          rw [hbc, Bool.or_false] at ht
          rw [ht]
          refine RunO.part 3 rfl ?_
          refine RunO.atG (s := 1) (k := a) rfl (fun _ => rfl) rfl rfl sia rfl rfl haB (spt SS NQ) rfl rfl rfl ?_
          refine RunO.part 1 rfl ?_
          rw [isF_w2]
          refine RunO.part 1 rfl ?_
          rw [isF_t2]
          exact RunO.all rfl ⟨rfl, Le.cons rfl (Le.cons rfl (Le.cons rfl (Le.cons rfl (Le.cons rfl (Le.cons rfl (Le.cons rfl (Le.cons rfl (Le.cons rfl (Le.cons rfl (Le.cons rfl (Le.cons rfl (Le.nil _))))))))))))⟩
      case t2 =>
        rintro E' _ ⟨rfl, hE⟩
        refine RunC.le hE ?_
        clear hE
        cases t with
        | true =>
          rw [if_pos rfl] at hbad2
          refine RunC.cond rfl (fun _ => ?_) (fun g => by cases g)
          refine RunC.region (RunO.part 3 rfl ?_)
          rw [minNat, ← hbad2]
          exact RunO.all rfl ⟨rfl, Le.cons rfl (Le.cons rfl (Le.cons rfl (Le.cons rfl (Le.cons rfl (Le.cons rfl (Le.cons rfl (Le.cons rfl (Le.cons rfl (Le.cons rfl (Le.cons rfl (Le.nil _)))))))))))⟩
        | false =>
          rw [if_neg Bool.false_ne_true] at hbad2
          rw [hbad2]
          exact RunC.cond rfl (fun g => by cases g) (fun _ => RunC.skip ⟨rfl, Le.cons rfl (Le.cons rfl (Le.cons rfl (Le.cons rfl (Le.cons rfl (Le.cons rfl (Le.cons rfl (Le.cons rfl (Le.cons rfl (Le.cons rfl (Le.cons rfl (Le.nil _)))))))))))⟩)
    case ad =>
    rintro E' _ ⟨rfl, hE⟩
    refine RunC.le hE ?_
    clear hE
    refine RunC.seq (RunC.region (RunO.part 2 rfl ?_))
    refine RunO.at (s := 1) (k := a) rfl rfl sia rfl rfl haB (spt SS NQ) rfl rfl rfl ?_
    refine RunO.part 2 rfl ?_
    rw [isF_t3]
    cases hNa : NQ.contains (a : Int) with
    | true =>
      refine RunO.all rfl (RunC.cond rfl (fun g => by cases g) (fun _ => RunC.skip ⟨ff, ?_, Le.cons rfl (Le.cons rfl (Le.cons rfl (Le.cons rfl (Le.cons rfl (Le.cons rfl (Le.cons rfl (Le.cons rfl (Le.cons rfl (Le.cons rfl (Le.nil _))))))))))⟩))
      rw [← isA_same (isF_sameN hNa)]
      exact oia
    | false =>
      have hrg := isF_rng (lkF L).2.1 NQ SS a
      refine RunO.all rfl (RunC.cond rfl (fun _ => ?_) (fun g => by cases g))
      refine RunC.region (RunO.part 2 rfl ?_)
      refine RunO.at (s := 1) (k := a) rfl rfl sia rfl rfl haB (spt SS NQ) rfl rfl rfl ?_
      refine RunO.part 1 rfl ?_
      rw [fw64 (x := isF (lkF L).2.1 NQ SS a + 1) (by omega) (by omega), isF_addN hNa]
      refine RunO.index (s := 1) (k := a) rfl rfl rfl rfl haB rfl ?_
      refine RunO.store rfl rfl (store1_ow oia rfl rfl rfl (by rw [is_len, isA_len]; omega)) (RunO.nil ?_)
      rw [isv_set, isA_set haB (fun j hj => isF_node hj)]
      exact ⟨ff.same (Fr.put _ (.inl rfl)), Ow.put _ oia.1, Le.cons rfl (Le.cons rfl (Le.cons rfl (Le.cons rfl (Le.cons rfl (Le.cons rfl (Le.cons rfl (Le.cons rfl (Le.cons rfl (Le.cons rfl (Le.nil _))))))))))⟩
  -- its sectors
  rintro E' ga ⟨bad3, ff3, oi3, bI3, hE⟩
  refine RunC.le hE ?_
  clear hE
  rw [← tkN] at oi3 bI3
  obtain ⟨NN, hNN⟩ : ∃ q, q = nsO L ((lkR L).take (i + 1)) := ⟨_, rfl⟩
  rw [← hNN] at oi3 bI3
  refine RunC.seq (RunC.region (RunO.all rfl ?_))
  refine RunC.block ?_
  refine RunC.loop (fun d E h' => ∃ (q bad : Nat), q + d = 512 ∧ Fr (· = ib) g7 h' ∧ Ow h' ib (is (isA B (lkF L).2.1 NN (SS ++ ((treeM L p.1).take q).filter (· != 0)))) ∧ BadI B (lkF L).2.1 NN (SS ++ ((treeM L p.1).take q).filter (· != 0)) bad ∧ Le ((upd (upd (upd (upd (upd (upd (upd (upd (upd (upd E0 0 (iv)) 2 (.pointer (some ⟨q2, 0, none⟩))) 3 (.pointer (some ⟨q3, 0, none⟩))) 4 (.pointer (some ⟨xb, 0, none⟩))) 5 (.int .i64 (B : Int))) 10 (.slice bA (lkF L).2.1.length bc)) 19 (.slice (some ⟨ib, 0, none⟩) B (exc B))) 11 (.int .i64 (bad : Int))) 21 (.int .i64 (i : Int))) 24 (.int .i64 (q : Int)))) E) ?ss (k := 512) ?is_
  case is_ => exact ⟨0, bad3, by omega, ff3, by rw [List.take_zero, List.filter_nil, List.append_nil]; exact oi3, by rw [List.take_zero, List.filter_nil, List.append_nil]; exact bI3, Le.cons rfl (Le.cons rfl (Le.cons rfl (Le.cons rfl (Le.cons rfl (Le.cons rfl (Le.cons rfl (Le.cons rfl (Le.cons rfl (Le.cons rfl (Le.nil _))))))))))⟩
  clear oi9 bI ff oi3 bI3 ff3
  rintro d2 E gb ⟨q, bad, hq, ff, oia, bI, hE⟩
  refine RunC.le hE ?_
  clear hE
  refine RunC.seq (RunC.seq (RunC.region (RunO.all rfl ?_)))
  refine RunC.cond rfl (fun hlt2 => RunC.skip ?gos) (fun hge2 => RunC.exit ?exs)
  case exs =>
    have hge2 := of_decide_eq_false hge2
    obtain rfl : q = 512 := by omega
    rw [List.take_of_length_le (by omega), ← tkS] at oia bI
    rw [hNN] at oia bI
    refine RunC.region (RunO.all rfl ?_)
    exact ⟨d - 1, by omega, i + 1, bad, by omega, ff, oia, bI, Le.cons (inc64 (by omega)) (Le.cons rfl (Le.cons rfl (Le.cons rfl (Le.cons rfl (Le.cons rfl (Le.cons rfl (Le.cons rfl (Le.cons rfl (Le.nil _)))))))))⟩
  have hlt2 := of_decide_eq_true hlt2
  have hlt2 : q < (treeM L p.1).length := by omega
  have hpt := is_part hlt2
  have hr := hrm _ (List.getElem_mem hlt2)
  obtain ⟨a, ha⟩ := Int.eq_ofNat_of_zero_le hr.1
  rw [ha] at hpt
  have haB : a < B := by omega
  have tkq : SS ++ ((treeM L p.1).take (q + 1)).filter (· != 0) = if a = 0 then SS ++ ((treeM L p.1).take q).filter (· != 0) else SS ++ ((treeM L p.1).take q).filter (· != 0) ++ [(a : Int)] := by
    rw [List.take_succ_eq_append_getElem hlt2, ha, List.filter_append]
    by_cases h0 : a = 0
    · subst h0
      rw [if_pos rfl, show ([((0 : Nat) : Int)].filter (· != 0)) = [] from rfl, List.append_nil]
    · rw [if_neg h0, show ([(a : Int)].filter (· != 0)) = [(a : Int)] from by rw [List.filter_cons_of_pos (by rw [bne_iff_ne]; omega), List.filter_nil], List.append_assoc]
  generalize SS ++ ((treeM L p.1).take q).filter (· != 0) = SQ at *
  have spt := fun (SX : List Int) (NX : List Int) => ix_at (isA_get (bl := (lkF L).2.1) (NS := NX) (SS := SX) haB)
  have sia : Sl gb (.slice (some ⟨ib, 0, none⟩) B (exc B)) 1 B (is (isA B (lkF L).2.1 NN SQ)) := oia.all.sl (by rw [is_len, isA_len, Nat.mul_one]) (by omega) (Cp.exc (by omega))
  refine RunC.seqc (fun E' h' => ∃ bad2 : Nat, Fr (· = ib) g7 h' ∧ Ow h' ib (is (isA B (lkF L).2.1 NN (SS ++ ((treeM L p.1).take (q + 1)).filter (· != 0)))) ∧ BadI B (lkF L).2.1 NN (SS ++ ((treeM L p.1).take (q + 1)).filter (· != 0)) bad2 ∧ Le ((upd (upd (upd (upd (upd (upd (upd (upd (upd (upd E0 0 (iv)) 2 (.pointer (some ⟨q2, 0, none⟩))) 3 (.pointer (some ⟨q3, 0, none⟩))) 4 (.pointer (some ⟨xb, 0, none⟩))) 5 (.int .i64 (B : Int))) 10 (.slice bA (lkF L).2.1.length bc)) 19 (.slice (some ⟨ib, 0, none⟩) B (exc B))) 11 (.int .i64 (bad2 : Int))) 21 (.int .i64 (i : Int))) 24 (.int .i64 (q : Int)))) E') ?pts ?nqs
  case nqs =>
    rintro E' gc ⟨bad2, fg, oig, bI2, hE⟩
    refine RunC.le hE ?_
    clear hE
    refine RunC.region (RunO.all rfl ?_)
    exact ⟨d2 - 1, by omega, q + 1, bad2, by omega, fg, oig, bI2, Le.cons (inc64 (by omega)) (Le.cons rfl (Le.cons rfl (Le.cons rfl (Le.cons rfl (Le.cons rfl (Le.cons rfl (Le.cons rfl (Le.cons rfl (Le.cons rfl (Le.nil _))))))))))⟩
  rw [tkq]
  refine RunC.block ?_
  refine RunC.seq (RunC.region (RunO.part 1 rfl ?_))
  refine RunO.load (v := .slice mA (lkR L).length mc) rfl ((oxF ff).ld rfl) rfl ?_
  refine RunO.part 1 rfl ?_
  refine RunO.at (s := 1) (k := i) rfl rfl (srmF ff) rfl rfl hlt pmw rfl rfl rfl ?_
  refine RunO.part 1 rfl ?_
  refine RunO.at (s := 1) (k := q) rfl rfl (smF ff) rfl rfl hlt2 hpt rfl rfl rfl ?_
  refine RunO.all rfl ?_
  by_cases h0 : a = 0
  · subst h0
    rw [if_pos rfl]
    refine RunC.seq (RunC.seq (RunC.region (RunO.all rfl ?_)))
    refine RunC.cond rfl (fun _ => RunC.exit ?_) (fun g => by cases g)
    exact ⟨bad, ff, oia, bI, Le.cons rfl (Le.cons rfl (Le.cons rfl (Le.cons rfl (Le.cons rfl (Le.cons rfl (Le.cons rfl (Le.cons rfl (Le.cons rfl (Le.cons rfl (Le.nil _))))))))))⟩
  rw [if_neg h0]
  refine RunC.seq (RunC.seq (RunC.region (RunO.part 2 rfl ?_)))
  rw [show ((a : Int) == 0) = false from beq_eq_false_iff_ne.2 (by omega)]
  refine RunO.all rfl (RunC.cond rfl (fun g => by cases g) (fun _ => RunC.skip ?_))
  obtain ⟨t, ht⟩ : ∃ t, t = (NN.contains (a : Int) || (lkF L).2.1.contains (a : Int)) := ⟨_, rfl⟩
  obtain ⟨bad2, hbad2⟩ : ∃ b, b = if t then min bad a else bad := ⟨_, rfl⟩
  have bI2 : BadI B (lkF L).2.1 NN (SQ ++ [(a : Int)]) bad2 := by
    rw [hbad2]
    exact bI.step haB (fun j hj => cfP_sec hj) (by rw [cfP_secA]; exact ht.symm) (fun e => by rw [ht]; exact cfP_mono_sec e)
  refine RunC.seqc (fun E' h' => gb = h' ∧ Le ((upd (upd (upd (upd (upd (upd (upd (upd (upd (upd (upd E0 0 (iv)) 2 (.pointer (some ⟨q2, 0, none⟩))) 3 (.pointer (some ⟨q3, 0, none⟩))) 4 (.pointer (some ⟨xb, 0, none⟩))) 5 (.int .i64 (B : Int))) 10 (.slice bA (lkF L).2.1.length bc)) 19 (.slice (some ⟨ib, 0, none⟩) B (exc B))) 11 (.int .i64 (bad2 : Int))) 21 (.int .i64 (i : Int))) 24 (.int .i64 (q : Int))) 25 (.int .i64 (a : Int)))) E') ?tbs ?ads
  case tbs =>
    refine RunC.seq (RunC.region (RunO.part 2 rfl ?_))
    refine RunO.at (s := 1) (k := a) rfl rfl sia rfl rfl haB (spt SQ NN) rfl rfl rfl ?_
    refine RunO.part 2 rfl ?_
    rw [isF_t4, ← ht]
    cases t with
    | true =>
      rw [if_pos rfl] at hbad2
      refine RunO.all rfl (RunC.cond rfl (fun _ => ?_) (fun g => by cases g))
      refine RunC.region (RunO.part 3 rfl ?_)
      rw [minNat, ← hbad2]
      exact RunO.all rfl ⟨rfl, Le.cons rfl (Le.cons rfl (Le.cons rfl (Le.cons rfl (Le.cons rfl (Le.cons rfl (Le.cons rfl (Le.cons rfl (Le.cons rfl (Le.cons rfl (Le.cons rfl (Le.nil _)))))))))))⟩
    | false =>
      rw [if_neg Bool.false_ne_true] at hbad2
      rw [hbad2]
      exact RunO.all rfl (RunC.cond rfl (fun g => by cases g) (fun _ => RunC.skip ⟨rfl, Le.cons rfl (Le.cons rfl (Le.cons rfl (Le.cons rfl (Le.cons rfl (Le.cons rfl (Le.cons rfl (Le.cons rfl (Le.cons rfl (Le.cons rfl (Le.cons rfl (Le.nil _)))))))))))⟩))
  rintro E' _ ⟨rfl, hE⟩
  refine RunC.le hE ?_
  clear hE
  refine RunC.seq (RunC.region (RunO.part 2 rfl ?_))
  refine RunO.at (s := 1) (k := a) rfl rfl sia rfl rfl haB (spt SQ NN) rfl rfl rfl ?_
  refine RunO.part 1 rfl ?_
  rw [isF_w2]
  refine RunO.part 1 rfl ?_
  rw [isF_t5]
  cases hNa : SQ.contains (a : Int) with
  | true =>
    refine RunO.all rfl (RunC.cond rfl (fun g => by cases g) (fun _ => RunC.skip ⟨bad2, ff, ?_, bI2, Le.cons rfl (Le.cons rfl (Le.cons rfl (Le.cons rfl (Le.cons rfl (Le.cons rfl (Le.cons rfl (Le.cons rfl (Le.cons rfl (Le.cons rfl (Le.nil _))))))))))⟩))
    rw [← isA_same (isF_sameS hNa)]
    exact oia
  | false =>
    have hrg := isF_rng (lkF L).2.1 NN SQ a
    refine RunO.all rfl (RunC.cond rfl (fun _ => ?_) (fun g => by cases g))
    refine RunC.region (RunO.part 4 rfl ?_)
    refine RunO.at (s := 1) (k := a) rfl rfl sia rfl rfl haB (spt SQ NN) rfl rfl rfl ?_
    refine RunO.part 1 rfl ?_
    rw [fw64 (x := isF (lkF L).2.1 NN SQ a + 4) (by omega) (by omega), isF_addS hNa]
    refine RunO.index (s := 1) (k := a) rfl rfl rfl rfl haB rfl ?_
    refine RunO.store rfl rfl (store1_ow oia rfl rfl rfl (by rw [is_len, isA_len]; omega)) (RunO.nil ?_)
    rw [isv_set, isA_set haB (fun j hj => isF_sec hj)]
    exact ⟨bad2, ff.same (Fr.put _ (.inl rfl)), Ow.put _ oia.1, bI2, Le.cons rfl (Le.cons rfl (Le.cons rfl (Le.cons rfl (Le.cons rfl (Le.cons rfl (Le.cons rfl (Le.cons rfl (Le.cons rfl (Le.cons rfl (Le.nil _))))))))))⟩
end Go.Proofs.Ytbinkbdfoalbcaa
end
section
set_option linter.unusedVariables false
set_option maxRecDepth 100000
open Go Go.Am Go.RowKit
namespace Go.Proofs.Ytbinkbdfoalbcaa
open Go.Proofs.Try
theorem rec_aeq (n id pa ro sz ki fr di n' id' pa' ro' sz' ki' fr' di' : Int) : aequal prog 41 (.agg ⟨rc n id pa ro sz ki fr di⟩) (.agg ⟨rc n' id' pa' ro' sz' ki' fr' di'⟩) = some (n == n' && (id == id' && (pa == pa' && (ro == ro' && (sz == sz' && (ki == ki' && (fr == fr' && (di == di')))))))) := by
  have h : aequal prog 41 (.agg ⟨rc n id pa ro sz ki fr di⟩) (.agg ⟨rc n' id' pa' ro' sz' ki' fr' di'⟩) = (match some (n == n') with
    | some true => (match some (id == id') with
    | some true => (match some (pa == pa') with
    | some true => (match some (ro == ro') with
    | some true => (match some (sz == sz') with
    | some true => (match some (ki == ki') with
    | some true => (match some (fr == fr') with
    | some true => (match some (di == di') with
    | some true => some true
    | some false => some false
    | none => none)
    | some false => some false
    | none => none)
    | some false => some false
    | none => none)
    | some false => some false
    | none => none)
    | some false => some false
    | none => none)
    | some false => some false
    | none => none)
    | some false => some false
    | none => none)
    | some false => some false
    | none => none) := by kernel_rfl
  rw [h]
  cases (n == n') <;> cases (id == id') <;> cases (pa == pa') <;> cases (ro == ro') <;> cases (sz == sz') <;> cases (ki == ki') <;> cases (fr == fr') <;> cases (di == di') <;> rfl
theorem rec_ne (n id pa ro sz ki fr di n' id' pa' ro' sz' ki' fr' di' : Int) : abinop prog .neq 41 (.agg ⟨rc n id pa ro sz ki fr di⟩) (.agg ⟨rc n' id' pa' ro' sz' ki' fr' di'⟩) = some (.bool (!(n == n' && (id == id' && (pa == pa' && (ro == ro' && (sz == sz' && (ki == ki' && (fr == fr' && (di == di')))))))))) := by
  show eqOp .neq (aequal prog 41 (.agg ⟨rc n id pa ro sz ki fr di⟩) (.agg ⟨rc n' id' pa' ro' sz' ki' fr' di'⟩)) = _
  rw [rec_aeq]; rfl
end Go.Proofs.Ytbinkbdfoalbcaa
end
section
set_option linter.unusedVariables false
set_option linter.unusedSectionVars false
set_option maxRecDepth 100000
open Go Go.Am Go.RowKit
namespace Go.Proofs.Ytbinkbdfoalbcaa
open Go.Proofs.Try
/- A chain that was followed to its end. -/
def nxt (a : Int) (l : List R8) (i : Nat) : Int := if i = 0 then a else (l.getD (i - 1) ⟨0, 0, 0, 0, 0, 0, 0, 0⟩).nx
structure FolI (L : List Int) (B : Nat) (a : Int) (l : List R8) (bs : List Int) (cur : Int) : Prop where
  len : l.length = bs.length
  blk : ∀ i (hi : i < l.length), bs.getD i 0 = nxt a l i ∧ 2 ≤ bs.getD i 0 ∧ bs.getD i 0 < (B : Int) ∧ rCode (blkI L (bs.getD i 0).toNat) = 0 ∧ l[i] = rPar (blkI L (bs.getD i 0).toNat)
  apart : ∀ i (hi : i < l.length) j (hj : j < l.length), j < i → l[j].id ≠ l[i].id ∧ l[i].ki ≠ 1
  cur : cur = nxt a l l.length
theorem rec8_ne (x y : R8) : abinop prog .neq 41 (.agg ⟨rc8 x⟩) (.agg ⟨rc8 y⟩) = some (.bool (x != y)) := by
  show abinop prog .neq 41 (.agg ⟨rc x.nx x.id x.pa x.ro x.sz x.ki x.fr x.di⟩) (.agg ⟨rc y.nx y.id y.pa y.ro y.sz y.ki y.fr y.di⟩) = _
  rw [rec_ne]
  congr 2
  have key : (x.nx == y.nx && (x.id == y.id && (x.pa == y.pa && (x.ro == y.ro && (x.sz == y.sz && (x.ki == y.ki && (x.fr == y.fr && (x.di == y.di)))))))) = (x == y) := by
    rw [Bool.eq_iff_iff]
    simp only [Bool.and_eq_true, beq_iff_eq]
    constructor
    · rintro ⟨e1, e2, e3, e4, e5, e6, e7, e8⟩
      cases x; cases y; simp_all
    · rintro rfl; simp
  rw [key]; rfl
theorem keepRecords_ok {h : Heap} {v w : Value} {l m : List R8} (sl : Sl h v 8 l.length (recCs l)) (sm : Sl h w 8 m.length (recCs m)) (hl : l.length ≤ 4611686018427387904) :
    RunF prog 25 [v, w] h fun v h' => v = .bool (l == m) ∧ h = h' := by
  refine RunF.walk func25 rfl rfl ?_
  obtain ⟨A, c, rfl, hc, _⟩ := sl.form
  obtain ⟨B, d, rfl, hd, _⟩ := sm.form
  refine RunC.seq (RunC.region (RunO.all rfl ?_))
  refine RunC.seq (RunC.seq (RunC.region (RunO.all rfl ?_)))
  by_cases hn : l.length = m.length
  case neg =>
    rw [show ((l.length : Int) != (m.length : Int)) = true from bne_iff_ne.2 (by omega)]
    refine RunC.cond rfl (fun _ => ?_) (fun g => by cases g)
    rw [show (l == m) = false from beq_eq_false_iff_ne.2 (fun e => hn (by rw [e]))]
    exact RunC.seq (RunC.region (RunO.all rfl (RunC.ret ⟨_, rfl, rfl, rfl⟩)))
  rw [show ((l.length : Int) != (m.length : Int)) = false from by rw [hn]; exact bne_self_eq_false _]
  refine RunC.cond rfl (fun g => by cases g) (fun _ => RunC.skip ?_)
  refine RunC.seq (RunC.seq (RunC.region (RunO.all rfl ?_)))
  refine RunC.block ?_
  refine RunC.loop (fun k E h' => ∃ i : Nat, i + k = l.length ∧ l.take i = m.take i ∧ h' = h ∧ Le (upd (upd (upd E0 0 (.slice A l.length c)) 1 (.slice B m.length d)) 5 (.int .i64 (i : Int))) E) ?st (k := l.length) ?ini
  case ini => exact ⟨0, by omega, rfl, rfl, Le.cons rfl (Le.cons rfl (Le.cons rfl (Le.nil _)))⟩
  rintro k E _ ⟨i, hi, ht, rfl, hE⟩
  refine RunC.le hE ?_
  clear hE
  refine RunC.seq (RunC.seq (RunC.region (RunO.all rfl ?_)))
  refine RunC.cond rfl (fun hlt => RunC.skip ?go) (fun hge => RunC.exit ?ex)
  case go =>
    have hlt := of_decide_eq_true hlt
    have h1 : i < l.length := by omega
    have h2 : i < m.length := by omega
    refine RunC.seq (RunC.block ?_)
    refine RunC.seq (RunC.draw0 rfl (RunO.part 2 rfl ?_))
    refine RunO.at (s := 8) (k := i) rfl rfl sl rfl rfl h1 (recCs_part h1) rfl rfl rfl ?_
    refine RunO.part 2 rfl ?_
    refine RunO.at (s := 8) (k := i) rfl rfl sm rfl rfl h2 (recCs_part h2) rfl rfl rfl ?_
    refine RunO.bin rfl rfl (rec8_ne _ _) rfl (RunO.nil ?_)
    by_cases he : l[i] = m[i]
    · rw [show (l[i] != m[i]) = false by simp [he]]
      refine RunC.cond rfl (fun g => by cases g) (fun _ => RunC.skip ?_)
      refine RunC.region (RunO.all rfl ?_)
      refine ⟨k - 1, by omega, i + 1, by omega, ?_, rfl, Le.cons (inc64 (by omega)) (Le.cons rfl (Le.cons rfl (Le.nil _)))⟩
      rw [List.take_succ_eq_append_getElem h1, List.take_succ_eq_append_getElem h2, ht, he]
    · rw [show (l[i] != m[i]) = true from bne_iff_ne.2 he]
      refine RunC.cond rfl (fun _ => ?_) (fun g => by cases g)
      have hlm : (l == m) = false := beq_eq_false_iff_ne.2 (fun e => he (by simp [e]))
      rw [hlm]
      exact RunC.seq (RunC.region (RunO.all rfl (RunC.ret ⟨_, rfl, rfl, rfl⟩)))
  have hge := of_decide_eq_false hge
  have hi2 : i = l.length := by omega
  rw [hi2, List.take_length, hn, List.take_length] at ht
  have hlm : (l == m) = true := beq_iff_eq.2 ht
  rw [hlm]
  exact RunC.seq (RunC.region (RunO.all rfl (RunC.ret ⟨_, rfl, rfl, rfl⟩)))
end Go.Proofs.Ytbinkbdfoalbcaa
end
section
set_option linter.unusedVariables false
set_option linter.unusedSectionVars false
set_option maxRecDepth 100000
open Go Go.Am Go.RowKit
namespace Go.Proofs.Ytbinkbdfoalbcaa
open Go.Proofs.Try
/- How often each block is reached. -/
def bmp (c : List Int) (p : Int) : List Int := if p = 0 then c else c.set p.toNat (c.getD p.toNat 0 + 1)
def wPs (L : List Int) (a : Int) : List Int := (nodV (blkI L a.toNat)).2
def nodeB (L : List Int) (st : List Int × List Bool) (a : Int) : List Int × List Bool := if st.2.getD a.toNat false then st else ((wPs L a).foldl bmp st.1, st.2.set a.toNat true)
def treeB (L : List Int) (st : List Int × List Bool) (x : Int × List Int) : List Int × List Bool := x.2.foldl (nodeB L) (bmp st.1 x.1, st.2)
def c0L (B : Nat) (bl : List Int) : List Int := bl.foldl (fun c a => c.set a.toNat 1) (((List.replicate B 0).set 0 1).set 1 1)
def wRs (L : List Int) : List (Int × List Int) := (lkR L).map fun p => (p.1, treeN L p.1)
def cntL (L : List Int) : List Int := ((wRs L).foldl (treeB L) (c0L (L.length / 64) (lkF L).2.1, List.replicate (L.length / 64) false)).1
/-- So long, in bounds. -/
def CB (B : Nat) (k : Int) (c : List Int) : Prop := c.length = B ∧ ∀ x ∈ c, 0 ≤ x ∧ x ≤ k
end Go.Proofs.Ytbinkbdfoalbcaa
end
section
set_option linter.unusedVariables false
set_option linter.unusedSectionVars false
set_option maxRecDepth 100000
open Go Go.Am Go.RowKit
namespace Go.Proofs.Ytbinkbdfoalbcaa
open Go.Proofs.Try
end Go.Proofs.Ytbinkbdfoalbcaa
end
section
set_option linter.unusedVariables false
set_option linter.unusedSectionVars false
set_option maxRecDepth 100000
open Go Go.Am Go.RowKit
namespace Go.Proofs.Ytbinkbdfoalbcaa
open Go.Proofs.Try
def c00 (B : Nat) : List Int := ((List.replicate B 0).set 0 1).set 1 1
/-- Once more, in the page's order. -/
def refC (L : List Int) : List Int := (((lkR L).flatMap fun p => treeN L p.1).foldl (nodeB L) (((lkF L).2.1.zip ((lkF L).1.map (·.ro))).foldl (fun c x => bmp (bmp c x.1) x.2) (bmp (c00 (L.length / 64)) (lkS L).2.2.1), List.replicate (L.length / 64) false)).1
end Go.Proofs.Ytbinkbdfoalbcaa
end
section
set_option linter.unusedVariables false
set_option linter.unusedSectionVars false
set_option maxRecDepth 100000
open Go Go.Am Go.RowKit
namespace Go.Proofs.Ytbinkbdfoalbcaa
open Go.Proofs.Try

end Go.Proofs.Ytbinkbdfoalbcaa
end
section
set_option linter.unusedVariables false
set_option linter.unusedSectionVars false
set_option maxRecDepth 100000
open Go Go.Am Go.RowKit
namespace Go.Proofs.Ytbinkbdfoalbcaa
open Go.Proofs.Try
/-- What the page's Open tells. -/
structure OpenR (h : Heap) (L : List Int) (S : S5) (slot : Int) (rv bv mv nv : Value) (fb : Int) : Prop where
  cells : allCells (imx S slot rv bv mv nv) = true
  good : (lk L).2 = 0 → S = lkS L ∧ slot = (pickS L).2.1 ∧ fb = 0 ∧ Sl h rv 8 (lkF L).1.length (recCs (lkF L).1) ∧ Sl h bv 1 (lkF L).2.1.length (is (lkF L).2.1) ∧ ∃ cm cn, Sl h mv 1 (lkR L).length cm ∧ JEl (fun _ => True) h cm ((lkR L).map fun p => treeM L p.1) ∧ Sl h nv 1 (lkR L).length cn ∧ JEl (fun _ => True) h cn ((lkR L).map fun p => treeN L p.1)
  bad : (lk L).2 ≠ 0 → S = (0, 0, 0, 0, 0) ∧ slot = 0 ∧ fb = (lk L).1 ∧ rv = .slice none 0 0 ∧ bv = .slice none 0 0 ∧ mv = .slice none 0 0 ∧ nv = .slice none 0 0
theorem OpenR.fr0 {h h' : Heap} {L : List Int} {S : S5} {slot : Int} {rv bv mv nv : Value} {fb : Int} (r : OpenR h L S slot rv bv mv nv fb) (f : Fr no h h') : OpenR h' L S slot rv bv mv nv fb := by
  refine ⟨r.cells, fun g => ?_, r.bad⟩
  obtain ⟨a1, a2, a3, a4, a5, cm, cn, a6, a7, a8, a9⟩ := r.good g
  exact ⟨a1, a2, a3, a4.fr0 f, a5.fr0 f, cm, cn, a6.fr0 f, a7.fr0 f, a8.fr0 f, a9.fr0 f⟩
theorem sl_cell {h : Heap} {v : Value} {s n : Nat} {cs : List Value} (r : Sl h v s n cs) : isCell v = true := by
  obtain ⟨A, c, rfl, _, _⟩ := r.form
  rfl
theorem imx_cells {S : S5} {slot : Int} {rv bv mv nv : Value} (h1 : isCell rv = true) (h2 : isCell bv = true) (h3 : isCell mv = true) (h4 : isCell nv = true) : allCells (imx S slot rv bv mv nv) = true := by
  show cond (isCell rv) (cond (isCell bv) (cond (isCell mv) (cond (isCell nv) true false) false) false) false = true
  rw [h1, h2, h3, h4]; rfl
theorem refOpen10_u {h : Heap} {iv : Value} {L : List Int} (sl : Sl h iv 1 L.length (us L)) (hb : Byt L) (hm : L.length ≤ 4611686018427387904) :
    RunF prog 27 [iv] h fun v h' => Fr no h h' ∧ ∃ S slot rv bv mv nv fb, v = .tuple #[.agg ⟨imx S slot rv bv mv nv⟩, .agg ⟨[.int .i64 fb, .int .i64 (lk L).2]⟩] ∧ OpenR h' L S slot rv bv mv nv fb := by
  refine (refOpen10_ok sl hb hm).mono ?_
  rintro v h' ⟨f, ⟨g, rv, bv, mv, nv, cm, cn, rfl, a1, a2, a3, a4, a5, a6⟩ | ⟨g, rfl⟩⟩
  · exact ⟨f, _, _, rv, bv, mv, nv, 0, by rw [g], imx_cells (sl_cell a1) (sl_cell a2) (sl_cell a3) (sl_cell a5), fun _ => ⟨rfl, rfl, rfl, a1, a2, cm, cn, a3, a4, a5, a6⟩, fun e => absurd g e⟩
  · exact ⟨f, _, _, _, _, _, _, _, rfl, rfl, fun e => absurd e g, fun _ => ⟨rfl, rfl, rfl, rfl, rfl, rfl, rfl⟩⟩
theorem imx_store (S : S5) (slot : Int) (rv bv mv nv : Value) : (imx (0, 0, 0, 0, 0) 0 (.slice none 0 0) (.slice none 0 0) (.slice none 0 0) (.slice none 0 0)).take 0 ++ cellsOf (.agg ⟨imx S slot rv bv mv nv⟩) ++ (imx (0, 0, 0, 0, 0) 0 (.slice none 0 0) (.slice none 0 0) (.slice none 0 0) (.slice none 0 0)).drop (0 + 10) = imx S slot rv bv mv nv := rfl
end Go.Proofs.Ytbinkbdfoalbcaa
end
section
set_option linter.unusedVariables false
namespace Go.Am
open Go.RowKit
section
variable {P : Program} {n : Nat} {ops rest : List Oper} {E E1 : Env} {h h1 : Heap} {Q : Env → Heap → Prop}
/-- A constant string's bytes, turned to their own type. -/
theorem RunO.mark {d : Tmp} {t ty e : TypeId} {x : Operand} {pos : String} {after : Array Edge} {b off k c : Nat} {cells : List Value}
    (hx : gE E x = some (.slice (some ⟨b, off, none⟩) k c)) (hc : isUnk c = false) (hu : P.underlying t = some (.slice e)) (he : P.underlying e = some (.int .u8)) (ow : Ow h b cells) (hn : ∃ y l, cells = y :: l) (hd : Nat.ble (Nat.succ d) n = true)
    (r : ∀ h', Ow h' b cells → Fr (· = b) h h' → RunO P n ops rest (upd E d (.slice (some ⟨b, off, none⟩) k c)) h' Q) : RunO P n ops (⟨some d, .convert t t x, ty, pos, after, none⟩ :: rest) E h Q := by
  obtain ⟨y, l, rfl⟩ := hn
  have e1 : aconvert P t t (.slice (some ⟨b, off, none⟩) k c) = none := by simp only [aconvert, hu]
  have e2 : amark P h t t (.slice (some ⟨b, off, none⟩) k c) = some (.slice (some ⟨b, off, none⟩) k c, h.put b (some ⟨y :: l, true⟩)) := by
    simp only [amark, Nat.beq_refl, cond_true, hc, cond_false, hu, he, ow.2]
  refine RunO.one (v := .slice (some ⟨b, off, none⟩) k c) (h1 := h.put b (some ⟨y :: l, true⟩)) rfl ?_ (by simp only [eput, hd, cond_true]) (r _ (Ow.put _ ow.1) (Fr.put _ (.inl rfl)))
  simp only [eop, hx, e1, e2]
end
theorem Row.lo2 {lo lo2 : Nat} {h : Heap} {v : Value} {s n : Nat} {cells : List Value} (r : Row lo h v s n cells) (hl : lo2 ≤ lo) : Row lo2 h v s n cells :=
  ⟨r.1, r.2.imp (fun x => x) (fun ⟨b, h1, h2⟩ => ⟨b, Nat.le_trans hl h1, h2⟩)⟩
end Go.Am
end
section
set_option linter.unusedVariables false
set_option linter.unusedSectionVars false
set_option maxRecDepth 100000
open Go Go.Am Go.RowKit
namespace Go.Proofs.Ytbinkbdfoalbcaa
open Go.Proofs.Try
set_option maxHeartbeats 4000000 in
theorem refSuperBytes_ok {h : Heap} {g bl rt sz fi : Int} (hok : superOk g bl rt sz fi = true) : RunF prog 20 [.agg ⟨sc g bl rt sz fi⟩] h fun r h' => Row h.next h' r 1 64 (us (superBlock g bl rt sz fi)) ∧ Fr no h h' := by
  refine RunF.walk func20 rfl rfl ?_
  refine RunC.seq (RunC.region (RunO.all (h1 := h.push ⟨sc g bl rt sz fi, true⟩) rfl ?_))
  have ow := Ow.push h (sc g bl rt sz fi)
  have f1 : Fr no h (h.push ⟨sc g bl rt sz fi, true⟩) := Fr.push _ _ _
  generalize h.push ⟨sc g bl rt sz fi, true⟩ = h1 at *
  obtain ⟨qb, hqb⟩ : ∃ q, q = h.next := ⟨_, rfl⟩
  rw [← hqb] at ow ⊢
  have hp1 : qb < h1.next := ow.1
  obtain ⟨hg, hbl, hsz, hrt, hfi⟩ := (superOk_iff _ _ _ _ _).1 hok
  refine RunC.seq (RunC.region (RunO.part 1 (h1 := h1.push ⟨us [87, 67, 85, 84], true⟩) rfl ?_))
  have om := Ow.push h1 (us [87, 67, 85, 84])
  have fm : Fr no h1 (h1.push ⟨us [87, 67, 85, 84], true⟩) := Fr.push _ _ _
  generalize h1.push ⟨us [87, 67, 85, 84], true⟩ = h1b at *
  obtain ⟨mp, hmp⟩ : ∃ q, q = h1.next := ⟨_, rfl⟩
  rw [← hmp] at om ⊢
  refine RunO.mark rfl rfl rfl rfl om ⟨_, _, rfl⟩ rfl ?_
  intro h2 om2 fm2
  have g0 : Gr mp h2 (.slice (some ⟨mp, 0, none⟩) 4 (exc 4)) 1 4 (us [87, 67, 85, 84]) := Gr.full om2 rfl (Nat.le_refl _)
  replace g0 := g0.lo (show qb + 1 ≤ mp by omega)
  replace ow := (ow.fr fm (fun g => g)).fr fm2 (fun g => by have g : qb = mp := g; omega)
  replace f1 := (f1.same fm).trans fm2 (fun b g => .inr (by have g : b = mp := g; have := f1.next; omega))
  clear om om2 fm fm2
  refine RunO.all rfl ?_
  refine RunC.seq (RunC.region (RunO.part 2 rfl ?_))
  refine RunO.load (v := .int .i64 g) rfl (ow.all.cell1 (k := 0) rfl rfl) rfl ?_
  refine RunO.callD (refBytes_ok (s := 8) (v := g) (by decide) (by omega) (by omega)) rfl rfl rfl ?_
  rintro _ a0 ⟨row, f2⟩
  have hq0 := ow.1
  have hr0 := f2.next
  replace ow := ow.fr f2 (fun g => g)
  replace g0 := g0.fr0 f2
  replace f1 := f1.same f2
  have hm0 := f1.next
  obtain ⟨b_, o_, c_, rfl, _, rd⟩ := (row.sl (by decide)).nz (by decide)
  refine RunO.appendG (s := 1) (j := 8) rfl rfl rfl rfl rfl rfl rfl rfl (by decide) g0 rd (by rw [us_len, leB_len]) (by decide) (allCells_map (f := Value.int .u8) (fun _ => rfl) _) (by decide) (by decide) ?_
  intro w0 c0 row0 f3
  replace ow := ow.fr f3 (fun g => by have := (g0.at g).1; omega)
  replace f1 := f1.trans f3 (fun b a => .inr (by have := (g0.at a).1; omega))
  have hn0 := f3.next
  have g1 : Gr (qb + 1) c0 w0 1 (4 + 8) (us ([87, 67, 85, 84] ++ leB 8 g)) := by rw [us_app]; exact row0.gr.lo (by omega)
  clear rd row f2 f3 g0
  have g0 := g1
  clear g1
  refine RunO.all rfl ?_
  clear row0
  refine RunC.seq (RunC.region (RunO.part 2 rfl ?_))
  refine RunO.load (v := .int .i64 bl) rfl (ow.all.cell1 (k := 1) rfl rfl) rfl ?_
  refine RunO.callD (refBytes_ok (s := 4) (v := bl) (by decide) (by omega) (by omega)) rfl rfl rfl ?_
  rintro _ a1 ⟨row, f2⟩
  have hq1 := ow.1
  have hr1 := f2.next
  replace ow := ow.fr f2 (fun g => g)
  replace g0 := g0.fr0 f2
  replace f1 := f1.same f2
  have hm1 := f1.next
  obtain ⟨b_, o_, c_, rfl, _, rd⟩ := (row.sl (by decide)).nz (by decide)
  refine RunO.appendG (s := 1) (j := 4) rfl rfl rfl rfl rfl rfl rfl rfl (by decide) g0 rd (by rw [us_len, leB_len]) (by decide) (allCells_map (f := Value.int .u8) (fun _ => rfl) _) (by decide) (by decide) ?_
  intro w1 c1 row1 f3
  replace ow := ow.fr f3 (fun g => by have := (g0.at g).1; omega)
  replace f1 := f1.trans f3 (fun b a => .inr (by have := (g0.at a).1; omega))
  have hn1 := f3.next
  have g1 : Gr (qb + 1) c1 w1 1 (4 + 8 + 4) (us (([87, 67, 85, 84] ++ leB 8 g) ++ leB 4 bl)) := by rw [us_app]; exact row1.gr.lo (by omega)
  clear rd row f2 f3 g0
  have g0 := g1
  clear g1
  refine RunO.all rfl ?_
  clear row1
  refine RunC.seq (RunC.region (RunO.part 2 rfl ?_))
  refine RunO.load (v := .int .i64 rt) rfl (ow.all.cell1 (k := 2) rfl rfl) rfl ?_
  refine RunO.callD (refBytes_ok (s := 4) (v := rt) (by decide) (by omega) (by omega)) rfl rfl rfl ?_
  rintro _ a2 ⟨row, f2⟩
  have hq2 := ow.1
  have hr2 := f2.next
  replace ow := ow.fr f2 (fun g => g)
  replace g0 := g0.fr0 f2
  replace f1 := f1.same f2
  have hm2 := f1.next
  obtain ⟨b_, o_, c_, rfl, _, rd⟩ := (row.sl (by decide)).nz (by decide)
  refine RunO.appendG (s := 1) (j := 4) rfl rfl rfl rfl rfl rfl rfl rfl (by decide) g0 rd (by rw [us_len, leB_len]) (by decide) (allCells_map (f := Value.int .u8) (fun _ => rfl) _) (by decide) (by decide) ?_
  intro w2 c2 row2 f3
  replace ow := ow.fr f3 (fun g => by have := (g0.at g).1; omega)
  replace f1 := f1.trans f3 (fun b a => .inr (by have := (g0.at a).1; omega))
  have hn2 := f3.next
  have g1 : Gr (qb + 1) c2 w2 1 (4 + 8 + 4 + 4) (us ((([87, 67, 85, 84] ++ leB 8 g) ++ leB 4 bl) ++ leB 4 rt)) := by rw [us_app]; exact row2.gr.lo (by omega)
  clear rd row f2 f3 g0
  have g0 := g1
  clear g1
  refine RunO.all rfl ?_
  clear row2
  refine RunC.seq (RunC.region (RunO.part 2 rfl ?_))
  refine RunO.load (v := .int .i64 sz) rfl (ow.all.cell1 (k := 3) rfl rfl) rfl ?_
  refine RunO.callD (refBytes_ok (s := 4) (v := sz) (by decide) (by omega) (by omega)) rfl rfl rfl ?_
  rintro _ a3 ⟨row, f2⟩
  have hq3 := ow.1
  have hr3 := f2.next
  replace ow := ow.fr f2 (fun g => g)
  replace g0 := g0.fr0 f2
  replace f1 := f1.same f2
  have hm3 := f1.next
  obtain ⟨b_, o_, c_, rfl, _, rd⟩ := (row.sl (by decide)).nz (by decide)
  refine RunO.appendG (s := 1) (j := 4) rfl rfl rfl rfl rfl rfl rfl rfl (by decide) g0 rd (by rw [us_len, leB_len]) (by decide) (allCells_map (f := Value.int .u8) (fun _ => rfl) _) (by decide) (by decide) ?_
  intro w3 c3 row3 f3
  replace ow := ow.fr f3 (fun g => by have := (g0.at g).1; omega)
  replace f1 := f1.trans f3 (fun b a => .inr (by have := (g0.at a).1; omega))
  have hn3 := f3.next
  have g1 : Gr (qb + 1) c3 w3 1 (4 + 8 + 4 + 4 + 4) (us (((([87, 67, 85, 84] ++ leB 8 g) ++ leB 4 bl) ++ leB 4 rt) ++ leB 4 sz)) := by rw [us_app]; exact row3.gr.lo (by omega)
  clear rd row f2 f3 g0
  have g0 := g1
  clear g1
  refine RunO.all rfl ?_
  clear row3
  refine RunC.seq (RunC.region (RunO.part 2 rfl ?_))
  refine RunO.load (v := .int .i64 fi) rfl (ow.all.cell1 (k := 4) rfl rfl) rfl ?_
  refine RunO.callD (refBytes_ok (s := 4) (v := fi) (by decide) (by omega) (by omega)) rfl rfl rfl ?_
  rintro _ a4 ⟨row, f2⟩
  have hq4 := ow.1
  have hr4 := f2.next
  replace ow := ow.fr f2 (fun g => g)
  replace g0 := g0.fr0 f2
  replace f1 := f1.same f2
  have hm4 := f1.next
  obtain ⟨b_, o_, c_, rfl, _, rd⟩ := (row.sl (by decide)).nz (by decide)
  refine RunO.appendG (s := 1) (j := 4) rfl rfl rfl rfl rfl rfl rfl rfl (by decide) g0 rd (by rw [us_len, leB_len]) (by decide) (allCells_map (f := Value.int .u8) (fun _ => rfl) _) (by decide) (by decide) ?_
  intro w4 c4 row4 f3
  replace ow := ow.fr f3 (fun g => by have := (g0.at g).1; omega)
  replace f1 := f1.trans f3 (fun b a => .inr (by have := (g0.at a).1; omega))
  have hn4 := f3.next
  have g1 : Gr (qb + 1) c4 w4 1 (4 + 8 + 4 + 4 + 4 + 4) (us ((((([87, 67, 85, 84] ++ leB 8 g) ++ leB 4 bl) ++ leB 4 rt) ++ leB 4 sz) ++ leB 4 fi)) := by rw [us_app]; exact row4.gr.lo (by omega)
  clear rd row f2 f3 g0
  have g0 := g1
  clear g1
  have e : sealB ((((([87, 67, 85, 84] ++ leB 8 g) ++ leB 4 bl) ++ leB 4 rt) ++ leB 4 sz) ++ leB 4 fi) = superBlock g bl rt sz fi := by
    have := seal_make (mb := [87, 67, 85, 84]) (ss := [8, 4, 4, 4, 4]) (ns := [g, bl, rt, sz, fi]) rfl rfl (by decide)
    rw [← List.append_nil ((((([87, 67, 85, 84] ++ leB 8 g) ++ leB 4 bl) ++ leB 4 rt) ++ leB 4 sz) ++ leB 4 fi)]
    have e2 : ((((([87, 67, 85, 84] ++ leB 8 g) ++ leB 4 bl) ++ leB 4 rt) ++ leB 4 sz) ++ leB 4 fi) ++ [] = [87, 67, 85, 84] ++ catB [8, 4, 4, 4, 4] [g, bl, rt, sz, fi] := by simp only [catB, List.append_assoc, List.append_nil]
    rw [e2, this]; rfl
  have rr : Row a4.next c4 w4 1 (4 + 8 + 4 + 4 + 4 + 4) (us ((((([87, 67, 85, 84] ++ leB 8 g) ++ leB 4 bl) ++ leB 4 rt) ++ leB 4 sz) ++ leB 4 fi)) := by rw [us_app]; exact row4
  refine RunO.callD (refSeal_ok rr (by simp only [List.length_append, leB_len]; decide) (by simp only [List.length_append, leB_len]; rfl) hn4) rfl rfl rfl ?_
  rintro _ h9 ⟨row9, f9⟩
  rw [e] at row9
  exact RunO.all rfl (RunC.ret ⟨_, rfl, Row.lo2 row9 (by omega), f1.trans f9 (fun b g => .inr (by have : a4.next ≤ b := g; omega))⟩)
end Go.Proofs.Ytbinkbdfoalbcaa
end
