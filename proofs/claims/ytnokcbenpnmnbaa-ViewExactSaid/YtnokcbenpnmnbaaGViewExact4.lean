/- ViewExact: a calculus over an abstract machine that stands beside the model, and contracts of functions by it (part 4).
Conditions: what each theorem says of its arguments. -/
import Derived.Test.YtnokcbenpnmnbaaGViewExact3
section
set_option linter.unusedVariables false
set_option maxRecDepth 100000
open Go Go.Am Go.RowKit
namespace Go.Proofs.Ytnokcbenpnmnbaa
open Go.Proofs.Try
theorem is_part {l : List Int} {i : Nat} (h : i < l.length) : apart prog 3 (is l) (i * 1) = some (.int .i64 l[i]) := by
  show nth (is l) (i * 1) = _
  rw [Nat.mul_one]; exact is_nth h
theorem is_app (a b : List Int) : is (a ++ b) = is a ++ is b := by unfold is; rw [List.map_append]
theorem contains_cut {l : List Int} {i : Nat} {x : Int} (h : i < l.length) (hn : (l.take i).contains x = false) : (l.take (i + 1)).contains x = (x == l[i]) := by
  rw [List.take_succ_eq_append_getElem h]
  simp only [List.contains_eq_mem, List.mem_append, List.mem_singleton]
  have hn : ¬ x ∈ l.take i := by simpa using hn
  by_cases c : x = l[i]
  · simp [c]
  · simp [c, hn]
theorem indexInt_ok {h : Heap} {v : Value} {l : List Int} {x : Int} (sl : Sl h v 1 l.length (is l)) (hm : l.length ≤ 4611686018427387904) :
    RunF prog 117 [v, .int .i64 x] h fun r h' => h = h' ∧ ∃ k : Int, r = .int .i64 k ∧ decide (k ≥ 0) = l.contains x := by
  refine RunF.walk func117 rfl rfl ?_
  obtain ⟨A, c, rfl, hc, _⟩ := sl.form
  refine RunC.seq (RunC.region (RunO.all rfl ?_))
  refine RunC.seq (RunC.seq (RunC.region (RunO.all rfl ?_)))
  refine RunC.block ?_
  let I : Nat → Env → Heap → Prop := fun k E h' => ∃ i : Nat, i + k = l.length ∧ (l.take i).contains x = false ∧ h = h' ∧ Le (upd (upd (upd (upd E0 0 (.slice A l.length c)) 1 (.int .i64 x)) 7 (.int .i64 l.length)) 8 (.int .i64 i)) E
  refine RunC.loop I ?_ (k := l.length) ?_
  · rintro k E h' ⟨i, hi, hp, rfl, hE⟩
    refine RunC.le hE ?_
    clear hE
    refine RunC.seq (RunC.region (RunO.all rfl ?_))
    refine RunC.seq (RunC.cond rfl (fun hlt => ?_) (fun hge => ?_))
    · have hlt := of_decide_eq_true hlt
      have h1 : i < l.length := by omega
      have hcut := contains_cut h1 hp
      refine RunC.skip ?_
      refine RunC.seq (RunC.block ?_)
      refine RunC.seq (RunC.region (RunO.all rfl ?_))
      refine RunC.seq (RunC.region (RunO.part 3 rfl ?_))
      refine RunO.at (s := 1) rfl rfl sl rfl rfl h1 (is_part h1) rfl rfl rfl ?_
      refine RunO.all rfl ?_
      refine RunC.cond rfl (fun ht => ?_) (fun hn => ?_)
      · refine RunC.seq (RunC.region (RunO.all rfl (RunC.ret ⟨_, rfl, rfl, _, rfl, ?_⟩)))
        have hmem : x ∈ l := by have e : x = l[i] := by simpa using ht
                                rw [e]; exact List.getElem_mem h1
        rw [decide_eq_true (Int.natCast_nonneg i)]; simp [hmem]
      · refine RunC.skip (RunC.region (RunO.all rfl ?_))
        exact ⟨k - 1, by omega, i + 1, by omega, by rw [hcut]; exact hn, rfl, Le.cons (inc64 (by omega)) (Le.cons rfl (Le.cons rfl (Le.cons rfl (Le.nil _))))⟩
    · have hge := of_decide_eq_false hge
      refine RunC.exit ?_
      have hi2 : i = l.length := by omega
      rw [hi2, List.take_length] at hp
      refine RunC.seq (RunC.region (RunO.all rfl (RunC.ret ⟨_, rfl, rfl, _, rfl, ?_⟩)))
      rw [hp]; rfl
  · exact ⟨0, by omega, rfl, rfl, Le.cons rfl (Le.cons rfl (Le.cons rfl (Le.cons rfl (Le.nil _))))⟩
theorem containsInt_ok {h : Heap} {v : Value} {l : List Int} {x : Int} (sl : Sl h v 1 l.length (is l)) (hm : l.length ≤ 4611686018427387904) :
    RunF prog 100 [v, .int .i64 x] h fun r h' => r = .bool (l.contains x) ∧ h = h' := by
  refine RunF.walk func100 rfl rfl ?_
  refine RunC.seq (RunC.region (RunO.all rfl ?_))
  refine RunC.seq (RunC.region (RunO.part 2 rfl ?_))
  refine RunO.callD (indexInt_ok sl hm) rfl rfl rfl ?_
  rintro _ _ ⟨rfl, k, rfl, hk⟩
  refine RunO.part 1 rfl ?_
  rw [hk]
  exact RunO.all rfl (RunC.ret ⟨_, rfl, rfl, rfl⟩)
theorem twin_ok {h : Heap} {v : Value} {l : List Int} (sl : Sl h v 1 l.length (us l)) (hb : 2 * l.length ≤ 281474976710656) : RunF prog 12 [v] h fun r h' => Row h.next h' r 1 l.length (us l) ∧ Fr no h h' := by
  refine RunF.walk func12 rfl rfl ?_
  refine RunC.seq (RunC.region (RunO.all rfl ?_))
  refine RunC.seq (RunC.region (RunO.all rfl ?_))
  refine RunC.seq (RunC.region (RunO.part 2 rfl ?_))
  refine RunO.appendOs (s := 1) (k := 0) rfl rfl rfl rfl rfl rfl rfl rfl (Nat.le_refl 1) (Row.nil h.next h 1) (Nat.le_refl _) sl (allCells_map (fun _ => rfl) l) (by show 2 * (0 + l.length) * 1 ≤ _; omega) (by omega) ?_
  intro v' h' row f
  rw [Nat.zero_add, List.nil_append] at row
  exact RunO.all rfl (RunC.ret ⟨_, rfl, row, f.weak (fun i g => by obtain ⟨_, _, e⟩ := g; cases e)⟩)
end Go.Proofs.Ytnokcbenpnmnbaa
end
section
set_option linter.unusedVariables false
set_option maxRecDepth 100000
open Go Go.Am Go.RowKit
namespace Go.Proofs.Ytnokcbenpnmnbaa
open Go.Proofs.Try
/-- The cells of a walk. -/
def wc (iv : Value) (B : Nat) (mv nv : Value) (bad : Bool) : List Value := [iv, .int .i64 (B : Int), mv, nv, .bool bad]
/-- A walk through a tree, in memory: its own block, the map's, the nodes' row. -/
structure TW (lo : Nat) (h : Heap) (iv : Value) (B wb mb : Nat) (nv : Value) (w : TS) : Prop where
  ow : Ow h wb (wc iv B (.slice (some ⟨mb, 0, none⟩) 512 (exc 512)) nv w.2.2)
  om : Ow h mb (is w.1)
  row : Row lo h nv 1 w.2.1.length (is w.2.1)
  len : w.1.length = 512
  ne : wb ≠ mb
  lw : wb < lo
  lm : mb < lo
  ln : lo ≤ h.next
/-- What a walk writes. -/
def TM (lo wb mb : Nat) : Nat → Prop := fun b => b = wb ∨ b = mb ∨ lo ≤ b
theorem TW.quiet {lo : Nat} {h h' : Heap} {iv : Value} {B wb mb : Nat} {nv : Value} {w : TS} (t : TW lo h iv B wb mb nv w) (f : Fr no h h') : TW lo h' iv B wb mb nv w :=
  ⟨t.ow.fr f (fun g => g), t.om.fr f (fun g => g), t.row.fr f (fun _ _ _ g => g), t.len, t.ne, t.lw, t.lm, Nat.le_trans t.ln f.next⟩
/-- A flag is raised. -/
theorem TW.bad {lo : Nat} {h : Heap} {iv : Value} {B wb mb : Nat} {nv : Value} {m ns : List Int} {b : Bool} (t : TW lo h iv B wb mb nv (m, ns, b)) :
    astore prog h 4 ⟨wb, 4, none⟩ (.bool true) = some (h.put wb (some ⟨wc iv B (.slice (some ⟨mb, 0, none⟩) 512 (exc 512)) nv true, true⟩)) ∧
    TW lo (h.put wb (some ⟨wc iv B (.slice (some ⟨mb, 0, none⟩) 512 (exc 512)) nv true, true⟩)) iv B wb mb nv (m, ns, true) ∧ Fr (TM lo wb mb) h (h.put wb (some ⟨wc iv B (.slice (some ⟨mb, 0, none⟩) 512 (exc 512)) nv true, true⟩)) := by
  have f : Fr (· = wb) h (h.put wb (some ⟨wc iv B (.slice (some ⟨mb, 0, none⟩) 512 (exc 512)) nv true, true⟩)) := Fr.put _ (.inl rfl)
  refine ⟨store1_ow t.ow rfl rfl rfl (Nat.le_of_ble_eq_true rfl), ⟨Ow.put _ t.ow.1, t.om.fr f (fun e => t.ne e.symm), t.row.fr f (fun b h1 _ e => by have := t.lw; omega), t.len, t.ne, t.lw, t.lm, t.ln⟩, f.weak (fun i e => .inl (.inl e))⟩
theorem foldl_range_bad {f : TS → Nat → TS} (hf : ∀ w i, w.2.2 = true → f w i = w) : ∀ (l : List Nat) (w : TS), w.2.2 = true → l.foldl f w = w
  | [], w, _ => rfl
  | i :: l, w, h => by rw [List.foldl_cons, hf w i h]; exact foldl_range_bad hf l w h
theorem range8_split {f : TS → Nat → TS} {w : TS} {i : Nat} (hi : i ≤ 8) : (List.range 8).foldl f w = ((List.range (8 - i)).map (· + i)).foldl f ((List.range i).foldl f w) := by
  have : List.range 8 = List.range i ++ (List.range (8 - i)).map (· + i) := by
    rw [show 8 = i + (8 - i) by omega, List.range_add]
    congr 1
    · rw [show i + (8 - i) - i = 8 - i by omega]
      apply List.map_congr_left
      intro x _; omega
  rw [this, List.foldl_append]
theorem nc_ptrs {h : Heap} {b : Nat} {lv : Int} {ps : List Int} (hp : ps.length = 8) (ow : Ow h b (nc lv ps)) : aload prog h 105 ⟨b, 1, none⟩ = some (.agg ⟨is ps⟩) := by
  refine Ow.ld ow ?_
  show (match takeN 8 (dropN 1 (nc lv ps)) with | some l => some (Value.agg ⟨l⟩) | none => none) = _
  rw [takeN_eq, dropN_eq]
  show (match (if 8 ≤ (is ps).length then some ((is ps).take 8) else none) with | some l => some (Value.agg ⟨l⟩) | none => none) = _
  rw [is_len, hp, if_pos (Nat.le_refl 8)]
  show some (Value.agg ⟨(is ps).take 8⟩) = _
  rw [List.take_of_length_le (by rw [is_len, hp]; exact Nat.le_refl _)]
def GoesOk (L : List Int) (B lo wb mb : Nat) (iv : Value) (lv : Nat) : Prop := ∀ {h : Heap} {nv : Value} {w : TS} {at_ : Int} {from_ : Nat},
    Sl h iv 1 L.length (us L) → TW lo h iv B wb mb nv w → w.2.1.length + nN lv ≤ 100000 → from_ + 8 ^ (lv + 1) ≤ 512 → w.2.2 = false →
    RunF prog 103 [.pointer (some ⟨wb, 0, none⟩), .int .i64 at_, .int .i64 (lv : Int), .int .i64 (from_ : Int)] h fun v h' => v = .tuple #[] ∧ ∃ nv', TW lo h' iv B wb mb nv' (tgo L B lv at_ from_ w) ∧ Fr (TM lo wb mb) h h'
theorem sl_tm {h h' : Heap} {iv : Value} {n s : Nat} {cs : List Value} {lo wb mb : Nat} (sl : Sl h iv s n cs) (hn : ∀ b o c, iv = .slice (some ⟨b, o, none⟩) n c → ¬ TM lo wb mb b) (f : Fr (TM lo wb mb) h h') : Sl h' iv s n cs := by
  refine ⟨sl.1, sl.2.1, sl.2.2.imp (fun y => y) ?_⟩
  rintro ⟨b, o, c, h1, h2, h3⟩
  exact ⟨b, o, c, h1, h2, h3.fr f (hn b o c h1)⟩
set_option maxHeartbeats 8000000 in
theorem goes_body {L : List Int} {B lo wb mb : Nat} {iv : Value} (hb : Byt L) (hB : B * 64 ≤ L.length) (hB2 : B ≤ 4096) (hm : L.length ≤ 4611686018427387904) (hiv : ∀ b o c, iv = .slice (some ⟨b, o, none⟩) L.length c → ¬ TM lo wb mb b)
    {lv : Nat} (hlv : lv ≤ 2) (hrec : ∀ k, lv = k + 1 → GoesOk L B lo wb mb iv k) : GoesOk L B lo wb mb iv lv := by
  intro h nv w at_ from_ sl tw hns hfrom hnb
  obtain ⟨m, ns, bad⟩ := w
  simp only at hns hnb
  subst hnb
  have hlv8 : 8 ^ lv ≤ 64 := by
    have : 8 ^ lv ≤ 8 ^ 2 := Nat.pow_le_pow_right (by decide) hlv
    exact this
  have hp8 : 8 ^ (lv + 1) = 8 ^ lv * 8 := Nat.pow_succ ..
  refine RunF.walk func103 rfl rfl ?_
  have tw0 := tw
  obtain ⟨ow, om, row, hlen, hne, hlw, hlm, hln⟩ := tw
  have hnv : ∀ b, At nv b → b < h.next := fun b ha => (row.at ha).2
  refine RunC.seq (RunC.draw0 rfl ?_)
  refine RunO.part 3 rfl ?_
  refine RunO.load (v := iv) rfl (ow.ld rfl) rfl ?_
  refine RunO.part 3 rfl ?_
  refine RunO.load (v := .int .i64 (B : Int)) rfl (ow.ld rfl) rfl ?_
  refine RunO.part 2 rfl ?_
  refine RunO.callD (treeAt_ok sl hb hB hm) rfl rfl rfl ?_
  rintro _ h1 ⟨rfl, f1⟩
  have hpl := atV_len L B at_
  have hgo : tgo L B lv at_ from_ (m, ns, false) = if (!atIs L B at_ (lv : Int) || ns.contains at_) = true then (m, ns, true) else (List.range 8).foldl (fun w i => tstep (trec L B lv) B (lv == 0) w ((atV L B at_).2.getD i 0) (from_ + i * 8 ^ lv)) (m, ns ++ [at_], false) := tgo_eq ..
  rw [hgo]
  clear hgo
  generalize atV L B at_ = nd at *
  obtain ⟨nl, ps⟩ := nd
  simp only at hpl
  refine RunO.part 4 (h1 := h1.push ⟨nc 0 nZero, true⟩) rfl ?_
  have hcl : (cellsOf (.agg ⟨nc nl ps⟩)).length = 9 := by show (nc nl ps).length = 9; simp [nc, is_len, hpl]
  have hac : allCells (cellsOf (.agg ⟨nc nl ps⟩)) = true := by show allCells (.int .i64 nl :: is ps) = true; exact allCells_map (f := Value.int .i64) (fun _ => rfl) ps
  refine RunO.store rfl rfl (store_ow (s := 9) (Ow.push h1 (nc 0 nZero)) rfl hcl hac (Nat.le_refl 9)) (RunO.all rfl ?_)
  have e9 : (nc 0 nZero).take 0 ++ cellsOf (.agg ⟨nc nl ps⟩) ++ (nc 0 nZero).drop (0 + 9) = nc nl ps := by
    show [] ++ nc nl ps ++ [] = _; simp
  rw [e9]
  have on : Ow ((h1.push ⟨nc 0 nZero, true⟩).put h1.next (some ⟨nc nl ps, true⟩)) h1.next (nc nl ps) := Ow.put _ (Nat.lt_succ_self _)
  have f2 : Fr no h1 ((h1.push ⟨nc 0 nZero, true⟩).put h1.next (some ⟨nc nl ps, true⟩)) := (Fr.push _ _ _).trans (Fr.put (m := (· = h1.next)) _ (.inl rfl)) (fun j hj => .inr (by omega))
  have f12 := f1.same f2
  have hq : lo ≤ h1.next := Nat.le_trans hln f1.next
  have hnrow : ∀ b, At nv b → b ≠ h1.next := fun b ha => by have := hnv b ha; have := f1.next; omega
  generalize (h1.push ⟨nc 0 nZero, true⟩).put h1.next (some ⟨nc nl ps, true⟩) = h2 at *
  generalize h1.next = q at *
  have tw2 := tw0.quiet f12
  clear ow om row hln tw0
  obtain ⟨ow, om, row, _, _, _, _, hln⟩ := tw2
  have row : Row lo h2 nv 1 ns.length (is ns) := row
  have tw2 : TW lo h2 iv B wb mb nv (m, ns, false) := ⟨ow, om, row, hlen, hne, hlw, hlm, hln⟩
  have F2 : Fr (TM lo wb mb) h h2 := f12.weak (fun _ g => g.elim)
  -- is it none, or met?
  refine RunC.seq (RunC.seqE (upd (upd (upd (upd (upd (upd E0 0 (.pointer (some ⟨wb, 0, none⟩))) 1 (.int .i64 at_)) 2 (.int .i64 (lv : Int))) 3 (.int .i64 (from_ : Int))) 8 (.pointer (some ⟨q, 0, none⟩))) 36 (.bool (!atIs L B at_ (lv : Int) || ns.contains at_))) ?_ ?_)
  · refine RunC.region (RunO.part 3 rfl ?_)
    cases atIs L B at_ (lv : Int) with
    | false => exact RunO.all rfl ⟨rfl, Le.cons rfl (Le.cons rfl (Le.cons rfl (Le.cons rfl (Le.cons rfl (Le.cons rfl (Le.nil _))))))⟩
    | true =>
      refine RunO.part 3 rfl ?_
      refine RunO.loadG (v := nv) rfl rfl (ow.ld rfl) rfl ?_
      refine RunO.part 1 rfl ?_
      refine RunO.callDG rfl (containsInt_ok (row.sl (by show ns.length ≤ _; omega)) (by show ns.length ≤ _; omega)) rfl rfl rfl ?_
      rintro _ _ ⟨rfl, rfl⟩
      exact RunO.all rfl ⟨rfl, Le.cons rfl (Le.cons rfl (Le.cons rfl (Le.cons rfl (Le.cons rfl (Le.cons rfl (Le.nil _))))))⟩
  generalize (!atIs L B at_ (lv : Int) || ns.contains at_) = bd
  cases bd with
  | true =>
    rw [if_pos rfl]
    refine RunC.cond rfl (fun _ => ?_) (fun g => by cases g)
    obtain ⟨e1, e2, e3⟩ := tw2.bad
    refine RunC.seq (RunC.region (RunO.part 3 rfl ?_))
    refine RunO.store rfl rfl e1 (RunO.all rfl ?_)
    exact RunC.ret ⟨_, rfl, rfl, nv, e2, F2.same e3⟩
  | false =>
  rw [if_neg Bool.false_ne_true]
  refine RunC.cond rfl (fun g => by cases g) (fun _ => RunC.skip ?_)
  -- one node more
  refine RunC.seq (RunC.region (RunO.part 4 rfl ?_))
  refine RunO.load (v := nv) rfl (ow.ld rfl) rfl ?_
  refine RunO.part 2 (h1 := h2.push ⟨is [at_], true⟩) rfl ?_
  have fp : Fr no h2 (h2.push ⟨is [at_], true⟩) := Fr.push _ _ _
  have ob := Ow.push h2 (is [at_])
  have rowp := row.fr fp (fun _ _ _ g => g)
  have owp := ow.fr fp (fun g => g)
  have omp := om.fr fp (fun g => g)
  have onp := on.fr fp (fun g => g)
  have hlnp : lo ≤ (h2.push ⟨is [at_], true⟩).next := Nat.le_trans hln fp.next
  generalize h2.push ⟨is [at_], true⟩ = h3 at *
  refine RunO.append (s := 1) (m := 1) rfl rfl rfl rfl rfl rfl rfl rfl (Nat.le_refl 1) rowp hlnp ob.all rfl (Nat.le_refl 1) rfl (by show 2 * (ns.length + 1) * 8 ≤ _; omega) (by omega) ?_
  intro nv2 h4 row4 f4
  have hat : ∀ b, At nv b → lo ≤ b ∧ b < h3.next := fun b ha => rowp.at ha
  have ow4 := owp.fr f4 (fun g => by have := (hat _ g).1; omega)
  have om4 := omp.fr f4 (fun g => by have := (hat _ g).1; omega)
  have on4 := onp.fr f4 (fun g => hnrow _ g rfl)
  refine RunO.part 2 rfl ?_
  refine RunO.store rfl rfl (store1_ow ow4 rfl row4.cell.1 row4.cell.2 (Nat.le_of_ble_eq_true rfl)) (RunO.all rfl ?_)
  change RunC _ _ _ _ (h4.put wb (some ⟨wc iv B (.slice (some ⟨mb, 0, none⟩) 512 (exc 512)) nv2 false, true⟩)) _ _ _
  rw [← is_app] at row4
  have fw : Fr (· = wb) h4 (h4.put wb (some ⟨wc iv B (.slice (some ⟨mb, 0, none⟩) 512 (exc 512)) nv2 false, true⟩)) := Fr.put _ (.inl rfl)
  have tw5 : TW lo (h4.put wb (some ⟨wc iv B (.slice (some ⟨mb, 0, none⟩) 512 (exc 512)) nv2 false, true⟩)) iv B wb mb nv2 (m, ns ++ [at_], false) :=
    ⟨Ow.put _ ow4.1, om4.fr fw (fun e => hne e.symm), by
      have := row4.fr fw (fun b h1 _ e => by omega)
      rw [List.length_append]; exact this, hlen, hne, hlw, hlm, Nat.le_trans hlnp f4.next⟩
  have on5 := on4.fr fw (show ¬ q = wb by omega)
  have F5 : Fr (TM lo wb mb) h (h4.put wb (some ⟨wc iv B (.slice (some ⟨mb, 0, none⟩) 512 (exc 512)) nv2 false, true⟩)) :=
    ((F2.quiet fp).trans f4 (fun b g => .inl (.inr (.inr (hat b g).1)))).trans fw (fun b e => .inl (.inl e))
  have hn5 : (ns ++ [at_]).length + 8 * rN lv ≤ 100000 := by
    rw [nN_eq] at hns
    rw [List.length_append, List.length_singleton]; omega
  generalize h4.put wb (some ⟨wc iv B (.slice (some ⟨mb, 0, none⟩) 512 (exc 512)) nv2 false, true⟩) = h5 at *
  generalize ns ++ [at_] = ns5 at *
  clear tw2 ow om row on ow4 om4 on4 owp omp onp rowp row4 f4 fp ob fw f12 f2 F2
  refine RunC.seq (RunC.region (RunO.part 1 rfl ?_))
  refine RunO.load (v := .agg ⟨is ps⟩) rfl (nc_ptrs hpl on5) rfl (RunO.all rfl ?_)
  refine RunC.block ?_
  obtain ⟨st, hst⟩ : ∃ st : TS → Nat → TS, st = fun w i => tstep (trec L B lv) B (lv == 0) w (ps.getD i 0) (from_ + i * 8 ^ lv) := ⟨_, rfl⟩
  rw [← hst]
  have hstb : ∀ w i, w.2.2 = true → st w i = w := fun w i hw => by rw [hst]; show tstep _ _ _ _ _ _ = _; unfold tstep; rw [if_pos hw]
  let I : Nat → Env → Heap → Prop := fun d E h' => ∃ (i : Nat) (nv' : Value), i + d = 8 ∧ TW lo h' iv B wb mb nv' ((List.range i).foldl st (m, ns5, false)) ∧ ((List.range i).foldl st (m, ns5, false)).2.1.length ≤ ns5.length + i * rN lv ∧ Fr (TM lo wb mb) h h' ∧ Le (upd (upd (upd (upd (upd E0 0 (.pointer (some ⟨wb, 0, none⟩))) 2 (.int .i64 (lv : Int))) 3 (.int .i64 (from_ : Int))) 51 (.agg ⟨is ps⟩)) 52 (.int .i64 (i : Int))) E
  refine RunC.loop I ?_ (k := 8) ?_
  · rintro d E h6 ⟨i, nv6, hi, tw6, hl6, F6, hE⟩
    refine RunC.le hE ?_
    clear hE
    have hsucc : (List.range (i + 1)).foldl st (m, ns5, false) = st ((List.range i).foldl st (m, ns5, false)) i := by rw [List.range_succ, List.foldl_append]; rfl
    have hall : ((List.range i).foldl st (m, ns5, false)).2.2 = true → (List.range 8).foldl st (m, ns5, false) = (List.range i).foldl st (m, ns5, false) := fun hw => by
      rw [range8_split (i := i) (by omega), foldl_range_bad hstb _ _ hw]
    obtain ⟨w', hw'⟩ : ∃ w', w' = (List.range (i + 1)).foldl st (m, ns5, false) := ⟨_, rfl⟩
    rw [← hw'] at hsucc
    have hfin : i = 8 → (List.range 8).foldl st (m, ns5, false) = (List.range i).foldl st (m, ns5, false) := fun e => by rw [e]
    generalize (List.range i).foldl st (m, ns5, false) = w at *
    obtain ⟨m6, n6, b6⟩ := w
    simp only at hl6 hall
    refine RunC.seq (RunC.region (RunO.all rfl ?_))
    refine RunC.seq (RunC.cond rfl (fun hlt => ?_) (fun hge => ?_))
    · have hlt := of_decide_eq_true hlt
      have hi8 : i < 8 := by omega
      have hps : i < ps.length := by omega
      have hpi : ps.getD i 0 = ps[i] := by rw [List.getD_eq_getElem?_getD, List.getElem?_eq_getElem hps]; rfl
      have hnth := is_nth hps
      have hsti : w' = tstep (trec L B lv) B (lv == 0) (m6, n6, b6) ps[i] (from_ + i * 8 ^ lv) := by rw [hsucc, hst, ← hpi]
      generalize ps[i] = p at *
      have hto : from_ + i * 8 ^ lv + 8 ^ lv ≤ 512 := by
        have : i * 8 ^ lv + 8 ^ lv ≤ 8 ^ lv * 8 := by rw [← Nat.succ_mul, Nat.mul_comm]; exact Nat.mul_le_mul_left _ hi8
        omega
      have hpos : 1 ≤ 8 ^ lv := Nat.pow_pos (by decide)
      obtain ⟨to_, hto_⟩ : ∃ t, t = from_ + i * 8 ^ lv := ⟨_, rfl⟩
      rw [← hto_] at hsti hto
      refine RunC.skip ?_
      refine RunC.seq (RunC.block ?_)
      refine RunC.seq (RunC.region (RunO.part 1 rfl ?_))
      refine RunO.one rfl (v := .int .i64 p) (h1 := h6) ?_ rfl (RunO.all rfl ?_)
      · show pureR h6 (cond (Nat.ble (Nat.succ i) 8) (nth (is ps) (Nat.mul i 1)) none) = _
        rw [Nat.ble_eq_true_of_le (by omega), cond_true, show Nat.mul i 1 = i from Nat.mul_one i, hnth]; rfl
      refine RunC.seq (RunC.region (RunO.part 3 rfl ?_))
      refine RunO.callD (nodUnder_ok (k := lv) (by omega)) rfl rfl rfl ?_
      rintro _ _ ⟨rfl, rfl⟩
      refine RunO.part 1 rfl ?_
      have h1c : (i : Int) * ((8 ^ lv : Nat) : Int) = ((i * 8 ^ lv : Nat) : Int) := by rw [Int.natCast_mul]
      rw [h1c, fw64 (x := ((i * 8 ^ lv : Nat) : Int)) (by omega) (by omega)]
      refine RunO.part 1 rfl ?_
      rw [fw64 (x := (from_ : Int) + ((i * 8 ^ lv : Nat) : Int)) (by omega) (by omega), show (from_ : Int) + ((i * 8 ^ lv : Nat) : Int) = (to_ : Int) by omega]
      refine RunO.all rfl ?_
      refine RunC.block ?_
      have ow6 := tw6.ow
      refine RunC.seq (RunC.region (RunO.part 3 rfl ?_))
      refine RunO.load (v := .bool b6) rfl (ow6.ld rfl) rfl (RunO.all rfl ?_)
      cases b6 with
      | true =>
        refine RunC.cond rfl (fun _ => ?_) (fun g => by cases g)
        rw [hall rfl]
        exact RunC.ret ⟨_, rfl, rfl, nv6, tw6, F6⟩
      | false =>
      refine RunC.cond rfl (fun g => by cases g) (fun _ => ?_)
      have hrl : n6.length + rN lv ≤ 100000 := by
        have : i * rN lv + rN lv ≤ 8 * rN lv := by rw [← Nat.succ_mul]; exact Nat.mul_le_mul_right _ hi8
        omega
      have hnsl : w'.2.1.length ≤ ns5.length + (i + 1) * rN lv := by
        have := tstep_ns (trec_ns L B lv) B (lv == 0) (m6, n6, false) p to_
        rw [← hsti] at this
        rw [Nat.succ_mul]
        simp only at this
        omega
      -- what the loop goes on with
      have next : ∀ (h7 : Heap) (nv7 : Value), TW lo h7 iv B wb mb nv7 w' → Fr (TM lo wb mb) h h7 → ∀ E, Le (upd (upd (upd (upd (upd E0 0 (.pointer (some ⟨wb, 0, none⟩))) 2 (.int .i64 (lv : Int))) 3 (.int .i64 (from_ : Int))) 51 (.agg ⟨is ps⟩)) 52 (.int .i64 ((i + 1 : Nat) : Int))) E → ∃ d', d' < d ∧ I d' E h7 := by
        intro h7 nv7 t7 F7 E hE
        exact ⟨d - 1, by omega, i + 1, nv7, by omega, hw' ▸ t7, hw' ▸ hnsl, F7, hE⟩
      refine RunC.seq (RunC.region (RunO.part 4 rfl ?_))
      refine RunO.load (v := .int .i64 (B : Int)) rfl (ow6.ld rfl) rfl (RunO.all rfl ?_)
      cases hpB : decide (p ≥ (B : Int)) with
      | true =>
        have hw1 : w' = (m6, n6, true) := by rw [hsti]; unfold tstep; rw [if_neg Bool.false_ne_true, if_pos hpB]
        obtain ⟨e1, e2, e3⟩ := tw6.bad
        rw [← hw1] at e2
        refine RunC.cond rfl (fun _ => ?_) (fun g => by cases g)
        refine RunC.region (RunO.part 3 rfl ?_)
        refine RunO.store rfl rfl e1 (RunO.all rfl ?_)
        exact RunC.region (RunO.all rfl (next _ nv6 e2 (F6.same e3) _ (Le.cons (inc64 (by omega)) (Le.cons rfl (Le.cons rfl (Le.cons rfl (Le.cons rfl (Le.nil _))))))))
      | false =>
      refine RunC.cond rfl (fun g => by cases g) (fun _ => ?_)
      by_cases hp0 : p = 0
      · have hw1 : w' = (m6, n6, false) := by
          rw [hsti]; unfold tstep
          rw [if_neg Bool.false_ne_true, if_neg (by rw [hpB]; exact Bool.false_ne_true), hp0]; rfl
        rw [← hw1] at tw6
        subst hp0
        refine RunC.seq (RunC.region (RunO.all rfl (RunC.cond rfl (fun g => by cases g) (fun _ => ?_))))
        refine RunC.seq (RunC.region (RunO.all rfl (RunC.cond rfl (fun g => by cases g) (fun _ => RunC.skip ?_))))
        exact RunC.region (RunO.all rfl (next _ nv6 tw6 F6 _ (Le.cons (inc64 (by omega)) (Le.cons rfl (Le.cons rfl (Le.cons rfl (Le.cons rfl (Le.nil _))))))))
      have hpn : (p != 0) = true := bne_iff_ne.2 hp0
      refine RunC.seq (RunC.region (RunO.part 3 rfl ?_))
      rw [hpn]
      refine RunO.all rfl ?_
      cases hl0 : lv == 0 with
      | true =>
        have hl00 : lv = 0 := beq_iff_eq.1 hl0
        rw [show ((lv : Int) == 0) = true from beq_iff_eq.2 (by omega)]
        have hw1 : w' = (m6.set to_ p, n6, false) := by
          rw [hsti]; unfold tstep
          rw [if_neg Bool.false_ne_true, if_neg (by rw [hpB]; exact Bool.false_ne_true), hl0, hpn]; rfl
        refine RunC.cond rfl (fun _ => ?_) (fun g => by cases g)
        have hmt : to_ < m6.length := by have := tw6.len; simp only at this; omega
        refine RunC.region (RunO.part 3 rfl ?_)
        refine RunO.load (v := .slice (some ⟨mb, 0, none⟩) 512 (exc 512)) rfl (ow6.ld rfl) rfl ?_
        refine RunO.part 2 rfl ?_
        refine RunO.index (s := 1) rfl rfl rfl rfl (by omega) rfl ?_
        refine RunO.store rfl rfl (store1_ow tw6.om rfl rfl rfl (by rw [is_len]; simpa using hmt)) (RunO.all rfl ?_)
        have ei : (is m6).set (0 + to_ * 1) (.int .i64 p) = is (m6.set to_ p) := by rw [Nat.zero_add, Nat.mul_one]; unfold is; rw [List.map_set]
        have fm : Fr (· = mb) h6 (h6.put mb (some ⟨(is m6).set (0 + to_ * 1) (.int .i64 p), true⟩)) := Fr.put _ (.inl rfl)
        have t7 : TW lo (h6.put mb (some ⟨(is m6).set (0 + to_ * 1) (.int .i64 p), true⟩)) iv B wb mb nv6 (m6.set to_ p, n6, false) :=
          ⟨tw6.ow.fr fm hne, by show Ow _ mb (is (m6.set to_ p)); rw [← ei]; exact Ow.put _ tw6.om.1, tw6.row.fr fm (fun b h1 _ e => by omega), by show (m6.set to_ p).length = 512; rw [List.length_set]; exact tw6.len, hne, hlw, hlm, tw6.ln⟩
        rw [← hw1] at t7
        exact RunC.region (RunO.all rfl (next _ nv6 t7 (F6.trans fm (fun b e => .inl (.inr (.inl e)))) _ (Le.cons (inc64 (by omega)) (Le.cons rfl (Le.cons rfl (Le.cons rfl (Le.cons rfl (Le.nil _))))))))
      | false =>
        obtain ⟨k, rfl⟩ : ∃ k, lv = k + 1 := by
          cases lv with
          | zero => cases hl0
          | succ k => exact ⟨k, rfl⟩
        rw [show (((k + 1 : Nat) : Int) == 0) = false from beq_eq_false_iff_ne.2 (by omega)]
        have hw1 : w' = tgo L B k p to_ (m6, n6, false) := by
          rw [hsti]; unfold tstep
          rw [if_neg Bool.false_ne_true, if_neg (by rw [hpB]; exact Bool.false_ne_true), hl0, hpn]; rfl
        refine RunC.cond rfl (fun g => by cases g) (fun _ => ?_)
        refine RunC.seq (RunC.region (RunO.part 1 rfl ?_))
        refine RunO.part 1 rfl ?_
        rw [hpn]
        refine RunO.all rfl ?_
        refine RunC.cond rfl (fun _ => ?_) (fun g => by cases g)
        refine RunC.region (RunO.part 3 rfl ?_)
        refine RunO.part 1 rfl ?_
        rw [fw64 (x := ((k + 1 : Nat) : Int) - 1) (by omega) (by omega), show ((k + 1 : Nat) : Int) - 1 = (k : Int) by omega]
        refine RunO.part 1 rfl ?_
        refine RunO.callD (hrec k rfl (at_ := p) (from_ := to_) (sl_tm sl hiv F6) tw6 hrl hto rfl) rfl rfl rfl ?_
        rintro _ h7 ⟨rfl, nv7, t7, F7⟩
        rw [← hw1] at t7
        refine RunO.all rfl ?_
        exact RunC.region (RunO.all rfl (next _ nv7 t7 (F6.same F7) _ (Le.cons (inc64 (by omega)) (Le.cons rfl (Le.cons rfl (Le.cons rfl (Le.cons rfl (Le.nil _))))))))
    · have hge := of_decide_eq_false hge
      refine RunC.exit ?_
      rw [hfin (by omega)]
      exact ⟨_, rfl, rfl, nv6, tw6, F6⟩
  · exact ⟨0, nv2, by omega, tw5, by simp, F5, Le.cons rfl (Le.cons rfl (Le.cons rfl (Le.cons rfl (Le.cons rfl (Le.nil _)))))⟩
theorem treeGoes_ok {L : List Int} {B lo wb mb : Nat} {iv : Value} (hb : Byt L) (hB : B * 64 ≤ L.length) (hB2 : B ≤ 4096) (hm : L.length ≤ 4611686018427387904) (hiv : ∀ b o c, iv = .slice (some ⟨b, o, none⟩) L.length c → ¬ TM lo wb mb b) : ∀ (lv : Nat), lv ≤ 2 → GoesOk L B lo wb mb iv lv := by
  intro lv
  induction lv with
  | zero => intro h; exact goes_body hb hB hB2 hm hiv h (fun k e => by cases e)
  | succ k ih =>
    intro h
    exact goes_body hb hB hB2 hm hiv h (fun j e => by cases e; exact ih (by omega))
end Go.Proofs.Ytnokcbenpnmnbaa
end
section
set_option linter.unusedVariables false
set_option maxRecDepth 100000
open Go Go.Am
namespace Go.Proofs.Ytnokcbenpnmnbaa
open Go.Proofs.Try
theorem indexI_ok {h : Heap} {v : Value} {n : Nat} {acs : List Value} (sl : Sl h v 1 n acs) {u : Nat → Value} (hu : ∀ j, j < n → apart prog 3 acs (j * 1) = some (u j)) {g : FuncId} {cap : List Value} {p : Nat → Bool}
    (hg : ∀ j, j < n → ∀ h1, Fr no h h1 → RunF prog g (u j :: cap) h1 (fun v h2 => v = .bool (p j) ∧ Fr no h1 h2)) (hm : n ≤ 4611686018427387904) :
    RunF prog 122 [v, .func (.func g) #[] ⟨cap⟩] h fun r h' => Fr no h h' ∧ ((∃ i : Nat, i < n ∧ r = .int .i64 (i : Int) ∧ p i = true ∧ ∀ j, j < i → p j = false) ∨ (r = .int .i64 (-1) ∧ ∀ j, j < n → p j = false)) := by
  refine RunF.walk func122 rfl rfl ?_
  obtain ⟨A, c, rfl, hc, _⟩ := sl.form
  refine RunC.seq (RunC.region (RunO.all rfl ?_))
  refine RunC.seq (RunC.seq (RunC.region (RunO.all rfl ?_)))
  refine RunC.block ?_
  let I : Nat → Env → Heap → Prop := fun k E h' => ∃ i : Nat, i + k = n ∧ (∀ j, j < i → p j = false) ∧ Fr no h h' ∧ Le (upd (upd (upd (upd E0 0 (.slice A n c)) 1 (.func (.func g) #[] ⟨cap⟩)) 7 (.int .i64 n)) 8 (.int .i64 i)) E
  refine RunC.loop I ?_ (k := n) ?_
  · rintro k E h' ⟨i, hi, hp, hf, hE⟩
    refine RunC.le hE ?_
    clear hE
    refine RunC.seq (RunC.region (RunO.all rfl ?_))
    refine RunC.seq (RunC.cond rfl (fun hlt => ?_) (fun hge => ?_))
    · have hlt := of_decide_eq_true hlt
      have h1 : i < n := by omega
      refine RunC.skip ?_
      refine RunC.seq (RunC.block ?_)
      refine RunC.seq (RunC.region (RunO.all rfl ?_))
      refine RunC.seq (RunC.region (RunO.part 3 rfl ?_))
      refine RunO.at (s := 1) rfl rfl (sl.fr0 hf) rfl rfl h1 (hu i h1) rfl rfl rfl ?_
      refine RunO.call rfl rfl ?_
      refine RunF.mono (hg i h1 _ hf) ?_
      rintro _ h2 ⟨rfl, f2⟩
      refine ⟨_, rfl, RunO.all rfl ?_⟩
      refine RunC.cond rfl (fun ht => ?_) (fun hn => ?_)
      · refine RunC.seq (RunC.region (RunO.all rfl (RunC.ret ⟨_, rfl, hf.quiet f2, .inl ⟨i, h1, rfl, ht, hp⟩⟩)))
      · refine RunC.skip (RunC.region (RunO.all rfl ?_))
        refine ⟨k - 1, by omega, i + 1, by omega, fun j hj => ?_, hf.quiet f2, Le.cons (inc64 (by omega)) (Le.cons rfl (Le.cons rfl (Le.cons rfl (Le.nil _))))⟩
        rcases Nat.lt_or_ge j i with q | q
        · exact hp j q
        · rw [show j = i by omega]; exact hn
    · have hge := of_decide_eq_false hge
      refine RunC.exit ?_
      exact RunC.seq (RunC.region (RunO.all rfl (RunC.ret ⟨_, rfl, hf, .inr ⟨rfl, fun j hj => hp j (by omega)⟩⟩)))
  · exact ⟨0, by omega, fun j hj => absurd hj (Nat.not_lt_zero _), Fr.refl _ _, Le.cons rfl (Le.cons rfl (Le.cons rfl (Le.cons rfl (Le.nil _))))⟩
theorem containsI_ok {h : Heap} {v : Value} {n : Nat} {acs : List Value} (sl : Sl h v 1 n acs) {u : Nat → Value} (hu : ∀ j, j < n → apart prog 3 acs (j * 1) = some (u j)) {g : FuncId} {cap : List Value} {p : Nat → Bool}
    (hg : ∀ j, j < n → ∀ h1, Fr no h h1 → RunF prog g (u j :: cap) h1 (fun v h2 => v = .bool (p j) ∧ Fr no h1 h2)) (hm : n ≤ 4611686018427387904) :
    RunF prog 104 [v, .func (.func g) #[] ⟨cap⟩] h fun r h' => r = .bool (anyI p n) ∧ Fr no h h' := by
  refine RunF.walk func104 rfl rfl ?_
  refine RunC.seq (RunC.region (RunO.all rfl ?_))
  refine RunC.seq (RunC.region (RunO.part 2 rfl ?_))
  refine RunO.callD (indexI_ok sl hu hg hm) rfl rfl rfl ?_
  rintro _ h2 ⟨f2, ⟨i, hi, rfl, hp, _⟩ | ⟨rfl, hp⟩⟩
  · refine RunO.all rfl (RunC.ret ⟨_, rfl, ?_, f2⟩)
    rw [anyI_true hi hp]
    exact congrArg Value.bool (decide_eq_true (Int.natCast_nonneg i))
  · refine RunO.all rfl (RunC.ret ⟨_, rfl, ?_, f2⟩)
    rw [anyI_false hp]; rfl
end Go.Proofs.Ytnokcbenpnmnbaa
end
section
set_option linter.unusedVariables false
set_option maxRecDepth 100000
open Go Go.Am Go.RowKit
namespace Go.Proofs.Ytnokcbenpnmnbaa
open Go.Proofs.Try
def treeW (L : List Int) (root : Int) : TS := tgo L (L.length / 64) 2 root 0 (List.replicate 512 0, [], false)
/-- Is there a tree at a root of a right device? -/
def treeOk (L : List Int) (root : Int) : Bool := root == 0 || (!(treeW L root).2.2 && !((treeW L root).1.any fun b => (treeW L root).2.1.contains b))
def treeM (L : List Int) (root : Int) : List Int := if root == 0 then List.replicate 512 0 else (treeW L root).1
def treeN (L : List Int) (root : Int) : List Int := if root == 0 then [] else (treeW L root).2.1
theorem treeW_len (L : List Int) (root : Int) : (treeW L root).1.length = 512 := by unfold treeW; rw [tgo_len]; exact List.length_replicate
theorem treeM_len (L : List Int) (root : Int) : (treeM L root).length = 512 := by
  unfold treeM; split
  · exact List.length_replicate
  · exact treeW_len L root
theorem treeW_ns (L : List Int) (root : Int) : (treeW L root).2.1.length ≤ 73 := by
  have := trec_ns L (L.length / 64) 3 root 0 (List.replicate 512 0, [], false)
  have e : rN 3 = 73 := rfl
  rw [e] at this
  have h2 : trec L (L.length / 64) 3 root 0 (List.replicate 512 0, [], false) = treeW L root := rfl
  rw [h2] at this
  simpa using this
theorem treeN_len (L : List Int) (root : Int) : (treeN L root).length ≤ 73 := by
  unfold treeN; split
  · exact Nat.zero_le _
  · exact treeW_ns L root
/-- A walk that is told. -/
def WK (lo : Nat) (h : Heap) (wb : Nat) (iv : Value) (B : Nat) (m ns : List Int) : Prop :=
  ∃ mb nv, lo ≤ wb ∧ lo ≤ mb ∧ Ow h wb (wc iv B (.slice (some ⟨mb, 0, none⟩) 512 (exc 512)) nv false) ∧ Ow h mb (is m) ∧ Row lo h nv 1 ns.length (is ns) ∧ m.length = 512 ∧ ns.length ≤ 73
theorem Row.lo {lo lo' : Nat} {h : Heap} {v : Value} {s n : Nat} {cells : List Value} (r : Row lo h v s n cells) (hl : lo' ≤ lo) : Row lo' h v s n cells := by
  refine ⟨r.1, r.2.imp (fun x => x) ?_⟩
  rintro ⟨b, h1, h2⟩
  exact ⟨b, by omega, h2⟩
theorem treeGoC_ok {h : Heap} {pc wb : Nat} {iv mv nv : Value} {B : Nat} {bad : Bool} {ns : List Int} {lo : Nat} {b : Int} (op : Rd h ⟨pc, 0, none⟩ [.pointer (some ⟨wb, 0, none⟩)]) (ow : Ow h wb (wc iv B mv nv bad)) (row : Row lo h nv 1 ns.length (is ns)) (hl : ns.length ≤ 100000) :
    RunF prog 105 [.int .i64 b, .pointer (some ⟨pc, 0, none⟩)] h fun v h' => v = .bool (ns.contains b) ∧ Fr no h h' := by
  refine RunF.walk func105 rfl rfl ?_
  refine RunC.seq (RunC.region (RunO.all rfl ?_))
  refine RunC.seq (RunC.region ?_)
  refine RunO.load (v := .pointer (some ⟨wb, 0, none⟩)) rfl (op.ld rfl) rfl ?_
  refine RunO.part 2 rfl ?_
  refine RunO.load (v := nv) rfl (ow.ld rfl) rfl ?_
  refine RunO.part 1 rfl ?_
  refine RunO.callD (containsInt_ok (row.sl (by omega)) (by omega)) rfl rfl rfl ?_
  rintro _ _ ⟨rfl, rfl⟩
  exact RunO.all rfl (RunC.ret ⟨_, rfl, rfl, Fr.refl _ _⟩)
set_option maxHeartbeats 4000000 in
theorem treeGo_ok {h : Heap} {iv : Value} {L : List Int} {root : Int} (sl : Sl h iv 1 L.length (us L)) (hb : Byt L) (hd : devOk L.length = true) :
    RunF prog 72 [iv, .int .i64 root] h fun v h' => Fr no h h' ∧ ((treeOk L root = true ∧ ∃ wb, v = .tuple #[.pointer (some ⟨wb, 0, none⟩), .bool true] ∧ WK h.next h' wb iv (L.length / 64) (treeM L root) (treeN L root)) ∨ (treeOk L root = false ∧ v = .tuple #[.pointer none, .bool false])) := by
  have hdl : L.length % 64 = 0 ∧ 4 ≤ L.length / 64 ∧ L.length / 64 ≤ 4096 := by
    unfold devOk at hd
    simpa using hd
  have hm : L.length ≤ 4611686018427387904 := by omega
  refine RunF.walk func72 rfl rfl ?_
  have sl0 := sl
  obtain ⟨A, c, rfl, hc, hA⟩ := sl.form
  have hAlt : ∀ b o c', Value.slice A L.length c = .slice (some ⟨b, o, none⟩) L.length c' → b < h.next := fun b o c' e => by
    obtain ⟨b', o', rfl, rd⟩ := hA (by omega)
    cases e; exact rd.2.1
  refine RunC.seq (RunC.region (RunO.all rfl ?_))
  refine RunC.seq (RunC.region (RunO.part 1 rfl ?_))
  refine RunO.callD (devCheck_ok hm) rfl rfl rfl ?_
  rintro _ _ ⟨rfl, rfl⟩
  rw [hd, if_pos rfl, if_pos rfl]
  refine RunO.all rfl ?_
  obtain ⟨B, hBe⟩ : ∃ B, B = L.length / 64 := ⟨_, rfl⟩
  rw [← hBe] at hdl ⊢
  refine RunC.seq (RunC.region (RunO.part 2 rfl ?_))
  refine RunO.make (m := 512) rfl rfl rfl rfl rfl rfl (by decide) (by decide) rfl ?_
  rw [show reps (cellsOf (Value.int .i64 0)) 512 = is (List.replicate 512 0) by rw [show cellsOf (Value.int .i64 0) = [.int .i64 0] from rfl, reps_one]; unfold is; rw [List.map_replicate]]
  have om := Ow.push h (is (List.replicate 512 0))
  have f1 : Fr no h (h.push ⟨is (List.replicate 512 0), true⟩) := Fr.push _ _ _
  have hn1 : (h.push ⟨is (List.replicate 512 0), true⟩).next = h.next + 1 := rfl
  generalize h.push ⟨is (List.replicate 512 0), true⟩ = h1 at *
  generalize hmb : h.next = mb at om hn1 ⊢
  refine RunO.part 2 (h1 := h1.push ⟨wc (.slice A L.length c) B (.slice (some ⟨mb, 0, none⟩) 512 (exc 512)) (.slice none 0 0) false, true⟩) rfl ?_
  obtain ⟨iv, hiv⟩ : ∃ iv, iv = Value.slice A L.length c := ⟨_, rfl⟩
  rw [← hiv] at sl0 hAlt ⊢
  have ow := Ow.push h1 (wc iv B (.slice (some ⟨mb, 0, none⟩) 512 (exc 512)) (.slice none 0 0) false)
  have f2 : Fr no h1 (h1.push ⟨wc iv B (.slice (some ⟨mb, 0, none⟩) 512 (exc 512)) (.slice none 0 0) false, true⟩) := Fr.push _ _ _
  have hn2 : (h1.push ⟨wc iv B (.slice (some ⟨mb, 0, none⟩) 512 (exc 512)) (.slice none 0 0) false, true⟩).next = h1.next + 1 := rfl
  generalize h1.push ⟨wc iv B (.slice (some ⟨mb, 0, none⟩) 512 (exc 512)) (.slice none 0 0) false, true⟩ = h2 at *
  refine RunO.part 1 (h1 := h2.push ⟨[.pointer none], true⟩) rfl ?_
  refine RunO.store rfl rfl (store1_ow (Ow.push h2 [.pointer none]) rfl rfl rfl (Nat.le_refl 1)) (RunO.nil ?_)
  change RunC _ _ _ _ ((h2.push ⟨[.pointer none], true⟩).put h2.next (some ⟨[.pointer (some ⟨h1.next, 0, none⟩)], true⟩)) _ _ _
  have op : Ow ((h2.push ⟨[.pointer none], true⟩).put h2.next (some ⟨[.pointer (some ⟨h1.next, 0, none⟩)], true⟩)) h2.next [.pointer (some ⟨h1.next, 0, none⟩)] := Ow.put _ (Nat.lt_succ_self _)
  have f3 : Fr no h2 ((h2.push ⟨[.pointer none], true⟩).put h2.next (some ⟨[.pointer (some ⟨h1.next, 0, none⟩)], true⟩)) := (Fr.push _ _ _).trans (Fr.put (m := (· = h2.next)) _ (.inl rfl)) (fun j hj => .inr (by omega))
  have hn3 : ((h2.push ⟨[.pointer none], true⟩).put h2.next (some ⟨[.pointer (some ⟨h1.next, 0, none⟩)], true⟩)).next = h2.next + 1 := rfl
  replace om := (om.fr f2 (fun g => g)).fr f3 (fun g => g)
  replace ow := ow.fr f3 (fun g => g)
  have f13 := (f1.same f2).same f3
  generalize (h2.push ⟨[.pointer none], true⟩).put h2.next (some ⟨[.pointer (some ⟨h1.next, 0, none⟩)], true⟩) = h3 at *
  generalize h2.next = pc at *
  generalize h1.next = wb at *
  have hmB : B * 64 ≤ L.length := by omega
  have tm : ∀ b o c', iv = .slice (some ⟨b, o, none⟩) L.length c' → ¬ TM h3.next wb mb b := fun b o c' e => by
    have := hAlt b o c' e
    rintro (e | e | e) <;> omega
  have tw : TW h3.next h3 iv B wb mb (.slice none 0 0) (List.replicate 512 0, [], false) := ⟨ow, om, Row.nil _ _ _, List.length_replicate, by omega, by omega, by omega, Nat.le_refl _⟩
  have sl3 := sl0.fr0 f13
  refine RunC.seq (RunC.seq (RunC.region (RunO.all rfl ?_)))
  by_cases hr : root = 0
  · have h1 : treeOk L root = true := by unfold treeOk; rw [hr]; rfl
    have h2 : treeM L root = List.replicate 512 0 := by unfold treeM; rw [hr]; rfl
    have h3' : treeN L root = [] := by unfold treeN; rw [hr]; rfl
    rw [h1, h2, h3']
    subst hr
    refine RunC.cond rfl (fun _ => ?_) (fun g => by cases g)
    refine RunC.seq (RunC.region ?_)
    refine RunO.load (v := .pointer (some ⟨wb, 0, none⟩)) rfl (op.ld rfl) rfl (RunO.all rfl ?_)
    exact RunC.ret ⟨_, rfl, f13, .inl ⟨rfl, wb, rfl, mb, _, by omega, by omega, ow, om, Row.nil _ _ _, List.length_replicate, Nat.zero_le _⟩⟩
  rw [show (root == 0) = false from beq_eq_false_iff_ne.2 hr]
  refine RunC.cond rfl (fun g => by cases g) (fun _ => RunC.skip ?_)
  have hTok : treeOk L root = (!(treeW L root).2.2 && !((treeW L root).1.any fun b => (treeW L root).2.1.contains b)) := by unfold treeOk; rw [show (root == 0) = false from beq_eq_false_iff_ne.2 hr]; rfl
  have hTm : treeM L root = (treeW L root).1 := by unfold treeM; rw [show (root == 0) = false from beq_eq_false_iff_ne.2 hr]; rfl
  have hTn : treeN L root = (treeW L root).2.1 := by unfold treeN; rw [show (root == 0) = false from beq_eq_false_iff_ne.2 hr]; rfl
  rw [hTok, hTm, hTn]
  refine RunC.seq (RunC.region ?_)
  refine RunO.load (v := .pointer (some ⟨wb, 0, none⟩)) rfl (op.ld rfl) rfl ?_
  refine RunO.part 1 rfl ?_
  refine RunO.callD (treeGoes_ok hb hmB (by omega) hm tm 2 (by decide) (at_ := root) (from_ := 0) sl3 tw (by decide) (by decide) rfl) rfl rfl rfl ?_
  rintro _ h4 ⟨rfl, nv, t4, F4⟩
  have htw : tgo L B 2 root 0 (List.replicate 512 0, [], false) = treeW L root := by rw [hBe]; rfl
  rw [htw] at t4
  have hwl := treeW_len L root
  have hns := treeW_ns L root
  generalize treeW L root = w at *
  obtain ⟨m, ns, bad⟩ := w
  simp only at hwl hns
  obtain ⟨ow4, om4, row4, _, _, _, _, _⟩ := t4
  simp only at ow4 om4 row4
  have op4 := op.fr F4 (by rintro (e | e | e) <;> omega)
  have F04 : Fr no h h4 := (f13.trans F4 (fun i g => .inr (by rcases g with e | e | e <;> omega)))
  refine RunO.all rfl ?_
  have row0 : Row mb h4 nv 1 ns.length (is ns) := Row.lo row4 (by omega)
  refine RunC.seq (RunC.seq (RunC.region ?_))
  refine RunO.load (v := .pointer (some ⟨wb, 0, none⟩)) rfl (op4.ld rfl) rfl ?_
  refine RunO.part 2 rfl ?_
  refine RunO.load (v := .bool bad) rfl (ow4.ld rfl) rfl ?_
  refine RunO.part 1 rfl ?_
  cases bad with
  | true =>
    refine RunO.all rfl ?_
    refine RunC.cond rfl (fun _ => ?_) (fun g => by cases g)
    exact RunC.seq (RunC.region (RunO.all rfl (RunC.ret ⟨_, rfl, F04, .inr ⟨rfl, rfl⟩⟩)))
  | false =>
    refine RunO.loadG (v := .pointer (some ⟨wb, 0, none⟩)) rfl rfl (op4.ld rfl) rfl ?_
    refine RunO.part 2 rfl ?_
    refine RunO.loadG (v := .slice (some ⟨mb, 0, none⟩) 512 (exc 512)) rfl rfl (ow4.ld rfl) rfl ?_
    refine RunO.part 1 rfl ?_
    have slm : Sl h4 (.slice (some ⟨mb, 0, none⟩) 512 (exc 512)) 1 512 (is m) := om4.all.sl (by rw [is_len, hwl]) (by decide) (Cp.exc (Nat.le_refl _))
    refine RunO.callDG rfl (containsI_ok slm (u := fun j => .int .i64 (m.getD j 0)) (fun j hj => ?_) (p := fun j => ns.contains (m.getD j 0)) (fun j hj h5 f5 => ?_) (by decide)) rfl rfl rfl ?_
    · have hj2 : j < m.length := by omega
      rw [is_part hj2, List.getD_eq_getElem?_getD, List.getElem?_eq_getElem hj2]; rfl
    · exact treeGoC_ok (pc := pc) (op4.all.fr f5 (fun g => g)) (ow4.fr f5 (fun g => g)) (row4.fr f5 (fun _ _ _ g => g)) (by omega)
    rintro _ h5 ⟨rfl, f5⟩
    rw [← hwl, anyI_list (q := fun b => ns.contains b) (fun j x hx => by rw [List.getD_eq_getElem?_getD, hx]; rfl)]
    have ow5 := ow4.fr f5 (fun g => g)
    have om5 := om4.fr f5 (fun g => g)
    have op5 := op4.fr f5 (fun g => g)
    have row5 := row0.fr f5 (fun _ _ _ g => g)
    have F05 := F04.same f5
    refine RunO.all rfl ?_
    cases hc : m.any fun b => ns.contains b with
    | true =>
      refine RunC.cond rfl (fun _ => ?_) (fun g => by cases g)
      exact RunC.seq (RunC.region (RunO.all rfl (RunC.ret ⟨_, rfl, F05, .inr ⟨rfl, rfl⟩⟩)))
    | false =>
      refine RunC.cond rfl (fun g => by cases g) (fun _ => RunC.skip ?_)
      refine RunC.seq (RunC.region ?_)
      refine RunO.load (v := .pointer (some ⟨wb, 0, none⟩)) rfl (op5.ld rfl) rfl (RunO.all rfl ?_)
      exact RunC.ret ⟨_, rfl, F05, .inl ⟨rfl, wb, rfl, mb, nv, by omega, by omega, ow5, om5, row5, hwl, hns⟩⟩
end Go.Proofs.Ytnokcbenpnmnbaa
end
section
set_option linter.unusedVariables false
set_option maxRecDepth 100000
open Go Go.Am Go.RowKit
namespace Go.Proofs.Ytnokcbenpnmnbaa
open Go.Proofs.Try
/-- Why there is no tree. -/
def treeE (L : List Int) (root : Int) : Int := if devOk L.length then (if treeOk L root then 0 else 6) else 2
theorem treeChecked_ok {h : Heap} {iv : Value} {L : List Int} {root : Int} (sl : Sl h iv 1 L.length (us L)) (hb : Byt L) (hm : L.length ≤ 4611686018427387904) :
    RunF prog 83 [iv, .int .i64 root] h fun v h' => Fr no h h' ∧ ((treeE L root = 0 ∧ ∃ wb, v = .tuple #[.pointer (some ⟨wb, 0, none⟩), .int .i64 0] ∧ WK h.next h' wb iv (L.length / 64) (treeM L root) (treeN L root)) ∨ (treeE L root ≠ 0 ∧ v = .tuple #[.pointer none, .int .i64 (treeE L root)])) := by
  refine RunF.walk func83 rfl rfl ?_
  have sl0 := sl
  obtain ⟨A, c, rfl, hc, hA⟩ := sl.form
  refine RunC.seq (RunC.region (RunO.all rfl ?_))
  refine RunC.seq (RunC.region (RunO.part 1 rfl ?_))
  refine RunO.callD (devCheck_ok hm) rfl rfl rfl ?_
  rintro _ _ ⟨rfl, rfl⟩
  refine RunO.all rfl ?_
  have hE : treeE L root = if devOk L.length then (if treeOk L root then 0 else 6) else 2 := rfl
  rw [hE]
  cases hd : devOk L.length with
  | false =>
    refine RunC.seq (RunC.seq (RunC.region (RunO.all rfl (RunC.cond rfl (fun _ => ?_) (fun g => by cases g)))))
    exact RunC.seq (RunC.region (RunO.all rfl (RunC.ret ⟨_, rfl, Fr.refl _ _, .inr ⟨by rw [if_neg Bool.false_ne_true]; decide, rfl⟩⟩)))
  | true =>
    refine RunC.seq (RunC.seq (RunC.region (RunO.all rfl (RunC.cond rfl (fun g => by cases g) (fun _ => RunC.skip ?_)))))
    refine RunC.seq (RunC.region (RunO.part 2 rfl ?_))
    refine RunO.callD (treeGo_ok (root := root) sl0 hb hd) rfl rfl rfl ?_
    rintro v h1 ⟨f1, ⟨hok, wb, rfl, wk⟩ | ⟨hok, rfl⟩⟩
    · rw [hok]
      refine RunO.all rfl ?_
      refine RunC.seq (RunC.seq (RunC.region (RunO.all rfl (RunC.cond rfl (fun g => by cases g) (fun _ => RunC.skip ?_)))))
      exact RunC.seq (RunC.region (RunO.all rfl (RunC.ret ⟨_, rfl, f1, .inl ⟨rfl, wb, rfl, wk⟩⟩)))
    · rw [hok]
      refine RunO.all rfl ?_
      refine RunC.seq (RunC.seq (RunC.region (RunO.all rfl (RunC.cond rfl (fun _ => ?_) (fun g => by cases g)))))
      exact RunC.seq (RunC.region (RunO.all rfl (RunC.ret ⟨_, rfl, f1, .inr ⟨by decide, rfl⟩⟩)))
theorem treeMap_ok {h : Heap} {iv : Value} {L : List Int} {root : Int} (sl : Sl h iv 1 L.length (us L)) (hb : Byt L) (hm : L.length ≤ 4611686018427387904) :
    RunF prog 54 [iv, .int .i64 root] h fun v h' => Fr no h h' ∧ ((treeE L root = 0 ∧ ∃ mb, h.next ≤ mb ∧ v = .tuple #[.slice (some ⟨mb, 0, none⟩) 512 (exc 512), .int .i64 0] ∧ Ow h' mb (is (treeM L root))) ∨ (treeE L root ≠ 0 ∧ v = .tuple #[.slice none 0 0, .int .i64 (treeE L root)])) := by
  refine RunF.walk func54 rfl rfl ?_
  refine RunC.seq (RunC.region (RunO.all rfl ?_))
  refine RunC.seq (RunC.region (RunO.part 2 rfl ?_))
  refine RunO.callD (treeChecked_ok (root := root) sl hb hm) rfl rfl rfl ?_
  rintro v h1 ⟨f1, ⟨he, wb, rfl, mb, nv, h2, h3, ow, om, row, hl, hn⟩ | ⟨he, rfl⟩⟩
  · refine RunO.all rfl ?_
    refine RunC.seq (RunC.seq (RunC.region (RunO.all rfl (RunC.cond rfl (fun g => by cases g) (fun _ => RunC.skip ?_)))))
    refine RunC.seq (RunC.region (RunO.part 3 rfl ?_))
    refine RunO.load (v := .slice (some ⟨mb, 0, none⟩) 512 (exc 512)) rfl (ow.ld rfl) rfl (RunO.all rfl ?_)
    exact RunC.ret ⟨_, rfl, f1, .inl ⟨he, mb, h3, rfl, om⟩⟩
  · refine RunO.all rfl ?_
    refine RunC.seq (RunC.seq (RunC.region (RunO.all rfl ?_)))
    rw [show (treeE L root != 0) = true from bne_iff_ne.2 he]
    refine RunC.cond rfl (fun _ => ?_) (fun g => by cases g)
    exact RunC.seq (RunC.region (RunO.all rfl (RunC.ret ⟨_, rfl, f1, .inr ⟨he, rfl⟩⟩)))
def secOk (s : Int) : Bool := !(decide (s < 0) || decide (s ≥ 512))
/-- Why a sector has no block. -/
def sectorE (L : List Int) (root s : Int) : Int := if treeE L root = 0 then (if secOk s then 0 else 3) else treeE L root
def sectorV (L : List Int) (root s : Int) : Int := if treeE L root = 0 then (if secOk s then (treeM L root).getD s.toNat 0 else 0) else 0
def offMap (B b : Int) : Bool := b != 0 && (decide (b < 2) || decide (b ≥ B))
/-- Why a map is none. -/
def mapE (m : List Int) (B : Int) : Int := if m.length = 512 then (if m.any (offMap B) then 1 else 0) else 2
end Go.Proofs.Ytnokcbenpnmnbaa
end
section
set_option linter.unusedVariables false
set_option maxRecDepth 100000
open Go Go.Am
namespace Go.Proofs.Ytnokcbenpnmnbaa
open Go.Proofs.Try
end Go.Proofs.Ytnokcbenpnmnbaa
end
section
set_option linter.unusedVariables false
set_option maxRecDepth 100000
open Go Go.Am
namespace Go.Proofs.Ytnokcbenpnmnbaa
open Go.Proofs.Try
abbrev IoT := Int × Int × List Int × Unit
/-- A device step's cells. -/
def IoK (h : Heap) (x : IoT) (cs : List Value) : Prop := ∃ dv, cs = [.int .i64 x.1, .int .i64 x.2.1, dv] ∧ Sl h dv 1 x.2.2.1.length (us x.2.2.1) ∧ Byt x.2.2.1
/-- A slice of device steps. -/
def Ios (h : Heap) (v : Value) (l : List IoT) : Prop := ∃ acs, Sl h v 3 l.length acs ∧ ∀ (j : Nat) (x : IoT), l[j]? = some x → IoK h x ((acs.drop (j * 3)).take 3)
/-- Is a step right? -/
def ioR (k a : Int) (n : Nat) (b : Int) : Bool := if (k == 1) = true then decide (a ≥ 0) && (decide (a < b) && ((n : Int) == 64)) else if (k == 2) = true then a == 0 && ((n : Int) == 0) else false
/-- Why steps are not a device's. -/
def stepsE (n : Nat) (l : List IoT) : Int := if devOk n then (if decide ((l.length : Int) > 1048576) then 2 else if l.any (fun x => !ioR x.1 x.2.1 x.2.2.1.length (n / 64 : Nat)) then 1 else 0) else 2
end Go.Proofs.Ytnokcbenpnmnbaa
end
section
set_option linter.unusedVariables false
set_option maxRecDepth 100000
open Go Go.Am
namespace Go.Proofs.Ytnokcbenpnmnbaa
open Go.Proofs.Try
/-- A block written over. -/
def setBlk (o : List Int) (i : Nat) (d : List Int) : List Int := o.take (i * 64) ++ d ++ o.drop (i * 64 + 64)
def applyStep (o : List Int) (x : IoT) : List Int := if (x.1 == 1) = true then setBlk o x.2.1.toNat x.2.2.1 else o
def applyL (o : List Int) (l : List IoT) : List Int := l.foldl applyStep o
/-- A step that is right. -/
def ioOk (n : Nat) (x : IoT) : Prop := x.1 = 1 ∧ (∃ a : Nat, x.2.1 = (a : Int) ∧ a < n / 64) ∧ x.2.2.1.length = 64 ∨ x.1 = 2 ∧ x.2.1 = 0 ∧ x.2.2.1 = []
end Go.Proofs.Ytnokcbenpnmnbaa
end
section
set_option linter.unusedVariables false
set_option maxRecDepth 100000
open Go Go.Am Go.RowKit
namespace Go.Proofs.Ytnokcbenpnmnbaa
open Go.Proofs.Try
/-- A node of one pointer. -/
def oneP (k : Nat) (p : Int) : List Int := nZero.set k p
/-- A device with a tree of one sector, so many nodes of it written: its bytes, what the next one leads to. -/
def chainI (B at_ sec : Nat) (data : Int) : Nat → List Int × Int
  | 0 => (List.replicate (B * 64) 0, data)
  | i + 1 => (setBlk (chainI B at_ sec data i).1 (at_ + i) (nodBlock i (oneP (sec / 8 ^ i % 8) (chainI B at_ sec data i).2)), ((at_ + i : Nat) : Int))
def chain (B at_ sec : Nat) (data : Int) : List Int := (chainI B at_ sec data 3).1
end Go.Proofs.Ytnokcbenpnmnbaa
end
section
set_option linter.unusedVariables false
set_option maxRecDepth 100000
open Go Go.Am Go.RowKit
namespace Go.Proofs.Ytnokcbenpnmnbaa
open Go.Proofs.Try
theorem devOk_iff {n : Nat} : devOk n = true ↔ n % 64 = 0 ∧ 4 ≤ n / 64 ∧ n / 64 ≤ 4096 := by
  unfold devOk
  simp
theorem devOk_mul {B : Nat} (h4 : 4 ≤ B) (hB : B ≤ 4096) : devOk (B * 64) = true := devOk_iff.2 ⟨by omega, by omega, by omega⟩
theorem us_zeros (n : Nat) : us (List.replicate n 0) = List.replicate n (Value.int .u8 0) := by unfold us; rw [List.map_replicate]
theorem reps_us (n : Nat) : reps (cellsOf (Value.int .u8 0)) n = us (List.replicate n 0) := by rw [us_zeros]; exact reps_one _ _
theorem reps_is (n : Nat) : reps (cellsOf (Value.int .i64 0)) n = is (List.replicate n 0) := by rw [show cellsOf (Value.int .i64 0) = [.int .i64 0] from rfl, reps_one]; unfold is; rw [List.map_replicate]
end Go.Proofs.Ytnokcbenpnmnbaa
end
section
open Go Go.Am Go.RowKit
namespace Go.Proofs.Ytnokcbenpnmnbaa
open Go.Proofs.Try
theorem mixed : prog.follows .mixedOrders = true := by kernel_rfl
theorem routines : noRoutine prog = true := by kernel_rfl
end Go.Proofs.Ytnokcbenpnmnbaa
end
section
set_option linter.unusedVariables false
set_option maxRecDepth 100000
open Go Go.Am Go.RowKit
namespace Go.Proofs.Ytnokcbenpnmnbaa
open Go.Proofs.Try
theorem treeE_ok {L : List Int} {root : Int} (h : treeE L root = 0) : treeOk L root = true ∧ devOk L.length = true := by
  unfold treeE at h
  split at h
  · rename_i hd
    split at h
    · rename_i ho; exact ⟨ho, hd⟩
    · cases h
  · cases h
theorem sl_own {h : Heap} {b c n : Nat} {l : List Int} (ow : Ow h b (us l)) (hl : l.length = n) (hc : Cp 1 n c) (hn : n ≤ 9223372036854775807) : Sl h (.slice (some ⟨b, 0, none⟩) n c) 1 l.length (us l) := by
  subst hl
  exact ow.all.sl (by rw [us_len, Nat.mul_one]) hn hc
theorem sl_owI {h : Heap} {b c n : Nat} {l : List Int} (ow : Ow h b (is l)) (hl : l.length = n) (hc : Cp 1 n c) (hn : n ≤ 9223372036854775807) : Sl h (.slice (some ⟨b, 0, none⟩) n c) 1 l.length (is l) := by
  subst hl
  exact ow.all.sl (by rw [is_len, Nat.mul_one]) hn hc
end Go.Proofs.Ytnokcbenpnmnbaa
end
section
set_option linter.unusedVariables false
set_option maxRecDepth 100000
open Go Go.Am Go.RowKit
namespace Go.Proofs.Ytnokcbenpnmnbaa
open Go.Proofs.Try
/-- What a pointer of a level leads to, for a place under it; level 0: a sector's block. -/
def look (L : List Int) (B : Nat) : Nat → Int → Nat → Int
  | 0, p, _ => p
  | k + 1, p, s => if p = 0 then 0 else look L B k ((atV L B p).2.getD (s / 8 ^ k) 0) (s % 8 ^ k)
/-- Along the way to a place each node is one, of its level. -/
def pathOk (L : List Int) (B : Nat) : Nat → Int → Nat → Prop
  | 0, _, _ => True
  | k + 1, p, s => p ≠ 0 → atIs L B p (k : Int) = true ∧ pathOk L B k ((atV L B p).2.getD (s / 8 ^ k) 0) (s % 8 ^ k)
theorem look_zero (L : List Int) (B k s : Nat) : look L B k 0 s = 0 := by cases k <;> rfl
/-- The fold of a node's pointers, as it goes. -/
def tst (L : List Int) (B lv : Nat) (ps : List Int) (f : Nat) (w : TS) (i : Nat) : TS := tstep (trec L B lv) B (lv == 0) w (ps.getD i 0) (f + i * 8 ^ lv)
theorem fold_bad {L : List Int} {B lv : Nat} {ps : List Int} {f : Nat} : ∀ (l : List Nat) (w : TS), w.2.2 = true → (l.foldl (tst L B lv ps f) w).2.2 = true
  | [], w, h => h
  | i :: l, w, h => by
    rw [List.foldl_cons]
    refine fold_bad l _ ?_
    unfold tst tstep
    rw [if_pos h]; exact h
theorem fold_pre {L : List Int} {B lv : Nat} {ps : List Int} {f N : Nat} {w : TS} (h : ((List.range N).foldl (tst L B lv ps f) w).2.2 = false) {i : Nat} (hi : i ≤ N) : ((List.range i).foldl (tst L B lv ps f) w).2.2 = false := by
  cases e : ((List.range i).foldl (tst L B lv ps f) w).2.2 with
  | false => rfl
  | true =>
    have hs : List.range N = List.range i ++ (List.range (N - i)).map (i + ·) := by
      rw [← List.range_add]; congr 1; omega
    rw [hs, List.foldl_append, fold_bad _ _ e] at h
    cases h
/-- What a walk that ends well has done. -/
structure TSpec (L : List Int) (B lv : Nat) (a : Int) (f : Nat) (w r : TS) : Prop where
  is_ : atIs L B a (lv : Int) = true
  new : w.2.1.contains a = false
  ns : ∃ t, r.2.1 = w.2.1 ++ a :: t
  nd : w.2.1.Nodup → r.2.1.Nodup
  m : ∀ s, s < 512 → r.1.getD s 0 = if f ≤ s ∧ s < f + 8 ^ (lv + 1) then look L B (lv + 1) a (s - f) else w.1.getD s 0
  path : ∀ s, s < 8 ^ (lv + 1) → pathOk L B (lv + 1) a s
  all : ∀ x ∈ r.2.1, x ∈ w.2.1 ∨ ∃ k, k ≤ lv ∧ atIs L B x (k : Int) = true
  bnd : ∀ x ∈ r.1, x ∈ w.1 ∨ x = 0 ∨ x < B
theorem atIs_ne {L : List Int} {B : Nat} {a lv : Int} (h : atIs L B a lv = true) : 2 ≤ a ∧ a < B := by
  unfold atIs at h
  rw [Bool.and_eq_true] at h
  exact atIn_iff.1 h.1
theorem nodup_snoc {α : Type} {l : List α} {x : α} (h : l.Nodup) (hx : ¬ x ∈ l) : (l ++ [x]).Nodup := by
  rw [List.nodup_append]
  refine ⟨h, List.nodup_cons.2 ⟨by simp, List.nodup_nil⟩, fun a ha b hb => ?_⟩
  rw [List.mem_singleton] at hb
  subst hb
  exact fun e => hx (e ▸ ha)
def SpecAt (L : List Int) (B lv : Nat) : Prop := ∀ (a : Int) (f : Nat) (w : TS), f + 8 ^ (lv + 1) ≤ 512 → w.1.length = 512 → w.2.2 = false → (∀ s, f ≤ s → s < f + 8 ^ (lv + 1) → w.1.getD s 0 = 0) → (tgo L B lv a f w).2.2 = false → TSpec L B lv a f w (tgo L B lv a f w)
structure FSpec (L : List Int) (B lv : Nat) (ps : List Int) (f : Nat) (m ns : List Int) (i : Nat) (r : TS) : Prop where
  len : r.1.length = 512
  tail : ∃ t, r.2.1 = ns ++ t
  nd : ns.Nodup → r.2.1.Nodup
  map : ∀ s, s < 512 → r.1.getD s 0 = if f ≤ s ∧ s < f + i * 8 ^ lv then look L B lv (ps.getD ((s - f) / 8 ^ lv) 0) ((s - f) % 8 ^ lv) else m.getD s 0
  path : ∀ j, j < i → ∀ s, s < 8 ^ lv → pathOk L B lv (ps.getD j 0) s
  all : ∀ x ∈ r.2.1, x ∈ ns ∨ ∃ k, k ≤ lv ∧ atIs L B x (k : Int) = true
  bnd : ∀ x ∈ r.1, x ∈ m ∨ x = 0 ∨ x < B
theorem getD_set (l : List Int) (k s : Nat) (p : Int) (hk : k < l.length) : (l.set k p).getD s 0 = if s = k then p else l.getD s 0 := by
  rw [List.getD_eq_getElem?_getD, List.getElem?_set]
  by_cases e : k = s
  · subst e; rw [if_pos rfl, if_pos hk, if_pos rfl]; rfl
  · rw [if_neg e, if_neg (fun g => e g.symm), List.getD_eq_getElem?_getD]
theorem divmod_at {s f i d : Nat} (hd : 0 < d) (h1 : f + i * d ≤ s) (h2 : s < f + i * d + d) : (s - f) / d = i ∧ (s - f) % d = s - (f + i * d) := by
  have e : s - f = (s - (f + i * d)) + i * d := by omega
  have hlt : s - (f + i * d) < d := by omega
  constructor
  · rw [e, Nat.add_mul_div_right _ _ hd, Nat.div_eq_of_lt hlt, Nat.zero_add]
  · rw [e, Nat.add_mul_mod_self_right, Nat.mod_eq_of_lt hlt]
theorem fold_spec {L : List Int} {B lv : Nat} {ps : List Int} {f : Nat} {m ns : List Int} (hrec : ∀ k, lv = k + 1 → SpecAt L B k) (hf : f + 8 ^ (lv + 1) ≤ 512) (hl : m.length = 512) (hz : ∀ s, f ≤ s → s < f + 8 ^ (lv + 1) → m.getD s 0 = 0)
    {N : Nat} (hN : N ≤ 8) (hb : ((List.range N).foldl (tst L B lv ps f) (m, ns, false)).2.2 = false) : ∀ i, i ≤ N → FSpec L B lv ps f m ns i ((List.range i).foldl (tst L B lv ps f) (m, ns, false)) := by
  have hp8 : 8 ^ (lv + 1) = 8 * 8 ^ lv := by rw [Nat.pow_succ, Nat.mul_comm]
  have hpos : 0 < 8 ^ lv := Nat.pow_pos (by decide)
  intro i
  induction i with
  | zero =>
    intro _
    exact ⟨hl, ⟨[], by simp⟩, fun h => h, fun s _ => by rw [if_neg (by omega)]; rfl, fun j hj => absurd hj (Nat.not_lt_zero _), fun x hx => .inl hx, fun x hx => .inl hx⟩
  | succ i ih =>
    intro hi
    have S := ih (by omega)
    have hnb := fold_pre hb (i := i) (by omega)
    have hnb1 := fold_pre hb (i := i + 1) hi
    have hstep : (List.range (i + 1)).foldl (tst L B lv ps f) (m, ns, false) = tst L B lv ps f ((List.range i).foldl (tst L B lv ps f) (m, ns, false)) i := by rw [List.range_succ, List.foldl_append]; rfl
    rw [hstep] at hnb1 ⊢
    generalize (List.range i).foldl (tst L B lv ps f) (m, ns, false) = W at *
    obtain ⟨wm, wn, wb⟩ := W
    simp only at hnb
    subst hnb
    have hile : i * 8 ^ lv + 8 ^ lv ≤ 8 * 8 ^ lv := by rw [← Nat.succ_mul]; exact Nat.mul_le_mul_right _ (Nat.le_trans hi hN)
    have hsucc : (i + 1) * 8 ^ lv = i * 8 ^ lv + 8 ^ lv := Nat.succ_mul ..
    obtain ⟨Sl, ⟨t, St⟩, Snd, Sm, Sp, Sa, Sb⟩ := S
    simp only at Sl St Snd Sm Sa Sb
    have here : ∀ s, f + i * 8 ^ lv ≤ s → s < f + i * 8 ^ lv + 8 ^ lv → wm.getD s 0 = 0 := fun s h1 h2 => by
      rw [Sm s (by omega), if_neg (by omega)]
      exact hz s (by omega) (by omega)
    unfold tst tstep at hnb1 ⊢
    rw [if_neg Bool.false_ne_true] at hnb1 ⊢
    generalize hp : ps.getD i 0 = p at *
    by_cases hB : decide (p ≥ (B : Int)) = true
    · rw [if_pos hB] at hnb1; cases hnb1
    rw [if_neg hB] at hnb1 ⊢
    have hpB : p < B := by have := of_decide_eq_false (Bool.eq_false_iff.2 hB); omega
    by_cases hp0 : p = 0
    · subst hp0
      rw [if_neg (by simp), if_neg (by simp)] at hnb1 ⊢
      refine ⟨Sl, ⟨t, St⟩, Snd, fun s hs => ?_, fun j hj s hs => ?_, Sa, Sb⟩
      · simp only
        by_cases c : f + i * 8 ^ lv ≤ s ∧ s < f + i * 8 ^ lv + 8 ^ lv
        · obtain ⟨d1, d2⟩ := divmod_at hpos c.1 c.2
          rw [here s c.1 c.2, if_pos (by omega), d1, hp, look_zero]
        · rw [Sm s hs]
          by_cases c2 : f ≤ s ∧ s < f + i * 8 ^ lv
          · rw [if_pos c2, if_pos (by omega)]
          · rw [if_neg c2, if_neg (by omega)]
      · by_cases e : j = i
        · subst e
          rw [hp]
          cases lv with
          | zero => trivial
          | succ k => intro h; exact absurd rfl h
        · exact Sp j (by omega) s hs
    have hpn : (p != 0) = true := bne_iff_ne.2 hp0
    cases lv with
    | zero =>
      rw [hpn, if_pos (by rfl)]
      simp only [Nat.pow_zero, Nat.mul_one] at *
      refine ⟨by simp only [List.length_set]; exact Sl, ⟨t, St⟩, Snd, fun s hs => ?_, fun j hj s hs => trivial, Sa, fun x hx => ?_⟩
      · simp only
        rw [getD_set _ _ _ _ (by omega)]
        by_cases e : s = f + i
        · subst e
          rw [if_pos rfl, if_pos (by omega), Nat.div_one, show f + i - f = i by omega, hp]; rfl
        · rw [if_neg e, Sm s hs]
          by_cases c2 : f ≤ s ∧ s < f + i
          · rw [if_pos c2, if_pos (by omega)]
          · rw [if_neg c2, if_neg (by omega)]
      · rcases List.mem_or_eq_of_mem_set hx with g | g
        · exact Sb x g
        · exact .inr (.inr (by omega))
    | succ k =>
      rw [hpn, if_neg (by simp), if_pos rfl] at hnb1 ⊢
      have T := hrec k rfl p (f + i * 8 ^ (k + 1)) (wm, wn, false) (by omega) Sl rfl here hnb1
      have hlen : (trec L B (k + 1) p (f + i * 8 ^ (k + 1)) (wm, wn, false)).1.length = 512 := by rw [trec_len]; exact Sl
      change TSpec L B k p (f + i * 8 ^ (k + 1)) (wm, wn, false) (trec L B (k + 1) p (f + i * 8 ^ (k + 1)) (wm, wn, false)) at T
      generalize trec L B (k + 1) p (f + i * 8 ^ (k + 1)) (wm, wn, false) = R at *
      obtain ⟨T1, T2, ⟨t2, T3⟩, T4, T5, T6, T7, T8⟩ := T
      simp only at T2 T3 T4 T5 T7 T8
      refine ⟨hlen, ⟨t ++ p :: t2, by rw [T3, St, List.append_assoc]⟩, fun h => T4 (Snd h), fun s hs => ?_, fun j hj s hs => ?_, fun x hx => ?_, fun x hx => ?_⟩
      · rw [T5 s hs]
        by_cases c : f + i * 8 ^ (k + 1) ≤ s ∧ s < f + i * 8 ^ (k + 1) + 8 ^ (k + 1)
        · obtain ⟨d1, d2⟩ := divmod_at hpos c.1 c.2
          rw [if_pos c, if_pos (by omega), d1, d2, hp]
        · rw [if_neg c, Sm s hs]
          by_cases c2 : f ≤ s ∧ s < f + i * 8 ^ (k + 1)
          · rw [if_pos c2, if_pos (by omega)]
          · rw [if_neg c2, if_neg (by omega)]
      · by_cases e : j = i
        · subst e; rw [hp]; exact T6 s hs
        · exact Sp j (by omega) s hs
      · rcases T7 x hx with g | ⟨q, g1, g2⟩
        · exact Sa x g
        · exact .inr ⟨q, by omega, g2⟩
      · rcases T8 x hx with g | g
        · exact Sb x g
        · exact .inr g
theorem spec_body {L : List Int} {B lv : Nat} (hrec : ∀ k, lv = k + 1 → SpecAt L B k) : SpecAt L B lv := by
  intro a f w hf hl hw hz hb
  obtain ⟨m, ns, bd⟩ := w
  simp only at hl hw hz
  subst hw
  have hpos : 0 < 8 ^ lv := Nat.pow_pos (by decide)
  have hp8 : 8 ^ (lv + 1) = 8 * 8 ^ lv := by rw [Nat.pow_succ, Nat.mul_comm]
  rw [tgo_eq] at hb ⊢
  unfold tbody at hb ⊢
  by_cases hc : (!atIs L B a (lv : Int) || ns.contains a) = true
  · rw [if_pos hc] at hb; cases hb
  rw [if_neg hc] at hb ⊢
  rw [Bool.or_eq_true, not_or, Bool.not_eq_true, Bool.not_eq_true, Bool.not_eq_false'] at hc
  obtain ⟨h1, h2⟩ := hc
  have ha := atIs_ne h1
  have S := fold_spec (ps := (atV L B a).2) (ns := ns ++ [a]) hrec hf hl hz (Nat.le_refl 8) hb 8 (Nat.le_refl 8)
  change TSpec L B lv a f (m, ns, false) ((List.range 8).foldl (tst L B lv (atV L B a).2 f) (m, ns ++ [a], false))
  generalize (List.range 8).foldl (tst L B lv (atV L B a).2 f) (m, ns ++ [a], false) = R at *
  obtain ⟨_, ⟨t, St⟩, Snd, Sm, Sp, Sa, Sb⟩ := S
  refine ⟨h1, h2, ⟨t, by rw [St, List.append_assoc]; rfl⟩, fun h => Snd (nodup_snoc h (by simpa using h2)), fun s hs => ?_, fun s hs => ?_, fun x hx => ?_, fun x hx => Sb x hx⟩
  · rw [Sm s hs, ← hp8]
    by_cases c : f ≤ s ∧ s < f + 8 ^ (lv + 1)
    · rw [if_pos c, if_pos c]
      show _ = if a = 0 then 0 else _
      rw [if_neg (by omega)]
    · rw [if_neg c, if_neg c]
  · intro _
    exact ⟨h1, Sp (s / 8 ^ lv) (by rw [Nat.div_lt_iff_lt_mul hpos]; omega) (s % 8 ^ lv) (Nat.mod_lt _ hpos)⟩
  · rcases Sa x hx with g | g
    · rcases List.mem_append.1 g with g | g
      · exact .inl g
      · rw [List.mem_singleton] at g; subst g; exact .inr ⟨lv, Nat.le_refl _, h1⟩
    · exact .inr g
theorem tgo_spec (L : List Int) (B : Nat) : ∀ lv, SpecAt L B lv := by
  intro lv
  induction lv with
  | zero => exact spec_body (fun k e => by cases e)
  | succ k ih => exact spec_body (fun j e => by cases e; exact ih)
end Go.Proofs.Ytnokcbenpnmnbaa
end
section
set_option linter.unusedVariables false
set_option maxRecDepth 100000
open Go Go.Am
namespace Go.Proofs.Ytnokcbenpnmnbaa
open Go.Proofs.Try
theorem refIn_ok {h : Heap} {a lo hi : Int} : RunF prog 75 [.int .i64 a, .int .i64 lo, .int .i64 hi] h fun v h' => v = .bool (inB a lo hi) ∧ h = h' := by
  refine RunF.walk func75 rfl rfl ?_
  refine RunC.seq (RunC.region (RunO.all rfl ?_))
  refine RunC.seq (RunC.region (RunO.part 4 rfl ?_))
  unfold inB
  cases decide (a ≥ lo) with
  | true => exact RunO.all rfl (RunC.ret ⟨_, rfl, by simp, rfl⟩)
  | false => exact RunO.all rfl (RunC.ret ⟨_, rfl, by simp, rfl⟩)
theorem refLink_ok {h : Heap} {a b : Int} : RunF prog 112 [.int .i64 a, .int .i64 b] h fun v h' => v = .bool (a == 0 || inB a 2 (fwrap .i64 (b - 1))) ∧ h = h' := by
  refine RunF.walk func112 rfl rfl ?_
  refine RunC.seq (RunC.region (RunO.all rfl ?_))
  refine RunC.seq (RunC.region (RunO.part 3 rfl ?_))
  cases (a == 0) with
  | true => exact RunO.all rfl (RunC.ret ⟨_, rfl, rfl, rfl⟩)
  | false =>
    refine RunO.part 3 rfl ?_
    refine RunO.callDG rfl refIn_ok rfl rfl rfl ?_
    rintro _ _ ⟨rfl, rfl⟩
    exact RunO.all rfl (RunC.ret ⟨_, rfl, rfl, rfl⟩)
theorem leN_drop_le : ∀ {l : List Int}, Byt l → ∀ i, leN (l.drop i) ≤ leN l
  | [], _, i => by simp
  | x :: t, h, 0 => by simp
  | x :: t, h, i + 1 => by
    have ht : Byt t := fun y hy => h y (List.mem_cons_of_mem _ hy)
    have h1 := leN_drop_le ht i
    have h2 := (leN_bound ht).1
    have h3 := (h x (List.mem_cons_self ..)).1
    show leN (t.drop i) ≤ x + 256 * leN t
    omega
def leNum (l : List Int) : Int × Bool := if leN l > 4611686018427387903 then (0, false) else (leN l, true)
theorem refNumber_ok {h : Heap} {v : Value} {l : List Int} (sl : Sl h v 1 l.length (us l)) (hb : Byt l) (hm : l.length ≤ 4611686018427387904) :
    RunF prog 111 [v] h fun r h' => r = .tuple #[.int .i64 (leNum l).1, .bool (leNum l).2] ∧ h = h' := by
  refine RunF.walk func111 rfl rfl ?_
  obtain ⟨A, c, rfl, hc, _⟩ := sl.form
  refine RunC.seq (RunC.region (RunO.all rfl ?_))
  refine RunC.seq (RunC.region (RunO.all rfl ?_))
  refine RunC.seq (RunC.seq (RunC.region (RunO.all rfl ?_)))
  rw [fw64 (by omega) (by omega)]
  refine RunC.block ?_
  let I : Nat → Env → Heap → Prop := fun k E h' => k ≤ l.length ∧ leN (l.drop k) ≤ 4611686018427387903 ∧ h = h' ∧ Le (upd (upd (upd E0 0 (.slice A l.length c)) 4 (.int .i64 (leN (l.drop k)))) 5 (.int .i64 ((k : Int) - 1))) E
  refine RunC.loop I ?_ (k := l.length) ?_
  · rintro k E h' ⟨hk, hN, rfl, hE⟩
    refine RunC.le hE ?_
    clear hE
    refine RunC.seq (RunC.seq (RunC.region (RunO.all rfl ?_)))
    refine RunC.cond rfl (fun hlt => ?_) (fun hge => ?_)
    · have hlt := of_decide_eq_true hlt
      obtain ⟨i, rfl⟩ : ∃ i, k = i + 1 := ⟨k - 1, by omega⟩
      have hi : i < l.length := by omega
      have hx := hb.get hi
      have hd : l.drop i = l[i] :: l.drop (i + 1) := List.drop_eq_getElem_cons hi
      have hdb : 0 ≤ leN (l.drop (i + 1)) := (leN_bound (fun x hx => hb x (List.mem_of_mem_drop hx))).1
      have hle := leN_drop_le hb i
      have hdN : leN (l.drop i) = l[i] + 256 * leN (l.drop (i + 1)) := by rw [hd]; rfl
      rw [show (((i + 1 : Nat) : Int) - 1) = (i : Int) by omega]
      rw [hdN] at hle
      generalize leN (l.drop (i + 1)) = N at *
      refine RunC.skip ?_
      refine RunC.seq (RunC.block ?_)
      refine RunC.seq (RunC.seq (RunC.region (RunO.part 3 rfl ?_)))
      refine RunO.at (s := 1) (u := .int .u8 l[i]) rfl rfl sl rfl rfl hi (by show nth (us l) (i * 1) = _; rw [Nat.mul_one]; exact us_nth hi) rfl rfl rfl ?_
      refine RunO.part 1 rfl ?_
      rw [fw64 (x := l[i]) (by omega) (by omega)]
      refine RunO.part 2 rfl ?_
      rw [fw64 (x := 4611686018427387903 - l[i]) (by omega) (by omega), Int.tdiv_eq_ediv_of_nonneg (by omega), fw64 (by omega) (by omega)]
      refine RunO.all rfl ?_
      refine RunC.cond rfl (fun hgt => ?_) (fun hng => ?_)
      · have hgt := of_decide_eq_true hgt
        have e : leNum l = (0, false) := by unfold leNum; rw [if_pos (by omega)]
        rw [e]
        exact RunC.seq (RunC.region (RunO.all rfl (RunC.ret ⟨_, rfl, rfl, rfl⟩)))
      · have hng := of_decide_eq_false hng
        refine RunC.skip (RunC.region (RunO.part 2 rfl ?_))
        rw [fw64 (x := 256 * N) (by omega) (by omega)]
        refine RunO.part 2 rfl ?_
        refine RunO.at (s := 1) (u := .int .u8 l[i]) rfl rfl sl rfl rfl hi (by show nth (us l) (i * 1) = _; rw [Nat.mul_one]; exact us_nth hi) rfl rfl rfl ?_
        refine RunO.part 1 rfl ?_
        rw [fw64 (x := l[i]) (by omega) (by omega)]
        refine RunO.all rfl (RunC.region (RunO.all rfl ?_))
        rw [fw64 (x := 256 * N + l[i]) (by omega) (by omega), fw64 (x := (i : Int) - 1) (by omega) (by omega)]
        refine ⟨i, by omega, by omega, by omega, rfl, Le.cons rfl (Le.cons ?_ (Le.cons rfl (Le.nil _)))⟩
        rw [hdN, Int.add_comm]; rfl
    · have hge := of_decide_eq_false hge
      refine RunC.exit ?_
      obtain rfl : k = 0 := by omega
      rw [List.drop_zero] at hN
      have e : leNum l = (leN l, true) := by unfold leNum; rw [if_neg (by omega)]
      rw [e]
      exact RunC.seq (RunC.region (RunO.all rfl (RunC.ret ⟨_, rfl, rfl, rfl⟩)))
  · refine ⟨Nat.le_refl _, by rw [List.drop_length]; decide, rfl, Le.cons rfl (Le.cons ?_ (Le.cons rfl (Le.nil _)))⟩
    rw [List.drop_length]; rfl
theorem rdPart {h : Heap} {b o : Nat} {l : List Int} {k m : Nat} (rd : Rd h ⟨b, o, none⟩ (us l)) (hi : k + m ≤ l.length) : Rd h ⟨b, o + k * 1, none⟩ (us ((l.drop k).take m)) := by
  obtain ⟨h1, h2, ob, ho, he⟩ := rd
  refine ⟨rfl, h2, ob, ho, ?_⟩
  have hl := congrArg List.length he
  rw [List.length_take, List.length_drop, us_len] at hl
  simp only at hl he ⊢
  have e : us ((l.drop k).take m) = ((us l).drop k).take m := by unfold us; rw [List.map_take, List.map_drop]
  have hlen : (us ((l.drop k).take m)).length = m := by rw [us_len, List.length_take, List.length_drop]; omega
  rw [hlen, e, Nat.mul_one]
  apply List.ext_getElem?
  intro j
  rw [List.getElem?_take, List.getElem?_take]
  split
  · rename_i hj
    rw [List.getElem?_drop, List.getElem?_drop]
    conv => rhs; rw [← he]
    rw [us_len, List.getElem?_take, if_pos (by omega), List.getElem?_drop]
    congr 1; omega
  · rfl
theorem sl_part {h : Heap} {v : Value} {l : List Int} (sl : Sl h v 1 l.length (us l)) {k m : Nat} (hk : k < m) (hm : m ≤ l.length) (ik jk : IntKind) :
    ∃ v', aslice prog 22 v (some (.int ik (k : Int))) (some (.int jk (m : Int))) none = some v' ∧ Sl h v' 1 ((l.drop k).take (m - k)).length (us ((l.drop k).take (m - k))) := by
  obtain ⟨b, o, c, rfl, hc, rd⟩ := sl.nz (by omega)
  obtain ⟨c', h1, h2⟩ := slice_mid (P := prog) (t := 22) (b := b) (o := o) (ik := ik) (jk := jk) rfl rfl hc hk hm
  have hl : ((l.drop k).take (m - k)).length = m - k := by rw [List.length_take, List.length_drop]; omega
  refine ⟨_, h2, ?_⟩
  rw [hl]
  refine Rd.sl (rdPart rd (k := k) (m := m - k) (by omega)) (by rw [us_len, hl]; omega) (by have := sl.2.1; omega) h1
theorem refGet4_ok {h : Heap} {v : Value} {l : List Int} {k : Nat} (sl : Sl h v 1 l.length (us l)) (hb : Byt l) (hk : k + 4 ≤ l.length) (hm : l.length ≤ 4611686018427387904) :
    RunF prog 81 [v, .int .i64 (k : Int)] h fun r h' => r = .int .i64 (leGet l k 4).1 ∧ h = h' := by
  refine RunF.walk func81 rfl rfl ?_
  refine RunC.seq (RunC.region (RunO.all rfl ?_))
  refine RunC.seq (RunC.region (RunO.part 4 rfl ?_))
  rw [fw64 (x := (k : Int) + 4) (by omega) (by omega), show (k : Int) + 4 = ((k + 4 : Nat) : Int) by omega]
  obtain ⟨v', h1, h2⟩ := sl_part sl (k := k) (m := k + 4) (by omega) hk .i64 .i64
  rw [show k + 4 - k = 4 by omega] at h2
  refine RunO.one (v := v') (h1 := h) rfl (by show pureR h _ = _; exact congrArg (pureR h) h1) rfl ?_
  have hl : ((l.drop k).take 4).length = 4 := by rw [List.length_take, List.length_drop]; omega
  refine RunO.callD (refNumber_ok h2 (hb.part k 4) (by omega)) rfl rfl rfl ?_
  rintro _ _ ⟨rfl, rfl⟩
  refine RunO.all rfl ?_
  refine RunC.seq (RunC.region (RunO.all rfl (RunC.ret ⟨_, rfl, ?_, rfl⟩)))
  unfold leNum leGet
  split <;> rfl
theorem refGet8_ok {h : Heap} {v : Value} {l : List Int} {k : Nat} (sl : Sl h v 1 l.length (us l)) (hb : Byt l) (hk : k + 8 ≤ l.length) (hm : l.length ≤ 4611686018427387904) :
    RunF prog 107 [v, .int .i64 (k : Int)] h fun r h' => r = .tuple #[.int .i64 (leGet l k 8).1, .bool ((leGet l k 8).2 == 0)] ∧ h = h' := by
  refine RunF.walk func107 rfl rfl ?_
  refine RunC.seq (RunC.region (RunO.all rfl ?_))
  refine RunC.seq (RunC.region (RunO.part 4 rfl ?_))
  rw [fw64 (x := (k : Int) + 8) (by omega) (by omega), show (k : Int) + 8 = ((k + 8 : Nat) : Int) by omega]
  obtain ⟨v', h1, h2⟩ := sl_part sl (k := k) (m := k + 8) (by omega) hk .i64 .i64
  rw [show k + 8 - k = 8 by omega] at h2
  refine RunO.one (v := v') (h1 := h) rfl (by show pureR h _ = _; exact congrArg (pureR h) h1) rfl ?_
  have hl : ((l.drop k).take 8).length = 8 := by rw [List.length_take, List.length_drop]; omega
  refine RunO.callD (refNumber_ok h2 (hb.part k 8) (by omega)) rfl rfl rfl ?_
  rintro _ _ ⟨rfl, rfl⟩
  refine RunO.all rfl (RunC.ret ⟨_, rfl, ?_, rfl⟩)
  unfold leNum leGet
  split <;> rfl
theorem zerosN_cut {l : List Int} {k i m : Nat} (hk : k ≤ i) (him : i < m) (hm : m ≤ l.length) (h : ((l.drop k).take (i - k)).all (· == 0) = true) (hx : l[i] ≠ 0) : zerosN l k m = false := by
  unfold zerosN
  rw [List.all_eq_false]
  refine ⟨l[i], ?_, by simpa using hx⟩
  rw [List.mem_iff_getElem]
  refine ⟨i - k, by rw [List.length_take, List.length_drop]; omega, ?_⟩
  rw [List.getElem_take, List.getElem_drop]
  congr 1; omega
theorem refZeros_ok {h : Heap} {v : Value} {l : List Int} {k m : Nat} (sl : Sl h v 1 l.length (us l)) (hk : k ≤ m) (hml : m ≤ l.length) (hm : l.length ≤ 4611686018427387904) :
    RunF prog 22 [v, .int .i64 (k : Int), .int .i64 (m : Int)] h fun r h' => r = .bool (zerosN l k m) ∧ h = h' := by
  refine RunF.walk func22 rfl rfl ?_
  obtain ⟨A, c, rfl, hc, _⟩ := sl.form
  refine RunC.seq (RunC.region (RunO.all rfl ?_))
  refine RunC.seq (RunC.seq (RunC.region (RunO.part 1 rfl ?_)))
  refine RunO.one (v := .int .i64 k) (h1 := h) rfl (by
    show some (Value.int .i64 (cond (decide ((0 : Int) > k)) 0 k), h) = _
    rw [decide_eq_false (by omega)]; rfl) rfl (RunO.all rfl ?_)
  refine RunC.block ?_
  let I : Nat → Env → Heap → Prop := fun d E h' => ∃ i, k ≤ i ∧ i + d = m ∧ ((l.drop k).take (i - k)).all (· == 0) = true ∧ h = h' ∧ Le (upd (upd (upd E0 0 (.slice A l.length c)) 2 (.int .i64 m)) 7 (.int .i64 (i : Int))) E
  refine RunC.loop I ?_ (k := m - k) ?_
  · rintro d E h' ⟨i, hi, hd, hz, rfl, hE⟩
    refine RunC.le hE ?_
    clear hE
    refine RunC.seq (RunC.seq (RunC.region (RunO.part 4 rfl ?_)))
    by_cases c1 : i < m
    · rw [show decide ((i : Int) < m) = true from decide_eq_true (by omega)]
      refine RunO.all rfl ?_
      rw [show decide ((i : Int) < l.length) = true from decide_eq_true (by omega)]
      refine RunC.cond rfl (fun _ => RunC.skip ?_) (fun g => by cases g)
      have hil : i < l.length := by omega
      refine RunC.seq (RunC.block ?_)
      refine RunC.seq (RunC.region (RunO.part 2 rfl ?_))
      refine RunO.at (s := 1) (u := .int .u8 l[i]) rfl rfl sl rfl rfl hil (by show nth (us l) (i * 1) = _; rw [Nat.mul_one]; exact us_nth hil) rfl rfl rfl ?_
      refine RunO.all rfl ?_
      refine RunC.cond rfl (fun hne => ?_) (fun heq => ?_)
      · have hne : l[i] ≠ 0 := by simpa using hne
        rw [zerosN_cut hi c1 hml hz hne]
        exact RunC.seq (RunC.region (RunO.all rfl (RunC.ret ⟨_, rfl, rfl, rfl⟩)))
      · have heq : l[i] = 0 := by simpa using heq
        refine RunC.skip (RunC.region (RunO.all rfl ?_))
        refine ⟨d - 1, by omega, i + 1, by omega, by omega, ?_, rfl, Le.cons (inc64 (by omega)) (Le.cons rfl (Le.cons rfl (Le.nil _)))⟩
        rw [show i + 1 - k = (i - k) + 1 by omega, take_drop_snoc (by omega), List.all_append, hz]
        have e : l[k + (i - k)]'(by omega) = 0 := by
          have : k + (i - k) = i := by omega
          simp only [this]; exact heq
        rw [e]; rfl
    · rw [show decide ((i : Int) < m) = false from decide_eq_false (by omega)]
      refine RunO.all rfl ?_
      refine RunC.cond rfl (fun g => by cases g) (fun _ => RunC.exit ?_)
      have him : i = m := by omega
      subst him
      rw [show zerosN l k i = true from hz]
      exact RunC.seq (RunC.region (RunO.all rfl (RunC.ret ⟨_, rfl, rfl, rfl⟩)))
  · exact ⟨k, Nat.le_refl _, by omega, by rw [Nat.sub_self]; rfl, rfl, Le.cons rfl (Le.cons rfl (Le.cons rfl (Le.nil _)))⟩
end Go.Proofs.Ytnokcbenpnmnbaa
end
section
set_option linter.unusedVariables false
set_option maxRecDepth 100000
open Go Go.Am Go.RowKit
namespace Go.Proofs.Ytnokcbenpnmnbaa
open Go.Proofs.Try
theorem refBlocks_ok {h : Heap} {v : Value} {L : List Int} (sl : Sl h v 1 L.length (us L)) (hm : L.length ≤ 4611686018427387904) : RunF prog 49 [v] h fun r h' => r = .tuple #[.int .i64 ((L.length / 64 : Nat) : Int), .bool (devOk L.length)] ∧ h = h' := by
  refine RunF.walk func49 rfl rfl ?_
  obtain ⟨A, c, rfl, hc, _⟩ := sl.form
  have e1 : (L.length : Int).tdiv 64 = ((L.length / 64 : Nat) : Int) := by rw [Int.tdiv_eq_ediv_of_nonneg (by omega)]; omega
  have e2 : (L.length : Int).tmod 64 = ((L.length % 64 : Nat) : Int) := by rw [Int.tmod_eq_emod_of_nonneg (by omega)]; omega
  refine RunC.seq (RunC.region (RunO.all rfl ?_))
  refine RunC.seq (RunC.region (RunO.part 2 rfl ?_))
  refine RunO.part 1 rfl ?_
  rw [e1, fw64 (by omega) (by omega)]
  refine RunO.all rfl ?_
  refine RunC.seq (RunC.region (RunO.part 4 rfl ?_))
  rw [e2]
  refine RunO.part 2 rfl ?_
  have hd : devOk L.length = ((((L.length % 64 : Nat) : Int) == 0) && inB ((L.length / 64 : Nat) : Int) 4 4096) := by
    unfold devOk inB
    rw [Bool.eq_iff_iff]
    simp only [Bool.and_eq_true, beq_iff_eq, decide_eq_true_eq]
    omega
  rw [hd]
  cases (((L.length % 64 : Nat) : Int) == 0) with
  | false => exact RunO.all rfl (RunC.ret ⟨_, rfl, rfl, rfl⟩)
  | true =>
    refine RunO.part 1 rfl ?_
    refine RunO.callDG rfl refIn_ok rfl rfl rfl ?_
    rintro _ _ ⟨rfl, rfl⟩
    exact RunO.all rfl (RunC.ret ⟨_, rfl, rfl, rfl⟩)
theorem refBlock_ok {h : Heap} {v : Value} {L : List Int} {i : Nat} (sl : Sl h v 1 L.length (us L)) (hi : (i + 1) * 64 ≤ L.length) (hm : L.length ≤ 4611686018427387904) :
    RunF prog 23 [v, .int .i64 (i : Int)] h fun r h' => Sl h r 1 64 (us (blkI L i)) ∧ h = h' := by
  refine RunF.walk func23 rfl rfl ?_
  refine RunC.seq (RunC.region (RunO.all rfl ?_))
  refine RunC.seq (RunC.region (RunO.part 6 rfl ?_))
  rw [fw64 (x := (i : Int) * 64) (by omega) (by omega), fw64 (x := (i : Int) * 64 + 64) (by omega) (by omega), show (i : Int) * 64 = ((i * 64 : Nat) : Int) by omega, show ((i * 64 : Nat) : Int) + 64 = ((i * 64 + 64 : Nat) : Int) by omega]
  obtain ⟨v', h1, h2⟩ := sl_part sl (k := i * 64) (m := i * 64 + 64) (by omega) (by omega) .i64 .i64
  rw [show i * 64 + 64 - i * 64 = 64 by omega] at h2
  have hl : ((L.drop (i * 64)).take 64).length = 64 := blkI_len hi
  rw [hl] at h2
  refine RunO.one (v := v') (h1 := h) rfl (by show pureR h _ = _; exact congrArg (pureR h) h1) rfl ?_
  exact RunO.all rfl (RunC.ret ⟨_, rfl, h2, rfl⟩)
/-- A device alone: is it more than is played? -/
theorem heavy_ok {h : Heap} {v : Value} {L : List Int} (sl : Sl h v 1 L.length (us L)) : RunF prog 11 [v, .slice none 0 0] h fun r h' => r = .bool (decide ((L.length : Int) > 19200)) ∧ h = h' := by
  refine RunF.walk func11 rfl rfl ?_
  obtain ⟨A, c, rfl, hc, _⟩ := sl.form
  refine RunC.seq (RunC.region (RunO.all rfl ?_))
  refine RunC.seq (RunC.seq (RunC.region (RunO.part 4 rfl ?_)))
  cases decide ((L.length : Int) > 19200) with
  | true =>
    refine RunO.all rfl (RunC.cond rfl (fun _ => ?_) (fun g => by cases g))
    exact RunC.seq (RunC.region (RunO.all rfl (RunC.ret ⟨_, rfl, rfl, rfl⟩)))
  | false =>
    refine RunO.all rfl (RunC.cond rfl (fun g => by cases g) (fun _ => RunC.skip ?_))
    refine RunC.seq (RunC.seq (RunC.region (RunO.all rfl ?_)))
    refine RunC.block ?_
    let I : Nat → Env → Heap → Prop := fun d E h' => h = h' ∧ Le (upd (upd E0 1 (.slice none 0 0)) 5 (.int .i64 0)) E
    refine RunC.loop I ?_ (k := 0) ?_
    · rintro d E h' ⟨rfl, hE⟩
      refine RunC.le hE ?_
      clear hE
      refine RunC.seq (RunC.seq (RunC.region (RunO.all rfl ?_)))
      refine RunC.cond rfl (fun g => by cases g) (fun _ => RunC.exit ?_)
      exact RunC.seq (RunC.region (RunO.all rfl (RunC.ret ⟨_, rfl, rfl, rfl⟩)))
    · exact ⟨rfl, Le.cons rfl (Le.cons rfl (Le.nil _))⟩
end Go.Proofs.Ytnokcbenpnmnbaa
end
section
set_option linter.unusedVariables false
set_option maxRecDepth 100000
open Go Go.Am Go.RowKit
namespace Go.Proofs.Ytnokcbenpnmnbaa
open Go.Proofs.Try
end Go.Proofs.Ytnokcbenpnmnbaa
end
section
set_option linter.unusedVariables false
set_option maxRecDepth 100000
open Go Go.Am Go.RowKit
namespace Go.Proofs.Ytnokcbenpnmnbaa
open Go.Proofs.Try
/-- What a tree that is one says of its map. -/
theorem tree_spec {L : List Int} {root : Int} (hr : root ≠ 0) (h : treeOk L root = true) : TSpec L (L.length / 64) 2 root 0 (List.replicate 512 0, [], false) (treeM L root, treeN L root, false) := by
  unfold treeOk at h
  rw [show (root == 0) = false from beq_eq_false_iff_ne.2 hr, Bool.false_or, Bool.and_eq_true, Bool.not_eq_true', Bool.not_eq_true'] at h
  have hm : treeM L root = (treeW L root).1 := by unfold treeM; rw [show (root == 0) = false from beq_eq_false_iff_ne.2 hr]; rfl
  have hn : treeN L root = (treeW L root).2.1 := by unfold treeN; rw [show (root == 0) = false from beq_eq_false_iff_ne.2 hr]; rfl
  have := tgo_spec L (L.length / 64) 2 root 0 (List.replicate 512 0, [], false) (by decide) List.length_replicate rfl (fun s _ _ => by
    rw [List.getD_eq_getElem?_getD, List.getElem?_replicate]; split <;> rfl) h.1
  change TSpec L (L.length / 64) 2 root 0 (List.replicate 512 0, [], false) (treeW L root) at this
  rw [hm, hn]
  generalize treeW L root = w at *
  obtain ⟨a, b, c⟩ := w
  have hc : c = false := h.1
  subst hc
  exact this
theorem tree_at {L : List Int} {root : Int} (hr : root ≠ 0) (h : treeOk L root = true) {s : Nat} (hs : s < 512) : (treeM L root).getD s 0 = look L (L.length / 64) 3 root s := by
  have := (tree_spec hr h).m s hs
  rw [if_pos ⟨Nat.zero_le _, by simpa using hs⟩, Nat.sub_zero] at this
  exact this
end Go.Proofs.Ytnokcbenpnmnbaa
end
section
set_option linter.unusedVariables false
set_option maxRecDepth 100000
open Go Go.Am Go.RowKit
namespace Go.Proofs.Ytnokcbenpnmnbaa
open Go.Proofs.Try
theorem keepBytesSX_ok {h : Heap} {v w : Value} {l m : List Int} (sl : Sl h v 1 l.length (us l)) (sm : Sl h w 1 m.length (us m)) :
    RunF prog 16 [v, w] h fun v h' => v = .bool (l == m) ∧ h = h' := by
  have hm := sl.2.1
  obtain ⟨A, c, rfl, _, hA⟩ := sl.form
  obtain ⟨B, d, rfl, _, hB⟩ := sm.form
  exact keepBytesX_ok (fun hl => by obtain ⟨b, o, rfl, rd⟩ := hA hl; exact ⟨_, rfl, rd⟩) (fun hl => by obtain ⟨b, o, rfl, rd⟩ := hB hl; exact ⟨_, rfl, rd⟩) hm
theorem keepBytesS_ok {h : Heap} {v w : Value} {l m : List Int} (sl : Sl h v 1 l.length (us l)) (sm : Sl h w 1 m.length (us m)) (hm : l.length ≤ 4611686018427387904) :
    RunF prog 16 [v, w] h fun v h' => v = .bool (l == m) ∧ h = h' := by
  obtain ⟨A, c, rfl, _, hA⟩ := sl.form
  obtain ⟨B, d, rfl, _, hB⟩ := sm.form
  exact keepBytes_ok (fun hl => by obtain ⟨b, o, rfl, rd⟩ := hA hl; exact ⟨_, rfl, rd⟩) (fun hl => by obtain ⟨b, o, rfl, rd⟩ := hB hl; exact ⟨_, rfl, rd⟩) hm
def mapG (L : List Int) (root : Int) : List Int := if treeE L root = 0 then treeM L root else []
def nodG (L : List Int) (root : Int) : List Int := if treeE L root = 0 then treeN L root else []
end Go.Proofs.Ytnokcbenpnmnbaa
end
section
set_option linter.unusedVariables false
namespace Go.Am
open Go.RowKit
variable {P : Program}
/-- A row appended to lies in a new block. -/
theorem append_row2 {h : Heap} {t e : TypeId} {i : TypeInfo} {z : Value} {lo s k m c' : Nat} {xv : Value} {cells news : List Value} {a : Addr}
    (hu : P.underlying t = some (.slice e)) (hi : P.info? e = some i) (hz : zeroOf P e = some z) (hlz : lenIs (cellsOf z) i.size = true) (hs : i.size = s) (hs1 : 1 ≤ s) (row : Row lo h xv s k cells)
    (rd : Rd h a news) (hn : news.length = m * s) (hm : 1 ≤ m) (ha : allCells news = true) (hb : 2 * (k + m) * i.bytes ≤ 281474976710656) (hb2 : k + m ≤ 9223372036854775807) :
    ∃ v' h', aappend P h t t xv (.slice (some a) m c') = some (v', h') ∧ Row h.next h' v' s (k + m) (cells ++ news) ∧ Fr (At xv) h h' := by
  have row2 : Row 0 h xv s k cells := ⟨row.1, row.2.imp (fun x => x) (fun ⟨b, _, h2⟩ => ⟨b, Nat.zero_le _, h2⟩)⟩
  have hgen : ∀ lo', Row lo' h xv s k cells → lo' ≤ h.next → ∃ v' h', aappend P h t t xv (.slice (some a) m c') = some (v', h') ∧ Row lo' h' v' s (k + m) (cells ++ news) ∧ Fr (At xv) h h' :=
    fun lo' r hl => append_row hu hi hz hlz hs hs1 r hl rd hn hm ha hb hb2
  rcases row.2 with ⟨rfl, hk⟩ | ⟨b, hb1, rfl, ow⟩
  · exact hgen h.next ⟨row.1, .inl ⟨rfl, hk⟩⟩ (Nat.le_refl _)
  · obtain ⟨v', h', e1, r1, f1⟩ := hgen 0 row2 (Nat.zero_le _)
    refine ⟨v', h', e1, ⟨r1.1, .inr ?_⟩, f1⟩
    obtain ⟨hl, _⟩ := row
    subst hs
    obtain ⟨m, rfl⟩ : ∃ j, m = j + 1 := ⟨m - 1, by omega⟩
    have hr : asrc h i.size (.slice (some a) (m + 1) c') = some (m + 1, news) := by
      have hq : aread h a (Nat.mul (m + 1) i.size) = some (news.take ((m + 1) * i.size)) := rd.read0 (m := (m + 1) * i.size) (by omega)
      simp only [asrc, hq]
      rw [List.take_of_length_le (by omega)]
    have e1' : Nat.ble (Nat.mul (Nat.mul 2 (Nat.add k (Nat.succ m))) i.bytes) 281474976710656 = true := Nat.ble_eq_true_of_le hb
    have e2 : Nat.ble (Nat.add k (Nat.succ m)) 9223372036854775807 = true := Nat.ble_eq_true_of_le hb2
    have e3 : aread h ⟨b, 0, none⟩ (Nat.mul k i.size) = some cells := by
      have := ow.all.read0 (m := k * i.size) (by omega)
      rw [List.take_of_length_le (by omega)] at this
      exact this
    have e4 : lenIs cells (Nat.add 0 (Nat.mul k i.size)) = true := (lenIs_iff _ _).2 (by show _ = 0 + k * i.size; omega)
    have key : aappend P h t t (.slice (some ⟨b, 0, none⟩) k (unkc i.size)) (.slice (some a) (m + 1) c') = some (.slice (some ⟨h.next, 0, none⟩) (k + (m + 1)) (unkc i.size), (h.put b none).push ⟨cells ++ news, true⟩) := by
      simp only [aappend, hu, Nat.beq_refl, cond_true, hi, hz, hlz, Nat.ble_eq_true_of_le hs1, hr, e1', e2, e3, unk_unkc, half_unkc, ow.2, e4, ha]
      rfl
    rw [key] at e1
    cases e1
    exact ⟨h.next, Nat.le_refl _, rfl, Ow.push _ _⟩
section
variable {n : Nat} {ops rest : List Oper} {E E1 : Env} {h h1 : Heap} {Q : Env → Heap → Prop}
theorem RunO.append2 {d : Tmp} {t ty e : TypeId} {x y : Operand} {pos : String} {after : Array Edge} {i : TypeInfo} {z : Value} {lo s k m c' : Nat} {xv : Value} {cells news : List Value} {a : Addr}
    (hx : gE E x = some xv) (hy : gE E y = some (.slice (some a) m c')) (hd : Nat.ble (Nat.succ d) n = true)
    (hu : P.underlying t = some (.slice e)) (hi : P.info? e = some i) (hz : zeroOf P e = some z) (hlz : lenIs (cellsOf z) i.size = true) (hs : i.size = s) (hs1 : 1 ≤ s) (row : Row lo h xv s k cells)
    (rd : Rd h a news) (hn : news.length = m * s) (hm : 1 ≤ m) (ha : allCells news = true) (hb : 2 * (k + m) * i.bytes ≤ 281474976710656) (hb2 : k + m ≤ 9223372036854775807)
    (r : ∀ v' h', Row h.next h' v' s (k + m) (cells ++ news) → Fr (At xv) h h' → RunO P n ops rest (upd E d v') h' Q) : RunO P n ops (⟨some d, .call ⟨.builtin .append, #[x, y], #[t, t]⟩, ty, pos, after, none⟩ :: rest) E h Q := by
  obtain ⟨v', h', h1, h2, h3⟩ := append_row2 (c' := c') hu hi hz hlz hs hs1 row rd hn hm ha hb hb2
  refine RunO.one rfl (v := v') (h1 := h') ?_ (by simp only [eput, hd, cond_true]) (r v' h' h2 h3)
  simp only [eop, gs, hx, hy, abuiltin, h1]
end
end Go.Am
end
section
set_option linter.unusedVariables false
namespace Go.Am
open Go.RowKit
/- A region that draws its order: its first operations write nothing old, and only these are drawn; what comes behind may write. -/
theorem aopsC_append {P : Program} {cf : CallF} {n : Nat} {ops : List Oper} : ∀ (pre post : List Oper) {T T1 T2 : Tr Value} {h h1 h2 : Heap} {f1 f2 : List Fp}, aopsC P cf n ops pre T h = some (T1, h1, f1) → aopsC P cf n ops post T1 h1 = some (T2, h2, f2) → aopsC P cf n ops (pre ++ post) T h = some (T2, h2, f1 ++ f2)
  | [], post, T, T1, T2, h, h1, h2, f1, f2, a, b => by
    cases a; exact b
  | o :: l, post, T, T1, T2, h, h1, h2, f1, f2, a, b => by
    rw [List.cons_append]
    unfold aopsC at a ⊢
    split at a
    · rename_i T' h' f hs
      split at a
      · rename_i T'' h'' fs hr
        cases a
        simp only [aopsC_append l post hr b, List.cons_append]
      · cases a
    · cases a
theorem RunD.append {P : Program} {n l0 : Nat} {ops pre post : List Oper} {E : Env} {h : Heap} {Q : Env → Heap → List Fp → Prop}
    (r : RunD P n ops pre l0 E h fun E1 h1 f1 => RunD P n ops post l0 E1 h1 fun E2 h2 f2 => Q E2 h2 (f1 ++ f2)) : RunD P n ops (pre ++ post) l0 E h Q := by
  intro lw hlw
  obtain ⟨E1, h1, f1, lw1, r2, hl1, N1, hN1⟩ := r lw hlw
  obtain ⟨E2, h2, f2, lw2, q, hl2, N2, hN2⟩ := r2 lw1 hl1
  refine ⟨E2, h2, f1 ++ f2, lw2, q, hl2, Nat.max N1 N2, fun d hd K hK T hs => ?_⟩
  obtain ⟨T1, hs1, e1⟩ := hN1 d (Nat.le_trans (Nat.le_max_left _ _) hd) K (Nat.le_trans (Nat.le_max_left _ _) hK) T hs
  obtain ⟨T2, hs2, e2⟩ := hN2 d (Nat.le_trans (Nat.le_max_right _ _) hd) K (Nat.le_trans (Nat.le_max_right _ _) hK) T1 hs1
  exact ⟨T2, hs2, aopsC_append pre post e1 e2⟩
/-- What comes behind: it may write m. -/
def RunT (P : Program) (n : Nat) (ops rest : List Oper) (m : Nat → Prop) (E : Env) (h : Heap) (Q : Env → Heap → Prop) : Prop :=
  ∀ l0, l0 ≤ h.next → (∀ j, m j → l0 ≤ j) → RunD P n ops rest l0 E h (fun E' h' _ => Fg m h h' ∧ Q E' h')
section
variable {P : Program} {n : Nat} {ops rest : List Oper} {m : Nat → Prop} {E E1 : Env} {h h1 : Heap} {Q : Env → Heap → Prop}
theorem RunT.nil (q : Q E h) : RunT P n ops [] m E h Q := fun l0 hl _ => RunD.nil ⟨⟨Nat.le_refl _, fun _ _ _ => rfl⟩, q⟩
theorem RunT.lo {x : Nat} (r : RunT P n ops rest m E h Q) : RunT P n ops rest m E (h.lo x) Q := by
  intro l0 hl hm
  have := r l0 hl hm
  intro lw hlw
  obtain ⟨E', h', fs, lw', ⟨q3, q4⟩, k⟩ := this lw hlw
  exact ⟨E', h', fs, lw', ⟨⟨q3.next, q3.get⟩, q4⟩, k⟩
theorem RunT.oneG {o : Oper} {v : Value} {f : Fp} (g : ewanted ops E o = some true) (e : eop P E o (h.lo h.next) = some (v, h1)) (hf : ∀ q, fpE E o q = some f) (hfr : Fr m (h.lo h.next) h1) (p : eput n E o.dst v = some E1)
    (r : RunT P n ops rest m E1 h1 Q) : RunT P n ops (o :: rest) m E h Q := by
  intro l0 hl hm
  refine RunD.oneG g e hf (hfr.from hl hm) p ?_
  refine (r l0 (Nat.le_trans hl hfr.next) hm).mono ?_
  rintro E' h' fs ⟨q3, q4⟩
  exact ⟨hfr.fg.same q3, q4⟩
theorem low_max (m : Nat → Prop) : ∀ A : Nat, ∃ l0, l0 ≤ A ∧ (∀ j, m j → l0 ≤ j) ∧ ∀ l, l ≤ A → (∀ j, m j → l ≤ j) → l ≤ l0
  | 0 => ⟨0, Nat.le_refl _, fun _ _ => Nat.zero_le _, fun l h _ => h⟩
  | A + 1 => by
    by_cases c : ∀ j, m j → A + 1 ≤ j
    · exact ⟨A + 1, Nat.le_refl _, c, fun l h _ => h⟩
    · obtain ⟨l0, h1, h2, h3⟩ := low_max m A
      refine ⟨l0, Nat.le_succ_of_le h1, h2, fun l hl hm => ?_⟩
      by_cases e : l = A + 1
      · subst e; exact absurd hm c
      · exact h3 l (by omega) hm
theorem nth_append_lt {α : Type} : ∀ (l l2 : List α) (i : Nat), i < l.length → nth (l ++ l2) i = nth l i := by
  intro l l2 i hi
  rw [nth_eq, nth_eq, List.getElem?_append_left hi]
theorem pairsOk_append {fs gs : List Fp} : ∀ (ps : List (Nat × Nat)), idxOk fs.length ps = true → pairsOk fs ps = true → pairsOk (fs ++ gs) ps = true
  | [], _, _ => rfl
  | (i, j) :: l, h, e => by
    unfold idxOk at h
    cases hi : Nat.blt i fs.length with
    | false => rw [hi] at h; cases h
    | true =>
      rw [hi, cond_true] at h
      cases hj : Nat.blt j fs.length with
      | false => rw [hj] at h; cases h
      | true =>
        rw [hj, cond_true] at h
        unfold pairsOk at e ⊢
        rw [nth_append_lt _ _ _ (blt_lt hi), nth_append_lt _ _ _ (blt_lt hj)]
        split at e
        · rename_i a b ha hb
          cases hc : fpOk a b with
          | false => rw [hc] at e; cases e
          | true =>
            rw [hc, cond_true] at e
            rw [cond_true]
            exact pairsOk_append l h e
        · cases e
def drawTOk (k : Nat) (ops : Array Oper) : Bool := match drawOk ops with
  | some (p :: ps) => idxOk (ops.toList.take k).length (p :: ps)
  | _ => false
theorem RunC.drawT (k : Nat) (m : Nat → Prop) {i : Nat} {ops : Array Oper} {Qn : Env → Heap → Prop} {Qx : Nat → Env → Heap → Prop} {Qr : Env → Heap → Prop} (hd : drawTOk k ops = true)
    (r : RunQ P n ops.toList (ops.toList.take k) E h (fun E1 h1 => RunT P n ops.toList (ops.toList.drop k) m E1 h1 fun E' h' => ∀ lw, Fr m h (h'.lo lw) → Qn E' (h'.lo lw))) : RunC P n (.region i ops true) E h Qn Qx Qr := by
  unfold drawTOk at hd
  split at hd
  · rename_i p ps hps
    obtain ⟨l0, z1, z2, z3⟩ := low_max m (min h.low h.next)
    refine RunC.draw (l0 := l0) (Nat.le_trans z1 (Nat.min_le_left _ _)) hps ?_
    have hsp : ops.toList = ops.toList.take k ++ ops.toList.drop k := (List.take_append_drop _ _).symm
    have key : RunD P n ops.toList (ops.toList.take k ++ ops.toList.drop k) l0 E h (fun E' h' fs => pairsOk fs (p :: ps) = true ∧ ∀ lw, l0 ≤ lw → Qn E' (h'.lo lw)) := by
      refine RunD.append ((r l0 (Nat.le_trans z1 (Nat.min_le_right _ _))).mono ?_)
      rintro E1 h1 f1 ⟨q1, q2, q3, q4⟩
      refine (q4 l0 (Nat.le_trans (Nat.le_trans z1 (Nat.min_le_right _ _)) q3.next) z2).mono ?_
      rintro E' h' f2 ⟨g3, g4⟩
      refine ⟨pairsOk_append _ (by rw [q1]; exact hd) (pairsOk_ok q2 _ (by rw [q1]; exact hd)), fun lw hlw => g4 lw ?_⟩
      have fg : Fg m h h' := ⟨Nat.le_trans q3.next g3.next, fun i hi hm => by rw [g3.get i (Nat.lt_of_lt_of_le hi q3.next) hm, q3.get i hi (fun g => g)]⟩
      exact fg.close (fun l x y z => Nat.le_trans (z3 l (Nat.le_min.2 ⟨x, y⟩) z) hlw)
    rwa [← hsp] at key
  · cases hd
theorem eresults_cell1 {P : Program} {E : Env} {h : Heap} {a : Tmp} {t : TypeId} {ad : Addr} {v : Value} (h1 : E a = some (.pointer (some ad))) (h2 : aload P h t ad = some v) :
    eresults P [.cell a t] E h = some v := by
  simp only [eresults, eres, h1, h2]
end
end Go.Am
end
section
set_option linter.unusedVariables false
namespace Go.Am
open Go.RowKit
section
variable {P : Program} {n : Nat} {ops rest : List Oper} {E E1 : Env} {h h1 : Heap} {Q : Env → Heap → Prop}
theorem upd3_le {E : Env} {d d2 d3 : Tmp} {v w u : Value} (h1 : E d = none) (h2 : E d2 = none) : Le (upd E d3 u) (upd (upd (upd E d v) d2 w) d3 u) := by
  intro t x hx
  unfold upd at hx ⊢
  cases e3 : Nat.beq t d3 with
  | true => rw [e3] at hx; exact hx
  | false =>
    rw [e3] at hx
    have hx : E t = some x := hx
    show (cond (Nat.beq t d2) (some w) (cond (Nat.beq t d) (some v) (E t))) = some x
    cases e2 : Nat.beq t d2 with
    | true => have := Nat.eq_of_beq_eq_true e2; subst this; rw [h2] at hx; cases hx
    | false =>
      cases e1 : Nat.beq t d with
      | true => have := Nat.eq_of_beq_eq_true e1; subst this; rw [h1] at hx; cases hx
      | false => exact hx
/-- A field of an element looked at: its address, the field's, a load. -/
theorem RunO.fldG {d d2 d3 : Tmp} {t ty ty2 ty3 e st : TypeId} {x i : Operand} {f : Nat} {pos pos2 pos3 : String} {after after2 after3 : Array Edge} {gd gd2 gd3 : Option (Nat × Bool)} {v : Value} {m s k off : Nat} {ik : IntKind} {cells : List Value} {u : Value}
    (hw : ewanted ops E ⟨some d, .indexAddr t x i, ty, pos, after, gd⟩ = some true) (hw2 : ∀ p, ewanted ops (upd E d (.pointer p)) ⟨some d2, .fieldAddr st (.tmp d) f, ty2, pos2, after2, gd2⟩ = some true) (hw3 : ∀ p q, ewanted ops (upd (upd E d (.pointer p)) d2 (.pointer q)) ⟨some d3, .load e (.tmp d2), ty3, pos3, after3, gd3⟩ = some true)
    (hx : gE E x = some v) (hi : gE E i = some (.int ik (k : Int))) (sl : Sl h v s m cells) (hu : P.underlying t = some (.slice st)) (hs : sizeOf P st = some s) (hk : k < m)
    (hf : ∀ b o, afieldAddr P st (.pointer (some ⟨b, o, none⟩)) f = some (.pointer (some ⟨b, o + off, none⟩))) (hv : apart P e cells (k * s + off) = some u)
    (hd : Nat.ble (Nat.succ d) n = true) (hd2 : Nat.ble (Nat.succ d2) n = true) (hd3 : Nat.ble (Nat.succ d3) n = true) (hE : E d = none) (hE2 : E d2 = none)
    (r : RunO P n ops rest (upd E d3 u) h Q) : RunO P n ops (⟨some d, .indexAddr t x i, ty, pos, after, gd⟩ :: ⟨some d2, .fieldAddr st (.tmp d) f, ty2, pos2, after2, gd2⟩ :: ⟨some d3, .load e (.tmp d2), ty3, pos3, after3, gd3⟩ :: rest) E h Q := by
  obtain ⟨b, o, c, rfl, hc, rd⟩ := sl.nz (by omega)
  have hi' : gE E i = some (.int ik (.ofNat k)) := hi
  refine RunO.oneG (h1 := h) (v := .pointer (some ⟨b, o + k * s, none⟩)) (E1 := upd E d (.pointer (some ⟨b, o + k * s, none⟩))) hw ?_ (by simp only [eput, hd, cond_true]) ?_
  · simp only [eop, hx, hi', aindexAddr, hu, hs, Nat.ble_eq_true_of_le (show Nat.succ k ≤ m from hk), cond_true]
    rfl
  have hg : gE (upd E d (.pointer (some ⟨b, o + k * s, none⟩))) (.tmp d) = some (.pointer (some ⟨b, o + k * s, none⟩)) := by show upd E d _ d = _; unfold upd; rw [Nat.beq_refl]; rfl
  refine RunO.oneG (h1 := h) (v := .pointer (some ⟨b, o + k * s + off, none⟩)) (E1 := upd (upd E d (.pointer (some ⟨b, o + k * s, none⟩))) d2 (.pointer (some ⟨b, o + k * s + off, none⟩))) (hw2 _) ?_ (by simp only [eput, hd2, cond_true]) ?_
  · have := hf b (o + k * s)
    simp only [eop, hg, this]
    rfl
  have hv' : aload P h e ⟨b, o + k * s + off, none⟩ = some u := by
    have := rd.part hv
    rw [← Nat.add_assoc] at this
    exact this
  refine RunO.loadG (v := u) (a := ⟨b, o + k * s + off, none⟩) (hw3 _ _) (by show upd _ d2 _ d2 = _; unfold upd; rw [Nat.beq_refl]; rfl) hv' hd3 ?_
  exact r.le (upd3_le hE hE2)
/-- A row copied into one's own. -/
theorem RunO.copy {d : Tmp} {t t2 ty e : TypeId} {x y : Operand} {pos : String} {after : Array Edge} {b dn dc sn k : Nat} {src : Value} {cs news : List Value}
    (hx : gE E x = some (.slice (some ⟨b, 0, none⟩) dn dc)) (hy : gE E y = some src) (hu : P.underlying t = some (.slice e)) (hs : sizeOf P e = some 1) (ow : Ow h b cs) (sl : Sl h src 1 sn news) (ha : allCells news = true) (hm : min sn dn = k) (hc : k ≤ cs.length) (hd : Nat.ble (Nat.succ d) n = true)
    (r : ∀ h', Ow h' b (news.take k ++ cs.drop k) → Fr (· = b) h h' → h'.next = h.next → RunO P n ops rest (upd E d (goInt k)) h' Q) : RunO P n ops (⟨some d, .call ⟨.builtin .copy, #[x, y], #[t, t2]⟩, ty, pos, after, none⟩ :: rest) E h Q := by
  obtain ⟨h', e1, e2, e3, e4⟩ := copy_sl (P := P) (t := t) (dc := dc) hu hs ow sl ha hm (by omega : 0 + k ≤ cs.length)
  rw [Nat.zero_add, List.take_zero, List.nil_append] at e2
  refine RunO.one rfl (v := goInt k) (h1 := h') ?_ (by simp only [eput, hd, cond_true]) (r h' e2 e3 e4)
  simp only [eop, gs, hx, hy, abuiltin, e1]
end
end Go.Am
end
section
set_option linter.unusedVariables false
namespace Go.Am
open Go.RowKit
section
variable {P : Program} {n : Nat} {ops rest : List Oper} {E E1 : Env} {h h1 : Heap} {Q : Env → Heap → Prop}
theorem Rd.sub {b o : Nat} {cs : List Value} (r : Rd h ⟨b, o, none⟩ cs) {k j : Nat} (hk : k + j ≤ cs.length) : Rd h ⟨b, o + k, none⟩ ((cs.drop k).take j) := by
  obtain ⟨h1, h2, ob, ho, he⟩ := r
  refine ⟨rfl, h2, ob, ho, ?_⟩
  simp only at he ⊢
  have hl : ((cs.drop k).take j).length = j := by rw [List.length_take, List.length_drop]; omega
  rw [hl]
  conv => rhs; rw [← he]
  rw [List.drop_take, List.drop_drop, List.take_take]
  congr 1
  omega
/-- A bound of a slice. -/
inductive Bd : Option Value → Nat → Nat → Prop where
  | none (d : Nat) : Bd none d d
  | some (k : IntKind) (d m : Nat) : Bd (some (.int k (m : Int))) d m
theorem slice_gen {t e : TypeId} {v : Value} {s len k m : Nat} {cells : List Value} {lo hi : Option Value} (hu : P.underlying t = some (.slice e)) (hs : sizeOf P e = some s) (sl : Sl h v s len cells) (hlo : Bd lo 0 k) (hhi : Bd hi len m) (hk : k ≤ m) (hm : m ≤ len) :
    ∃ v', aslice P t v lo hi none = some v' ∧ Sl h v' s (m - k) ((cells.drop (k * s)).take ((m - k) * s)) := by
  have key : ∀ cap, len ≤ cap → abounds len cap lo hi none = some (k, m, cap) := by
    intro cap hc
    have a1 : ∀ (j : IntKind) (x c : Nat), x ≤ c → abound (.int j (x : Int)) c = some x := fun j x c hx => by
      show cond (Nat.ble x c) (some x) none = _
      rw [Nat.ble_eq_true_of_le hx]; rfl
    unfold abounds
    cases hhi with
    | none =>
      cases hlo with
      | none => rfl
      | some j _ _ => simp only [a1 j k _ hk]
    | some j2 _ _ =>
      cases hlo with
      | none => simp only [a1 j2 m cap (by omega)]
      | some j _ _ => simp only [a1 j2 m cap (by omega), a1 j k m hk]
  obtain ⟨hl, hn, ⟨rfl, rfl⟩ | ⟨b, o, c, rfl, hc, rd⟩⟩ := sl
  · obtain rfl : m = 0 := by omega
    obtain rfl : k = 0 := by omega
    refine ⟨.slice none 0 0, ?_, by simp, by omega, .inl ⟨rfl, rfl⟩⟩
    simp only [aslice, hu, hs, key 0 (Nat.le_refl _)]
  · have hms : (m - k) * s + k * s ≤ len * s := by rw [← Nat.add_mul]; exact Nat.mul_le_mul_right _ (by omega)
    have hsub : Rd h ⟨b, o + k * s, none⟩ ((cells.drop (k * s)).take ((m - k) * s)) := rd.sub (by rw [hl]; omega)
    have hlen : ((cells.drop (k * s)).take ((m - k) * s)).length = (m - k) * s := by rw [List.length_take, List.length_drop, hl]; omega
    have hmn : m - k ≤ 9223372036854775807 := by omega
    rcases hc with ⟨h1, h2⟩ | ⟨h1, h2⟩
    · refine ⟨.slice (some ⟨b, o + k * s, none⟩) (m - k) c, ?_, hlen, hmn, .inr ⟨b, o + k * s, c, rfl, .inl ⟨h1, h2⟩, hsub⟩⟩
      simp only [aslice, hu, hs, h1, cond_true, h2, Nat.beq_refl, key len (Nat.le_refl _)]
      rfl
    · by_cases hck : half c = k
      · refine ⟨.slice (some ⟨b, o, none⟩) (m - k) (exc (half c - k)), ?_, hlen, hmn, .inr ⟨b, o, _, rfl, Cp.exc (by omega), ?_⟩⟩
        · simp only [aslice, hu, hs, h1, cond_false, key (half c) h2, beqT hck, cond_true]
          rfl
        · have : (m - k) * s = 0 := by rw [show m - k = 0 by omega, Nat.zero_mul]
          rw [this, List.take_zero]
          obtain ⟨r1, r2, ob, ho, he⟩ := rd
          exact ⟨rfl, r2, ob, ho, rfl⟩
      · refine ⟨.slice (some ⟨b, o + k * s, none⟩) (m - k) (exc (half c - k)), ?_, hlen, hmn, .inr ⟨b, o + k * s, _, rfl, Cp.exc (by omega), hsub⟩⟩
        simp only [aslice, hu, hs, h1, cond_false, key (half c) h2, beqF hck]
        rfl
theorem RunO.sliceSlG {d : Tmp} {t ty e : TypeId} {x : Operand} {y z : Option Operand} {pos : String} {after : Array Edge} {gd : Option (Nat × Bool)} {v : Value} {lo hi : Option Value} {s len k m : Nat} {cells : List Value}
    (hw : ewanted ops E ⟨some d, .slice t x y z none, ty, pos, after, gd⟩ = some true) (hx : gE E x = some v) (hy : go (gE E) y = some lo) (hz : go (gE E) z = some hi) (hu : P.underlying t = some (.slice e)) (hs : sizeOf P e = some s) (sl : Sl h v s len cells) (hlo : Bd lo 0 k) (hhi : Bd hi len m) (hk : k ≤ m) (hm : m ≤ len) (hd : Nat.ble (Nat.succ d) n = true)
    (r : ∀ v', Sl h v' s (m - k) ((cells.drop (k * s)).take ((m - k) * s)) → RunO P n ops rest (upd E d v') h Q) : RunO P n ops (⟨some d, .slice t x y z none, ty, pos, after, gd⟩ :: rest) E h Q := by
  obtain ⟨v', e1, e2⟩ := slice_gen (P := P) hu hs sl hlo hhi hk hm
  refine RunO.oneG hw (v := v') (h1 := h) ?_ (by simp only [eput, hd, cond_true]) (r v' e2)
  have hg : go (gE E) none = some none := rfl
  simp only [eop, hx, hy, hz, hg, e1, pureR]
theorem RunO.sliceSl {d : Tmp} {t ty e : TypeId} {x : Operand} {y z : Option Operand} {pos : String} {after : Array Edge} {v : Value} {lo hi : Option Value} {s len k m : Nat} {cells : List Value}
    (hx : gE E x = some v) (hy : go (gE E) y = some lo) (hz : go (gE E) z = some hi) (hu : P.underlying t = some (.slice e)) (hs : sizeOf P e = some s) (sl : Sl h v s len cells) (hlo : Bd lo 0 k) (hhi : Bd hi len m) (hk : k ≤ m) (hm : m ≤ len) (hd : Nat.ble (Nat.succ d) n = true)
    (r : ∀ v', Sl h v' s (m - k) ((cells.drop (k * s)).take ((m - k) * s)) → RunO P n ops rest (upd E d v') h Q) : RunO P n ops (⟨some d, .slice t x y z none, ty, pos, after, none⟩ :: rest) E h Q :=
  RunO.sliceSlG rfl hx hy hz hu hs sl hlo hhi hk hm hd r
end
theorem Sl.frm {h h' : Heap} {v : Value} {s n : Nat} {cs : List Value} {M : Nat → Prop} (sl : Sl h v s n cs) (hn : ∀ b o c, v = .slice (some ⟨b, o, none⟩) n c → ¬ M b) (f : Fr M h h') : Sl h' v s n cs := by
  refine ⟨sl.1, sl.2.1, sl.2.2.imp (fun y => y) ?_⟩
  rintro ⟨b, o, c, h1, h2, h3⟩
  exact ⟨b, o, c, h1, h2, h3.fr f (hn b o c h1)⟩
theorem Sl.lt {h : Heap} {v : Value} {s n : Nat} {cs : List Value} (sl : Sl h v s n cs) : ∀ b o c, v = .slice (some ⟨b, o, none⟩) n c → b < h.next := by
  intro b o c e
  rcases sl.2.2 with ⟨g1, _⟩ | ⟨b', o', c', g1, _, rd⟩
  · rw [e] at g1; cases g1
  · rw [e] at g1; cases g1; exact rd.2.1
theorem Row.frm {lo : Nat} {h h' : Heap} {v : Value} {s n : Nat} {cells : List Value} {M : Nat → Prop} (r : Row lo h v s n cells) (f : Fr M h h') (hm : ∀ b, At v b → ¬ M b) : Row lo h' v s n cells := by
  refine ⟨r.1, r.2.imp (fun x => x) ?_⟩
  rintro ⟨b, h1, h2, h3⟩
  exact ⟨b, h1, h2, h3.fr f (hm b ⟨n, _, h2⟩)⟩
end Go.Am
end
section
set_option linter.unusedVariables false
namespace Go.Am
open Go.RowKit
/- A region that draws its order and writes m: each operation with its footprint. -/
def RunW (P : Program) (n : Nat) (ops rest : List Oper) (m : Nat → Prop) (E : Env) (h : Heap) (Q : Env → Heap → List Fp → Prop) : Prop :=
  ∀ l0, l0 ≤ h.next → (∀ j, m j → l0 ≤ j) → RunD P n ops rest l0 E h (fun E' h' fs => Fg m h h' ∧ Q E' h' fs)
section
variable {P : Program} {n : Nat} {ops rest : List Oper} {m : Nat → Prop} {E E1 : Env} {h h1 : Heap} {Q : Env → Heap → List Fp → Prop}
theorem RunW.nil (q : Q E h []) : RunW P n ops [] m E h Q := fun l0 hl _ => RunD.nil ⟨⟨Nat.le_refl _, fun _ _ _ => rfl⟩, q⟩
theorem RunW.lo {x : Nat} (r : RunW P n ops rest m E h Q) : RunW P n ops rest m E (h.lo x) Q := by
  intro l0 hl hm
  have := r l0 hl hm
  intro lw hlw
  obtain ⟨E', h', fs, lw', ⟨q3, q4⟩, k⟩ := this lw hlw
  exact ⟨E', h', fs, lw', ⟨⟨q3.next, q3.get⟩, q4⟩, k⟩
theorem RunW.oneG {o : Oper} {v : Value} {f : Fp} (g : ewanted ops E o = some true) (e : eop P E o (h.lo h.next) = some (v, h1)) (hf : ∀ q, fpE E o q = some f) (hfr : Fr m (h.lo h.next) h1) (p : eput n E o.dst v = some E1)
    (r : RunW P n ops rest m E1 h1 (fun E' h' fs => Q E' h' (f :: fs))) : RunW P n ops (o :: rest) m E h Q := by
  intro l0 hl hm
  refine RunD.oneG g e hf (hfr.from hl hm) p ?_
  refine (r l0 (Nat.le_trans hl hfr.next) hm).mono ?_
  rintro E' h' fs ⟨q3, q4⟩
  exact ⟨hfr.fg.same q3, q4⟩
/-- It leaves memory alone. -/
theorem RunW.pure {o : Oper} {v : Value} (g : ewanted ops E o = some true) (e : eop P E o (h.lo h.next) = some (v, h.lo h.next)) (hf : ∀ q, fpE E o q = some .none) (p : eput n E o.dst v = some E1)
    (r : RunW P n ops rest m E1 h (fun E' h' fs => Q E' h' (.none :: fs))) : RunW P n ops (o :: rest) m E h Q :=
  RunW.oneG (f := .none) g e hf (Fr.refl _ _) p (RunW.lo r)
/-- A new block. -/
theorem RunW.new {o : Oper} {v : Value} {ob : AObj} (g : ewanted ops E o = some true) (e : eop P E o (h.lo h.next) = some (v, (h.lo h.next).push ob)) (hf : ∀ q, fpE E o q = some .none) (p : eput n E o.dst v = some E1)
    (r : RunW P n ops rest m E1 (h.push ob) (fun E' h' fs => Q E' h' (.none :: fs))) : RunW P n ops (o :: rest) m E h Q := by
  refine RunW.oneG (f := .none) g e hf (Fr.push _ _ _) p ?_
  exact RunW.lo (x := ((h.lo h.next).push ob).low) (h := h.push ob) r
theorem RunW.load {d : Tmp} {t ty : TypeId} {x : Operand} {pos : String} {after : Array Edge} {gd : Option (Nat × Bool)} {a : Addr} {v : Value}
    (hw : ewanted ops E ⟨some d, .load t x, ty, pos, after, gd⟩ = some true) (hx : gE E x = some (.pointer (some a))) (hl : aload P h t a = some v) (hd : Nat.ble (Nat.succ d) n = true)
    (r : RunW P n ops rest m (upd E d v) h (fun E' h' fs => Q E' h' (.rd a.block :: fs))) : RunW P n ops (⟨some d, .load t x, ty, pos, after, gd⟩ :: rest) m E h Q := by
  refine RunW.oneG (v := v) (f := .rd a.block) (h1 := h.lo h.next) (E1 := upd E d v) hw ?_ ?_ (Fr.refl _ _) (by simp only [eput, hd, cond_true]) (RunW.lo r)
  · have hl : aload P (h.lo h.next) t a = some v := hl
    simp only [eop, hx, hl, pureR]
  · intro q; simp only [fpE, hx]
theorem RunW.store {t ty : TypeId} {x y : Operand} {pos : String} {after : Array Edge} {gd : Option (Nat × Bool)} {a : Addr} {v : Value} {h2 : Heap}
    (hw : ewanted ops E ⟨none, .store t x y, ty, pos, after, gd⟩ = some true) (hx : gE E x = some (.pointer (some a))) (hy : gE E y = some v) (hs : astore P (h.lo h.next) t a v = some h2) (hfr : Fr m (h.lo h.next) h2)
    (r : RunW P n ops rest m E h2 (fun E' h' fs => Q E' h' (.wr [a.block] :: fs))) : RunW P n ops (⟨none, .store t x y, ty, pos, after, gd⟩ :: rest) m E h Q := by
  refine RunW.oneG (v := undef) (f := .wr [a.block]) (h1 := h2) (E1 := E) hw ?_ ?_ hfr rfl r
  · simp only [eop, hx, hy, hs]
  · intro q; simp only [fpE, hx]
theorem RunW.append2 {d : Tmp} {t ty e : TypeId} {x y : Operand} {pos : String} {after : Array Edge} {gd : Option (Nat × Bool)} {i : TypeInfo} {z : Value} {lo s k j c' : Nat} {xv : Value} {cells news : List Value} {a : Addr}
    (hw : ewanted ops E ⟨some d, .call ⟨.builtin .append, #[x, y], #[t, t]⟩, ty, pos, after, gd⟩ = some true) (hx : gE E x = some xv) (hy : gE E y = some (.slice (some a) j c')) (hd : Nat.ble (Nat.succ d) n = true)
    (hu : P.underlying t = some (.slice e)) (hi : P.info? e = some i) (hz : zeroOf P e = some z) (hlz : lenIs (cellsOf z) i.size = true) (hs : i.size = s) (hs1 : 1 ≤ s) (row : Row lo h xv s k cells)
    (rd : Rd h a news) (hn : news.length = j * s) (hm : 1 ≤ j) (ha : allCells news = true) (hb : 2 * (k + j) * i.bytes ≤ 281474976710656) (hb2 : k + j ≤ 9223372036854775807) (hmm : ∀ b, At xv b → m b)
    (r : ∀ v' h', Row h.next h' v' s (k + j) (cells ++ news) → Fr (At xv) h h' → RunW P n ops rest m (upd E d v') h' (fun E' h' fs => Q E' h' (.wr (idsOf [xv, .slice (some a) j c']) :: fs))) : RunW P n ops (⟨some d, .call ⟨.builtin .append, #[x, y], #[t, t]⟩, ty, pos, after, gd⟩ :: rest) m E h Q := by
  obtain ⟨v', h', h1, h2, h3⟩ := append_row2 (h := h.lo h.next) (c' := c') hu hi hz hlz hs hs1 row rd hn hm ha hb hb2
  refine RunW.oneG (v := v') (f := .wr (idsOf [xv, .slice (some a) j c'])) (h1 := h') (E1 := upd E d v') hw ?_ ?_ (h3.trans (Fr.refl no _) (fun _ g => g.elim) |>.weak (fun b g => .inl (hmm b g))) (by simp only [eput, hd, cond_true]) (r v' h' h2 ?_)
  · simp only [eop, gs, hx, hy, abuiltin, h1]
  · intro q; simp only [fpE, gs, hx, hy, Array.toList]
  · exact ⟨h3.next, h3.get, fun l a b c => h3.low l b b c⟩
end
theorem RunC.drawW (m : Nat → Prop) {P : Program} {n : Nat} {E : Env} {h : Heap} {i : Nat} {ops : Array Oper} {p : Nat × Nat} {ps : List (Nat × Nat)} {Qn : Env → Heap → Prop} {Qx : Nat → Env → Heap → Prop} {Qr : Env → Heap → Prop} (hd : drawOk ops = some (p :: ps))
    (r : RunW P n ops.toList ops.toList m E h (fun E' h' fs => pairsOk fs (p :: ps) = true ∧ ∀ lw, Fr m h (h'.lo lw) → Qn E' (h'.lo lw))) : RunC P n (.region i ops true) E h Qn Qx Qr := by
  obtain ⟨l0, z1, z2, z3⟩ := low_max m (min h.low h.next)
  refine RunC.draw (l0 := l0) (Nat.le_trans z1 (Nat.min_le_left _ _)) hd ?_
  refine (r l0 (Nat.le_trans z1 (Nat.min_le_right _ _)) z2).mono ?_
  rintro E' h' fs ⟨fg, q1, q2⟩
  exact ⟨q1, fun lw hlw => q2 lw (fg.close (fun l x y z => Nat.le_trans (z3 l (Nat.le_min.2 ⟨x, y⟩) z) hlw))⟩
end Go.Am
end
section
set_option linter.unusedVariables false
namespace Go.Am
open Go.RowKit
/-- A slice that grows by append: a row, or one that is full. -/
def Gr (lo : Nat) (h : Heap) (v : Value) (s n : Nat) (cells : List Value) : Prop :=
  cells.length = n * s ∧ ((v = .slice none 0 0 ∧ n = 0) ∨ ∃ b c, lo ≤ b ∧ v = .slice (some ⟨b, 0, none⟩) n c ∧ (c = unkc s ∨ c = exc n) ∧ Ow h b cells)
theorem Row.gr {lo : Nat} {h : Heap} {v : Value} {s n : Nat} {cells : List Value} (r : Row lo h v s n cells) : Gr lo h v s n cells :=
  ⟨r.1, r.2.imp (fun x => x) (fun ⟨b, h1, h2, h3⟩ => ⟨b, _, h1, h2, .inl rfl, h3⟩)⟩
theorem Gr.full {lo n s b : Nat} {h : Heap} {cells : List Value} (ow : Ow h b cells) (hl : cells.length = n * s) (hb : lo ≤ b) : Gr lo h (.slice (some ⟨b, 0, none⟩) n (exc n)) s n cells := ⟨hl, .inr ⟨b, _, hb, rfl, .inr rfl, ow⟩⟩
theorem Gr.sl {lo : Nat} {h : Heap} {v : Value} {s n : Nat} {cells : List Value} (r : Gr lo h v s n cells) (hm : n ≤ 9223372036854775807) : Sl h v s n cells := by
  obtain ⟨h1, ⟨rfl, rfl⟩ | ⟨b, c, _, rfl, hc, ow⟩⟩ := r
  · exact ⟨h1, hm, .inl ⟨rfl, rfl⟩⟩
  · refine ⟨h1, hm, .inr ⟨b, 0, _, rfl, ?_, ow.all⟩⟩
    rcases hc with rfl | rfl
    · exact Cp.unkc _ _
    · exact Cp.exc (Nat.le_refl _)
theorem Gr.at {lo : Nat} {h : Heap} {v : Value} {s n b : Nat} {cells : List Value} (r : Gr lo h v s n cells) (a : At v b) : lo ≤ b ∧ b < h.next := by
  obtain ⟨m, c, rfl⟩ := a
  rcases r.2 with ⟨e, _⟩ | ⟨b', c', h1, h2, _, h3⟩
  · cases e
  · cases h2; exact ⟨h1, h3.1⟩
theorem Gr.frm {lo : Nat} {h h' : Heap} {v : Value} {s n : Nat} {cells : List Value} {M : Nat → Prop} (r : Gr lo h v s n cells) (f : Fr M h h') (hm : ∀ b, At v b → ¬ M b) : Gr lo h' v s n cells := by
  refine ⟨r.1, r.2.imp (fun x => x) ?_⟩
  rintro ⟨b, c, h1, h2, h3, h4⟩
  exact ⟨b, c, h1, h2, h3, h4.fr f (hm b ⟨_, _, h2⟩)⟩
theorem Gr.fr0 {lo : Nat} {h h' : Heap} {v : Value} {s n : Nat} {cells : List Value} (r : Gr lo h v s n cells) (f : Fr no h h') : Gr lo h' v s n cells := r.frm f (fun _ _ g => g)
theorem Gr.lo {lo lo' : Nat} {h : Heap} {v : Value} {s n : Nat} {cells : List Value} (r : Gr lo h v s n cells) (hl : lo' ≤ lo) : Gr lo' h v s n cells := by
  refine ⟨r.1, r.2.imp (fun x => x) ?_⟩
  rintro ⟨b, c, h1, h2⟩
  exact ⟨b, c, Nat.le_trans hl h1, h2⟩
section
variable {P : Program} {n : Nat} {ops rest : List Oper} {m : Nat → Prop} {E E1 : Env} {h h1 : Heap}
theorem append_gr {t e : TypeId} {i : TypeInfo} {z : Value} {lo s k j c' : Nat} {xv : Value} {cells news : List Value} {a : Addr}
    (hu : P.underlying t = some (.slice e)) (hi : P.info? e = some i) (hz : zeroOf P e = some z) (hlz : lenIs (cellsOf z) i.size = true) (hs : i.size = s) (hs1 : 1 ≤ s) (row : Gr lo h xv s k cells)
    (rd : Rd h a news) (hn : news.length = j * s) (hm : 1 ≤ j) (ha : allCells news = true) (hb : 2 * (k + j) * i.bytes ≤ 281474976710656) (hb2 : k + j ≤ 9223372036854775807) :
    ∃ v' h', aappend P h t t xv (.slice (some a) j c') = some (v', h') ∧ Row h.next h' v' s (k + j) (cells ++ news) ∧ Fr (At xv) h h' := by
  rcases row.2 with ⟨rfl, hk⟩ | ⟨b, c, hb1, rfl, hc, ow⟩
  · exact append_row2 (lo := lo) hu hi hz hlz hs hs1 ⟨row.1, .inl ⟨rfl, hk⟩⟩ rd hn hm ha hb hb2
  · rcases hc with rfl | rfl
    · exact append_row2 (lo := lo) hu hi hz hlz hs hs1 ⟨row.1, .inr ⟨b, hb1, rfl, ow⟩⟩ rd hn hm ha hb hb2
    · refine ⟨_, _, append_full hu hi hz hlz hs hs1 ow.all row.1 ?_ ?_ rd hn hm hb hb2, ⟨by rw [List.length_append, row.1, hn, Nat.add_mul], .inr ⟨_, Nat.le_refl _, rfl, Ow.push _ _⟩⟩, Fr.push _ _ _⟩
      · unfold isUnk exc
        show Nat.beq (2 * k % 2) 1 = false
        rw [show 2 * k % 2 = 0 by omega]; rfl
      · unfold half exc
        show 2 * k / 2 < k + j
        omega
theorem RunW.appendG {Q : Env → Heap → List Fp → Prop} {d : Tmp} {t ty e : TypeId} {x y : Operand} {pos : String} {after : Array Edge} {gd : Option (Nat × Bool)} {i : TypeInfo} {z : Value} {lo s k j c' : Nat} {xv : Value} {cells news : List Value} {a : Addr}
    (hw : ewanted ops E ⟨some d, .call ⟨.builtin .append, #[x, y], #[t, t]⟩, ty, pos, after, gd⟩ = some true) (hx : gE E x = some xv) (hy : gE E y = some (.slice (some a) j c')) (hd : Nat.ble (Nat.succ d) n = true)
    (hu : P.underlying t = some (.slice e)) (hi : P.info? e = some i) (hz : zeroOf P e = some z) (hlz : lenIs (cellsOf z) i.size = true) (hs : i.size = s) (hs1 : 1 ≤ s) (row : Gr lo h xv s k cells)
    (rd : Rd h a news) (hn : news.length = j * s) (hm : 1 ≤ j) (ha : allCells news = true) (hb : 2 * (k + j) * i.bytes ≤ 281474976710656) (hb2 : k + j ≤ 9223372036854775807) (hmm : ∀ b, At xv b → m b)
    (r : ∀ v' h', Row h.next h' v' s (k + j) (cells ++ news) → Fr (At xv) h h' → RunW P n ops rest m (upd E d v') h' (fun E' h' fs => Q E' h' (.wr (idsOf [xv, .slice (some a) j c']) :: fs))) : RunW P n ops (⟨some d, .call ⟨.builtin .append, #[x, y], #[t, t]⟩, ty, pos, after, gd⟩ :: rest) m E h Q := by
  obtain ⟨v', h', h1, h2, h3⟩ := append_gr (h := h.lo h.next) (c' := c') hu hi hz hlz hs hs1 row rd hn hm ha hb hb2
  refine RunW.oneG (v := v') (f := .wr (idsOf [xv, .slice (some a) j c'])) (h1 := h') (E1 := upd E d v') hw ?_ ?_ (h3.weak (fun b g => .inl (hmm b g))) (by simp only [eput, hd, cond_true]) (r v' h' h2 ?_)
  · simp only [eop, gs, hx, hy, abuiltin, h1]
  · intro q; simp only [fpE, gs, hx, hy, Array.toList]
  · exact ⟨h3.next, h3.get, fun l a b c => h3.low l b b c⟩
end
end Go.Am
end
section
set_option linter.unusedVariables false
namespace Go.Am
open Go.RowKit
section
variable {P : Program} {n : Nat} {ops rest : List Oper} {E E1 : Env} {h h1 : Heap} {Q : Env → Heap → Prop}
theorem RunO.appendG {d : Tmp} {t ty e : TypeId} {x y : Operand} {pos : String} {after : Array Edge} {i : TypeInfo} {z : Value} {lo s k j c' : Nat} {xv : Value} {cells news : List Value} {a : Addr}
    (hx : gE E x = some xv) (hy : gE E y = some (.slice (some a) j c')) (hd : Nat.ble (Nat.succ d) n = true)
    (hu : P.underlying t = some (.slice e)) (hi : P.info? e = some i) (hz : zeroOf P e = some z) (hlz : lenIs (cellsOf z) i.size = true) (hs : i.size = s) (hs1 : 1 ≤ s) (row : Gr lo h xv s k cells)
    (rd : Rd h a news) (hn : news.length = j * s) (hm : 1 ≤ j) (ha : allCells news = true) (hb : 2 * (k + j) * i.bytes ≤ 281474976710656) (hb2 : k + j ≤ 9223372036854775807)
    (r : ∀ v' h', Row h.next h' v' s (k + j) (cells ++ news) → Fr (At xv) h h' → RunO P n ops rest (upd E d v') h' Q) : RunO P n ops (⟨some d, .call ⟨.builtin .append, #[x, y], #[t, t]⟩, ty, pos, after, none⟩ :: rest) E h Q := by
  obtain ⟨v', h', h1, h2, h3⟩ := append_gr (c' := c') hu hi hz hlz hs hs1 row rd hn hm ha hb hb2
  refine RunO.one rfl (v := v') (h1 := h') ?_ (by simp only [eput, hd, cond_true]) (r v' h' h2 h3)
  simp only [eop, gs, hx, hy, abuiltin, h1]
end
end Go.Am
end
section
set_option linter.unusedVariables false
namespace Go.Am
open Go.RowKit
section
variable {P : Program} {n : Nat} {ops rest : List Oper} {E E1 : Env} {h h1 : Heap} {Q : Env → Heap → Prop}
end
end Go.Am
end
section
set_option linter.unusedVariables false
set_option linter.unusedSectionVars false
set_option maxRecDepth 100000
open Go Go.Am Go.RowKit
namespace Go.Proofs.Ytnokcbenpnmnbaa
open Go.Proofs.Try

/- Rows of bytes. -/
def Rws (h : Heap) (v : Value) (rows : List (List Int)) : Prop :=
  ∃ cs, Sl h v 1 rows.length cs ∧ ∀ (j : Nat) (x : List Int), rows[j]? = some x → ∃ w, cs[j]? = some w ∧ Sl h w 1 x.length (us x)
theorem Rws.fr0 {h h' : Heap} {v : Value} {rows : List (List Int)} (r : Rws h v rows) (f : Fr no h h') : Rws h' v rows := by
  obtain ⟨cs, h1, h2⟩ := r
  refine ⟨cs, h1.fr0 f, fun j x hx => ?_⟩
  obtain ⟨w, e, sw⟩ := h2 j x hx
  exact ⟨w, e, sw.fr0 f⟩
theorem Rws.nil (h : Heap) : Rws h (.slice none 0 0) [] := ⟨[], Sl.nil h 1, fun j x hx => by cases hx⟩
/-- A row in a block of its own. -/
def OwR (h : Heap) (w : Value) (x : List Int) : Prop := ∃ b, w = .slice (some ⟨b, 0, none⟩) x.length (exc x.length) ∧ Ow h b (us x)
theorem OwR.frm {h h' : Heap} {w : Value} {x : List Int} {m : Nat → Prop} (r : OwR h w x) (hn : ∀ b o c, w = .slice (some ⟨b, o, none⟩) x.length c → ¬ m b) (f : Fr m h h') : OwR h' w x := by
  obtain ⟨b, rfl, ow⟩ := r
  exact ⟨b, rfl, ow.fr f (hn b 0 _ rfl)⟩
theorem OwR.fr0 {h h' : Heap} {w : Value} {x : List Int} (r : OwR h w x) (f : Fr no h h') : OwR h' w x := r.frm (fun _ _ _ _ g => g) f
/-- Rows of bytes in a growing slice. -/
def RwG (lo : Nat) (h : Heap) (v : Value) (rows : List (List Int)) : Prop :=
  ∃ cs, Row lo h v 1 rows.length cs ∧ ∀ (j : Nat) (x : List Int), rows[j]? = some x → ∃ w, cs[j]? = some w ∧ Sl h w 1 x.length (us x) ∧ OwR h w x ∧ ∀ b o c, w = .slice (some ⟨b, o, none⟩) x.length c → lo ≤ b ∧ ¬ At v b
theorem RwG.fr0 {lo : Nat} {h h' : Heap} {v : Value} {rows : List (List Int)} (r : RwG lo h v rows) (f : Fr no h h') : RwG lo h' v rows := by
  obtain ⟨cs, h1, h2⟩ := r
  refine ⟨cs, h1.fr f (fun _ _ _ g => g), fun j x hx => ?_⟩
  obtain ⟨w, e, sw, so, hw⟩ := h2 j x hx
  exact ⟨w, e, sw.fr0 f, so.fr0 f, hw⟩
theorem RwG.rws {lo : Nat} {h : Heap} {v : Value} {rows : List (List Int)} (r : RwG lo h v rows) (hm : rows.length ≤ 9223372036854775807) : Rws h v rows := by
  obtain ⟨cs, h1, h2⟩ := r
  refine ⟨cs, h1.sl hm, fun j x hx => ?_⟩
  obtain ⟨w, e, sw, _⟩ := h2 j x hx
  exact ⟨w, e, sw⟩
theorem RwG.nil (lo : Nat) (h : Heap) : RwG lo h (.slice none 0 0) [] := ⟨[], Row.nil lo h 1, fun j x hx => by cases hx⟩
theorem RwG.at {lo : Nat} {h : Heap} {v : Value} {rows : List (List Int)} (r : RwG lo h v rows) {b : Nat} (g : At v b) : lo ≤ b ∧ b < h.next := by
  obtain ⟨cs, h1, _⟩ := r
  exact h1.at g
theorem RwG.snoc {lo : Nat} {h h' : Heap} {v v' w : Value} {rows : List (List Int)} {x : List Int} {cs : List Value} (row : Row lo h v 1 rows.length cs)
    (k : ∀ (j : Nat) (x : List Int), rows[j]? = some x → ∃ w, cs[j]? = some w ∧ Sl h w 1 x.length (us x) ∧ OwR h w x ∧ ∀ b o c, w = .slice (some ⟨b, o, none⟩) x.length c → lo ≤ b ∧ ¬ At v b)
    (sw : Sl h w 1 x.length (us x)) (so : OwR h w x) (hw : ∀ b o c, w = .slice (some ⟨b, o, none⟩) x.length c → lo ≤ b ∧ ¬ At v b)
    (row' : Row h.next h' v' 1 (rows.length + 1) (cs ++ [w])) (f : Fr (At v) h h') (hlo : lo ≤ h.next) : RwG lo h' v' (rows ++ [x]) := by
  have hl : cs.length = rows.length := by have := row.1; omega
  have hnew : ∀ (y : List Int) (u : Value), Sl h u 1 y.length (us y) → ∀ b o c, u = .slice (some ⟨b, o, none⟩) y.length c → ¬ At v' b := fun y u su b o c e a => by
    have h1 := su.lt b o c e
    have h2 := (row'.at a).1
    omega
  refine ⟨_, by rw [List.length_append]; exact Row.lo row' hlo, fun j y hy => ?_⟩
  by_cases hj : j < rows.length
  · rw [List.getElem?_append_left hj] at hy
    obtain ⟨u, e, su, uo, hu⟩ := k j y hy
    refine ⟨u, ?_, su.frm (fun b o c e => (hu b o c e).2) f, uo.frm (fun b o c e => (hu b o c e).2) f, fun b o c e => ⟨(hu b o c e).1, hnew y u su b o c e⟩⟩
    rw [List.getElem?_append_left (by omega)]; exact e
  · have hj2 : j = rows.length := by
      have := (List.getElem?_eq_some_iff.1 hy).1
      rw [List.length_append, List.length_singleton] at this
      omega
    subst hj2
    rw [List.getElem?_append_right (Nat.le_refl _), Nat.sub_self] at hy
    have hy : some x = some y := hy
    cases hy
    refine ⟨w, ?_, sw.frm (fun b o c e => (hw b o c e).2) f, so.frm (fun b o c e => (hw b o c e).2) f, fun b o c e => ⟨(hw b o c e).1, hnew x w sw b o c e⟩⟩
    rw [List.getElem?_append_right (by omega), hl, Nat.sub_self]; rfl
theorem row_part {cs : List Value} {j : Nat} {w : Value} (h : cs[j]? = some w) : apart prog 22 cs (j * 1) = some w := by
  show nth cs (j * 1) = _
  rw [Nat.mul_one, nth_eq]; exact h
theorem keepRows_ok {h : Heap} {v w : Value} {l m : List (List Int)} (sl : Rws h v l) (sm : Rws h w m) (hl : l.length ≤ 9223372036854775807) (hl2 : ∀ x ∈ l, x.length ≤ 9223372036854775807) :
    RunF prog 34 [v, w] h fun v h' => v = .bool (l == m) ∧ h = h' := by
  refine RunF.walk func34 rfl rfl ?_
  obtain ⟨cs, s1, k1⟩ := sl
  obtain ⟨ds, s2, k2⟩ := sm
  have s10 := s1
  have s20 := s2
  obtain ⟨A, c, rfl, hc, _⟩ := s1.form
  obtain ⟨B, d, rfl, hd, _⟩ := s2.form
  refine RunC.seq (RunC.region (RunO.all rfl ?_))
  refine RunC.seq (RunC.seq (RunC.region (RunO.all rfl ?_)))
  by_cases hn : l.length = m.length
  case neg =>
    rw [show ((l.length : Int) != (m.length : Int)) = true from bne_iff_ne.2 (by omega)]
    refine RunC.cond rfl (fun _ => ?_) (fun g => by cases g)
    rw [show (l == m) = false from beq_eq_false_iff_ne.2 (fun e => hn (by rw [e]))]
    exact RunC.seq (RunC.region (RunO.all rfl (RunC.ret ⟨_, rfl, rfl, rfl⟩)))
  rw [show ((l.length : Int) != (m.length : Int)) = false from by rw [hn]; exact bne_self_eq_false _]
  refine RunC.cond rfl (fun g => by cases g) (fun _ => RunC.skip ?_)
  refine RunC.seq (RunC.seq (RunC.region (RunO.all rfl ?_)))
  refine RunC.block ?_
  refine RunC.loop (fun k E h' => ∃ i : Nat, i + k = l.length ∧ l.take i = m.take i ∧ h = h' ∧ Le ((upd (upd (upd E0 0 (.slice A l.length c)) 1 (.slice B m.length d)) 5 (.int .i64 (i : Int)))) E) ?st (k := l.length) ?ini
  case ini => exact ⟨0, by omega, rfl, rfl, Le.cons rfl (Le.cons rfl (Le.cons rfl (Le.nil _)))⟩
  rintro k E _ ⟨i, hi, ht, rfl, hE⟩
  refine RunC.le hE ?_
  clear hE
  refine RunC.seq (RunC.seq (RunC.region (RunO.all rfl ?_)))
  refine RunC.cond rfl (fun hlt => RunC.skip ?go) (fun hge => RunC.exit ?ex)
  case go =>
    have hlt := of_decide_eq_true hlt
    have h1 : i < l.length := by omega
    have h2 : i < m.length := by omega
    obtain ⟨w1, e1, sw1⟩ := k1 i l[i] (List.getElem?_eq_getElem h1)
    obtain ⟨w2, e2, sw2⟩ := k2 i m[i] (List.getElem?_eq_getElem h2)
    have hb1 := hl2 l[i] (List.getElem_mem h1)
    refine RunC.seq (RunC.block ?_)
    refine RunC.seq (RunC.draw0 rfl (RunO.part 2 rfl ?_))
    refine RunO.at (s := 1) (k := i) rfl rfl s10 rfl rfl h1 (row_part e1) rfl rfl rfl ?_
    refine RunO.part 2 rfl ?_
    refine RunO.at (s := 1) (k := i) rfl rfl s20 rfl rfl h2 (row_part e2) rfl rfl rfl ?_
    refine RunO.callD (keepBytesSX_ok sw1 sw2) rfl rfl rfl ?_
    rintro _ _ ⟨rfl, rfl⟩
    by_cases he : l[i] = m[i]
    · rw [show (l[i] == m[i]) = true from beq_iff_eq.2 he]
      refine RunO.all rfl (RunC.cond rfl (fun g => by cases g) (fun _ => RunC.skip ?_))
      refine RunC.region (RunO.all rfl ?_)
      refine ⟨k - 1, by omega, i + 1, by omega, ?_, rfl, Le.cons (inc64x (by omega)) (Le.cons rfl (Le.cons rfl (Le.nil _)))⟩
      rw [List.take_succ_eq_append_getElem h1, List.take_succ_eq_append_getElem h2, ht, he]
    · rw [show (l[i] == m[i]) = false from beq_eq_false_iff_ne.2 he]
      refine RunO.all rfl (RunC.cond rfl (fun _ => ?_) (fun g => by cases g))
      have hlm : (l == m) = false := beq_eq_false_iff_ne.2 (fun e => he (by simp [e]))
      rw [hlm]
      exact RunC.seq (RunC.region (RunO.all rfl (RunC.ret ⟨_, rfl, rfl, rfl⟩)))
  have hge := of_decide_eq_false hge
  have hi2 : i = l.length := by omega
  rw [hi2, List.take_length, hn, List.take_length] at ht
  have hlm : (l == m) = true := beq_iff_eq.2 ht
  rw [hlm]
  exact RunC.seq (RunC.region (RunO.all rfl (RunC.ret ⟨_, rfl, rfl, rfl⟩)))
/- A tree's sectors. -/
def secB (L : List Int) (a : Int) : List Int := if a = 0 then List.replicate 64 0 else blkI L a.toNat
def secsL (L m : List Int) (n : Nat) : List (List Int) := (m.take n).map (secB L)
theorem secsL_len (L m : List Int) {n : Nat} (h : n ≤ m.length) : (secsL L m n).length = n := by unfold secsL; rw [List.length_map, List.length_take]; omega
theorem sec_take (l : List Int) (n : Nat) : (is l).take n = is (l.take n) := by unfold is; rw [List.map_take]
set_option maxHeartbeats 16000000 in
theorem sectors_ok {h : Heap} {iv mv : Value} {L m : List Int} {n : Nat} (sl : Sl h iv 1 L.length (us L)) (sm : Sl h mv 1 m.length (is m)) (hr : ∀ x ∈ m, x = 0 ∨ (0 ≤ x ∧ (x.toNat + 1) * 64 ≤ L.length)) (hn : n ≤ m.length) (hmm : m.length ≤ 100000) (hm : L.length ≤ 4611686018427387904) :
    RunF prog 53 [iv, mv, .int .i64 (n : Int)] h fun v h' => Fr no h h' ∧ RwG h.next h' v (secsL L m n) := by
  refine RunF.walk func53 rfl rfl ?_
  have sl0 := sl
  obtain ⟨A, c, rfl, hc, hA⟩ := sl.form
  refine RunC.seq (RunC.region (RunO.all rfl ?_))
  refine RunC.seq (RunC.region (RunO.all rfl ?_))
  refine RunC.seq (RunC.seq (RunC.region (RunO.part 2 rfl ?_)))
  refine RunO.sliceSl (s := 1) (len := m.length) (k := 0) (m := n) rfl rfl rfl rfl rfl sm (.none _) (.some _ _ _) (Nat.zero_le _) hn rfl ?_
  intro tv st
  have hlt_ : (m.take n).length = n := by rw [List.length_take]; omega
  have st : Sl h tv 1 n (is (m.take n)) := by
    rw [Nat.zero_mul, List.drop_zero, Nat.sub_zero, Nat.mul_one, sec_take m n] at st
    exact st
  have st0 := st
  obtain ⟨mA, mc, rfl, _, _⟩ := st.form
  have hrt : ∀ x ∈ m.take n, x = 0 ∨ (0 ≤ x ∧ (x.toNat + 1) * 64 ≤ L.length) := fun x hx => hr x (List.mem_of_mem_take hx)
  have e0 : secsL L m n = (m.take n).map (secB L) := rfl
  rw [e0]
  generalize m.take n = t at *
  refine RunO.all rfl ?_
  refine RunC.block ?_
  refine RunC.loop (fun d E h' => ∃ (i : Nat) (ov : Value), i + d = n ∧ Fr no h h' ∧ RwG h.next h' ov ((t.take i).map (secB L)) ∧ Le ((upd (upd (upd (upd (upd E0 0 (.slice A L.length c)) 7 (ov)) 13 (.slice mA n mc)) 14 (.int .i64 (n : Int))) 15 (.int .i64 (i : Int)))) E) ?st (k := n) ?ini
  case ini => exact ⟨0, .slice none 0 0, by omega, Fr.refl _ _, RwG.nil _ _, Le.cons rfl (Le.cons rfl (Le.cons rfl (Le.cons rfl (Le.cons rfl (Le.nil _)))))⟩
  rintro d E g1 ⟨i, ov, hi, fg, rg, hE⟩
  refine RunC.le hE ?_
  clear hE
  refine RunC.seq (RunC.region (RunO.all rfl ?_))
  refine RunC.seq (RunC.cond rfl (fun hlt => RunC.skip ?go) (fun hge => RunC.exit ?ex))
  case ex =>
    have hge := of_decide_eq_false hge
    obtain rfl : i = n := by omega
    rw [List.take_of_length_le (by omega)] at rg
    refine RunC.seq (RunC.region (RunO.all rfl ?_))
    exact RunC.ret ⟨_, rfl, fg, rg⟩
  have hlt := of_decide_eq_true hlt
  have hlt : i < t.length := by omega
  have hin : i < n := by omega
  have hpt := is_part hlt
  have hxr := hrt t[i] (List.getElem_mem hlt)
  have hrow : (t.take (i + 1)).map (secB L) = (t.take i).map (secB L) ++ [secB L t[i]] := by rw [List.take_succ_eq_append_getElem hlt, List.map_append]; rfl
  have hrl : ((t.take i).map (secB L)).length = i := by rw [List.length_map, List.length_take]; omega
  generalize (t.take i).map (secB L) = rows at *
  generalize t[i] = x at *
  refine RunC.seq (RunC.block ?_)
  refine RunC.seq (RunC.region ?_)
  refine RunO.at (s := 1) (k := i) rfl rfl (st0.fr0 fg) rfl rfl hin hpt rfl rfl rfl (RunO.all rfl ?_)
  refine RunC.seq (RunC.region ?_)
  refine RunO.make (m := 64) rfl rfl rfl rfl rfl rfl (Nat.le_of_ble_eq_true rfl) (by decide) rfl ?_
  rw [reps_us]
  have od := Ow.push g1 (us (List.replicate 64 0))
  have f3 : Fr no g1 (g1.push ⟨us (List.replicate 64 0), true⟩) := Fr.push _ _ _
  have hov : ∀ b, At ov b → b < g1.next := fun b g => (rg.at g).2
  have hov2 : ∀ b, At ov b → h.next ≤ b := fun b g => (rg.at g).1
  have hng := fg.next
  generalize g1.push ⟨us (List.replicate 64 0), true⟩ = g2 at *
  obtain ⟨db, hdb⟩ : ∃ q, q = g1.next := ⟨_, rfl⟩
  rw [← hdb] at od hov ⊢
  have hdbn : h.next ≤ db := by omega
  refine RunO.all rfl ?_
  refine (RunC.seqc (fun E' h' => Fr no g1 h' ∧ Ow h' db (us (secB L x)) ∧ Le ((upd (upd (upd (upd (upd (upd (upd E0 0 (.slice A L.length c)) 7 (ov)) 13 (.slice mA n mc)) 14 (.int .i64 (n : Int))) 15 (.int .i64 (i : Int))) 9 (.int .i64 x)) 10 (.slice (some ⟨db, 0, none⟩) 64 (exc 64)))) E') ?cp ?ap)
  case cp =>
    refine RunC.seq (RunC.region (RunO.part 1 rfl ?_))
    by_cases h0 : x = 0
    · refine RunO.part 1 rfl ?_
      rw [show (x != 0) = false from by rw [h0]; rfl]
      refine RunO.all rfl (RunC.cond rfl (fun g => by cases g) (fun _ => RunC.skip ?_))
      have hs0 : secB L x = List.replicate 64 0 := by unfold secB; rw [if_pos h0]
      exact ⟨f3, by rw [hs0]; exact od, Le.cons rfl (Le.cons rfl (Le.cons rfl (Le.cons rfl (Le.cons rfl (Le.cons rfl (Le.cons rfl (Le.nil _)))))))⟩
    · refine RunO.part 1 rfl ?_
      rw [show (x != 0) = true from bne_iff_ne.2 h0]
      refine RunO.all rfl (RunC.cond rfl (fun _ => ?_) (fun g => by cases g))
      have hx := hxr.resolve_left h0
      have hs0 : secB L x = blkI L x.toNat := by unfold secB; rw [if_neg h0]
      rw [hs0]
      obtain ⟨y, rfl⟩ := Int.eq_ofNat_of_zero_le hx.1
      rw [Int.toNat_natCast] at hx ⊢
      obtain ⟨b, o, rfl, rd⟩ := hA (by omega)
      refine RunC.region (RunO.part 3 rfl ?_)
      refine RunO.callD (devOf_ok (o := o) hx.2 hm hc) rfl rfl rfl ?_
      rintro _ _ ⟨⟨c', hc', rfl⟩, rfl⟩
      have hbl := blkI_len hx.2
      have sb : Sl g2 (.slice (some ⟨b, o + y * 64, none⟩) 64 c') 1 64 (us (blkI L y)) := (rdBlk ((rd.fr fg (fun g => g)).fr f3 (fun g => g)) hx.2).sl (by rw [us_len, hbl]) (by decide) hc'
      refine RunO.copy (k := 64) rfl rfl rfl rfl od sb (allCells_map (f := Value.int .u8) (fun _ => rfl) _) rfl (by rw [us_len, List.length_replicate]; decide) rfl ?_
      intro g3 oc f4 _
      have e1 : (us (blkI L y)).take 64 ++ (us (List.replicate 64 0)).drop 64 = us (blkI L y) := by
        rw [List.take_of_length_le (by rw [us_len, hbl]; decide), List.drop_eq_nil_of_le (by rw [us_len, List.length_replicate]; decide), List.append_nil]
      rw [e1] at oc
      refine RunO.nil ?_
      exact ⟨f3.trans f4 (fun b e => .inr (by have e : b = db := e; omega)), oc, Le.cons rfl (Le.cons rfl (Le.cons rfl (Le.cons rfl (Le.cons rfl (Le.cons rfl (Le.cons rfl (Le.nil _)))))))⟩
  rintro E' g3 ⟨f5, od, hE⟩
  refine RunC.le hE ?_
  clear hE
  have hl64 : (secB L x).length = 64 := by
    unfold secB
    split
    · rfl
    · rename_i h0
      exact blkI_len (hxr.resolve_left h0).2
  have so : OwR g3 (.slice (some ⟨db, 0, none⟩) 64 (exc 64)) (secB L x) := ⟨db, by rw [hl64], od⟩
  have sw : Sl g3 (.slice (some ⟨db, 0, none⟩) 64 (exc 64)) 1 (secB L x).length (us (secB L x)) := by
    have hl := hl64
    rw [hl]
    exact od.all.sl (by rw [us_len, hl]) (by decide) (Cp.exc (Nat.le_refl _))
  have fg5 := fg.same f5
  have rg5 := rg.fr0 f5
  have hdb1 := od.1
  refine RunC.region (RunO.part 3 (h1 := g3.push ⟨[.slice (some ⟨db, 0, none⟩) 64 (exc 64)], true⟩) rfl ?_)
  have ot := Ow.push g3 [.slice (some ⟨db, 0, none⟩) 64 (exc 64)]
  have f6 : Fr no g3 (g3.push ⟨[.slice (some ⟨db, 0, none⟩) 64 (exc 64)], true⟩) := Fr.push _ _ _
  replace sw := sw.fr0 f6
  replace so := so.fr0 f6
  have fg6 := fg5.same f6
  have rg6 := rg5.fr0 f6
  generalize g3.push ⟨[.slice (some ⟨db, 0, none⟩) 64 (exc 64)], true⟩ = g4 at *
  obtain ⟨cs, row, kk⟩ := rg6
  refine RunO.appendG (s := 1) (j := 1) rfl rfl rfl rfl rfl rfl rfl rfl (by decide) row.gr ot.all rfl (Nat.le_refl 1) rfl (by show 2 * (_ + 1) * 24 ≤ _; omega) (by omega) ?_
  intro ov2 g5 row2 f7
  have rg7 := RwG.snoc row kk sw so (fun b o c e => by injection e with e1; injection e1 with e1; injection e1 with e1; exact ⟨by omega, fun a => by have := hov b a; omega⟩) row2 f7 fg6.next
  refine RunO.all rfl ?_
  refine RunC.region (RunO.all rfl ?_)
  exact ⟨d - 1, by omega, i + 1, ov2, by omega, fg6.trans f7 (fun b g => .inr (hov2 b g)), by rw [hrow]; exact rg7, Le.cons (inc64 (by omega)) (Le.cons rfl (Le.cons rfl (Le.cons rfl (Le.cons rfl (Le.nil _)))))⟩
end Go.Proofs.Ytnokcbenpnmnbaa
end
section
set_option linter.unusedVariables false
set_option maxRecDepth 100000
open Go Go.Am
namespace Go.Proofs.Ytnokcbenpnmnbaa
open Go.Proofs.Try
theorem indexRec_ok {h : Heap} {v : Value} {n : Nat} {acs : List Value} (sl : Sl h v 8 n acs) {u : Nat → Value} (hu : ∀ j, j < n → apart prog 84 acs (j * 8) = some (u j)) {g : FuncId} {cap : List Value} {p : Nat → Bool}
    (hg : ∀ j, j < n → ∀ h1, Fr no h h1 → RunF prog g (u j :: cap) h1 (fun v h2 => v = .bool (p j) ∧ Fr no h1 h2)) (hm : n ≤ 4611686018427387904) :
    RunF prog 128 [v, .func (.func g) #[] ⟨cap⟩] h fun r h' => Fr no h h' ∧ ((∃ i : Nat, i < n ∧ r = .int .i64 (i : Int) ∧ p i = true ∧ ∀ j, j < i → p j = false) ∨ (r = .int .i64 (-1) ∧ ∀ j, j < n → p j = false)) := by
  refine RunF.walk func128 rfl rfl ?_
  obtain ⟨A, c, rfl, hc, _⟩ := sl.form
  refine RunC.seq (RunC.region (RunO.all rfl ?_))
  refine RunC.seq (RunC.seq (RunC.region (RunO.all rfl ?_)))
  refine RunC.block ?_
  let I : Nat → Env → Heap → Prop := fun k E h' => ∃ i : Nat, i + k = n ∧ (∀ j, j < i → p j = false) ∧ Fr no h h' ∧ Le (upd (upd (upd (upd E0 0 (.slice A n c)) 1 (.func (.func g) #[] ⟨cap⟩)) 7 (.int .i64 n)) 8 (.int .i64 i)) E
  refine RunC.loop I ?_ (k := n) ?_
  · rintro k E h' ⟨i, hi, hp, hf, hE⟩
    refine RunC.le hE ?_
    clear hE
    refine RunC.seq (RunC.region (RunO.all rfl ?_))
    refine RunC.seq (RunC.cond rfl (fun hlt => ?_) (fun hge => ?_))
    · have hlt := of_decide_eq_true hlt
      have h1 : i < n := by omega
      refine RunC.skip ?_
      refine RunC.seq (RunC.block ?_)
      refine RunC.seq (RunC.region (RunO.all rfl ?_))
      refine RunC.seq (RunC.region (RunO.part 3 rfl ?_))
      refine RunO.at (s := 8) rfl rfl (sl.fr0 hf) rfl rfl h1 (hu i h1) rfl rfl rfl ?_
      refine RunO.call rfl rfl ?_
      refine RunF.mono (hg i h1 _ hf) ?_
      rintro _ h2 ⟨rfl, f2⟩
      refine ⟨_, rfl, RunO.all rfl ?_⟩
      refine RunC.cond rfl (fun ht => ?_) (fun hn => ?_)
      · refine RunC.seq (RunC.region (RunO.all rfl (RunC.ret ⟨_, rfl, hf.quiet f2, .inl ⟨i, h1, rfl, ht, hp⟩⟩)))
      · refine RunC.skip (RunC.region (RunO.all rfl ?_))
        refine ⟨k - 1, by omega, i + 1, by omega, fun j hj => ?_, hf.quiet f2, Le.cons (inc64 (by omega)) (Le.cons rfl (Le.cons rfl (Le.cons rfl (Le.nil _))))⟩
        rcases Nat.lt_or_ge j i with q | q
        · exact hp j q
        · rw [show j = i by omega]; exact hn
    · have hge := of_decide_eq_false hge
      refine RunC.exit ?_
      exact RunC.seq (RunC.region (RunO.all rfl (RunC.ret ⟨_, rfl, hf, .inr ⟨rfl, fun j hj => hp j (by omega)⟩⟩)))
  · exact ⟨0, by omega, fun j hj => absurd hj (Nat.not_lt_zero _), Fr.refl _ _, Le.cons rfl (Le.cons rfl (Le.cons rfl (Le.cons rfl (Le.nil _))))⟩
theorem containsRec_ok {h : Heap} {v : Value} {n : Nat} {acs : List Value} (sl : Sl h v 8 n acs) {u : Nat → Value} (hu : ∀ j, j < n → apart prog 84 acs (j * 8) = some (u j)) {g : FuncId} {cap : List Value} {p : Nat → Bool}
    (hg : ∀ j, j < n → ∀ h1, Fr no h h1 → RunF prog g (u j :: cap) h1 (fun v h2 => v = .bool (p j) ∧ Fr no h1 h2)) (hm : n ≤ 4611686018427387904) :
    RunF prog 118 [v, .func (.func g) #[] ⟨cap⟩] h fun r h' => r = .bool (anyI p n) ∧ Fr no h h' := by
  refine RunF.walk func118 rfl rfl ?_
  refine RunC.seq (RunC.region (RunO.all rfl ?_))
  refine RunC.seq (RunC.region (RunO.part 2 rfl ?_))
  refine RunO.callD (indexRec_ok sl hu hg hm) rfl rfl rfl ?_
  rintro _ h2 ⟨f2, ⟨i, hi, rfl, hp, _⟩ | ⟨rfl, hp⟩⟩
  · refine RunO.all rfl (RunC.ret ⟨_, rfl, ?_, f2⟩)
    rw [anyI_true hi hp]
    exact congrArg Value.bool (decide_eq_true (Int.natCast_nonneg i))
  · refine RunO.all rfl (RunC.ret ⟨_, rfl, ?_, f2⟩)
    rw [anyI_false hp]; rfl
end Go.Proofs.Ytnokcbenpnmnbaa
end
section
set_option linter.unusedVariables false
set_option maxRecDepth 100000
open Go Go.Am
namespace Go.Proofs.Ytnokcbenpnmnbaa
open Go.Proofs.Try
theorem superLay_ok {h : Heap} : RunF prog 66 [] h fun v h' => Row h.next h' v 2 5 (fcs (layF 4 [8, 4, 4, 4, 4])) ∧ Fr no h h' := by
  refine RunF.walk func66 rfl rfl ?_
  refine RunC.seq (RunC.region (RunO.all rfl ?_))
  refine RunC.seq (RunC.region (RunO.part 1 (h1 := h.push ⟨ns [8, 4, 4, 4, 4], true⟩) rfl ?_))
  refine RunO.callD (superLayout_ok (ss := [8, 4, 4, 4, 4]) (c := exc 5) (Ow.push h (ns [8, 4, 4, 4, 4])).all (by decide) (by decide)) rfl rfl rfl ?_
  rintro v h' ⟨hr, hf⟩
  refine RunO.all rfl (RunC.ret ⟨_, rfl, ?_, ?_⟩)
  · refine ⟨hr.1, hr.2.imp (fun x => x) ?_⟩
    rintro ⟨b, h1, h2⟩
    exact ⟨b, Nat.le_trans (Nat.le_succ _) h1, h2⟩
  · exact (Fr.push no _ _).same hf
theorem superIn_ok {h : Heap} {a lo hi : Int} : RunF prog 97 [.int .i64 a, .int .i64 lo, .int .i64 hi] h fun v h' => v = .bool (inB a lo hi) ∧ h = h' := by
  refine RunF.walk func97 rfl rfl ?_
  refine RunC.seq (RunC.region (RunO.all rfl ?_))
  refine RunC.seq (RunC.region (RunO.part 4 rfl ?_))
  unfold inB
  cases decide (a ≥ lo) with
  | true => exact RunO.all rfl (RunC.ret ⟨_, rfl, by simp, rfl⟩)
  | false => exact RunO.all rfl (RunC.ret ⟨_, rfl, by simp, rfl⟩)
/-- A superblock's cells. -/
def sc (g bl rt sz fi : Int) : List Value := [.int .i64 g, .int .i64 bl, .int .i64 rt, .int .i64 sz, .int .i64 fi]
def superOk (g bl rt sz fi : Int) : Bool :=
  ((inB g 1 1099511627776 && inB bl 4 4096) && inB sz 0 512) && ((rt == 0 || inB rt 2 (fwrap .i64 (bl - 1))) && (fi == 0 || inB fi 2 (fwrap .i64 (bl - 1))))
theorem superCheck_ok {h : Heap} {g bl rt sz fi : Int} : RunF prog 65 [.agg ⟨sc g bl rt sz fi⟩] h fun v h' => v = .int .i64 (if superOk g bl rt sz fi then 0 else 1) ∧ Fr no h h' := by
  refine RunF.walk func65 rfl rfl ?_
  refine RunC.seq (RunC.region (RunO.all (h1 := h.push ⟨sc g bl rt sz fi, true⟩) rfl ?_))
  have ow : Ow (h.push ⟨sc g bl rt sz fi, true⟩) h.next (sc g bl rt sz fi) := Ow.push _ _
  have f1 : Fr no h (h.push ⟨sc g bl rt sz fi, true⟩) := Fr.push _ _ _
  generalize h.push ⟨sc g bl rt sz fi, true⟩ = h1 at *
  refine RunC.seqE (upd (upd E0 1 (.pointer (some ⟨h.next, 0, none⟩))) 3 (.bool ((inB g 1 1099511627776 && inB bl 4 4096) && inB sz 0 512))) ?_ ?_
  · refine RunC.region (RunO.part 1 rfl ?_)
    refine RunO.load (v := .int .i64 g) rfl (ow.all.cell1 (k := 0) rfl rfl) rfl ?_
    refine RunO.callD superIn_ok rfl rfl rfl ?_
    rintro _ _ ⟨rfl, rfl⟩
    refine RunO.part 1 rfl ?_
    cases inB g 1 1099511627776 with
    | false => exact RunO.all rfl ⟨rfl, Le.cons rfl (Le.cons rfl (Le.nil _))⟩
    | true =>
      refine RunO.part 1 rfl ?_
      refine RunO.loadG (v := .int .i64 bl) rfl rfl (ow.all.cell1 (k := 1) rfl rfl) rfl ?_
      refine RunO.callDG rfl superIn_ok rfl rfl rfl ?_
      rintro _ _ ⟨rfl, rfl⟩
      refine RunO.part 2 rfl ?_
      cases inB bl 4 4096 with
      | false => exact RunO.all rfl ⟨rfl, Le.cons rfl (Le.cons rfl (Le.nil _))⟩
      | true =>
        refine RunO.part 1 rfl ?_
        refine RunO.loadG (v := .int .i64 sz) rfl rfl (ow.all.cell1 (k := 3) rfl rfl) rfl ?_
        refine RunO.callDG rfl superIn_ok rfl rfl rfl ?_
        rintro _ _ ⟨rfl, rfl⟩
        exact RunO.all rfl ⟨rfl, Le.cons rfl (Le.cons rfl (Le.nil _))⟩
  refine RunC.seqE (upd (upd (upd E0 1 (.pointer (some ⟨h.next, 0, none⟩))) 3 (.bool ((inB g 1 1099511627776 && inB bl 4 4096) && inB sz 0 512))) 4 (.bool (rt == 0 || inB rt 2 (fwrap .i64 (bl - 1))))) ?_ ?_
  · refine RunC.region (RunO.part 1 rfl ?_)
    refine RunO.load (v := .int .i64 rt) rfl (ow.all.cell1 (k := 2) rfl rfl) rfl ?_
    refine RunO.part 2 rfl ?_
    cases (rt == 0) with
    | true => exact RunO.all rfl ⟨rfl, Le.cons rfl (Le.cons rfl (Le.cons rfl (Le.nil _)))⟩
    | false =>
      refine RunO.part 1 rfl ?_
      refine RunO.loadG (v := .int .i64 rt) rfl rfl (ow.all.cell1 (k := 2) rfl rfl) rfl ?_
      refine RunO.part 1 rfl ?_
      refine RunO.loadG (v := .int .i64 bl) rfl rfl (ow.all.cell1 (k := 1) rfl rfl) rfl ?_
      refine RunO.part 1 rfl ?_
      refine RunO.callDG rfl superIn_ok rfl rfl rfl ?_
      rintro _ _ ⟨rfl, rfl⟩
      exact RunO.all rfl ⟨rfl, Le.cons rfl (Le.cons rfl (Le.cons rfl (Le.nil _)))⟩
  refine RunC.seqE (upd (upd (upd E0 3 (.bool ((inB g 1 1099511627776 && inB bl 4 4096) && inB sz 0 512))) 4 (.bool (rt == 0 || inB rt 2 (fwrap .i64 (bl - 1))))) 5 (.bool (fi == 0 || inB fi 2 (fwrap .i64 (bl - 1))))) ?_ ?_
  · refine RunC.region (RunO.part 1 rfl ?_)
    refine RunO.load (v := .int .i64 fi) rfl (ow.all.cell1 (k := 4) rfl rfl) rfl ?_
    refine RunO.part 2 rfl ?_
    cases (fi == 0) with
    | true => exact RunO.all rfl ⟨rfl, Le.cons rfl (Le.cons rfl (Le.cons rfl (Le.nil _)))⟩
    | false =>
      refine RunO.part 1 rfl ?_
      refine RunO.loadG (v := .int .i64 fi) rfl rfl (ow.all.cell1 (k := 4) rfl rfl) rfl ?_
      refine RunO.part 1 rfl ?_
      refine RunO.loadG (v := .int .i64 bl) rfl rfl (ow.all.cell1 (k := 1) rfl rfl) rfl ?_
      refine RunO.part 1 rfl ?_
      refine RunO.callDG rfl superIn_ok rfl rfl rfl ?_
      rintro _ _ ⟨rfl, rfl⟩
      exact RunO.all rfl ⟨rfl, Le.cons rfl (Le.cons rfl (Le.cons rfl (Le.nil _)))⟩
  unfold superOk
  generalize ((inB g 1 1099511627776 && inB bl 4 4096) && inB sz 0 512) = b1
  generalize (rt == 0 || inB rt 2 (fwrap .i64 (bl - 1))) = b2
  generalize (fi == 0 || inB fi 2 (fwrap .i64 (bl - 1))) = b3
  cases b1 <;> cases b2 <;> cases b3 <;> refine RunC.seq (RunC.seq (RunC.region (RunO.all rfl (RunC.cond rfl (fun g => ?_) (fun g => ?_))))) <;> first
    | (cases g; done)
    | exact RunC.seq (RunC.region (RunO.all rfl (RunC.ret ⟨_, rfl, rfl, f1⟩)))
    | exact RunC.skip (RunC.seq (RunC.region (RunO.all rfl (RunC.ret ⟨_, rfl, rfl, f1⟩))))
/-- A superblock's block. -/
def superBlock (g bl rt sz fi : Int) : List Int := makeB [87, 67, 85, 84] (layF 4 [8, 4, 4, 4, 4]) [g, bl, rt, sz, fi]
theorem superBytes_ok {h : Heap} {g bl rt sz fi : Int} : RunF prog 43 [.agg ⟨sc g bl rt sz fi⟩] h fun v h' => Fr no h h' ∧ ((superOk g bl rt sz fi = true ∧ ∃ b, h.next ≤ b ∧ v = .tuple #[.slice (some ⟨b, 0, none⟩) 64 (exc 64), .int .i64 0] ∧ Ow h' b (us (superBlock g bl rt sz fi))) ∨ (superOk g bl rt sz fi = false ∧ v = .tuple #[.slice none 0 0, .int .i64 1])) := by
  refine RunF.walk func43 rfl rfl ?_
  refine RunC.seq (RunC.region (RunO.all (h1 := h.push ⟨sc g bl rt sz fi, true⟩) rfl ?_))
  have ow : Ow (h.push ⟨sc g bl rt sz fi, true⟩) h.next (sc g bl rt sz fi) := Ow.push _ _
  have f1 : Fr no h (h.push ⟨sc g bl rt sz fi, true⟩) := Fr.push _ _ _
  generalize h.push ⟨sc g bl rt sz fi, true⟩ = h1 at *
  refine RunC.seq (RunC.region ?_)
  refine RunO.load (v := .agg ⟨sc g bl rt sz fi⟩) rfl (ow.all.part (k := 0) rfl) rfl ?_
  refine RunO.callD superCheck_ok rfl rfl rfl ?_
  rintro v h2 ⟨rfl, hf2⟩
  have f2 := f1.same hf2
  have ow2 := ow.fr hf2 (fun g => g)
  refine RunO.all rfl ?_
  cases hok : superOk g bl rt sz fi with
  | false =>
    refine RunC.seq (RunC.seq (RunC.region (RunO.all rfl (RunC.cond rfl (fun _ => ?_) (fun g => by cases g)))))
    exact RunC.seq (RunC.region (RunO.all rfl (RunC.ret ⟨_, rfl, f2, .inr ⟨rfl, rfl⟩⟩)))
  | true =>
    refine RunC.seq (RunC.seq (RunC.region (RunO.all rfl (RunC.cond rfl (fun g => by cases g) (fun _ => RunC.skip ?_)))))
    refine RunC.seq (RunC.draw (l0 := min h2.low h2.next) (Nat.min_le_left _ _) rfl ?_)
    refine RunD.callD superLay_ok rfl rfl rfl ?_
    rintro v h3 ⟨hr, hf3⟩
    have hl3 : min h2.low h2.next ≤ h3.low := hf3.from (Nat.min_le_right _ _) (fun _ g => g.elim)
    refine ⟨hl3, ?_⟩
    have ow3 : Ow h3 h.next (sc g bl rt sz fi) := Ow.fr (h := h2.lo h2.next) ow2 hf3 (fun g => g)
    have hn3 : min h2.low h2.next ≤ h3.next := Nat.le_trans (Nat.min_le_right _ _) hf3.next
    obtain ⟨bf, hbf, rfl, owf⟩ := rowOut hr (by decide)
    have hq := hf3.quietB
    rw [hq]
    refine RunD.pure hn3 rfl rfl (fun _ => rfl) rfl ?_
    refine RunD.load (v := .int .i64 g) hn3 rfl (ow3.all.cell1 (k := 0) rfl rfl) rfl ?_
    refine RunD.pure hn3 rfl rfl (fun _ => rfl) rfl ?_
    refine RunD.load (v := .int .i64 bl) hn3 rfl (ow3.all.cell1 (k := 1) rfl rfl) rfl ?_
    refine RunD.pure hn3 rfl rfl (fun _ => rfl) rfl ?_
    refine RunD.load (v := .int .i64 rt) hn3 rfl (ow3.all.cell1 (k := 2) rfl rfl) rfl ?_
    refine RunD.pure hn3 rfl rfl (fun _ => rfl) rfl ?_
    refine RunD.load (v := .int .i64 sz) hn3 rfl (ow3.all.cell1 (k := 3) rfl rfl) rfl ?_
    refine RunD.pure hn3 rfl rfl (fun _ => rfl) rfl ?_
    refine RunD.load (v := .int .i64 fi) hn3 rfl (ow3.all.cell1 (k := 4) rfl rfl) rfl ?_
    refine RunD.one (h1 := (h3.lo h3.next).push ⟨is [g, bl, rt, sz, fi], true⟩) rfl rfl (fun _ => rfl) hn3 rfl ?_
    have ow4 := Ow.push (h3.lo h3.next) (is [g, bl, rt, sz, fi])
    have f4 : Fr no h3 ((h3.lo h3.next).push ⟨is [g, bl, rt, sz, fi], true⟩) := ⟨Nat.le_succ _, (Fr.push no (h3.lo h3.next) _).get, fun l a b c => b⟩
    have owf4 := owf.fr f4 (fun g => g)
    generalize (h3.lo h3.next).push ⟨is [g, bl, rt, sz, fi], true⟩ = h4 at *
    refine RunD.callD (superMake_ok (h := h4.lo h4.next) (mb := [87, 67, 85, 84]) (fl := layF 4 [8, 4, 4, 4, 4]) (nums := [g, bl, rt, sz, fi]) rfl rfl owf4.all ow4.all rfl (by decide) (by decide)) rfl rfl rfl ?_
    rintro v h5 ⟨b, hb, rfl, ow5, hf5⟩
    have hn4 : min h2.low h2.next ≤ h4.next := Nat.le_trans hn3 f4.next
    refine ⟨hf5.from hn4 (fun _ g => g.elim), ?_⟩
    rw [hf5.quietB]
    have hn5 : min h2.low h2.next ≤ h5.next := Nat.le_trans hn4 hf5.next
    refine RunD.pure hn5 rfl rfl (fun _ => rfl) rfl ?_
    refine RunD.pure hn5 rfl rfl (fun _ => rfl) rfl ?_
    refine RunD.nil ⟨rfl, fun lw hlw => ?_⟩
    refine RunC.ret ⟨_, rfl, ?_, .inl ⟨rfl, b, ?_, rfl, ow5⟩⟩
    · exact ((f2.fg0.same hf3.fg).same (f4.fg0.same hf5.fg)).close (fun l h1 h2 h3 => Nat.le_trans (Nat.le_min.2 ⟨f2.low l h1 h2 h3, Nat.le_trans h2 f2.next⟩) hlw)
    · exact Nat.le_trans (Nat.le_trans f2.next (Nat.le_trans hf3.next f4.next)) hb
end Go.Proofs.Ytnokcbenpnmnbaa
end
section
set_option linter.unusedVariables false
set_option maxRecDepth 100000
open Go Go.Am
namespace Go.Proofs.Ytnokcbenpnmnbaa
open Go.Proofs.Try
def sLay : List (Nat × Nat) := layF 4 [8, 4, 4, 4, 4]
def sMag : List Int := [87, 67, 85, 84]
def sGet (l : List Int) (k s : Nat) : Int := (leGet l k s).1
/-- Why bytes are no superblock; 0: they are one. -/
def sCode (l : List Int) : Int :=
  if readB sMag sLay l = 0 then (if superOk (sGet l 4 8) (sGet l 12 4) (sGet l 16 4) (sGet l 20 4) (sGet l 24 4) then 0 else 1) else readB sMag sLay l
/-- The superblock that bytes tell, as cells. -/
def sCells (l : List Int) : List Value :=
  if sCode l = 0 then sc (sGet l 4 8) (sGet l 12 4) (sGet l 16 4) (sGet l 20 4) (sGet l 24 4) else sc 0 0 0 0 0
theorem superParse_ok {h : Heap} {A : Option Addr} {c : Nat} {l : List Int} (ra : l.length = 64 → ∃ a, A = some a ∧ Rd h a (us l)) (hb : Byt l) (hc : Cp 1 l.length c) :
    RunF prog 99 [.slice A l.length c] h fun v h' => v = .tuple #[.agg ⟨sCells l⟩, .int .i64 (sCode l)] ∧ Fr no h h' := by
  refine RunF.walk func99 rfl rfl ?_
  refine RunC.seq (RunC.region (RunO.all (h1 := h.push ⟨sc 0 0 0 0 0, true⟩) rfl ?_))
  have ow : Ow (h.push ⟨sc 0 0 0 0 0, true⟩) h.next (sc 0 0 0 0 0) := Ow.push _ _
  have f1 : Fr no h (h.push ⟨sc 0 0 0 0 0, true⟩) := Fr.push _ _ _
  generalize h.push ⟨sc 0 0 0 0 0, true⟩ = h1 at *
  refine RunC.seq (RunC.region (RunO.part 1 rfl ?_))
  refine RunO.callD superLay_ok rfl rfl rfl ?_
  rintro v h2 ⟨hr, hf2⟩
  have ow2 := ow.fr hf2 (fun g => g)
  have f2 := f1.same hf2
  obtain ⟨bf, hbf, rfl, owf⟩ := rowOut hr (by decide)
  refine RunO.callD (superRead_ok (mb := sMag) (mg := ⟨#[87, 67, 85, 84]⟩) (fl := sLay) rfl (fun e => (ra e).imp (fun a x => ⟨x.1, x.2.fr f2 (fun g => g)⟩)) hb owf.all (by decide) (by decide) hc) rfl rfl rfl ?_
  rintro v h3 ⟨o, rfl, hk0, hk1, hf3⟩
  have ow3 := ow2.fr hf3 (fun g => g)
  have f3 := f2.same hf3
  refine RunO.all rfl ?_
  by_cases hr : readB sMag sLay l = 0
  case neg =>
    have hcode : sCode l = readB sMag sLay l := if_neg hr
    have hcells : sCells l = sc 0 0 0 0 0 := if_neg (by rw [hcode]; exact hr)
    rw [hcells, hcode]
    generalize readB sMag sLay l = r at *
    refine RunC.seq (RunC.seq (RunC.region (RunO.all rfl ?_)))
    rw [show (r != 0) = true by simpa using hr]
    refine RunC.cond rfl (fun _ => ?_) (fun g => by cases g)
    refine RunC.seq (RunC.region (RunO.part 2 rfl ?_))
    refine RunO.store rfl rfl (store_ow (s := 5) ow3 rfl rfl rfl (by decide)) ?_
    refine RunO.all rfl ?_
    refine RunC.ret ⟨_, eresults_cell rfl ((Ow.put (cs := sc 0 0 0 0 0) ow3.1).all.part (k := 0) rfl) rfl, rfl, ?_⟩
    exact f3.trans (Fr.put (m := (· = h.next)) _ (.inl rfl)) (fun j hj => .inr (by omega))
  rw [hr]
  have hrow := hk0 hr
  obtain ⟨bn, hbn, rfl, own⟩ := rowOut hrow (by decide)
  have hbn2 : h.next ≤ bn := Nat.le_trans f2.next hbn
  have hcode : sCode l = if superOk (sGet l 4 8) (sGet l 12 4) (sGet l 16 4) (sGet l 20 4) (sGet l 24 4) then 0 else 1 := if_pos hr
  have hcells : sCells l = if sCode l = 0 then sc (sGet l 4 8) (sGet l 12 4) (sGet l 16 4) (sGet l 20 4) (sGet l 24 4) else sc 0 0 0 0 0 := rfl
  change Ow h3 bn (is [sGet l 4 8, sGet l 12 4, sGet l 16 4, sGet l 20 4, sGet l 24 4]) at own
  change RunC _ _ _ (upd (upd (upd (upd _ 11 (.slice (some ⟨bn, 0, none⟩) 5 (unkc 1))) 12 (.int .i64 0)) 4 (.slice (some ⟨bn, 0, none⟩) 5 (unkc 1))) 5 (.int .i64 0)) _ _ _ _
  refine RunC.seq (RunC.seq (RunC.region (RunO.all rfl ?_)))
  refine RunC.cond rfl (fun g => by cases g) (fun _ => RunC.skip ?_)
  generalize sGet l 4 8 = n0 at *
  generalize sGet l 12 4 = n1 at *
  generalize sGet l 16 4 = n2 at *
  generalize sGet l 20 4 = n3 at *
  generalize sGet l 24 4 = n4 at *
  refine RunC.seq (RunC.draw0 rfl (RunO.part 1 rfl ?_))
  refine RunO.index (s := 1) (k := 0) rfl rfl rfl rfl (by decide) rfl ?_
  refine RunO.load (v := .int .i64 n0) rfl (own.all.cell1 (k := 0) rfl rfl) rfl ?_
  refine RunO.part 1 rfl ?_
  refine RunO.index (s := 1) (k := 1) rfl rfl rfl rfl (by decide) rfl ?_
  refine RunO.load (v := .int .i64 n1) rfl (own.all.cell1 (k := 1) rfl rfl) rfl ?_
  refine RunO.part 1 rfl ?_
  refine RunO.index (s := 1) (k := 2) rfl rfl rfl rfl (by decide) rfl ?_
  refine RunO.load (v := .int .i64 n2) rfl (own.all.cell1 (k := 2) rfl rfl) rfl ?_
  refine RunO.part 1 rfl ?_
  refine RunO.index (s := 1) (k := 3) rfl rfl rfl rfl (by decide) rfl ?_
  refine RunO.load (v := .int .i64 n3) rfl (own.all.cell1 (k := 3) rfl rfl) rfl ?_
  refine RunO.part 1 rfl ?_
  refine RunO.index (s := 1) (k := 4) rfl rfl rfl rfl (by decide) rfl ?_
  refine RunO.load (v := .int .i64 n4) rfl (own.all.cell1 (k := 4) rfl rfl) rfl ?_
  refine RunO.part 2 (h1 := h3.push ⟨sc 0 0 0 0 0, true⟩) rfl ?_
  refine RunO.store rfl rfl (store_ow (s := 5) (Ow.push h3 (sc 0 0 0 0 0)) rfl rfl rfl (by decide)) (RunO.nil ?_)
  change RunC _ _ _ _ ((h3.push ⟨sc 0 0 0 0 0, true⟩).put h3.next (some ⟨sc n0 n1 n2 n3 n4, true⟩)) _ _ _
  have ow4 : Ow ((h3.push ⟨sc 0 0 0 0 0, true⟩).put h3.next (some ⟨sc n0 n1 n2 n3 n4, true⟩)) h3.next (sc n0 n1 n2 n3 n4) := Ow.put _ (Nat.lt_succ_self _)
  have f4 : Fr no h3 ((h3.push ⟨sc 0 0 0 0 0, true⟩).put h3.next (some ⟨sc n0 n1 n2 n3 n4, true⟩)) := (Fr.push _ _ _).trans (Fr.put (m := (· = h3.next)) _ (.inl rfl)) (fun j hj => .inr (by omega))
  generalize (h3.push ⟨sc 0 0 0 0 0, true⟩).put h3.next (some ⟨sc n0 n1 n2 n3 n4, true⟩) = h4 at *
  have ow34 := ow3.fr f4 (fun g => g)
  have f5 := f3.same f4
  refine RunC.seq (RunC.region ?_)
  refine RunO.load (v := .agg ⟨sc n0 n1 n2 n3 n4⟩) rfl (ow4.all.part (k := 0) rfl) rfl ?_
  refine RunO.callD superCheck_ok rfl rfl rfl ?_
  rintro v h5 ⟨rfl, hf5⟩
  have ow5 := ow34.fr hf5 (fun g => g)
  have owx := ow4.fr hf5 (fun g => g)
  have f6 := f5.same hf5
  refine RunO.all rfl ?_
  rw [hcells, hcode]
  cases superOk n0 n1 n2 n3 n4 with
  | false =>
    refine RunC.seq (RunC.seq (RunC.region (RunO.all rfl (RunC.cond rfl (fun _ => ?_) (fun g => by cases g)))))
    refine RunC.seq (RunC.region (RunO.part 2 rfl ?_))
    refine RunO.store rfl rfl (store_ow (s := 5) ow5 rfl rfl rfl (by decide)) ?_
    refine RunO.all rfl ?_
    refine RunC.ret ⟨_, eresults_cell rfl ((Ow.put (cs := sc 0 0 0 0 0) ow5.1).all.part (k := 0) rfl) rfl, rfl, ?_⟩
    exact f6.trans (Fr.put (m := (· = h.next)) _ (.inl rfl)) (fun j hj => .inr (by omega))
  | true =>
    refine RunC.seq (RunC.seq (RunC.region (RunO.all rfl (RunC.cond rfl (fun g => by cases g) (fun _ => RunC.skip ?_)))))
    refine RunC.seq (RunC.region ?_)
    refine RunO.load (v := .agg ⟨sc n0 n1 n2 n3 n4⟩) rfl (owx.all.part (k := 0) rfl) rfl ?_
    refine RunO.store rfl rfl (store_ow (s := 5) ow5 rfl rfl rfl (by decide)) ?_
    refine RunO.all rfl ?_
    refine RunC.ret ⟨_, eresults_cell rfl ((Ow.put (cs := sc n0 n1 n2 n3 n4) ow5.1).all.part (k := 0) rfl) rfl, rfl, ?_⟩
    exact f6.trans (Fr.put (m := (· = h.next)) _ (.inl rfl)) (fun j hj => .inr (by omega))
end Go.Proofs.Ytnokcbenpnmnbaa
end
section
set_option linter.unusedVariables false
set_option maxRecDepth 100000
open Go Go.Am
namespace Go.Proofs.Ytnokcbenpnmnbaa
open Go.Proofs.Try
abbrev S5 := Int × Int × Int × Int × Int
def sc5 (s : S5) : List Value := sc s.1 s.2.1 s.2.2.1 s.2.2.2.1 s.2.2.2.2
def sVal (l : List Int) : S5 := if sCode l = 0 then (sGet l 4 8, sGet l 12 4, sGet l 16 4, sGet l 20 4, sGet l 24 4) else (0, 0, 0, 0, 0)
theorem sCells_eq (l : List Int) : sCells l = sc5 (sVal l) := by unfold sCells sVal; split <;> rfl
/-- A slot looked at. -/
def pickStep (l : List Int) (st : S5 × Int × Bool) (i : Nat) : S5 × Int × Bool :=
  if (sCode (blkI l i) == 0 && ((sVal (blkI l i)).2.1 == ((l.length / 64 : Nat) : Int) && (!st.2.2 || decide ((sVal (blkI l i)).1 > st.1.1)))) = true then (sVal (blkI l i), (i : Int), true) else st
def pickS (l : List Int) : S5 × Int × Bool := (List.range 2).foldl (pickStep l) ((0, 0, 0, 0, 0), 0, false)
/-- Which superblock stands, in which slot; why none does. -/
def pickCode (l : List Int) : Int := if devOk l.length then (if (pickS l).2.2 then 0 else 8) else 2
theorem superPick_ok {h : Heap} {A : Option Addr} {c : Nat} {l : List Int} (ra : devOk l.length = true → ∃ a, A = some a ∧ Rd h a (us l)) (hb : Byt l) (hc : Cp 1 l.length c) (hm : l.length ≤ 4611686018427387904) :
    RunF prog 70 [.slice A l.length c] h fun v h' => v = .tuple #[.agg ⟨sc5 (if pickCode l = 0 then (pickS l).1 else (0, 0, 0, 0, 0))⟩, .int .i64 (if pickCode l = 0 then (pickS l).2.1 else 0), .int .i64 (pickCode l)] ∧ Fr no h h' := by
  refine RunF.walk func70 rfl rfl ?_
  refine RunC.seq (RunC.region (RunO.all (h1 := h.push ⟨sc 0 0 0 0 0, true⟩) rfl ?_))
  have ow : Ow (h.push ⟨sc 0 0 0 0 0, true⟩) h.next (sc 0 0 0 0 0) := Ow.push _ _
  have f1 : Fr (fun b => h.next ≤ b) h (h.push ⟨sc 0 0 0 0 0, true⟩) := Fr.push _ _ _
  generalize h.push ⟨sc 0 0 0 0 0, true⟩ = h1 at *
  refine RunC.seq (RunC.region (RunO.part 1 rfl ?_))
  refine RunO.callD (devCheck_ok hm) rfl rfl rfl ?_
  rintro _ _ ⟨rfl, rfl⟩
  refine RunO.all rfl ?_
  cases hd : devOk l.length with
  | false =>
    have hp : pickCode l = 2 := by unfold pickCode; rw [hd]; rfl
    rw [hp]
    refine RunC.seq (RunC.seq (RunC.region (RunO.all rfl (RunC.cond rfl (fun _ => ?_) (fun g => by cases g)))))
    refine RunC.seq (RunC.region (RunO.part 2 rfl ?_))
    refine RunO.store rfl rfl (store_ow (s := 5) ow rfl rfl rfl (Nat.le_refl 5)) ?_
    refine RunO.all rfl ?_
    refine RunC.ret ⟨_, eresults_cell2 rfl ((Ow.put (cs := sc 0 0 0 0 0) ow.1).all.part (k := 0) rfl) rfl rfl, rfl, ?_⟩
    exact frNo (f1.same (Fr.put _ (.inl (Nat.le_refl _))))
  | true =>
  obtain ⟨⟨b, o, sp⟩, rfl, rd⟩ := ra hd
  have hsp : sp = none := rd.1
  subst hsp
  have hb0 : b < h.next := rd.2.1
  have hp : pickCode l = if (pickS l).2.2 then 0 else 8 := by unfold pickCode; rw [hd]; rfl
  have hlen : 256 ≤ l.length := by
    unfold devOk at hd
    simp at hd
    omega
  refine RunC.seq (RunC.seq (RunC.region (RunO.all rfl (RunC.cond rfl (fun g => by cases g) (fun _ => RunC.skip ?_)))))
  refine RunC.seq (RunC.region (RunO.all rfl ?_))
  refine RunC.seq (RunC.seq (RunC.region (RunO.all rfl ?_)))
  refine RunC.block ?_
  let I : Nat → Env → Heap → Prop := fun d E h' => ∃ (i : Nat) (st : S5 × Int × Bool), i + d = 2 ∧ st = (List.range i).foldl (pickStep l) ((0, 0, 0, 0, 0), 0, false) ∧ Ow h' h.next (sc5 st.1) ∧ Fr (fun b => h.next ≤ b) h h' ∧ Le (upd (upd (upd (upd (upd (upd E0 0 (.slice (some ⟨b, o, none⟩) l.length c)) 2 (.pointer (some ⟨h.next, 0, none⟩))) 3 (.int .i64 st.2.1)) 5 (.int .i64 (l.length / 64 : Nat))) 6 (.bool st.2.2)) 19 (.int .i64 i)) E
  refine RunC.loop I ?_ (k := 2) ?_
  · rintro d E h' ⟨i, ⟨sv, slot, met⟩, hi, hst, ow, hf, hE⟩
    refine RunC.le hE ?_
    clear hE
    refine RunC.seq (RunC.region (RunO.all rfl ?_))
    refine RunC.seq (RunC.cond rfl (fun hlt => ?_) (fun hge => ?_))
    · have hlt := of_decide_eq_true hlt
      have hlt2 : i < 2 := by omega
      have hstep : (List.range (i + 1)).foldl (pickStep l) ((0, 0, 0, 0, 0), 0, false) = pickStep l (sv, slot, met) i := by rw [foldl_range_succ, ← hst]
      have hil : (i + 1) * 64 ≤ l.length := by omega
      refine RunC.skip ?_
      refine RunC.seq (RunC.block ?_)
      refine RunC.seq (RunC.region (RunO.all rfl ?_))
      refine RunC.seq (RunC.region (RunO.part 2 rfl ?_))
      refine RunO.callD (devOf_ok hil hm hc) rfl rfl rfl ?_
      rintro _ _ ⟨⟨c', hc', rfl⟩, rfl⟩
      have hbl := blkI_len hil
      have rdb := rdBlk (rd.fr hf (by show ¬ h.next ≤ b; omega)) hil
      have hparse := superParse_ok (A := some ⟨b, o + i * 64, none⟩) (c := c') (fun _ => ⟨_, rfl, rdb⟩) (byt_blk hb i) (by rw [hbl]; exact hc')
      rw [hbl] at hparse
      refine RunO.callD hparse rfl rfl rfl ?_
      rintro v h2 ⟨rfl, hf2⟩
      have ow2 := ow.fr hf2 (fun g => g)
      have hfh2 := hf.quiet hf2
      rw [sCells_eq]
      have hps : pickStep l (sv, slot, met) i = if (sCode (blkI l i) == 0 && ((sVal (blkI l i)).2.1 == ((l.length / 64 : Nat) : Int) && (!met || decide ((sVal (blkI l i)).1 > sv.1)))) = true then (sVal (blkI l i), (i : Int), true) else (sv, slot, met) := rfl
      generalize sVal (blkI l i) = x at *
      generalize sCode (blkI l i) = cd at *
      obtain ⟨xg, xb, xr, xs, xf⟩ := x
      change RunO _ _ _ _ (upd _ 26 (.tuple #[.agg ⟨sc xg xb xr xs xf⟩, .int .i64 cd])) _ _
      refine RunO.part 4 (h1 := h2.push ⟨sc 0 0 0 0 0, true⟩) rfl ?_
      refine RunO.store rfl rfl (store_ow (s := 5) (Ow.push h2 (sc 0 0 0 0 0)) rfl rfl rfl (by decide)) ?_
      change RunO _ _ _ _ _ ((h2.push ⟨sc 0 0 0 0 0, true⟩).put h2.next (some ⟨sc xg xb xr xs xf, true⟩)) _
      have ow4 : Ow ((h2.push ⟨sc 0 0 0 0 0, true⟩).put h2.next (some ⟨sc xg xb xr xs xf, true⟩)) h2.next (sc xg xb xr xs xf) := Ow.put _ (Nat.lt_succ_self _)
      have f4 : Fr no h2 ((h2.push ⟨sc 0 0 0 0 0, true⟩).put h2.next (some ⟨sc xg xb xr xs xf, true⟩)) := (Fr.push _ _ _).trans (Fr.put (m := (· = h2.next)) _ (.inl rfl)) (fun j hj => .inr (by omega))
      generalize (h2.push ⟨sc 0 0 0 0 0, true⟩).put h2.next (some ⟨sc xg xb xr xs xf, true⟩) = h4 at *
      have ow5 := ow2.fr f4 (fun g => g)
      have hfh4 := hfh2.quiet f4
      have hn2 : h.next ≤ h2.next := hfh2.next
      have hne : h2.next ≠ h.next := by have := ow2.1; omega
      generalize h2.next = p at *
      refine RunO.all rfl ?_
      refine RunC.seqE (upd (upd (upd (upd (upd (upd (upd (upd (upd E0 0 (.slice (some ⟨b, o, none⟩) l.length c)) 2 (.pointer (some ⟨h.next, 0, none⟩))) 3 (.int .i64 slot)) 5 (.int .i64 (l.length / 64 : Nat))) 6 (.bool met)) 7 (.int .i64 i)) 8 (.pointer (some ⟨p, 0, none⟩))) 19 (.int .i64 i)) 47 (.bool (cd == 0 && (xb == ((l.length / 64 : Nat) : Int) && (!met || decide (xg > sv.1)))))) ?_ ?_
      · refine RunC.region (RunO.part 3 rfl ?_)
        cases (cd == 0) with
        | false => exact RunO.all rfl ⟨rfl, Le.cons rfl (Le.cons rfl (Le.cons rfl (Le.cons rfl (Le.cons rfl (Le.cons rfl (Le.cons rfl (Le.cons rfl (Le.cons rfl (Le.nil _)))))))))⟩
        | true =>
          refine RunO.part 1 rfl ?_
          refine RunO.loadG (v := .int .i64 xb) rfl rfl (ow4.all.cell1 (k := 1) rfl rfl) rfl ?_
          refine RunO.part 2 rfl ?_
          cases (xb == ((l.length / 64 : Nat) : Int)) with
          | false => exact RunO.all rfl ⟨rfl, Le.cons rfl (Le.cons rfl (Le.cons rfl (Le.cons rfl (Le.cons rfl (Le.cons rfl (Le.cons rfl (Le.cons rfl (Le.cons rfl (Le.nil _)))))))))⟩
          | true =>
            refine RunO.part 2 rfl ?_
            cases met with
            | false => exact RunO.all rfl ⟨rfl, Le.cons rfl (Le.cons rfl (Le.cons rfl (Le.cons rfl (Le.cons rfl (Le.cons rfl (Le.cons rfl (Le.cons rfl (Le.cons rfl (Le.nil _)))))))))⟩
            | true =>
              refine RunO.part 4 rfl ?_
              refine RunO.loadG (v := .int .i64 xg) rfl rfl (ow4.all.cell1 (k := 0) rfl rfl) rfl ?_
              refine RunO.part 1 rfl ?_
              refine RunO.loadG (v := .int .i64 sv.1) rfl rfl (ow5.all.cell1 (k := 0) rfl rfl) rfl ?_
              exact RunO.all rfl ⟨rfl, Le.cons rfl (Le.cons rfl (Le.cons rfl (Le.cons rfl (Le.cons rfl (Le.cons rfl (Le.cons rfl (Le.cons rfl (Le.cons rfl (Le.nil _)))))))))⟩
      change pickStep l (sv, slot, met) i = if (cd == 0 && (xb == ((l.length / 64 : Nat) : Int) && (!met || decide (xg > sv.1)))) = true then ((xg, xb, xr, xs, xf), (i : Int), true) else (sv, slot, met) at hps
      generalize (cd == 0 && (xb == ((l.length / 64 : Nat) : Int) && (!met || decide (xg > sv.1)))) = B at *
      cases B with
      | true =>
        refine RunC.cond rfl (fun _ => ?_) (fun g => by cases g)
        refine RunC.region ?_
        refine RunO.load (v := .agg ⟨sc xg xb xr xs xf⟩) rfl (ow4.all.part (k := 0) rfl) rfl ?_
        refine RunO.part 1 rfl ?_
        refine RunO.store rfl rfl (store_ow (s := 5) ow5 rfl rfl rfl (Nat.le_refl 5)) ?_
        refine RunO.all rfl ?_
        refine RunC.region (RunO.all rfl ?_)
        refine ⟨d - 1, by omega, i + 1, _, by omega, rfl, ?_, ?_, ?_⟩
        · rw [hstep, hps]; exact Ow.put _ ow5.1
        · exact hfh4.same (Fr.put _ (.inl (Nat.le_refl _)))
        · rw [hstep, hps]
          exact Le.cons (inc64 (by omega)) (Le.cons rfl (Le.cons rfl (Le.cons rfl (Le.cons rfl (Le.cons rfl (Le.nil _))))))
      | false =>
        refine RunC.cond rfl (fun g => by cases g) (fun _ => RunC.skip ?_)
        refine RunC.region (RunO.all rfl ?_)
        refine ⟨d - 1, by omega, i + 1, _, by omega, rfl, ?_, ?_, ?_⟩
        · rw [hstep, hps]; exact ow5
        · exact hfh4
        · rw [hstep, hps]
          exact Le.cons (inc64 (by omega)) (Le.cons rfl (Le.cons rfl (Le.cons rfl (Le.cons rfl (Le.cons rfl (Le.nil _))))))
    · have hge := of_decide_eq_false hge
      refine RunC.exit ?_
      have hi2 : i = 2 := by omega
      subst hi2
      have hpk : pickS l = (sv, slot, met) := hst.symm
      rw [hp, hpk]
      cases met with
      | false =>
        refine RunC.seq (RunC.seq (RunC.region (RunO.all rfl (RunC.cond rfl (fun _ => ?_) (fun g => by cases g)))))
        refine RunC.seq (RunC.region (RunO.part 1 rfl ?_))
        refine RunO.store rfl rfl (store_ow (s := 5) ow rfl rfl rfl (Nat.le_refl 5)) ?_
        refine RunO.all rfl ?_
        refine RunC.ret ⟨_, eresults_cell2 rfl ((Ow.put (cs := sc 0 0 0 0 0) ow.1).all.part (k := 0) rfl) rfl rfl, rfl, ?_⟩
        exact frNo (hf.same (Fr.put _ (.inl (Nat.le_refl _))))
      | true =>
        refine RunC.seq (RunC.seq (RunC.region (RunO.all rfl (RunC.cond rfl (fun g => by cases g) (fun _ => RunC.skip ?_)))))
        refine RunC.seq (RunC.region ?_)
        refine RunO.load (v := .agg ⟨sc5 sv⟩) rfl (ow.all.part (k := 0) rfl) rfl ?_
        refine RunO.part 1 rfl ?_
        refine RunO.store rfl rfl (store_ow (s := 5) ow rfl rfl rfl (Nat.le_refl 5)) ?_
        refine RunO.all rfl ?_
        refine RunC.ret ⟨_, eresults_cell2 rfl ((Ow.put (cs := sc5 sv) ow.1).all.part (k := 0) rfl) rfl rfl, rfl, ?_⟩
        exact frNo (hf.same (Fr.put _ (.inl (Nat.le_refl _))))
  · exact ⟨0, ((0, 0, 0, 0, 0), 0, false), by omega, rfl, ow, f1, Le.cons rfl (Le.cons rfl (Le.cons rfl (Le.cons rfl (Le.cons rfl (Le.cons rfl (Le.nil _))))))⟩
end Go.Proofs.Ytnokcbenpnmnbaa
end
section
set_option linter.unusedVariables false
set_option maxRecDepth 100000
open Go Go.Am
namespace Go.Proofs.Ytnokcbenpnmnbaa
open Go.Proofs.Try
end Go.Proofs.Ytnokcbenpnmnbaa
end
section
set_option linter.unusedVariables false
set_option maxRecDepth 100000
open Go Go.Am
namespace Go.Proofs.Ytnokcbenpnmnbaa
open Go.Proofs.Try
theorem superOk_iff (g bl rt sz fi : Int) : superOk g bl rt sz fi = true ↔ (1 ≤ g ∧ g ≤ 1099511627776) ∧ (4 ≤ bl ∧ bl ≤ 4096) ∧ (0 ≤ sz ∧ sz ≤ 512) ∧ (rt = 0 ∨ 2 ≤ rt ∧ rt ≤ bl - 1) ∧ (fi = 0 ∨ 2 ≤ fi ∧ fi ≤ bl - 1) := by
  unfold superOk
  rw [Bool.and_eq_true, Bool.and_eq_true, Bool.and_eq_true, Bool.and_eq_true, Bool.or_eq_true, Bool.or_eq_true, inB_iff, inB_iff, inB_iff, inB_iff, inB_iff, beq_iff_eq, beq_iff_eq]
  constructor
  · rintro ⟨⟨⟨h1, h2⟩, h3⟩, h4, h5⟩
    rw [fw64 (by omega) (by omega)] at h4 h5
    exact ⟨h1, h2, h3, h4, h5⟩
  · rintro ⟨h1, h2, h3, h4, h5⟩
    rw [fw64 (by omega) (by omega)]
    exact ⟨⟨⟨h1, h2⟩, h3⟩, h4, h5⟩
theorem super_fits {g bl rt sz fi : Int} (h : superOk g bl rt sz fi = true) : Fits [8, 4, 4, 4, 4] [g, bl, rt, sz, fi] := by
  rw [superOk_iff] at h
  obtain ⟨h1, h2, h3, h4, h5⟩ := h
  have e8 : (256 : Int) ^ 8 = 18446744073709551616 := by decide
  have e4 : (256 : Int) ^ 4 = 4294967296 := by decide
  refine ⟨⟨by omega, by rw [e8]; omega, by omega⟩, ⟨by omega, by rw [e4]; omega, by omega⟩, ⟨by omega, by rw [e4]; omega, by omega⟩, ⟨by omega, by rw [e4]; omega, by omega⟩, ⟨by omega, by rw [e4]; omega, by omega⟩, trivial⟩
theorem superBlock_len (g bl rt sz fi : Int) : (superBlock g bl rt sz fi).length = 64 := makeB_len rfl rfl (by decide)
theorem superBlock_byt (g bl rt sz fi : Int) : Byt (superBlock g bl rt sz fi) := makeB_byt (by unfold Byt; decide) rfl rfl (by decide)
/-- What is written is read. -/
theorem super_back {g bl rt sz fi : Int} (h : superOk g bl rt sz fi = true) : sCode (superBlock g bl rt sz fi) = 0 ∧ sVal (superBlock g bl rt sz fi) = (g, bl, rt, sz, fi) := by
  obtain ⟨h1, h2⟩ := read_make (mb := [87, 67, 85, 84]) rfl (super_fits h) (by decide)
  have h1 : readB sMag sLay (superBlock g bl rt sz fi) = 0 := h1
  have h2 : [sGet (superBlock g bl rt sz fi) 4 8, sGet (superBlock g bl rt sz fi) 12 4, sGet (superBlock g bl rt sz fi) 16 4, sGet (superBlock g bl rt sz fi) 20 4, sGet (superBlock g bl rt sz fi) 24 4] = [g, bl, rt, sz, fi] := h2
  simp only [List.cons.injEq, and_true] at h2
  obtain ⟨e0, e1, e2, e3, e4⟩ := h2
  have hc : sCode (superBlock g bl rt sz fi) = 0 := by
    unfold sCode
    rw [if_pos h1, e0, e1, e2, e3, e4, h]; rfl
  refine ⟨hc, ?_⟩
  unfold sVal
  rw [if_pos hc, e0, e1, e2, e3, e4]
theorem sCode_zeros : sCode (List.replicate 64 0) = 4 := by
  have h : readB sMag sLay (List.replicate 64 0) = 4 := by
    unfold readB
    rw [if_neg (by simp), if_pos (by decide)]
  unfold sCode
  rw [h]; rfl
end Go.Proofs.Ytnokcbenpnmnbaa
end
section
set_option linter.unusedVariables false
set_option maxRecDepth 100000
open Go Go.Am
namespace Go.Proofs.Ytnokcbenpnmnbaa
open Go.Proofs.Try
theorem recIn_ok {h : Heap} {a lo hi : Int} : RunF prog 91 [.int .i64 a, .int .i64 lo, .int .i64 hi] h fun v h' => v = .bool (inB a lo hi) ∧ h = h' := by
  refine RunF.walk func91 rfl rfl ?_
  refine RunC.seq (RunC.region (RunO.all rfl ?_))
  refine RunC.seq (RunC.region (RunO.part 4 rfl ?_))
  unfold inB
  cases decide (a ≥ lo) with
  | true => exact RunO.all rfl (RunC.ret ⟨_, rfl, by simp, rfl⟩)
  | false => exact RunO.all rfl (RunC.ret ⟨_, rfl, by simp, rfl⟩)
theorem recLay_ok {h : Heap} : RunF prog 63 [] h fun v h' => Row h.next h' v 2 8 (fcs (layF 4 [4, 8, 8, 4, 4, 4, 4, 4])) ∧ Fr no h h' := by
  refine RunF.walk func63 rfl rfl ?_
  refine RunC.seq (RunC.region (RunO.all rfl ?_))
  refine RunC.seq (RunC.region (RunO.part 1 (h1 := h.push ⟨ns [4, 8, 8, 4, 4, 4, 4, 4], true⟩) rfl ?_))
  refine RunO.callD (superLayout_ok (ss := [4, 8, 8, 4, 4, 4, 4, 4]) (c := exc 8) (Ow.push h (ns [4, 8, 8, 4, 4, 4, 4, 4])).all (by decide) (by decide)) rfl rfl rfl ?_
  rintro v h' ⟨hr, hf⟩
  refine RunO.all rfl (RunC.ret ⟨_, rfl, ?_, ?_⟩)
  · refine ⟨hr.1, hr.2.imp (fun x => x) ?_⟩
    rintro ⟨b, h1, h2⟩
    exact ⟨b, Nat.le_trans (Nat.le_succ _) h1, h2⟩
  · exact (Fr.push no _ _).same hf
def idB (n : Int) : Bool := !(decide (n < 1)) && !(decide (n > 4611686018427387903))
theorem idsCheck_ok {h : Heap} {n : Int} : RunF prog 114 [.int .i64 n] h fun v h' => v = .int .i64 (if idB n then 0 else 1) ∧ h = h' := by
  refine RunF.walk func114 rfl rfl ?_
  refine RunC.seq (RunC.region (RunO.all rfl ?_))
  refine RunC.seq (RunC.seq (RunC.region (RunO.part 3 rfl ?_)))
  unfold idB
  cases decide (n < 1) with
  | true =>
    refine RunO.all rfl (RunC.cond rfl (fun _ => ?_) (fun g => by cases g))
    exact RunC.seq (RunC.region (RunO.all rfl (RunC.ret ⟨_, rfl, rfl, rfl⟩)))
  | false =>
    refine RunO.part 2 rfl ?_
    cases decide (n > 4611686018427387903) with
    | true =>
      refine RunO.all rfl (RunC.cond rfl (fun _ => ?_) (fun g => by cases g))
      exact RunC.seq (RunC.region (RunO.all rfl (RunC.ret ⟨_, rfl, rfl, rfl⟩)))
    | false =>
      refine RunO.all rfl (RunC.cond rfl (fun g => by cases g) (fun _ => RunC.skip ?_))
      exact RunC.seq (RunC.region (RunO.all rfl (RunC.ret ⟨_, rfl, rfl, rfl⟩)))
def parB (id pa : Int) : Bool := idB id && ((pa != id) && (pa == 0 || idB pa))
theorem recParents_ok {h : Heap} {id pa : Int} : RunF prog 90 [.int .i64 id, .int .i64 pa] h fun v h' => v = .bool (parB id pa) ∧ h = h' := by
  refine RunF.walk func90 rfl rfl ?_
  refine RunC.seq (RunC.region (RunO.all rfl ?_))
  refine RunC.seq (RunC.region (RunO.part 1 rfl ?_))
  refine RunO.callD idsCheck_ok rfl rfl rfl ?_
  rintro _ _ ⟨rfl, rfl⟩
  refine RunO.part 1 rfl ?_
  rw [if_eq0]
  refine RunO.part 1 rfl ?_
  unfold parB
  cases idB id with
  | false => exact RunO.all rfl (RunC.ret ⟨_, rfl, rfl, rfl⟩)
  | true =>
    refine RunO.part 4 rfl ?_
    refine RunO.part 1 rfl ?_
    cases (pa != id) with
    | false => exact RunO.all rfl (RunC.ret ⟨_, rfl, rfl, rfl⟩)
    | true =>
      refine RunO.part 3 rfl ?_
      cases (pa == 0) with
      | true => exact RunO.all rfl (RunC.ret ⟨_, rfl, rfl, rfl⟩)
      | false =>
        refine RunO.part 1 rfl ?_
        refine RunO.callDG rfl idsCheck_ok rfl rfl rfl ?_
        rintro _ _ ⟨rfl, rfl⟩
        refine RunO.part 1 rfl ?_
        rw [if_eq0]
        refine RunO.all rfl (RunC.ret ⟨_, rfl, ?_, rfl⟩)
        simp
/-- A record's cells. -/
def rc (n id pa ro sz ki fr di : Int) : List Value := [.int .i64 n, .int .i64 id, .int .i64 pa, .int .i64 ro, .int .i64 sz, .int .i64 ki, .int .i64 fr, .int .i64 di]
def recIs (n id pa ro sz : Int) : Bool := (((ptrB n && ptrB ro) && parB id pa) && inB sz 0 512)
def recOk (n id pa ro sz ki fr di : Int) : Bool :=
  if ki = 0 then ((recIs n id pa ro sz && fr == 0) && di == 0) else if ki = 1 then ((recIs n id pa ro sz && inB fr 1 65535) && inB di 0 4294967295) else false
theorem recCheck_ok {h : Heap} {n id pa ro sz ki fr di : Int} : RunF prog 61 [.agg ⟨rc n id pa ro sz ki fr di⟩] h fun v h' => v = .int .i64 (if recOk n id pa ro sz ki fr di then 0 else 1) ∧ Fr no h h' := by
  refine RunF.walk func61 rfl rfl ?_
  refine RunC.seq (RunC.region (RunO.all (h1 := h.push ⟨rc n id pa ro sz ki fr di, true⟩) rfl ?_))
  have ow : Ow (h.push ⟨rc n id pa ro sz ki fr di, true⟩) h.next (rc n id pa ro sz ki fr di) := Ow.push _ _
  have f1 : Fr no h (h.push ⟨rc n id pa ro sz ki fr di, true⟩) := Fr.push _ _ _
  generalize h.push ⟨rc n id pa ro sz ki fr di, true⟩ = h1 at *
  generalize h.next = p at *
  refine RunC.seqE (upd (upd E0 1 (.pointer (some ⟨p, 0, none⟩))) 3 (.bool (recIs n id pa ro sz))) ?_ ?_
  · unfold recIs
    refine RunC.region (RunO.part 1 rfl ?_)
    refine RunO.load (v := .int .i64 n) rfl (ow.all.cell1 (k := 0) rfl rfl) rfl ?_
    refine RunO.callD nodePointer_ok rfl rfl rfl ?_
    rintro _ _ ⟨rfl, rfl⟩
    refine RunO.part 1 rfl ?_
    cases ptrB n with
    | false => exact RunO.all rfl ⟨rfl, Le.cons rfl (Le.cons rfl (Le.nil _))⟩
    | true =>
    refine RunO.part 1 rfl ?_
    refine RunO.loadG (v := .int .i64 ro) rfl rfl (ow.all.cell1 (k := 3) rfl rfl) rfl ?_
    refine RunO.callDG rfl nodePointer_ok rfl rfl rfl ?_
    rintro _ _ ⟨rfl, rfl⟩
    refine RunO.part 2 rfl ?_
    cases ptrB ro with
    | false => exact RunO.all rfl ⟨rfl, Le.cons rfl (Le.cons rfl (Le.nil _))⟩
    | true =>
    refine RunO.part 1 rfl ?_
    refine RunO.loadG (v := .int .i64 id) rfl rfl (ow.all.cell1 (k := 1) rfl rfl) rfl ?_
    refine RunO.part 1 rfl ?_
    refine RunO.loadG (v := .int .i64 pa) rfl rfl (ow.all.cell1 (k := 2) rfl rfl) rfl ?_
    refine RunO.callDG rfl recParents_ok rfl rfl rfl ?_
    rintro _ _ ⟨rfl, rfl⟩
    refine RunO.part 2 rfl ?_
    cases parB id pa with
    | false => exact RunO.all rfl ⟨rfl, Le.cons rfl (Le.cons rfl (Le.nil _))⟩
    | true =>
    refine RunO.part 1 rfl ?_
    refine RunO.loadG (v := .int .i64 sz) rfl rfl (ow.all.cell1 (k := 4) rfl rfl) rfl ?_
    refine RunO.callDG rfl recIn_ok rfl rfl rfl ?_
    rintro _ _ ⟨rfl, rfl⟩
    exact RunO.all rfl ⟨rfl, Le.cons rfl (Le.cons rfl (Le.nil _))⟩
  refine RunC.seqE (upd E0 3 (.bool (recOk n id pa ro sz ki fr di))) ?_ ?_
  · unfold recOk
    generalize recIs n id pa ro sz = b0
    refine RunC.seq (RunC.region (RunO.part 1 rfl ?_))
    refine RunO.load (v := .int .i64 ki) rfl (ow.all.cell1 (k := 5) rfl rfl) rfl ?_
    refine RunO.nil ?_
    refine RunC.block ?_
    refine RunC.seq (RunC.region (RunO.all rfl (RunC.cond rfl (fun c0 => ?_) (fun c0 => ?_))))
    · have c0 : ki = 0 := by simpa using c0
      rw [if_pos c0]
      refine RunC.region (RunO.part 2 rfl ?_)
      cases b0 with
      | false => exact RunO.all rfl ⟨rfl, Le.cons rfl (Le.nil _)⟩
      | true =>
      refine RunO.part 1 rfl ?_
      refine RunO.loadG (v := .int .i64 fr) rfl rfl (ow.all.cell1 (k := 6) rfl rfl) rfl ?_
      refine RunO.part 3 rfl ?_
      cases (fr == 0) with
      | false => exact RunO.all rfl ⟨rfl, Le.cons rfl (Le.nil _)⟩
      | true =>
      refine RunO.part 1 rfl ?_
      refine RunO.loadG (v := .int .i64 di) rfl rfl (ow.all.cell1 (k := 7) rfl rfl) rfl ?_
      exact RunO.all rfl ⟨rfl, Le.cons rfl (Le.nil _)⟩
    have c0 : ¬ ki = 0 := by simpa using c0
    rw [if_neg c0]
    refine RunC.seq (RunC.region (RunO.all rfl (RunC.cond rfl (fun c1 => ?_) (fun c1 => ?_))))
    · have c1 : ki = 1 := by simpa using c1
      rw [if_pos c1]
      refine RunC.region (RunO.part 2 rfl ?_)
      cases b0 with
      | false => exact RunO.all rfl ⟨rfl, Le.cons rfl (Le.nil _)⟩
      | true =>
      refine RunO.part 1 rfl ?_
      refine RunO.loadG (v := .int .i64 fr) rfl rfl (ow.all.cell1 (k := 6) rfl rfl) rfl ?_
      refine RunO.callDG rfl recIn_ok rfl rfl rfl ?_
      rintro _ _ ⟨rfl, rfl⟩
      refine RunO.part 2 rfl ?_
      cases inB fr 1 65535 with
      | false => exact RunO.all rfl ⟨rfl, Le.cons rfl (Le.nil _)⟩
      | true =>
      refine RunO.part 1 rfl ?_
      refine RunO.loadG (v := .int .i64 di) rfl rfl (ow.all.cell1 (k := 7) rfl rfl) rfl ?_
      refine RunO.callDG rfl recIn_ok rfl rfl rfl ?_
      rintro _ _ ⟨rfl, rfl⟩
      exact RunO.all rfl ⟨rfl, Le.cons rfl (Le.nil _)⟩
    have c1 : ¬ ki = 1 := by simpa using c1
    rw [if_neg c1]
    exact RunC.region (RunO.all rfl ⟨rfl, Le.cons rfl (Le.nil _)⟩)
  cases recOk n id pa ro sz ki fr di <;> refine RunC.seq (RunC.seq (RunC.region (RunO.all rfl (RunC.cond rfl (fun g => ?_) (fun g => ?_))))) <;> first
    | (cases g; done)
    | exact RunC.seq (RunC.region (RunO.all rfl (RunC.ret ⟨_, rfl, rfl, f1⟩)))
    | exact RunC.skip (RunC.seq (RunC.region (RunO.all rfl (RunC.ret ⟨_, rfl, rfl, f1⟩))))
end Go.Proofs.Ytnokcbenpnmnbaa
end
section
set_option linter.unusedVariables false
set_option maxRecDepth 100000
open Go Go.Am
namespace Go.Proofs.Ytnokcbenpnmnbaa
open Go.Proofs.Try
def rSiz : List Nat := [4, 8, 8, 4, 4, 4, 4, 4]
def rLay : List (Nat × Nat) := layF 4 rSiz
def rMag : List Int := [83, 78, 65, 80]
/-- A record's block. -/
def recBlock (n id pa ro sz ki fr di : Int) : List Int := makeB rMag rLay [n, id, pa, ro, sz, ki, fr, di]
/-- The numbers of a record's block. -/
def rNum (l : List Int) (i : Nat) : Int := (numsB rLay l).getD i 0
def rOkL (l : List Int) : Bool := recOk (rNum l 0) (rNum l 1) (rNum l 2) (rNum l 3) (rNum l 4) (rNum l 5) (rNum l 6) (rNum l 7)
def rCode (l : List Int) : Int := if readB rMag rLay l = 0 then (if rOkL l then 0 else 1) else readB rMag rLay l
def rCells (l : List Int) : List Value := if rCode l = 0 then rc (rNum l 0) (rNum l 1) (rNum l 2) (rNum l 3) (rNum l 4) (rNum l 5) (rNum l 6) (rNum l 7) else rc 0 0 0 0 0 0 0 0
theorem recParse_ok {h : Heap} {A : Option Addr} {c : Nat} {l : List Int} (ra : l.length = 64 → ∃ a, A = some a ∧ Rd h a (us l)) (hb : Byt l) (hc : Cp 1 l.length c) :
    RunF prog 101 [.slice A l.length c] h fun v h' => v = .tuple #[.agg ⟨rCells l⟩, .int .i64 (rCode l)] ∧ Fr no h h' := by
  refine RunF.walk func101 rfl rfl ?_
  refine RunC.seq (RunC.region (RunO.all (h1 := h.push ⟨rc 0 0 0 0 0 0 0 0, true⟩) rfl ?_))
  have ow : Ow (h.push ⟨rc 0 0 0 0 0 0 0 0, true⟩) h.next (rc 0 0 0 0 0 0 0 0) := Ow.push _ _
  have f1 : Fr no h (h.push ⟨rc 0 0 0 0 0 0 0 0, true⟩) := Fr.push _ _ _
  generalize h.push ⟨rc 0 0 0 0 0 0 0 0, true⟩ = h1 at *
  refine RunC.seq (RunC.region (RunO.part 1 rfl ?_))
  refine RunO.callD recLay_ok rfl rfl rfl ?_
  rintro v h2 ⟨hr, hf2⟩
  have ow2 := ow.fr hf2 (fun g => g)
  have f2 := f1.same hf2
  obtain ⟨bf, hbf, rfl, owf⟩ := rowOut hr (by decide)
  refine RunO.callD (superRead_ok (mb := rMag) (mg := ⟨#[83, 78, 65, 80]⟩) (fl := rLay) rfl (fun e => (ra e).imp (fun a x => ⟨x.1, x.2.fr f2 (fun g => g)⟩)) hb owf.all (by decide) (by decide) hc) rfl rfl rfl ?_
  rintro v h3 ⟨o, rfl, hk0, hk1, hf3⟩
  have ow3 := ow2.fr hf3 (fun g => g)
  have f3 := f2.same hf3
  refine RunO.all rfl ?_
  by_cases hr : readB rMag rLay l = 0
  case neg =>
    have hcode : rCode l = readB rMag rLay l := if_neg hr
    have hcells : rCells l = rc 0 0 0 0 0 0 0 0 := if_neg (by rw [hcode]; exact hr)
    rw [hcells, hcode]
    generalize readB rMag rLay l = r at *
    refine RunC.seq (RunC.seq (RunC.region (RunO.all rfl ?_)))
    rw [show (r != 0) = true by simpa using hr]
    refine RunC.cond rfl (fun _ => ?_) (fun g => by cases g)
    refine RunC.seq (RunC.region (RunO.part 2 rfl ?_))
    refine RunO.store rfl rfl (store_ow (s := 8) ow3 rfl rfl rfl (by decide)) ?_
    refine RunO.all rfl ?_
    refine RunC.ret ⟨_, eresults_cell rfl ((Ow.put (cs := rc 0 0 0 0 0 0 0 0) ow3.1).all.part (k := 0) rfl) rfl, rfl, ?_⟩
    exact f3.trans (Fr.put (m := (· = h.next)) _ (.inl rfl)) (fun j hj => .inr (by omega))
  rw [hr]
  have hrow := hk0 hr
  obtain ⟨bn, hbn, rfl, own⟩ := rowOut hrow (by decide)
  have hcode : rCode l = if rOkL l then 0 else 1 := if_pos hr
  have hcells : rCells l = if rCode l = 0 then rc (rNum l 0) (rNum l 1) (rNum l 2) (rNum l 3) (rNum l 4) (rNum l 5) (rNum l 6) (rNum l 7) else rc 0 0 0 0 0 0 0 0 := rfl
  unfold rOkL at hcode
  change Ow h3 bn (is [rNum l 0, rNum l 1, rNum l 2, rNum l 3, rNum l 4, rNum l 5, rNum l 6, rNum l 7]) at own
  change RunC _ _ _ (upd (upd (upd (upd _ 11 (.slice (some ⟨bn, 0, none⟩) 8 (unkc 1))) 12 (.int .i64 0)) 4 (.slice (some ⟨bn, 0, none⟩) 8 (unkc 1))) 5 (.int .i64 0)) _ _ _ _
  refine RunC.seq (RunC.seq (RunC.region (RunO.all rfl ?_)))
  refine RunC.cond rfl (fun g => by cases g) (fun _ => RunC.skip ?_)
  generalize rNum l 0 = n0 at *
  generalize rNum l 1 = n1 at *
  generalize rNum l 2 = n2 at *
  generalize rNum l 3 = n3 at *
  generalize rNum l 4 = n4 at *
  generalize rNum l 5 = n5 at *
  generalize rNum l 6 = n6 at *
  generalize rNum l 7 = n7 at *
  refine RunC.seq (RunC.draw0 rfl (RunO.part 1 rfl ?_))
  refine RunO.index (s := 1) (k := 0) rfl rfl rfl rfl (by decide) rfl ?_
  refine RunO.load (v := .int .i64 n0) rfl (own.all.cell1 (k := 0) rfl rfl) rfl ?_
  refine RunO.part 1 rfl ?_
  refine RunO.index (s := 1) (k := 1) rfl rfl rfl rfl (by decide) rfl ?_
  refine RunO.load (v := .int .i64 n1) rfl (own.all.cell1 (k := 1) rfl rfl) rfl ?_
  refine RunO.part 1 rfl ?_
  refine RunO.index (s := 1) (k := 2) rfl rfl rfl rfl (by decide) rfl ?_
  refine RunO.load (v := .int .i64 n2) rfl (own.all.cell1 (k := 2) rfl rfl) rfl ?_
  refine RunO.part 1 rfl ?_
  refine RunO.index (s := 1) (k := 3) rfl rfl rfl rfl (by decide) rfl ?_
  refine RunO.load (v := .int .i64 n3) rfl (own.all.cell1 (k := 3) rfl rfl) rfl ?_
  refine RunO.part 1 rfl ?_
  refine RunO.index (s := 1) (k := 4) rfl rfl rfl rfl (by decide) rfl ?_
  refine RunO.load (v := .int .i64 n4) rfl (own.all.cell1 (k := 4) rfl rfl) rfl ?_
  refine RunO.part 1 rfl ?_
  refine RunO.index (s := 1) (k := 5) rfl rfl rfl rfl (by decide) rfl ?_
  refine RunO.load (v := .int .i64 n5) rfl (own.all.cell1 (k := 5) rfl rfl) rfl ?_
  refine RunO.part 1 rfl ?_
  refine RunO.index (s := 1) (k := 6) rfl rfl rfl rfl (by decide) rfl ?_
  refine RunO.load (v := .int .i64 n6) rfl (own.all.cell1 (k := 6) rfl rfl) rfl ?_
  refine RunO.part 1 rfl ?_
  refine RunO.index (s := 1) (k := 7) rfl rfl rfl rfl (by decide) rfl ?_
  refine RunO.load (v := .int .i64 n7) rfl (own.all.cell1 (k := 7) rfl rfl) rfl ?_
  refine RunO.part 2 (h1 := h3.push ⟨rc 0 0 0 0 0 0 0 0, true⟩) rfl ?_
  refine RunO.store rfl rfl (store_ow (s := 8) (Ow.push h3 (rc 0 0 0 0 0 0 0 0)) rfl rfl rfl (by decide)) (RunO.nil ?_)
  change RunC _ _ _ _ ((h3.push ⟨rc 0 0 0 0 0 0 0 0, true⟩).put h3.next (some ⟨rc n0 n1 n2 n3 n4 n5 n6 n7, true⟩)) _ _ _
  have ow4 : Ow ((h3.push ⟨rc 0 0 0 0 0 0 0 0, true⟩).put h3.next (some ⟨rc n0 n1 n2 n3 n4 n5 n6 n7, true⟩)) h3.next (rc n0 n1 n2 n3 n4 n5 n6 n7) := Ow.put _ (Nat.lt_succ_self _)
  have f4 : Fr no h3 ((h3.push ⟨rc 0 0 0 0 0 0 0 0, true⟩).put h3.next (some ⟨rc n0 n1 n2 n3 n4 n5 n6 n7, true⟩)) := (Fr.push _ _ _).trans (Fr.put (m := (· = h3.next)) _ (.inl rfl)) (fun j hj => .inr (by omega))
  generalize (h3.push ⟨rc 0 0 0 0 0 0 0 0, true⟩).put h3.next (some ⟨rc n0 n1 n2 n3 n4 n5 n6 n7, true⟩) = h4 at *
  have ow34 := ow3.fr f4 (fun g => g)
  have f5 := f3.same f4
  refine RunC.seq (RunC.region ?_)
  refine RunO.load (v := .agg ⟨rc n0 n1 n2 n3 n4 n5 n6 n7⟩) rfl (ow4.all.part (k := 0) rfl) rfl ?_
  refine RunO.callD recCheck_ok rfl rfl rfl ?_
  rintro v h5 ⟨rfl, hf5⟩
  have ow5 := ow34.fr hf5 (fun g => g)
  have owx := ow4.fr hf5 (fun g => g)
  have f6 := f5.same hf5
  refine RunO.all rfl ?_
  rw [hcells, hcode]
  cases recOk n0 n1 n2 n3 n4 n5 n6 n7 with
  | false =>
    refine RunC.seq (RunC.seq (RunC.region (RunO.all rfl (RunC.cond rfl (fun _ => ?_) (fun g => by cases g)))))
    refine RunC.seq (RunC.region (RunO.part 2 rfl ?_))
    refine RunO.store rfl rfl (store_ow (s := 8) ow5 rfl rfl rfl (by decide)) ?_
    refine RunO.all rfl ?_
    refine RunC.ret ⟨_, eresults_cell rfl ((Ow.put (cs := rc 0 0 0 0 0 0 0 0) ow5.1).all.part (k := 0) rfl) rfl, rfl, ?_⟩
    exact f6.trans (Fr.put (m := (· = h.next)) _ (.inl rfl)) (fun j hj => .inr (by omega))
  | true =>
    refine RunC.seq (RunC.seq (RunC.region (RunO.all rfl (RunC.cond rfl (fun g => by cases g) (fun _ => RunC.skip ?_)))))
    refine RunC.seq (RunC.region ?_)
    refine RunO.load (v := .agg ⟨rc n0 n1 n2 n3 n4 n5 n6 n7⟩) rfl (owx.all.part (k := 0) rfl) rfl ?_
    refine RunO.store rfl rfl (store_ow (s := 8) ow5 rfl rfl rfl (by decide)) ?_
    refine RunO.all rfl ?_
    refine RunC.ret ⟨_, eresults_cell rfl ((Ow.put (cs := rc n0 n1 n2 n3 n4 n5 n6 n7) ow5.1).all.part (k := 0) rfl) rfl, rfl, ?_⟩
    exact f6.trans (Fr.put (m := (· = h.next)) _ (.inl rfl)) (fun j hj => .inr (by omega))
end Go.Proofs.Ytnokcbenpnmnbaa
end
section
set_option linter.unusedVariables false
set_option maxRecDepth 100000
open Go Go.Am Go.RowKit
namespace Go.Proofs.Ytnokcbenpnmnbaa
open Go.Proofs.Try
/-- A record. -/
structure R8 where
  nx : Int
  id : Int
  pa : Int
  ro : Int
  sz : Int
  ki : Int
  fr : Int
  di : Int
deriving DecidableEq
def rc8 (r : R8) : List Value := rc r.nx r.id r.pa r.ro r.sz r.ki r.fr r.di
def rPar (l : List Int) : R8 := if rCode l = 0 then ⟨rNum l 0, rNum l 1, rNum l 2, rNum l 3, rNum l 4, rNum l 5, rNum l 6, rNum l 7⟩ else ⟨0, 0, 0, 0, 0, 0, 0, 0⟩
theorem rCells_eq (l : List Int) : rCells l = rc8 (rPar l) := by
  unfold rCells rPar
  split <;> rfl
def recCs (l : List R8) : List Value := l.flatMap rc8
theorem recCs_app (a b : List R8) : recCs (a ++ b) = recCs a ++ recCs b := List.flatMap_append
theorem recCs_drop : ∀ (l : List R8) (i : Nat), (recCs l).drop (i * 8) = recCs (l.drop i)
  | l, 0 => by rw [Nat.zero_mul]; rfl
  | [], i + 1 => by simp [recCs]
  | c :: l, i + 1 => by
    show (rc8 c ++ recCs l).drop ((i + 1) * 8) = recCs (l.drop i)
    rw [← recCs_drop l i, show (i + 1) * 8 = (rc8 c).length + i * 8 by rw [show (rc8 c).length = 8 from rfl]; omega, List.drop_append]
    simp
theorem recCs_at {l : List R8} {i : Nat} (h : i < l.length) : (recCs l).drop (i * 8) = rc8 l[i] ++ recCs (l.drop (i + 1)) := by
  rw [recCs_drop, List.drop_eq_getElem_cons h]; rfl
theorem recCs_part {l : List R8} {i : Nat} (h : i < l.length) : apart prog 84 (recCs l) (i * 8) = some (.agg ⟨rc8 l[i]⟩) := by
  show (match takeN 8 (dropN (i * 8) (recCs l)) with | some l => some (Value.agg ⟨l⟩) | none => none) = _
  rw [takeN_eq, dropN_eq, recCs_at h, if_pos (by rw [List.length_append, show (rc8 l[i]).length = 8 from rfl]; omega), List.take_left' (show (rc8 l[i]).length = 8 from rfl)]
theorem recCs_fld {l : List R8} {i : Nat} (h : i < l.length) {j : Nat} (hj : j < 8) : apart prog 3 (recCs l) (i * 8 + j) = some ((rc8 l[i]).getD j undef) := by
  show nth (recCs l) (i * 8 + j) = _
  rw [nth_eq, ← List.getElem?_drop, recCs_at h, List.getElem?_append_left (by rw [show (rc8 l[i]).length = 8 from rfl]; exact hj), List.getD_eq_getElem?_getD, List.getElem?_eq_getElem (by rw [show (rc8 l[i]).length = 8 from rfl]; exact hj)]; rfl
/-- May a record be the next one? -/
def mayR (l : List R8) (w : Nat) (r : R8) : Bool := if r.ki == 1 then ((l.length : Int) == 0) else (!(l.any fun x => x.id == r.id) && decide ((w : Int) < 60))
theorem mayC_ok {h : Heap} {q : Nat} {x r : R8} (rd : Rd h ⟨q, 0, none⟩ (rc8 r)) : RunF prog 119 [.agg ⟨rc8 x⟩, .pointer (some ⟨q, 0, none⟩)] h fun v h' => v = .bool (x.id == r.id) ∧ Fr no h h' := by
  refine RunF.walk func119 rfl rfl ?_
  refine RunC.seq (RunC.region (RunO.all (h1 := h.push ⟨rc8 x, true⟩) rfl ?_))
  have oq := Ow.push h (rc8 x)
  have f1 : Fr no h (h.push ⟨rc8 x, true⟩) := Fr.push _ _ _
  replace rd := rd.fr f1 (fun g => g)
  generalize h.push ⟨rc8 x, true⟩ = h1 at *
  generalize h.next = p at *
  refine RunC.seq (RunC.region (RunO.part 1 rfl ?_))
  refine RunO.load (v := .int .i64 x.id) rfl (oq.ld rfl) rfl ?_
  refine RunO.part 1 rfl ?_
  refine RunO.load (v := .int .i64 r.id) rfl (rd.part (P := prog) (t := 3) (k := 1) rfl) rfl ?_
  exact RunO.all rfl (RunC.ret ⟨_, rfl, rfl, f1⟩)
theorem openMay_ok {h : Heap} {kb w : Nat} {lv bv : Value} {bad : Int} {l : List R8} {r : R8} (ow : Ow h kb [lv, bv, .int .i64 (w : Int), .int .i64 bad]) (sl : Sl h lv 8 l.length (recCs l)) (hl : l.length ≤ 100000) :
    RunF prog 102 [.pointer (some ⟨kb, 0, none⟩), .agg ⟨rc8 r⟩] h fun v h' => v = .bool (mayR l w r) ∧ Fr no h h' := by
  refine RunF.walk func102 rfl rfl ?_
  refine RunC.seq (RunC.region (RunO.all (h1 := h.push ⟨rc8 r, true⟩) rfl ?_))
  have oq := Ow.push h (rc8 r)
  have f1 : Fr no h (h.push ⟨rc8 r, true⟩) := Fr.push _ _ _
  replace ow := ow.fr f1 (fun g => g)
  replace sl := sl.fr0 f1
  generalize h.push ⟨rc8 r, true⟩ = h1 at *
  generalize h.next = q at *
  have sl0 := sl
  obtain ⟨A, c, rfl, _, _⟩ := sl.form
  refine RunC.seq (RunC.region (RunO.part 3 rfl ?_))
  refine RunO.load (v := .slice A l.length c) rfl (ow.ld rfl) rfl ?_
  refine RunO.part 1 rfl ?_
  refine RunO.callD (containsRec_ok sl0 (u := fun j => .agg ⟨rc8 (l.getD j ⟨0, 0, 0, 0, 0, 0, 0, 0⟩)⟩) (fun j hj => ?_) (p := fun j => (l.getD j ⟨0, 0, 0, 0, 0, 0, 0, 0⟩).id == r.id) (fun j hj h5 f5 => ?_) (by omega)) rfl rfl rfl ?_
  · rw [recCs_part hj, List.getD_eq_getElem?_getD, List.getElem?_eq_getElem hj]; rfl
  · exact mayC_ok (oq.all.fr f5 (fun g => g))
  rintro _ h2 ⟨rfl, f2⟩
  rw [anyI_list (l := l) (q := fun x => x.id == r.id) (fun j x hx => by rw [List.getD_eq_getElem?_getD, hx]; rfl)]
  have F2 := f1.same f2
  replace ow := ow.fr f2 (fun g => g)
  replace oq := oq.fr f2 (fun g => g)
  refine RunO.all rfl ?_
  have hM : mayR l w r = if r.ki == 1 then ((l.length : Int) == 0) else (!(l.any fun x => x.id == r.id) && decide ((w : Int) < 60)) := rfl
  rw [hM]
  refine RunC.seq (RunC.seq (RunC.region (RunO.part 1 rfl ?_)))
  refine RunO.load (v := .int .i64 r.ki) rfl (oq.ld rfl) rfl ?_
  refine RunO.all rfl ?_
  cases hk : (r.ki == 1) with
  | true =>
    refine RunC.cond rfl (fun _ => ?_) (fun g => by cases g)
    refine RunC.seq (RunC.region (RunO.part 3 rfl ?_))
    refine RunO.load (v := .slice A l.length c) rfl (ow.ld rfl) rfl ?_
    exact RunO.all rfl (RunC.ret ⟨_, rfl, rfl, F2⟩)
  | false =>
    refine RunC.cond rfl (fun g => by cases g) (fun _ => RunC.skip ?_)
    refine RunC.seq (RunC.region (RunO.part 3 rfl ?_))
    cases (l.any fun x => x.id == r.id) with
    | true => exact RunO.all rfl (RunC.ret ⟨_, rfl, rfl, F2⟩)
    | false =>
      refine RunO.part 3 rfl ?_
      refine RunO.loadG (v := .int .i64 (w : Int)) rfl rfl (ow.ld rfl) rfl ?_
      exact RunO.all rfl (RunC.ret ⟨_, rfl, rfl, F2⟩)
end Go.Proofs.Ytnokcbenpnmnbaa
end
