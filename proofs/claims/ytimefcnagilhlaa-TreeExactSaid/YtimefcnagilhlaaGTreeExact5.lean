/- TreeExact: a calculus over an abstract machine that stands beside the model, and contracts of functions by it (part 5).
Conditions: what each theorem says of its arguments. -/
import Derived.Test.YtimefcnagilhlaaGTreeExact4
section
set_option linter.unusedVariables false
set_option maxRecDepth 100000
open Go Go.Am Go.RowKit
namespace Go.Proofs.Ytimefcnagilhlaa
open Go.Proofs.Try
/-- What a pointer of a level leads to, for a place under it; level 0: a sector's block. -/
def look (L : List Int) (B : Nat) : Nat → Int → Nat → Int
  | 0, p, _ => p
  | k + 1, p, s => if p = 0 then 0 else look L B k ((atV L B p).2.getD (s / 8 ^ k) 0) (s % 8 ^ k)
/-- Along the way to a place each node is one, of its level. -/
def pathOk (L : List Int) (B : Nat) : Nat → Int → Nat → Prop
  | 0, _, _ => True
  | k + 1, p, s => p ≠ 0 → atIs L B p (k : Int) = true ∧ pathOk L B k ((atV L B p).2.getD (s / 8 ^ k) 0) (s % 8 ^ k)
theorem look_zero (L : List Int) (B k s : Nat) : look L B k 0 s = 0 := by cases k <;> rfl
theorem tbody_bad {L : List Int} {B lv : Nat} {r : Int → Nat → TS → TS} {a : Int} {f : Nat} {w : TS} (hr : ∀ a f w, w.2.2 = true → (r a f w).2.2 = true) (hw : w.2.2 = true) : (tbody L B lv r a f w).2.2 = true := by
  unfold tbody
  split
  · rfl
  · generalize hz : (w.1, w.2.1 ++ [a], w.2.2) = z
    have hzb : z.2.2 = true := by rw [← hz]; exact hw
    clear hz
    generalize List.range 8 = l
    induction l generalizing z with
    | nil => exact hzb
    | cons i l ih =>
      rw [List.foldl_cons]
      refine ih _ ?_
      unfold tstep
      rw [if_pos hzb]; exact hzb
theorem tstep_mono {r : Int → Nat → TS → TS} {B : Nat} {leaf : Bool} {w : TS} {p : Int} {t : Nat} (hr : ∀ a f w, w.2.2 = true → (r a f w).2.2 = true) (hw : w.2.2 = true) : (tstep r B leaf w p t).2.2 = true := by
  unfold tstep
  rw [if_pos hw]; exact hw
/-- The fold of a node's pointers, as it goes. -/
def tst (L : List Int) (B lv : Nat) (ps : List Int) (f : Nat) (w : TS) (i : Nat) : TS := tstep (trec L B lv) B (lv == 0) w (ps.getD i 0) (f + i * 8 ^ lv)
theorem fold_bad {L : List Int} {B lv : Nat} {ps : List Int} {f : Nat} : ∀ (l : List Nat) (w : TS), w.2.2 = true → (l.foldl (tst L B lv ps f) w).2.2 = true
  | [], w, h => h
  | i :: l, w, h => by
    rw [List.foldl_cons]
    refine fold_bad l _ ?_
    unfold tst tstep
    rw [if_pos h]; exact h
theorem fold_pre {L : List Int} {B lv : Nat} {ps : List Int} {f N : Nat} {w : TS} (h : ((List.range N).foldl (tst L B lv ps f) w).2.2 = false) {i : Nat} (hi : i ≤ N) : ((List.range i).foldl (tst L B lv ps f) w).2.2 = false := by
  cases e : ((List.range i).foldl (tst L B lv ps f) w).2.2 with
  | false => rfl
  | true =>
    have hs : List.range N = List.range i ++ (List.range (N - i)).map (i + ·) := by
      rw [← List.range_add]; congr 1; omega
    rw [hs, List.foldl_append, fold_bad _ _ e] at h
    cases h
/-- What a walk that ends well has done. -/
structure TSpec (L : List Int) (B lv : Nat) (a : Int) (f : Nat) (w r : TS) : Prop where
  is_ : atIs L B a (lv : Int) = true
  new : w.2.1.contains a = false
  ns : ∃ t, r.2.1 = w.2.1 ++ a :: t
  nd : w.2.1.Nodup → r.2.1.Nodup
  m : ∀ s, s < 512 → r.1.getD s 0 = if f ≤ s ∧ s < f + 8 ^ (lv + 1) then look L B (lv + 1) a (s - f) else w.1.getD s 0
  path : ∀ s, s < 8 ^ (lv + 1) → pathOk L B (lv + 1) a s
  all : ∀ x ∈ r.2.1, x ∈ w.2.1 ∨ ∃ k, k ≤ lv ∧ atIs L B x (k : Int) = true
  bnd : ∀ x ∈ r.1, x ∈ w.1 ∨ x = 0 ∨ x < B
theorem atIs_ne {L : List Int} {B : Nat} {a lv : Int} (h : atIs L B a lv = true) : 2 ≤ a ∧ a < B := by
  unfold atIs at h
  rw [Bool.and_eq_true] at h
  exact atIn_iff.1 h.1
theorem nodup_snoc {α : Type} {l : List α} {x : α} (h : l.Nodup) (hx : ¬ x ∈ l) : (l ++ [x]).Nodup := by
  rw [List.nodup_append]
  refine ⟨h, List.nodup_cons.2 ⟨by simp, List.nodup_nil⟩, fun a ha b hb => ?_⟩
  rw [List.mem_singleton] at hb
  subst hb
  exact fun e => hx (e ▸ ha)
def SpecAt (L : List Int) (B lv : Nat) : Prop := ∀ (a : Int) (f : Nat) (w : TS), f + 8 ^ (lv + 1) ≤ 512 → w.1.length = 512 → w.2.2 = false → (∀ s, f ≤ s → s < f + 8 ^ (lv + 1) → w.1.getD s 0 = 0) → (tgo L B lv a f w).2.2 = false → TSpec L B lv a f w (tgo L B lv a f w)
structure FSpec (L : List Int) (B lv : Nat) (ps : List Int) (f : Nat) (m ns : List Int) (i : Nat) (r : TS) : Prop where
  len : r.1.length = 512
  tail : ∃ t, r.2.1 = ns ++ t
  nd : ns.Nodup → r.2.1.Nodup
  map : ∀ s, s < 512 → r.1.getD s 0 = if f ≤ s ∧ s < f + i * 8 ^ lv then look L B lv (ps.getD ((s - f) / 8 ^ lv) 0) ((s - f) % 8 ^ lv) else m.getD s 0
  path : ∀ j, j < i → ∀ s, s < 8 ^ lv → pathOk L B lv (ps.getD j 0) s
  all : ∀ x ∈ r.2.1, x ∈ ns ∨ ∃ k, k ≤ lv ∧ atIs L B x (k : Int) = true
  bnd : ∀ x ∈ r.1, x ∈ m ∨ x = 0 ∨ x < B
theorem getD_set (l : List Int) (k s : Nat) (p : Int) (hk : k < l.length) : (l.set k p).getD s 0 = if s = k then p else l.getD s 0 := by
  rw [List.getD_eq_getElem?_getD, List.getElem?_set]
  by_cases e : k = s
  · subst e; rw [if_pos rfl, if_pos hk, if_pos rfl]; rfl
  · rw [if_neg e, if_neg (fun g => e g.symm), List.getD_eq_getElem?_getD]
theorem divmod_at {s f i d : Nat} (hd : 0 < d) (h1 : f + i * d ≤ s) (h2 : s < f + i * d + d) : (s - f) / d = i ∧ (s - f) % d = s - (f + i * d) := by
  have e : s - f = (s - (f + i * d)) + i * d := by omega
  have hlt : s - (f + i * d) < d := by omega
  constructor
  · rw [e, Nat.add_mul_div_right _ _ hd, Nat.div_eq_of_lt hlt, Nat.zero_add]
  · rw [e, Nat.add_mul_mod_self_right, Nat.mod_eq_of_lt hlt]
theorem fold_spec {L : List Int} {B lv : Nat} {ps : List Int} {f : Nat} {m ns : List Int} (hrec : ∀ k, lv = k + 1 → SpecAt L B k) (hf : f + 8 ^ (lv + 1) ≤ 512) (hl : m.length = 512) (hz : ∀ s, f ≤ s → s < f + 8 ^ (lv + 1) → m.getD s 0 = 0)
    {N : Nat} (hN : N ≤ 8) (hb : ((List.range N).foldl (tst L B lv ps f) (m, ns, false)).2.2 = false) : ∀ i, i ≤ N → FSpec L B lv ps f m ns i ((List.range i).foldl (tst L B lv ps f) (m, ns, false)) := by
  have hp8 : 8 ^ (lv + 1) = 8 * 8 ^ lv := by rw [Nat.pow_succ, Nat.mul_comm]
  have hpos : 0 < 8 ^ lv := Nat.pow_pos (by decide)
  intro i
  induction i with
  | zero =>
    intro _
    exact ⟨hl, ⟨[], by simp⟩, fun h => h, fun s _ => by rw [if_neg (by omega)]; rfl, fun j hj => absurd hj (Nat.not_lt_zero _), fun x hx => .inl hx, fun x hx => .inl hx⟩
  | succ i ih =>
    intro hi
    have S := ih (by omega)
    have hnb := fold_pre hb (i := i) (by omega)
    have hnb1 := fold_pre hb (i := i + 1) hi
    have hstep : (List.range (i + 1)).foldl (tst L B lv ps f) (m, ns, false) = tst L B lv ps f ((List.range i).foldl (tst L B lv ps f) (m, ns, false)) i := by rw [List.range_succ, List.foldl_append]; rfl
    rw [hstep] at hnb1 ⊢
    generalize (List.range i).foldl (tst L B lv ps f) (m, ns, false) = W at *
    obtain ⟨wm, wn, wb⟩ := W
    simp only at hnb
    subst hnb
    have hile : i * 8 ^ lv + 8 ^ lv ≤ 8 * 8 ^ lv := by rw [← Nat.succ_mul]; exact Nat.mul_le_mul_right _ (Nat.le_trans hi hN)
    have hsucc : (i + 1) * 8 ^ lv = i * 8 ^ lv + 8 ^ lv := Nat.succ_mul ..
    obtain ⟨Sl, ⟨t, St⟩, Snd, Sm, Sp, Sa, Sb⟩ := S
    simp only at Sl St Snd Sm Sa Sb
    have here : ∀ s, f + i * 8 ^ lv ≤ s → s < f + i * 8 ^ lv + 8 ^ lv → wm.getD s 0 = 0 := fun s h1 h2 => by
      rw [Sm s (by omega), if_neg (by omega)]
      exact hz s (by omega) (by omega)
    unfold tst tstep at hnb1 ⊢
    rw [if_neg Bool.false_ne_true] at hnb1 ⊢
    generalize hp : ps.getD i 0 = p at *
    by_cases hB : decide (p ≥ (B : Int)) = true
    · rw [if_pos hB] at hnb1; cases hnb1
    rw [if_neg hB] at hnb1 ⊢
    have hpB : p < B := by have := of_decide_eq_false (Bool.eq_false_iff.2 hB); omega
    by_cases hp0 : p = 0
    · subst hp0
      rw [if_neg (by simp), if_neg (by simp)] at hnb1 ⊢
      refine ⟨Sl, ⟨t, St⟩, Snd, fun s hs => ?_, fun j hj s hs => ?_, Sa, Sb⟩
      · simp only
        by_cases c : f + i * 8 ^ lv ≤ s ∧ s < f + i * 8 ^ lv + 8 ^ lv
        · obtain ⟨d1, d2⟩ := divmod_at hpos c.1 c.2
          rw [here s c.1 c.2, if_pos (by omega), d1, hp, look_zero]
        · rw [Sm s hs]
          by_cases c2 : f ≤ s ∧ s < f + i * 8 ^ lv
          · rw [if_pos c2, if_pos (by omega)]
          · rw [if_neg c2, if_neg (by omega)]
      · by_cases e : j = i
        · subst e
          rw [hp]
          cases lv with
          | zero => trivial
          | succ k => intro h; exact absurd rfl h
        · exact Sp j (by omega) s hs
    have hpn : (p != 0) = true := bne_iff_ne.2 hp0
    cases lv with
    | zero =>
      rw [hpn, if_pos (by rfl)]
      simp only [Nat.pow_zero, Nat.mul_one] at *
      refine ⟨by simp only [List.length_set]; exact Sl, ⟨t, St⟩, Snd, fun s hs => ?_, fun j hj s hs => trivial, Sa, fun x hx => ?_⟩
      · simp only
        rw [getD_set _ _ _ _ (by omega)]
        by_cases e : s = f + i
        · subst e
          rw [if_pos rfl, if_pos (by omega), Nat.div_one, show f + i - f = i by omega, hp]; rfl
        · rw [if_neg e, Sm s hs]
          by_cases c2 : f ≤ s ∧ s < f + i
          · rw [if_pos c2, if_pos (by omega)]
          · rw [if_neg c2, if_neg (by omega)]
      · rcases List.mem_or_eq_of_mem_set hx with g | g
        · exact Sb x g
        · exact .inr (.inr (by omega))
    | succ k =>
      rw [hpn, if_neg (by simp), if_pos rfl] at hnb1 ⊢
      have T := hrec k rfl p (f + i * 8 ^ (k + 1)) (wm, wn, false) (by omega) Sl rfl here hnb1
      have hlen : (trec L B (k + 1) p (f + i * 8 ^ (k + 1)) (wm, wn, false)).1.length = 512 := by rw [trec_len]; exact Sl
      change TSpec L B k p (f + i * 8 ^ (k + 1)) (wm, wn, false) (trec L B (k + 1) p (f + i * 8 ^ (k + 1)) (wm, wn, false)) at T
      generalize trec L B (k + 1) p (f + i * 8 ^ (k + 1)) (wm, wn, false) = R at *
      obtain ⟨T1, T2, ⟨t2, T3⟩, T4, T5, T6, T7, T8⟩ := T
      simp only at T2 T3 T4 T5 T7 T8
      refine ⟨hlen, ⟨t ++ p :: t2, by rw [T3, St, List.append_assoc]⟩, fun h => T4 (Snd h), fun s hs => ?_, fun j hj s hs => ?_, fun x hx => ?_, fun x hx => ?_⟩
      · rw [T5 s hs]
        by_cases c : f + i * 8 ^ (k + 1) ≤ s ∧ s < f + i * 8 ^ (k + 1) + 8 ^ (k + 1)
        · obtain ⟨d1, d2⟩ := divmod_at hpos c.1 c.2
          rw [if_pos c, if_pos (by omega), d1, d2, hp]
        · rw [if_neg c, Sm s hs]
          by_cases c2 : f ≤ s ∧ s < f + i * 8 ^ (k + 1)
          · rw [if_pos c2, if_pos (by omega)]
          · rw [if_neg c2, if_neg (by omega)]
      · by_cases e : j = i
        · subst e; rw [hp]; exact T6 s hs
        · exact Sp j (by omega) s hs
      · rcases T7 x hx with g | ⟨q, g1, g2⟩
        · exact Sa x g
        · exact .inr ⟨q, by omega, g2⟩
      · rcases T8 x hx with g | g
        · exact Sb x g
        · exact .inr g
theorem spec_body {L : List Int} {B lv : Nat} (hrec : ∀ k, lv = k + 1 → SpecAt L B k) : SpecAt L B lv := by
  intro a f w hf hl hw hz hb
  obtain ⟨m, ns, bd⟩ := w
  simp only at hl hw hz
  subst hw
  have hpos : 0 < 8 ^ lv := Nat.pow_pos (by decide)
  have hp8 : 8 ^ (lv + 1) = 8 * 8 ^ lv := by rw [Nat.pow_succ, Nat.mul_comm]
  rw [tgo_eq] at hb ⊢
  unfold tbody at hb ⊢
  by_cases hc : (!atIs L B a (lv : Int) || ns.contains a) = true
  · rw [if_pos hc] at hb; cases hb
  rw [if_neg hc] at hb ⊢
  rw [Bool.or_eq_true, not_or, Bool.not_eq_true, Bool.not_eq_true, Bool.not_eq_false'] at hc
  obtain ⟨h1, h2⟩ := hc
  have ha := atIs_ne h1
  have S := fold_spec (ps := (atV L B a).2) (ns := ns ++ [a]) hrec hf hl hz (Nat.le_refl 8) hb 8 (Nat.le_refl 8)
  change TSpec L B lv a f (m, ns, false) ((List.range 8).foldl (tst L B lv (atV L B a).2 f) (m, ns ++ [a], false))
  generalize (List.range 8).foldl (tst L B lv (atV L B a).2 f) (m, ns ++ [a], false) = R at *
  obtain ⟨_, ⟨t, St⟩, Snd, Sm, Sp, Sa, Sb⟩ := S
  refine ⟨h1, h2, ⟨t, by rw [St, List.append_assoc]; rfl⟩, fun h => Snd (nodup_snoc h (by simpa using h2)), fun s hs => ?_, fun s hs => ?_, fun x hx => ?_, fun x hx => Sb x hx⟩
  · rw [Sm s hs, ← hp8]
    by_cases c : f ≤ s ∧ s < f + 8 ^ (lv + 1)
    · rw [if_pos c, if_pos c]
      show _ = if a = 0 then 0 else _
      rw [if_neg (by omega)]
    · rw [if_neg c, if_neg c]
  · intro _
    exact ⟨h1, Sp (s / 8 ^ lv) (by rw [Nat.div_lt_iff_lt_mul hpos]; omega) (s % 8 ^ lv) (Nat.mod_lt _ hpos)⟩
  · rcases Sa x hx with g | g
    · rcases List.mem_append.1 g with g | g
      · exact .inl g
      · rw [List.mem_singleton] at g; subst g; exact .inr ⟨lv, Nat.le_refl _, h1⟩
    · exact .inr g
theorem tgo_spec (L : List Int) (B : Nat) : ∀ lv, SpecAt L B lv := by
  intro lv
  induction lv with
  | zero => exact spec_body (fun k e => by cases e)
  | succ k ih => exact spec_body (fun j e => by cases e; exact ih)
end Go.Proofs.Ytimefcnagilhlaa
end
section
set_option linter.unusedVariables false
set_option maxRecDepth 100000
open Go Go.Am Go.RowKit
namespace Go.Proofs.Ytimefcnagilhlaa
open Go.Proofs.Try
def bs (l : List Bool) : List Value := l.map Value.bool
theorem bs_len (l : List Bool) : (bs l).length = l.length := List.length_map _
theorem bs_part {l : List Bool} {i : Nat} (h : i < l.length) : apart prog 4 (bs l) (i * 1) = some (.bool l[i]) := by
  show nth (bs l) (i * 1) = _
  rw [Nat.mul_one, nth_eq, bs, List.getElem?_map, List.getElem?_eq_getElem h]; rfl
theorem bs_set (l : List Bool) (i : Nat) (x : Bool) : (bs l).set i (.bool x) = bs (l.set i x) := by unfold bs; rw [List.map_set]
/-- The page's walk through a tree, as cells. -/
def rwc (iv : Value) (B sb db mb : Nat) (nv : Value) (ok : Bool) : List Value := [iv, .int .i64 (B : Int), nv, .slice (some ⟨sb, 0, none⟩) B (exc B), .slice (some ⟨db, 0, none⟩) B (exc B), .slice (some ⟨mb, 0, none⟩) 512 (exc 512), .bool ok]
structure RW (lo : Nat) (h : Heap) (iv : Value) (B wb sb db mb : Nat) (nv : Value) (m ns : List Int) (sn dt : List Bool) (ok : Bool) : Prop where
  ow : Ow h wb (rwc iv B sb db mb nv ok)
  os : Ow h sb (bs sn)
  od : Ow h db (bs dt)
  om : Ow h mb (is m)
  row : Row lo h nv 1 ns.length (is ns)
  lm : m.length = 512
  ls : sn.length = B
  ld : dt.length = B
  ln : lo ≤ h.next
structure RB (lo wb sb db mb : Nat) : Prop where
  w : wb < lo
  s : sb < lo
  d : db < lo
  m : mb < lo
  ws : wb ≠ sb
  wd : wb ≠ db
  wm : wb ≠ mb
  sd : sb ≠ db
  sm : sb ≠ mb
  dm : db ≠ mb
def RM (lo wb sb db mb : Nat) : Nat → Prop := fun b => b = wb ∨ b = sb ∨ b = db ∨ b = mb ∨ lo ≤ b
/-- What a walk writes: its own blocks, the row of the nodes. -/
def RR (wb sb db mb : Nat) (nv : Value) : Nat → Prop := fun b => b = wb ∨ b = sb ∨ b = db ∨ b = mb ∨ At nv b
/-- Seen are the nodes, data the map's. -/
def Cpl (B : Nat) (m ns : List Int) (sn dt : List Bool) : Prop := (∀ i, i < B → sn.getD i false = ns.contains (i : Int)) ∧ ∀ i, 0 < i → i < B → dt.getD i false = m.contains (i : Int)
theorem RW.quiet {lo : Nat} {h h' : Heap} {iv : Value} {B wb sb db mb : Nat} {nv : Value} {m ns : List Int} {sn dt : List Bool} {ok : Bool} (t : RW lo h iv B wb sb db mb nv m ns sn dt ok) (f : Fr no h h') : RW lo h' iv B wb sb db mb nv m ns sn dt ok :=
  ⟨t.ow.fr f (fun g => g), t.os.fr f (fun g => g), t.od.fr f (fun g => g), t.om.fr f (fun g => g), t.row.fr f (fun _ _ _ g => g), t.lm, t.ls, t.ld, Nat.le_trans t.ln f.next⟩
/-- Ok is put down. -/
theorem RW.fail {lo : Nat} {h : Heap} {iv : Value} {B wb sb db mb : Nat} {nv : Value} {m ns : List Int} {sn dt : List Bool} {ok : Bool} (rb : RB lo wb sb db mb) (t : RW lo h iv B wb sb db mb nv m ns sn dt ok) (x : Bool) :
    astore prog h 4 ⟨wb, 6, none⟩ (.bool x) = some (h.put wb (some ⟨rwc iv B sb db mb nv x, true⟩)) ∧ RW lo (h.put wb (some ⟨rwc iv B sb db mb nv x, true⟩)) iv B wb sb db mb nv m ns sn dt x ∧ Fr (RR wb sb db mb nv) h (h.put wb (some ⟨rwc iv B sb db mb nv x, true⟩)) := by
  have f : Fr (· = wb) h (h.put wb (some ⟨rwc iv B sb db mb nv x, true⟩)) := Fr.put _ (.inl rfl)
  refine ⟨store1_ow t.ow rfl rfl rfl (Nat.le_of_ble_eq_true rfl), ⟨Ow.put _ t.ow.1, t.os.fr f (fun e => rb.ws e.symm), t.od.fr f (fun e => rb.wd e.symm), t.om.fr f (fun e => rb.wm e.symm), t.row.fr f (fun b h1 _ e => by have := rb.w; omega), t.lm, t.ls, t.ld, t.ln⟩, f.weak (fun i e => .inl (.inl e))⟩
theorem contains_set0 {m : List Int} {k : Nat} {p : Int} (hk : k < m.length) (h0 : m.getD k 0 = 0) {x : Int} (hx : x ≠ 0) : (m.set k p).contains x = (x == p || m.contains x) := by
  rw [Bool.eq_iff_iff]
  simp only [List.contains_eq_mem, decide_eq_true_eq, Bool.or_eq_true, beq_iff_eq]
  constructor
  · intro h
    rcases List.mem_or_eq_of_mem_set h with g | g
    · exact .inr g
    · exact .inl g
  · rintro (rfl | h)
    · exact List.mem_of_getElem? (List.getElem?_set_self hk)
    · obtain ⟨j, hj⟩ := List.getElem?_of_mem h
      have hne : k ≠ j := by
        intro e; subst e
        rw [List.getD_eq_getElem?_getD, hj] at h0
        exact hx h0
      exact List.mem_of_getElem? (by rw [List.getElem?_set_ne hne]; exact hj)
theorem getD_setB (l : List Bool) (k s : Nat) (p : Bool) (hk : k < l.length) : (l.set k p).getD s false = if s = k then p else l.getD s false := by
  rw [List.getD_eq_getElem?_getD, List.getElem?_set]
  by_cases e : k = s
  · subst e; rw [if_pos rfl, if_pos hk, if_pos rfl]; rfl
  · rw [if_neg e, if_neg (fun g => e g.symm), List.getD_eq_getElem?_getD]
theorem sl_rm {h h' : Heap} {iv : Value} {n s : Nat} {cs : List Value} {M : Nat → Prop} (sl : Sl h iv s n cs) (hn : ∀ b o c, iv = .slice (some ⟨b, o, none⟩) n c → ¬ M b) (f : Fr M h h') : Sl h' iv s n cs := by
  refine ⟨sl.1, sl.2.1, sl.2.2.imp (fun y => y) ?_⟩
  rintro ⟨b, o, c, h1, h2, h3⟩
  exact ⟨b, o, c, h1, h2, h3.fr f (hn b o c h1)⟩
/-- A walk that has failed goes no further. -/
theorem rnode_dead {h : Heap} {lo : Nat} {iv : Value} {B wb sb db mb : Nat} {nv : Value} {m ns : List Int} {sn dt : List Bool} {at_ lv from_ : Int} (rb : RB lo wb sb db mb) (t : RW lo h iv B wb sb db mb nv m ns sn dt false) :
    RunF prog 42 [.pointer (some ⟨wb, 0, none⟩), .int .i64 at_, .int .i64 lv, .int .i64 from_] h fun v h' => v = .tuple #[] ∧ RW lo h' iv B wb sb db mb nv m ns sn dt false ∧ Fr (RR wb sb db mb nv) h h' := by
  refine RunF.walk func42 rfl rfl ?_
  have ow := t.ow
  obtain ⟨e1, e2, e3⟩ := t.fail rb false
  refine RunC.seq (RunC.seq (RunC.region (RunO.part 3 rfl ?_)))
  refine RunO.load (v := .bool false) rfl (ow.ld rfl) rfl (RunO.all rfl ?_)
  refine RunC.cond rfl (fun _ => ?_) (fun g => by cases g)
  refine RunC.seq (RunC.region (RunO.part 3 rfl ?_))
  refine RunO.store rfl rfl e1 (RunO.all rfl ?_)
  exact RunC.ret ⟨_, rfl, rfl, e2, e3⟩
theorem tstep_none {r : Int → Nat → TS → TS} {B : Nat} {leaf : Bool} {w : TS} {t : Nat} (hB : 1 ≤ B) : tstep r B leaf w 0 t = w := by
  unfold tstep
  rw [show decide ((0 : Int) ≥ (B : Int)) = false from decide_eq_false (by omega)]
  cases w.2.2 <;> cases leaf <;> rfl
def RNodeOk (L : List Int) (B lo wb sb db mb : Nat) (iv : Value) (lv : Nat) : Prop := ∀ {h : Heap} {nv : Value} {m ns : List Int} {sn dt : List Bool} {at_ : Int} {from_ : Nat},
    Sl h iv 1 L.length (us L) → RW lo h iv B wb sb db mb nv m ns sn dt true → Cpl B m ns sn dt → ns.length + nN lv ≤ 100000 → from_ + 8 ^ (lv + 1) ≤ 512 → (∀ s, from_ ≤ s → s < from_ + 8 ^ (lv + 1) → m.getD s 0 = 0) →
    RunF prog 42 [.pointer (some ⟨wb, 0, none⟩), .int .i64 at_, .int .i64 (lv : Int), .int .i64 (from_ : Int)] h fun v h' => v = .tuple #[] ∧ Fr (RR wb sb db mb nv) h h' ∧ ∃ nv' m' ns' sn' dt' ok', RW lo h' iv B wb sb db mb nv' m' ns' sn' dt' ok' ∧ (∀ b, At nv' b → At nv b ∨ h.next ≤ b) ∧ ns'.length ≤ ns.length + nN lv ∧
      ok' = !(tgo L B lv at_ from_ (m, ns, false)).2.2 ∧ (ok' = true → tgo L B lv at_ from_ (m, ns, false) = (m', ns', false) ∧ Cpl B m' ns' sn' dt')
theorem refIn10_ok {h : Heap} {a lo hi : Int} : RunF prog 62 [.int .i64 a, .int .i64 lo, .int .i64 hi] h fun v h' => v = .bool (inB a lo hi) ∧ h = h' := by
  refine RunF.walk func62 rfl rfl ?_
  refine RunC.seq (RunC.region (RunO.all rfl ?_))
  refine RunC.seq (RunC.region (RunO.part 4 rfl ?_))
  unfold inB
  cases decide (a ≥ lo) with
  | true => exact RunO.all rfl (RunC.ret ⟨_, rfl, by simp, rfl⟩)
  | false => exact RunO.all rfl (RunC.ret ⟨_, rfl, by simp, rfl⟩)
theorem atIn_inB {B : Nat} {a : Int} (hB : B ≤ 4096) : inB a 2 (fwrap .i64 ((B : Int) - 1)) = atIn B a := by
  rw [fw64 (by omega) (by omega), Bool.eq_iff_iff, inB_iff, atIn_iff]
  omega
set_option maxHeartbeats 16000000 in
theorem rnode_body {L : List Int} {B lo wb sb db mb : Nat} {iv : Value} (hb : Byt L) (hB : B * 64 ≤ L.length) (hB1 : 1 ≤ B) (hB2 : B ≤ 4096) (hm : L.length ≤ 4611686018427387904) (rb : RB lo wb sb db mb) (hiv : ∀ b o c, iv = .slice (some ⟨b, o, none⟩) L.length c → ¬ RM lo wb sb db mb b)
    {lv : Nat} (hlv : lv ≤ 2) (hrec : ∀ k, lv = k + 1 → RNodeOk L B lo wb sb db mb iv k) : RNodeOk L B lo wb sb db mb iv lv := by
  intro h nv m ns sn dt at_ from_ sl t hcp hns hfrom hz
  have hlv8 : 8 ^ lv ≤ 64 := by
    have : 8 ^ lv ≤ 8 ^ 2 := Nat.pow_le_pow_right (by decide) hlv
    exact this
  have hp8 : 8 ^ (lv + 1) = 8 ^ lv * 8 := Nat.pow_succ ..
  have hpos : 1 ≤ 8 ^ lv := Nat.pow_pos (by decide)
  have hgo : tgo L B lv at_ from_ (m, ns, false) = if (!atIs L B at_ (lv : Int) || ns.contains at_) = true then (m, ns, true) else (List.range 8).foldl (tst L B lv (atV L B at_).2 from_) (m, ns ++ [at_], false) := tgo_eq ..
  rw [hgo]
  clear hgo
  have hbad : ∀ {h' : Heap} {nv' : Value} {m' ns' : List Int} {sn' dt' : List Bool} {ok : Bool} {T : TS}, RW lo h' iv B wb sb db mb nv' m' ns' sn' dt' ok → Fr (RR wb sb db mb nv) h h' → (∀ b, At nv' b → At nv b ∨ h.next ≤ b) → ns'.length ≤ ns.length + nN lv → T.2.2 = true →
      ∃ h'', astore prog h' 4 ⟨wb, 6, none⟩ (.bool false) = some h'' ∧ Value.tuple #[] = .tuple #[] ∧ Fr (RR wb sb db mb nv) h h'' ∧ ∃ nv' m' ns' sn' dt' ok', RW lo h'' iv B wb sb db mb nv' m' ns' sn' dt' ok' ∧ (∀ b, At nv' b → At nv b ∨ h.next ≤ b) ∧ ns'.length ≤ ns.length + nN lv ∧ ok' = !T.2.2 ∧ (ok' = true → T = (m', ns', false) ∧ Cpl B m' ns' sn' dt') := by
    intro h' nv' m' ns' sn' dt' ok T t' F' hr' hl' hT
    obtain ⟨e1, e2, e3⟩ := t'.fail rb false
    refine ⟨_, e1, rfl, F'.trans e3 (fun b g => ?_), nv', m', ns', sn', dt', false, e2, hr', hl', by rw [hT]; rfl, fun g => by cases g⟩
    rcases g with g | g | g | g | g
    · exact .inl (.inl g)
    · exact .inl (.inr (.inl g))
    · exact .inl (.inr (.inr (.inl g)))
    · exact .inl (.inr (.inr (.inr (.inl g))))
    · exact (hr' b g).imp (fun g => .inr (.inr (.inr (.inr g)))) id
  refine RunF.walk func42 rfl rfl ?_
  have ow := t.ow
  -- is it one that may be?
  refine RunC.seq (RunC.seqE (upd (upd (upd (upd (upd E0 0 (.pointer (some ⟨wb, 0, none⟩))) 1 (.int .i64 at_)) 2 (.int .i64 (lv : Int))) 3 (.int .i64 (from_ : Int))) 37 (.bool (!atIn B at_ || ns.contains at_))) ?_ ?_)
  · refine RunC.region (RunO.part 3 rfl ?_)
    refine RunO.load (v := .bool true) rfl (ow.ld rfl) rfl ?_
    refine RunO.part 6 rfl ?_
    refine RunO.loadG (v := .int .i64 (B : Int)) rfl rfl (ow.ld rfl) rfl ?_
    refine RunO.part 1 rfl ?_
    refine RunO.callDG rfl refIn10_ok rfl rfl rfl ?_
    rintro _ _ ⟨rfl, rfl⟩
    rw [atIn_inB hB2]
    refine RunO.part 3 rfl ?_
    cases hin : atIn B at_ with
    | false => exact RunO.all rfl ⟨rfl, Le.cons rfl (Le.cons rfl (Le.cons rfl (Le.cons rfl (Le.cons rfl (Le.nil _)))))⟩
    | true =>
      obtain ⟨ha2, haB⟩ := atIn_iff.1 hin
      obtain ⟨a, rfl⟩ := Int.eq_ofNat_of_zero_le (show 0 ≤ at_ by omega)
      have has : a < sn.length := by rw [t.ls]; omega
      have hse : sn[a] = ns.contains (a : Int) := by
        have := hcp.1 a (by omega)
        rwa [List.getD_eq_getElem?_getD, List.getElem?_eq_getElem has] at this
      refine RunO.part 3 rfl ?_
      refine RunO.loadG (v := .slice (some ⟨sb, 0, none⟩) B (exc B)) rfl rfl (ow.ld rfl) rfl ?_
      refine RunO.part 1 rfl ?_
      have sls : Sl h (.slice (some ⟨sb, 0, none⟩) B (exc B)) 1 B (bs sn) := t.os.all.sl (by rw [bs_len, t.ls, Nat.mul_one]) (by omega) (Cp.exc (Nat.le_refl _))
      refine RunO.atG (s := 1) (k := a) (u := .bool (ns.contains (a : Int))) rfl (fun _ => rfl) rfl rfl sls rfl rfl (by omega) (by rw [bs_part has, hse]) rfl rfl rfl ?_
      exact RunO.all rfl ⟨rfl, Le.cons rfl (Le.cons rfl (Le.cons rfl (Le.cons rfl (Le.cons rfl (Le.nil _)))))⟩
  by_cases hmay : (!atIn B at_ || ns.contains at_) = true
  · rw [hmay]
    have hcond : (!atIs L B at_ (lv : Int) || ns.contains at_) = true := by
      unfold atIs
      cases hi : atIn B at_ with
      | false => rfl
      | true => rw [hi, Bool.not_true, Bool.false_or] at hmay; rw [hmay, Bool.or_true]
    rw [if_pos hcond]
    refine RunC.cond rfl (fun _ => ?_) (fun g => by cases g)
    obtain ⟨h2, e1, e2⟩ := hbad (T := (m, ns, true)) t (Fr.refl _ _) (fun b g => .inl g) (by omega) rfl
    refine RunC.seq (RunC.region (RunO.part 3 rfl ?_))
    refine RunO.store rfl rfl e1 (RunO.all rfl ?_)
    exact RunC.ret ⟨_, rfl, e2⟩
  rw [Bool.not_eq_true] at hmay
  rw [hmay]
  rw [Bool.or_eq_false_iff, Bool.not_eq_false'] at hmay
  obtain ⟨hin, hnc⟩ := hmay
  obtain ⟨ha2, haB⟩ := atIn_iff.1 hin
  obtain ⟨a, rfl⟩ := Int.eq_ofNat_of_zero_le (show 0 ≤ at_ by omega)
  have haL : (a + 1) * 64 ≤ L.length := Nat.le_trans (Nat.mul_le_mul_right 64 (by omega)) hB
  refine RunC.cond rfl (fun g => by cases g) (fun _ => RunC.skip ?_)
  refine RunC.seq (RunC.region (RunO.part 3 rfl ?_))
  refine RunO.load (v := iv) rfl (ow.ld rfl) rfl ?_
  refine RunO.part 1 rfl ?_
  refine RunO.callD (refBlock_ok (i := a) sl haL hm) rfl rfl rfl ?_
  rintro bv _ ⟨slb, rfl⟩
  have hbl := blkI_len haL
  refine RunO.callD (refParseNode_ok (by rw [hbl]; exact slb) (byt_blk hb a)) rfl rfl rfl ?_
  rintro _ h1 ⟨rfl, f1⟩
  have hvv : atV L B (a : Int) = nodV (blkI L a) := by unfold atV; rw [hin, if_pos rfl, Int.toNat_natCast]
  have his : atIs L B (a : Int) (lv : Int) = (nCode (blkI L a) == 0 && (nodV (blkI L a)).1 == (lv : Int)) := by unfold atIs; rw [hin, hvv, Int.toNat_natCast, Bool.true_and]
  have hvl := nodV_len (blkI L a)
  have hptr : nCode (blkI L a) = 0 → ∀ x ∈ (nodV (blkI L a)).2, x = 0 ∨ 2 ≤ x := by
    intro hc x hx
    have hv : nodV (blkI L a) = (nLv (blkI L a), nPs (blkI L a)) := by unfold nodV; rw [if_pos hc]
    rw [hv] at hx
    have hok : nodOk (nLv (blkI L a)) (nPs (blkI L a)) = true := by
      unfold nCode at hc
      split at hc
      · split at hc
        · assumption
        · cases hc
      · rename_i h1; exact absurd hc h1
    unfold nodOk at hok
    rw [Bool.and_eq_true, List.all_eq_true] at hok
    have := hok.1 x hx
    unfold ptrB at this
    rw [Bool.or_eq_true, beq_iff_eq, Bool.and_eq_true, decide_eq_true_eq] at this
    omega
  rw [his, hvv, hnc, Bool.or_false]
  generalize nCode (blkI L a) = cd at *
  generalize nodV (blkI L a) = nd at *
  obtain ⟨nl, ps⟩ := nd
  simp only at hvl hptr ⊢
  refine RunO.part 4 (h1 := h1.push ⟨nc 0 nZero, true⟩) rfl ?_
  refine RunO.store rfl rfl (nc_store (lv := nl) (ps := ps) (Ow.push h1 (nc 0 nZero)) rfl hvl rfl) (RunO.all rfl ?_)
  have on : Ow ((h1.push ⟨nc 0 nZero, true⟩).put h1.next (some ⟨nc nl ps, true⟩)) h1.next (nc nl ps) := Ow.put _ (Nat.lt_succ_self _)
  have f2 : Fr no h1 ((h1.push ⟨nc 0 nZero, true⟩).put h1.next (some ⟨nc nl ps, true⟩)) := (Fr.push _ _ _).trans (Fr.put (m := (· = h1.next)) _ (.inl rfl)) (fun j hj => .inr (by omega))
  have f12 := f1.same f2
  have hq : lo ≤ h1.next := Nat.le_trans t.ln f1.next
  have hnv : ∀ b, At nv b → b < h.next := fun b ha => (t.row.at ha).2
  have hnrow : ∀ b, At nv b → b ≠ h1.next := fun b ha => by have := hnv b ha; have := f1.next; omega
  have hqh0 : h.next ≤ h1.next := f1.next
  generalize (h1.push ⟨nc 0 nZero, true⟩).put h1.next (some ⟨nc nl ps, true⟩) = h2 at *
  generalize h1.next = q at *
  have t2 := t.quiet f12
  have F2 : Fr (RR wb sb db mb nv) h h2 := f12.weak (fun _ g => g.elim)
  have hqh : h.next ≤ q := hqh0
  clear t ow
  -- its kind, its level
  refine RunC.seq (RunC.seqE (upd (upd (upd (upd (upd (upd E0 0 (.pointer (some ⟨wb, 0, none⟩))) 1 (.int .i64 (a : Int))) 2 (.int .i64 (lv : Int))) 3 (.int .i64 (from_ : Int))) 8 (.pointer (some ⟨q, 0, none⟩))) 58 (.bool (!(cd == 0 && nl == (lv : Int))))) ?_ ?_)
  · refine RunC.region (RunO.part 3 rfl ?_)
    have e1 : (cd != 0) = !(cd == 0) := rfl
    rw [e1]
    cases (cd == 0) with
    | false => exact RunO.all rfl ⟨rfl, Le.cons rfl (Le.cons rfl (Le.cons rfl (Le.cons rfl (Le.cons rfl (Le.cons rfl (Le.nil _))))))⟩
    | true =>
      refine RunO.part 1 rfl ?_
      refine RunO.loadG (v := .int .i64 nl) rfl rfl (on.ld rfl) rfl ?_
      exact RunO.all rfl ⟨rfl, Le.cons rfl (Le.cons rfl (Le.cons rfl (Le.cons rfl (Le.cons rfl (Le.cons rfl (Le.nil _))))))⟩
  by_cases hone : (cd == 0 && nl == (lv : Int)) = true
  case neg =>
    rw [Bool.not_eq_true] at hone
    rw [hone, if_pos (show (!false) = true from rfl)]
    refine RunC.cond rfl (fun _ => ?_) (fun g => by cases g)
    obtain ⟨h3, e1, e2⟩ := hbad (T := (m, ns, true)) t2 F2 (fun b g => .inl g) (by omega) rfl
    refine RunC.seq (RunC.region (RunO.part 3 rfl ?_))
    refine RunO.store rfl rfl e1 (RunO.all rfl ?_)
    exact RunC.ret ⟨_, rfl, e2⟩
  rw [hone, if_neg (show ¬ (!true) = true by decide)]
  rw [Bool.and_eq_true, beq_iff_eq, beq_iff_eq] at hone
  replace hptr := hptr hone.1
  refine RunC.cond rfl (fun g => by cases g) (fun _ => RunC.skip ?_)
  -- it is seen
  have ow2 := t2.ow
  have has : a < sn.length := by rw [t2.ls]; omega
  refine RunC.seq (RunC.region (RunO.part 3 rfl ?_))
  refine RunO.load (v := .slice (some ⟨sb, 0, none⟩) B (exc B)) rfl (ow2.ld rfl) rfl ?_
  refine RunO.part 1 rfl ?_
  refine RunO.index (s := 1) rfl rfl rfl rfl (show a < B by omega) rfl ?_
  refine RunO.store rfl rfl (store1_ow t2.os rfl rfl rfl (by rw [bs_len]; omega)) (RunO.nil ?_)
  rw [show (bs sn).set (0 + a * 1) (.bool true) = bs (sn.set a true) by rw [Nat.zero_add, Nat.mul_one, bs_set]]
  have fs : Fr (· = sb) h2 (h2.put sb (some ⟨bs (sn.set a true), true⟩)) := Fr.put _ (.inl rfl)
  have t3 : RW lo (h2.put sb (some ⟨bs (sn.set a true), true⟩)) iv B wb sb db mb nv m ns (sn.set a true) dt true :=
    ⟨t2.ow.fr fs rb.ws, Ow.put _ t2.os.1, t2.od.fr fs (fun e => rb.sd e.symm), t2.om.fr fs (fun e => rb.sm e.symm), t2.row.fr fs (fun b h1 _ e => by have := rb.s; omega), t2.lm, by rw [List.length_set]; exact t2.ls, t2.ld, t2.ln⟩
  have on3 := on.fr fs (show ¬ q = sb by have := rb.s; omega)
  have F3 : Fr (RR wb sb db mb nv) h (h2.put sb (some ⟨bs (sn.set a true), true⟩)) := F2.trans fs (fun b e => .inl (.inr (.inl e)))
  have hn3 : (h2.put sb (some ⟨bs (sn.set a true), true⟩)).next = h2.next := rfl
  generalize h2.put sb (some ⟨bs (sn.set a true), true⟩) = h3 at *
  clear t2 ow2 on
  -- one node more
  have ow3 := t3.ow
  refine RunC.seq (RunC.region (RunO.part 4 rfl ?_))
  refine RunO.load (v := nv) rfl (ow3.ld rfl) rfl ?_
  refine RunO.part 2 (h1 := h3.push ⟨is [(a : Int)], true⟩) rfl ?_
  have fp : Fr no h3 (h3.push ⟨is [(a : Int)], true⟩) := Fr.push _ _ _
  have ob := Ow.push h3 (is [(a : Int)])
  have t3p := t3.quiet fp
  have on4 := on3.fr fp (fun g => g)
  generalize h3.push ⟨is [(a : Int)], true⟩ = h4 at *
  refine RunO.append2 (s := 1) (m := 1) rfl rfl rfl rfl rfl rfl rfl rfl (Nat.le_refl 1) t3p.row ob.all rfl (Nat.le_refl 1) rfl (by show 2 * (ns.length + 1) * 8 ≤ _; omega) (by omega) ?_
  intro nv2 h5 row5 f5
  have hat : ∀ b, At nv b → lo ≤ b := fun b ha => (t3p.row.at ha).1
  have ow5 := t3p.ow.fr f5 (fun g => by have := hat _ g; have := rb.w; omega)
  have os5 := t3p.os.fr f5 (fun g => by have := hat _ g; have := rb.s; omega)
  have od5 := t3p.od.fr f5 (fun g => by have := hat _ g; have := rb.d; omega)
  have om5 := t3p.om.fr f5 (fun g => by have := hat _ g; have := rb.m; omega)
  have on5 := on4.fr f5 (fun g => hnrow _ g rfl)
  have hnv2 : ∀ b, At nv2 b → q < b := fun b g => Nat.lt_of_lt_of_le on4.1 (row5.at g).1
  refine RunO.part 2 rfl ?_
  refine RunO.store rfl rfl (store1_ow ow5 rfl row5.cell.1 row5.cell.2 (Nat.le_of_ble_eq_true rfl)) (RunO.all rfl ?_)
  change RunC _ _ _ _ (h5.put wb (some ⟨rwc iv B sb db mb nv2 true, true⟩)) _ _ _
  replace row5 := Row.lo row5 t3p.ln
  rw [← is_app] at row5
  have fw : Fr (· = wb) h5 (h5.put wb (some ⟨rwc iv B sb db mb nv2 true, true⟩)) := Fr.put _ (.inl rfl)
  have t6 : RW lo (h5.put wb (some ⟨rwc iv B sb db mb nv2 true, true⟩)) iv B wb sb db mb nv2 m (ns ++ [(a : Int)]) (sn.set a true) dt true :=
    ⟨Ow.put _ ow5.1, os5.fr fw (fun e => rb.ws e.symm), od5.fr fw (fun e => rb.wd e.symm), om5.fr fw (fun e => rb.wm e.symm), by
      have := row5.fr fw (fun b h1 _ e => by have := rb.w; omega)
      rw [List.length_append]; exact this, t3p.lm, t3p.ls, t3p.ld, Nat.le_trans t3p.ln f5.next⟩
  have on6 := on5.fr fw (show ¬ q = wb by have := rb.w; omega)
  have F6 : Fr (RR wb sb db mb nv) h (h5.put wb (some ⟨rwc iv B sb db mb nv2 true, true⟩)) :=
    ((F3.quiet fp).trans f5 (fun b g => .inl (.inr (.inr (.inr (.inr g)))))).trans fw (fun b e => .inl (.inl e))
  generalize h5.put wb (some ⟨rwc iv B sb db mb nv2 true, true⟩) = h6 at *
  clear t3 t3p ow3 ow5 os5 od5 om5 on3 on4 on5 row5 f5 fp ob fw F3 fs F2 f12 f2 f1
  have hcp6 : Cpl B m (ns ++ [(a : Int)]) (sn.set a true) dt := by
    refine ⟨fun i hi => ?_, hcp.2⟩
    rw [getD_setB _ _ _ _ has, hcp.1 i hi, Bool.eq_iff_iff]
    simp only [List.contains_eq_mem, List.mem_append, List.mem_singleton, decide_eq_true_eq]
    by_cases e : i = a
    · subst e; simp
    · rw [if_neg e]
      simp only [decide_eq_true_eq]
      constructor
      · exact .inl
      · rintro (g | g)
        · exact g
        · exact absurd (by omega) e
  have hn6 : (ns ++ [(a : Int)]).length + 8 * rN lv ≤ 100000 ∧ (ns ++ [(a : Int)]).length + 8 * rN lv = ns.length + nN lv := by
    rw [nN_eq] at hns ⊢
    rw [List.length_append, List.length_singleton]; omega
  generalize ns ++ [(a : Int)] = ns6 at *
  generalize sn.set a true = sn6 at *
  -- the span
  refine RunC.seq (RunC.region (RunO.all rfl ?_))
  refine RunC.seqc (fun E' h' => h' = h6 ∧ Le (upd (upd (upd (upd (upd E0 0 (.pointer (some ⟨wb, 0, none⟩))) 2 (.int .i64 (lv : Int))) 3 (.int .i64 (from_ : Int))) 8 (.pointer (some ⟨q, 0, none⟩))) 10 (.int .i64 ((8 ^ lv : Nat) : Int))) E') ?_ ?_
  · refine RunC.seq (RunC.region (RunO.all rfl ?_))
    refine RunC.block ?_
    let I : Nat → Env → Heap → Prop := fun d E h' => ∃ i : Nat, i + d = lv ∧ h' = h6 ∧ Le (upd (upd (upd (upd (upd (upd E0 0 (.pointer (some ⟨wb, 0, none⟩))) 2 (.int .i64 (lv : Int))) 3 (.int .i64 (from_ : Int))) 8 (.pointer (some ⟨q, 0, none⟩))) 10 (.int .i64 ((8 ^ i : Nat) : Int))) 11 (.int .i64 (i : Int))) E
    refine RunC.loop I ?_ (k := lv) ?_
    · rintro d E h' ⟨i, hi, rfl, hE⟩
      refine RunC.le hE ?_
      clear hE
      refine RunC.seq (RunC.seq (RunC.region (RunO.all rfl ?_)))
      refine RunC.cond rfl (fun hlt => ?_) (fun hge => ?_)
      · have hlt := of_decide_eq_true hlt
        have hi8 : 8 ^ i ≤ 64 := by
          have : 8 ^ i ≤ 8 ^ 2 := Nat.pow_le_pow_right (by decide) (by omega)
          exact this
        have hi0 : 1 ≤ 8 ^ i := Nat.pow_pos (by decide)
        refine RunC.skip ?_
        refine RunC.seq (RunC.block ?_)
        refine RunC.region (RunO.part 2 rfl ?_)
        rw [fw64 (x := ((8 ^ i : Nat) : Int) * 8) (by omega) (by omega), show ((8 ^ i : Nat) : Int) * 8 = ((8 ^ (i + 1) : Nat) : Int) by rw [Nat.pow_succ]; omega]
        refine RunO.all rfl ?_
        refine RunC.region (RunO.all rfl ?_)
        exact ⟨d - 1, by omega, i + 1, by omega, rfl, Le.cons (inc64 (by omega)) (Le.cons rfl (Le.cons rfl (Le.cons rfl (Le.cons rfl (Le.cons rfl (Le.nil _))))))⟩
      · have hge := of_decide_eq_false hge
        obtain rfl : i = lv := by omega
        exact RunC.exit ⟨rfl, Le.cons rfl (Le.cons rfl (Le.cons rfl (Le.cons rfl (Le.cons rfl (Le.nil _)))))⟩
    · exact ⟨0, by omega, rfl, Le.cons rfl (Le.cons rfl (Le.cons rfl (Le.cons rfl (Le.cons rfl (Le.cons rfl (Le.nil _))))))⟩
  rintro E' _ ⟨rfl, hE⟩
  refine RunC.le hE ?_
  clear hE
  refine RunC.seq (RunC.region (RunO.all rfl ?_))
  refine RunC.block ?_
  obtain ⟨T, hT⟩ : ∃ T : Nat → TS, T = fun i => (List.range i).foldl (tst L B lv ps from_) (m, ns6, false) := ⟨_, rfl⟩
  have hT8 : (List.range 8).foldl (tst L B lv ps from_) (m, ns6, false) = T 8 := by rw [hT]
  rw [hT8]
  have hTs : ∀ i, T (i + 1) = tst L B lv ps from_ (T i) i := fun i => by rw [hT]; show List.foldl _ _ (List.range (i + 1)) = _; rw [List.range_succ, List.foldl_append]; rfl
  have hTb : ∀ i, i ≤ 8 → (T i).2.2 = true → (T 8).2.2 = true := fun i hi hbi => by
    cases e : (T 8).2.2 with
    | true => rfl
    | false =>
      rw [← hT8] at e
      have := fold_pre e hi
      rw [hT] at hbi
      rw [this] at hbi; cases hbi
  have hTz : ∀ i, i < 8 → (T i).2.2 = false → ∀ s, from_ + i * 8 ^ lv ≤ s → s < from_ + i * 8 ^ lv + 8 ^ lv → (T i).1.getD s 0 = 0 := fun i hi hbi s h1 h2 => by
    have hle : i * 8 ^ lv + 8 ^ lv ≤ 8 ^ lv * 8 := by rw [← Nat.succ_mul, Nat.mul_comm]; exact Nat.mul_le_mul_left _ hi
    rw [hT] at hbi
    have S := fold_spec (N := i) (fun k _ => tgo_spec L B k) hfrom t6.lm hz (by omega) hbi i (Nat.le_refl i)
    have := S.map s (by omega)
    rw [if_neg (by omega), hz s (by omega) (by omega)] at this
    rw [hT]; exact this
  have hT0 : T 0 = (m, ns6, false) := by rw [hT]; rfl
  clear hT
  let I : Nat → Env → Heap → Prop := fun d E h' => ∃ (i : Nat) (nv' : Value) (m' ns' : List Int) (sn' dt' : List Bool) (ok' : Bool), i + d = 8 ∧ RW lo h' iv B wb sb db mb nv' m' ns' sn' dt' ok' ∧ (∀ b, At nv' b → At nv b ∨ h.next ≤ b) ∧ (∀ b, At nv' b → b ≠ q) ∧ ns'.length ≤ ns6.length + i * rN lv ∧ ok' = !(T i).2.2 ∧ (ok' = true → T i = (m', ns', false) ∧ Cpl B m' ns' sn' dt') ∧ Fr (RR wb sb db mb nv) h h' ∧ Ow h' q (nc nl ps) ∧
    Le (upd (upd (upd (upd (upd (upd E0 0 (.pointer (some ⟨wb, 0, none⟩))) 2 (.int .i64 (lv : Int))) 3 (.int .i64 (from_ : Int))) 8 (.pointer (some ⟨q, 0, none⟩))) 10 (.int .i64 ((8 ^ lv : Nat) : Int))) 12 (.int .i64 (i : Int))) E
  refine RunC.loop I ?_ (k := 8) ?_
  · rintro d E h7 ⟨i, nv7, m7, ns7, sn7, dt7, ok7, hi, t7, hr7, hq7, hl7, hok7, hal7, F7, on7, hE⟩
    refine RunC.le hE ?_
    clear hE
    refine RunC.seq (RunC.seq (RunC.region (RunO.all rfl ?_)))
    refine RunC.cond rfl (fun hlt => ?_) (fun hge => ?_)
    · have hlt := of_decide_eq_true hlt
      have hi8 : i < 8 := by omega
      have hps : i < ps.length := by omega
      have hpi : ps.getD i 0 = ps[i] := by rw [List.getD_eq_getElem?_getD, List.getElem?_eq_getElem hps]; rfl
      have hld : apart prog 3 (nc nl ps) (1 + i * 1) = some (.int .i64 ps[i]) := by
        show nth (nc nl ps) (1 + i * 1) = _
        rw [Nat.mul_one, Nat.add_comm]; exact is_nth hps
      have hp02 := hptr _ (List.getElem_mem hps)
      have hstep := hTs i
      unfold tst at hstep
      rw [hpi] at hstep
      have hzi := hTz i hi8
      have hTbi := hTb i (by omega)
      have hTbi1 := hTb (i + 1) (by omega)
      generalize ps[i] = p at *
      have hto : from_ + i * 8 ^ lv + 8 ^ lv ≤ 512 := by
        have : i * 8 ^ lv + 8 ^ lv ≤ 8 ^ lv * 8 := by rw [← Nat.succ_mul, Nat.mul_comm]; exact Nat.mul_le_mul_left _ hi8
        omega
      obtain ⟨to_, hto_⟩ : ∃ t, t = from_ + i * 8 ^ lv := ⟨_, rfl⟩
      rw [← hto_] at hstep hto hzi
      have hrl : ns7.length + rN lv ≤ 100000 := by
        have : i * rN lv + rN lv ≤ 8 * rN lv := by rw [← Nat.succ_mul]; exact Nat.mul_le_mul_right _ hi8
        omega
      have hsuc : (i + 1) * rN lv = i * rN lv + rN lv := Nat.succ_mul ..
      -- what the loop goes on with
      have next : ∀ (h8 : Heap) (nv8 : Value) (m8 ns8 : List Int) (sn8 dt8 : List Bool) (ok8 : Bool), RW lo h8 iv B wb sb db mb nv8 m8 ns8 sn8 dt8 ok8 → (∀ b, At nv8 b → At nv b ∨ h.next ≤ b) → (∀ b, At nv8 b → b ≠ q) → ns8.length ≤ ns7.length + rN lv → ok8 = !(T (i + 1)).2.2 → (ok8 = true → T (i + 1) = (m8, ns8, false) ∧ Cpl B m8 ns8 sn8 dt8) → Fr (RR wb sb db mb nv) h h8 → Ow h8 q (nc nl ps) →
          ∀ E, Le (upd (upd (upd (upd (upd (upd E0 0 (.pointer (some ⟨wb, 0, none⟩))) 2 (.int .i64 (lv : Int))) 3 (.int .i64 (from_ : Int))) 8 (.pointer (some ⟨q, 0, none⟩))) 10 (.int .i64 ((8 ^ lv : Nat) : Int))) 12 (.int .i64 ((i + 1 : Nat) : Int))) E → ∃ d', d' < d ∧ I d' E h8 := by
        intro h8 nv8 m8 ns8 sn8 dt8 ok8 a1 a2 a3 a4 a5 a6 a7 a8 E a9
        exact ⟨d - 1, by omega, i + 1, nv8, m8, ns8, sn8, dt8, ok8, by omega, a1, a2, a3, by omega, a5, a6, a7, a8, a9⟩
      refine RunC.skip ?_
      refine RunC.seq (RunC.block ?_)
      refine RunC.seq (RunC.region (RunO.part 2 rfl ?_))
      refine RunO.indexA (s := 1) rfl rfl rfl rfl rfl hi8 rfl ?_
      refine RunO.load (v := .int .i64 p) rfl (on7.ld hld) rfl (RunO.all rfl ?_)
      refine RunC.seq (RunC.seq (RunC.region (RunO.all rfl ?_)))
      by_cases hp0 : p = 0
      · subst hp0
        have hT1 : T (i + 1) = T i := by rw [hstep]; exact tstep_none hB1
        rw [← hT1] at hok7 hal7
        refine RunC.cond rfl (fun _ => RunC.exit ?_) (fun g => by cases g)
        exact RunC.region (RunO.all rfl (next h7 nv7 m7 ns7 sn7 dt7 ok7 t7 hr7 hq7 (by omega) hok7 hal7 F7 on7 _ (Le.cons (inc64 (by omega)) (Le.cons rfl (Le.cons rfl (Le.cons rfl (Le.cons rfl (Le.cons rfl (Le.nil _)))))))))
      rw [show (p == 0) = false from beq_eq_false_iff_ne.2 hp0]
      refine RunC.cond rfl (fun g => by cases g) (fun _ => RunC.skip ?_)
      obtain ⟨pn, rfl⟩ := Int.eq_ofNat_of_zero_le (show 0 ≤ p by omega)
      have ow7 := t7.ow
      refine RunC.seq (RunC.seq (RunC.region (RunO.part 4 rfl ?_)))
      refine RunO.load (v := .int .i64 (B : Int)) rfl (ow7.ld rfl) rfl (RunO.all rfl ?_)
      by_cases hpB : B ≤ pn
      · -- beyond the device
        have hbadi : (T (i + 1)).2.2 = true := by
          rw [hstep]
          unfold tstep
          split
          · assumption
          · rw [if_pos (by rw [decide_eq_true_eq]; omega)]
        rw [show decide ((pn : Int) ≥ (B : Int)) = true from decide_eq_true (by omega)]
        refine RunC.cond rfl (fun _ => ?_) (fun g => by cases g)
        obtain ⟨h8, e1, e2⟩ := hbad (T := T 8) t7 F7 hr7 (by
          have : i * rN lv ≤ 8 * rN lv := Nat.mul_le_mul_right _ (by omega)
          omega) (hTbi1 hbadi)
        refine RunC.seq (RunC.region (RunO.part 3 rfl ?_))
        refine RunO.store rfl rfl e1 (RunO.all rfl ?_)
        exact RunC.ret ⟨_, rfl, e2⟩
      rw [show decide ((pn : Int) ≥ (B : Int)) = false from decide_eq_false (by omega)]
      refine RunC.cond rfl (fun g => by cases g) (fun _ => RunC.skip ?_)
      have hgo : (T i).2.2 = false → T (i + 1) = if (lv == 0) = true then ((T i).1.set to_ (pn : Int), (T i).2.1, (T i).2.2) else trec L B lv (pn : Int) to_ (T i) := fun hbi => by
        rw [hstep]
        unfold tstep
        rw [if_neg (by rw [hbi]; exact Bool.false_ne_true), if_neg (by rw [decide_eq_true_eq]; omega), show ((pn : Int) != 0) = true from bne_iff_ne.2 hp0]
        cases (lv == 0) <;> rfl
      have hdead : (T i).2.2 = true → (T (i + 1)).2.2 = true := fun hbi => by
        rw [hstep]
        unfold tstep
        rw [if_pos hbi]; exact hbi
      refine RunC.seq (RunC.seq (RunC.region (RunO.all rfl ?_)))
      cases hl0 : lv == 0 with
      | true =>
        have hl00 : lv = 0 := beq_iff_eq.1 hl0
        rw [show ((lv : Int) == 0) = true from beq_iff_eq.2 (by omega)]
        refine RunC.cond rfl (fun _ => ?_) (fun g => by cases g)
        have e8 : 8 ^ lv = 1 := by rw [hl00]
        have hmt : to_ < m7.length := by rw [t7.lm]; omega
        have htoi : (from_ : Int) + (i : Int) = (to_ : Int) := by rw [hto_, e8]; omega
        refine RunC.seq (RunC.region (RunO.part 3 rfl ?_))
        refine RunO.load (v := .slice (some ⟨mb, 0, none⟩) 512 (exc 512)) rfl (ow7.ld rfl) rfl ?_
        refine RunO.part 3 rfl ?_
        rw [htoi, fw64 (x := (to_ : Int)) (by omega) (by omega)]
        refine RunO.part 1 rfl ?_
        refine RunO.index (s := 1) rfl rfl rfl rfl (by have := t7.lm; omega) rfl ?_
        refine RunO.store rfl rfl (store1_ow t7.om rfl rfl rfl (by rw [is_len]; simpa using hmt)) (RunO.nil ?_)
        have ei : (is m7).set (0 + to_ * 1) (.int .i64 (pn : Int)) = is (m7.set to_ (pn : Int)) := by rw [Nat.zero_add, Nat.mul_one]; unfold is; rw [List.map_set]
        rw [ei]
        have fm : Fr (· = mb) h7 (h7.put mb (some ⟨is (m7.set to_ (pn : Int)), true⟩)) := Fr.put _ (.inl rfl)
        have t8 : RW lo (h7.put mb (some ⟨is (m7.set to_ (pn : Int)), true⟩)) iv B wb sb db mb nv7 (m7.set to_ (pn : Int)) ns7 sn7 dt7 ok7 :=
          ⟨t7.ow.fr fm rb.wm, t7.os.fr fm rb.sm, t7.od.fr fm rb.dm, Ow.put _ t7.om.1, t7.row.fr fm (fun b h1 _ e => by have := rb.m; omega), by rw [List.length_set]; exact t7.lm, t7.ls, t7.ld, t7.ln⟩
        have on8 := on7.fr fm (show ¬ q = mb by have := rb.m; omega)
        have F8 : Fr (RR wb sb db mb nv) h (h7.put mb (some ⟨is (m7.set to_ (pn : Int)), true⟩)) := F7.trans fm (fun b e => .inl (.inr (.inr (.inr (.inl e)))))
        generalize h7.put mb (some ⟨is (m7.set to_ (pn : Int)), true⟩) = h8 at *
        have ow8 := t8.ow
        have hpd : pn < dt7.length := by rw [t8.ld]; omega
        refine RunC.seq (RunC.region (RunO.part 3 rfl ?_))
        refine RunO.load (v := .slice (some ⟨db, 0, none⟩) B (exc B)) rfl (ow8.ld rfl) rfl ?_
        refine RunO.part 1 rfl ?_
        refine RunO.index (s := 1) rfl rfl rfl rfl (show pn < B by omega) rfl ?_
        refine RunO.store rfl rfl (store1_ow t8.od rfl rfl rfl (by rw [bs_len]; omega)) (RunO.nil ?_)
        rw [show (bs dt7).set (0 + pn * 1) (.bool true) = bs (dt7.set pn true) by rw [Nat.zero_add, Nat.mul_one, bs_set]]
        have fd : Fr (· = db) h8 (h8.put db (some ⟨bs (dt7.set pn true), true⟩)) := Fr.put _ (.inl rfl)
        have t9 : RW lo (h8.put db (some ⟨bs (dt7.set pn true), true⟩)) iv B wb sb db mb nv7 (m7.set to_ (pn : Int)) ns7 sn7 (dt7.set pn true) ok7 :=
          ⟨t8.ow.fr fd rb.wd, t8.os.fr fd rb.sd, Ow.put _ t8.od.1, t8.om.fr fd (fun e => rb.dm e.symm), t8.row.fr fd (fun b h1 _ e => by have := rb.d; omega), t8.lm, t8.ls, by rw [List.length_set]; exact t8.ld, t8.ln⟩
        have on9 := on8.fr fd (show ¬ q = db by have := rb.d; omega)
        have F9 : Fr (RR wb sb db mb nv) h (h8.put db (some ⟨bs (dt7.set pn true), true⟩)) := F8.trans fd (fun b e => .inl (.inr (.inr (.inl e))))
        refine RunC.exit ?_
        refine RunC.region (RunO.all rfl (next _ nv7 _ ns7 sn7 _ ok7 t9 hr7 hq7 (by omega) ?_ ?_ F9 on9 _ (Le.cons (inc64 (by omega)) (Le.cons rfl (Le.cons rfl (Le.cons rfl (Le.cons rfl (Le.cons rfl (Le.nil _)))))))))
        · rw [hok7]
          cases hbi : (T i).2.2 with
          | true => rw [hdead hbi]
          | false => rw [hgo hbi, if_pos hl0]; show (!false) = !(T i).2.2; rw [hbi]
        · intro hok
          have hbi : (T i).2.2 = false := by rw [hok] at hok7; cases e : (T i).2.2 with
            | false => rfl
            | true => rw [e] at hok7; cases hok7
          obtain ⟨g1, g2, g3⟩ := hal7 hok
          rw [hgo hbi, if_pos hl0, g1]
          refine ⟨rfl, g2, fun x hx hxB => ?_⟩
          have hz0 : m7.getD to_ 0 = 0 := by
            have := hzi hbi to_ (Nat.le_refl _) (by omega)
            rwa [g1] at this
          rw [getD_setB _ _ _ _ hpd, contains_set0 hmt hz0 (by omega), g3 x hx hxB]
          by_cases e : x = pn
          · subst e; simp
          · rw [if_neg e, show ((x : Int) == (pn : Int)) = false from beq_eq_false_iff_ne.2 (by omega)]; rfl
      | false =>
        obtain ⟨k, rfl⟩ : ∃ k, lv = k + 1 := by
          cases lv with
          | zero => cases hl0
          | succ k => exact ⟨k, rfl⟩
        rw [show (((k + 1 : Nat) : Int) == 0) = false from beq_eq_false_iff_ne.2 (by omega)]
        refine RunC.cond rfl (fun g => by cases g) (fun _ => RunC.skip ?_)
        refine RunC.region (RunO.part 3 rfl ?_)
        refine RunO.part 1 rfl ?_
        rw [fw64 (x := ((k + 1 : Nat) : Int) - 1) (by omega) (by omega), show ((k + 1 : Nat) : Int) - 1 = (k : Int) by omega]
        refine RunO.part 3 rfl ?_
        refine RunO.part 1 rfl ?_
        have hmul : (i : Int) * ((8 ^ (k + 1) : Nat) : Int) = ((i * 8 ^ (k + 1) : Nat) : Int) := by rw [Int.natCast_mul]
        rw [hmul, fw64 (x := ((i * 8 ^ (k + 1) : Nat) : Int)) (by omega) (by omega)]
        refine RunO.part 1 rfl ?_
        rw [fw64 (x := (from_ : Int) + ((i * 8 ^ (k + 1) : Nat) : Int)) (by omega) (by omega), show (from_ : Int) + ((i * 8 ^ (k + 1) : Nat) : Int) = (to_ : Int) by omega]
        cases hok : ok7 with
        | false =>
          rw [hok] at t7 hok7
          have hbi : (T i).2.2 = true := by
            cases e : (T i).2.2 with
            | true => rfl
            | false => rw [e] at hok7; cases hok7
          refine RunO.callD (rnode_dead rb t7) rfl rfl rfl ?_
          rintro _ h8 ⟨rfl, t8, f8⟩
          have on8 := on7.fr f8 (by
            have := rb.w; have := rb.s; have := rb.d; have := rb.m
            rintro (e | e | e | e | e)
            · omega
            · omega
            · omega
            · omega
            · exact hq7 _ e rfl)
          have F8 : Fr (RR wb sb db mb nv) h h8 := F7.trans f8 (fun b g => by
            rcases g with g | g | g | g | g
            · exact .inl (.inl g)
            · exact .inl (.inr (.inl g))
            · exact .inl (.inr (.inr (.inl g)))
            · exact .inl (.inr (.inr (.inr (.inl g))))
            · exact (hr7 b g).imp (fun g => .inr (.inr (.inr (.inr g)))) id)
          refine RunO.all rfl ?_
          exact RunC.region (RunO.all rfl (next h8 nv7 m7 ns7 sn7 dt7 false t8 hr7 hq7 (by omega) (by rw [hdead hbi]; rfl) (fun g => by cases g) F8 on8 _ (Le.cons (inc64 (by omega)) (Le.cons rfl (Le.cons rfl (Le.cons rfl (Le.cons rfl (Le.cons rfl (Le.nil _)))))))))
        | true =>
          rw [hok] at t7 hok7
          have hbi : (T i).2.2 = false := by
            cases e : (T i).2.2 with
            | false => rfl
            | true => rw [e] at hok7; cases hok7
          obtain ⟨g1, g2⟩ := hal7 hok
          have hM : Fr (RM lo wb sb db mb) h h7 := F7.weak (fun b g => by
            rcases g with g | g | g | g | g
            · exact .inl (.inl g)
            · exact .inl (.inr (.inl g))
            · exact .inl (.inr (.inr (.inl g)))
            · exact .inl (.inr (.inr (.inr (.inl g))))
            · exact .inl (.inr (.inr (.inr (.inr (hat b g))))))
          refine RunO.callD (hrec k rfl (at_ := (pn : Int)) (from_ := to_) (sl_rm sl hiv hM) t7 g2 hrl hto (fun s h1 h2 => by have := hzi hbi s h1 h2; rwa [g1] at this)) rfl rfl rfl ?_
          rintro _ h8 ⟨rfl, f8, nv8, m8, ns8, sn8, dt8, ok8, t8, r8, l8, o8, a8⟩
          have hT1 : T (i + 1) = tgo L B k (pn : Int) to_ (m7, ns7, false) := by rw [hgo hbi, if_neg (by rw [hl0]; exact Bool.false_ne_true), g1]; rfl
          rw [← hT1] at o8 a8
          have on8 := on7.fr f8 (by
            have := rb.w; have := rb.s; have := rb.d; have := rb.m
            rintro (e | e | e | e | e)
            · omega
            · omega
            · omega
            · omega
            · exact hq7 _ e rfl)
          have F8 : Fr (RR wb sb db mb nv) h h8 := F7.trans f8 (fun b g => by
            rcases g with g | g | g | g | g
            · exact .inl (.inl g)
            · exact .inl (.inr (.inl g))
            · exact .inl (.inr (.inr (.inl g)))
            · exact .inl (.inr (.inr (.inr (.inl g))))
            · exact (hr7 b g).imp (fun g => .inr (.inr (.inr (.inr g)))) id)
          have hq8 : ∀ b, At nv8 b → b ≠ q := fun b g => by
            rcases r8 b g with e | e
            · exact hq7 b e
            · have := on7.1; omega
          have hr8 : ∀ b, At nv8 b → At nv b ∨ h.next ≤ b := fun b g => by
            rcases r8 b g with e | e
            · exact hr7 b e
            · exact .inr (Nat.le_trans F7.next e)
          refine RunO.all rfl ?_
          exact RunC.region (RunO.all rfl (next h8 nv8 m8 ns8 sn8 dt8 ok8 t8 hr8 hq8 l8 o8 a8 F8 on8 _ (Le.cons (inc64 (by omega)) (Le.cons rfl (Le.cons rfl (Le.cons rfl (Le.cons rfl (Le.cons rfl (Le.nil _)))))))))
    · have hge := of_decide_eq_false hge
      obtain rfl : i = 8 := by omega
      refine RunC.exit ?_
      exact ⟨_, rfl, rfl, F7, nv7, m7, ns7, sn7, dt7, ok7, t7, hr7, by omega, hok7, hal7⟩
  · refine ⟨0, nv2, m, ns6, sn6, dt, true, by omega, t6, fun b g => .inr ?_, fun b g => ?_, by omega, by rw [hT0]; rfl, fun _ => ⟨hT0, hcp6⟩, F6, on6, Le.cons rfl (Le.cons rfl (Le.cons rfl (Le.cons rfl (Le.cons rfl (Le.cons rfl (Le.nil _))))))⟩
    · have := hnv2 b g; omega
    · have := hnv2 b g; omega
theorem rnode_ok {L : List Int} {B lo wb sb db mb : Nat} {iv : Value} (hb : Byt L) (hB : B * 64 ≤ L.length) (hB1 : 1 ≤ B) (hB2 : B ≤ 4096) (hm : L.length ≤ 4611686018427387904) (rb : RB lo wb sb db mb) (hiv : ∀ b o c, iv = .slice (some ⟨b, o, none⟩) L.length c → ¬ RM lo wb sb db mb b) : ∀ (lv : Nat), lv ≤ 2 → RNodeOk L B lo wb sb db mb iv lv := by
  intro lv
  induction lv with
  | zero => intro h; exact rnode_body hb hB hB1 hB2 hm rb hiv h (fun k e => by cases e)
  | succ k ih =>
    intro h
    exact rnode_body hb hB hB1 hB2 hm rb hiv h (fun j e => by cases e; exact ih (by omega))
end Go.Proofs.Ytimefcnagilhlaa
end
section
set_option linter.unusedVariables false
set_option maxRecDepth 100000
open Go Go.Am Go.RowKit
namespace Go.Proofs.Ytimefcnagilhlaa
open Go.Proofs.Try
theorem reps_bs (n : Nat) : reps (cellsOf (Value.bool false)) n = bs (List.replicate n false) := by
  rw [show cellsOf (Value.bool false) = [.bool false] from rfl, reps_one]; unfold bs; rw [List.map_replicate]
theorem reps_is0 (n : Nat) : reps (cellsOf (Value.int .i64 0)) n = is (List.replicate n 0) := by
  rw [show cellsOf (Value.int .i64 0) = [.int .i64 0] from rfl, reps_one]; unfold is; rw [List.map_replicate]
theorem getD_rep {α : Type} (x d : α) (n i : Nat) (h : x = d) : (List.replicate n x).getD i d = d := by
  rw [List.getD_eq_getElem?_getD, List.getElem?_replicate]; split
  · exact h
  · rfl
def rz : List Value := [.slice none 0 0, .int .i64 0, .slice none 0 0, .slice none 0 0, .slice none 0 0, .slice none 0 0, .bool false]
/-- No block is a node's and a sector's. -/
def apartB (sn dt : List Bool) (i : Nat) : Bool := !sn.getD i false || !dt.getD i false
theorem treeApart {L : List Int} {B : Nat} {root : Int} {m ns : List Int} {sn dt : List Bool} (S : TSpec L B 2 root 0 (List.replicate 512 0, [], false) (m, ns, false)) (c : Cpl B m ns sn dt) : (!false && !(m.any fun b => ns.contains b)) = (true && (List.range B).all (apartB sn dt)) := by
  rw [Bool.not_false, Bool.true_and, Bool.true_and, Bool.eq_iff_iff, Bool.not_eq_true', List.any_eq_false, List.all_eq_true]
  have hns : ∀ x, x ∈ ns → 2 ≤ x ∧ x < B := fun x hx => by
    rcases S.all x hx with g | ⟨k, _, g⟩
    · cases g
    · exact atIs_ne g
  constructor
  · intro H i hi
    rw [List.mem_range] at hi
    unfold apartB
    rw [c.1 i hi]
    cases hc : ns.contains (i : Int) with
    | false => rfl
    | true =>
      have hin : (i : Int) ∈ ns := by simpa using hc
      rw [c.2 i (by have := hns _ hin; omega) hi]
      cases hd : m.contains (i : Int) with
      | false => rfl
      | true =>
        have him : (i : Int) ∈ m := by simpa using hd
        exact absurd hc (H _ him)
  · intro H x hx hc
    have hin : x ∈ ns := by simpa using hc
    have hb := hns x hin
    obtain ⟨i, rfl⟩ := Int.eq_ofNat_of_zero_le (show 0 ≤ x by omega)
    have := H i (List.mem_range.2 (by omega))
    unfold apartB at this
    rw [c.1 i (by omega), c.2 i (by omega) (by omega), hc, show m.contains (i : Int) = true by simpa using hx] at this
    cases this
set_option maxHeartbeats 8000000 in
theorem refTree_ok {h : Heap} {iv : Value} {L : List Int} {root : Int} (sl : Sl h iv 1 L.length (us L)) (hb : Byt L) (hd : devOk L.length = true) :
    RunF prog 23 [iv, .int .i64 root] h fun v h' => Fr no h h' ∧ ((treeOk L root = true ∧ ∃ mb nv, h.next ≤ mb ∧ v = .tuple #[.slice (some ⟨mb, 0, none⟩) 512 (exc 512), nv, .bool true] ∧ Ow h' mb (is (treeM L root)) ∧ Row h.next h' nv 1 (treeN L root).length (is (treeN L root))) ∨ (treeOk L root = false ∧ v = .tuple #[.slice none 0 0, .slice none 0 0, .bool false])) := by
  have hdl : L.length % 64 = 0 ∧ 4 ≤ L.length / 64 ∧ L.length / 64 ≤ 4096 := by
    unfold devOk at hd
    simpa using hd
  have hm : L.length ≤ 4611686018427387904 := by omega
  refine RunF.walk func23 rfl rfl ?_
  have sl0 := sl
  obtain ⟨A, c, rfl, hc, hA⟩ := sl.form
  have hAlt : ∀ b o c', Value.slice A L.length c = .slice (some ⟨b, o, none⟩) L.length c' → b < h.next := fun b o c' e => by
    obtain ⟨b', o', rfl, rd⟩ := hA (by omega)
    cases e; exact rd.2.1
  refine RunC.seq (RunC.region (RunO.all rfl ?_))
  refine RunC.seq (RunC.region (RunO.part 1 rfl ?_))
  refine RunO.callD (refBlocks_ok sl hm) rfl rfl rfl ?_
  rintro _ _ ⟨rfl, rfl⟩
  refine RunO.all rfl ?_
  have hTW : ∀ x, treeW L x = tgo L (L.length / 64) 2 x 0 (List.replicate 512 0, [], false) := fun x => rfl
  obtain ⟨B, hBe⟩ : ∃ B, B = L.length / 64 := ⟨_, rfl⟩
  rw [← hBe] at hdl hTW ⊢
  refine RunC.seq (RunC.draw0 rfl ?_)
  refine RunO.part 3 rfl ?_
  refine RunO.make (m := B) rfl rfl rfl rfl rfl rfl (show 1 * B ≤ _ by omega) (by omega) rfl ?_
  rw [reps_bs]
  have os := Ow.push h (bs (List.replicate B false))
  have f1 : Fr no h (h.push ⟨bs (List.replicate B false), true⟩) := Fr.push _ _ _
  have hn1 : (h.push ⟨bs (List.replicate B false), true⟩).next = h.next + 1 := rfl
  generalize h.push ⟨bs (List.replicate B false), true⟩ = h1 at *
  generalize hsb : h.next = sb at os hn1 ⊢
  refine RunO.part 1 rfl ?_
  refine RunO.make (m := B) rfl rfl rfl rfl rfl rfl (show 1 * B ≤ _ by omega) (by omega) rfl ?_
  rw [reps_bs]
  have od := Ow.push h1 (bs (List.replicate B false))
  have f2 : Fr no h1 (h1.push ⟨bs (List.replicate B false), true⟩) := Fr.push _ _ _
  have hn2 : (h1.push ⟨bs (List.replicate B false), true⟩).next = h1.next + 1 := rfl
  replace os := os.fr f2 (fun g => g)
  generalize h1.push ⟨bs (List.replicate B false), true⟩ = h2 at *
  generalize hdb : h1.next = db at od hn2 ⊢
  refine RunO.make (m := 512) rfl rfl rfl rfl rfl rfl (Nat.le_of_ble_eq_true rfl) (by decide) rfl ?_
  rw [reps_is0]
  have om := Ow.push h2 (is (List.replicate 512 0))
  have f3 : Fr no h2 (h2.push ⟨is (List.replicate 512 0), true⟩) := Fr.push _ _ _
  have hn3 : (h2.push ⟨is (List.replicate 512 0), true⟩).next = h2.next + 1 := rfl
  replace os := os.fr f3 (fun g => g)
  replace od := od.fr f3 (fun g => g)
  generalize h2.push ⟨is (List.replicate 512 0), true⟩ = h3 at *
  generalize hmb : h2.next = mb at om hn3 ⊢
  refine RunO.part 2 (h1 := h3.push ⟨rz, true⟩) rfl ?_
  obtain ⟨iv, hive⟩ : ∃ iv, iv = Value.slice A L.length c := ⟨_, rfl⟩
  rw [← hive] at sl0 hAlt ⊢
  have hcl : (cellsOf (.agg ⟨rwc iv B sb db mb (.slice none 0 0) true⟩)).length = 7 := rfl
  have hac : allCells (cellsOf (.agg ⟨rwc iv B sb db mb (.slice none 0 0) true⟩)) = true := by
    rw [hive]; rfl
  refine RunO.store rfl rfl (store_ow (s := 7) (v := .agg ⟨rwc iv B sb db mb (.slice none 0 0) true⟩) (Ow.push h3 rz) rfl hcl hac (Nat.le_refl 7)) (RunO.nil ?_)
  change RunC _ _ _ _ ((h3.push ⟨rz, true⟩).put h3.next (some ⟨rwc iv B sb db mb (.slice none 0 0) true, true⟩)) _ _ _
  have ow : Ow ((h3.push ⟨rz, true⟩).put h3.next (some ⟨rwc iv B sb db mb (.slice none 0 0) true, true⟩)) h3.next (rwc iv B sb db mb (.slice none 0 0) true) := Ow.put _ (Nat.lt_succ_self _)
  have f4 : Fr no h3 ((h3.push ⟨rz, true⟩).put h3.next (some ⟨rwc iv B sb db mb (.slice none 0 0) true, true⟩)) := (Fr.push _ _ _).trans (Fr.put (m := (· = h3.next)) _ (.inl rfl)) (fun j hj => .inr (by omega))
  have hn4 : ((h3.push ⟨rz, true⟩).put h3.next (some ⟨rwc iv B sb db mb (.slice none 0 0) true, true⟩)).next = h3.next + 1 := rfl
  replace os := os.fr f4 (fun g => g)
  replace od := od.fr f4 (fun g => g)
  replace om := om.fr f4 (fun g => g)
  have f14 := ((f1.same f2).same f3).same f4
  generalize (h3.push ⟨rz, true⟩).put h3.next (some ⟨rwc iv B sb db mb (.slice none 0 0) true, true⟩) = h4 at *
  generalize h3.next = wb at *
  have rb : RB h4.next wb sb db mb := ⟨by omega, by omega, by omega, by omega, by omega, by omega, by omega, by omega, by omega, by omega⟩
  have t4 : RW h4.next h4 iv B wb sb db mb (.slice none 0 0) (List.replicate 512 0) [] (List.replicate B false) (List.replicate B false) true := ⟨ow, os, od, om, Row.nil _ _ _, List.length_replicate, List.length_replicate, List.length_replicate, Nat.le_refl _⟩
  have hiv : ∀ b o c, iv = .slice (some ⟨b, o, none⟩) L.length c → ¬ RM h4.next wb sb db mb b := fun b o c e => by
    have := hAlt b o c e
    rintro (e | e | e | e | e) <;> omega
  have hcp : Cpl B (List.replicate 512 0) [] (List.replicate B false) (List.replicate B false) := by
    refine ⟨fun i hi => getD_rep _ _ _ _ rfl, fun i h0 hi => ?_⟩
    rw [getD_rep _ _ _ _ rfl, eq_comm, ← Bool.not_eq_true]
    simp only [List.contains_eq_mem, decide_eq_true_eq, List.mem_replicate]
    omega
  have sl4 := sl0.fr0 f14
  refine RunC.seq (RunC.seq (RunC.region (RunO.all rfl ?_)))
  by_cases hr : root = 0
  · have h1 : treeOk L root = true := by unfold treeOk; rw [hr]; rfl
    have h2 : treeM L root = List.replicate 512 0 := by unfold treeM; rw [hr]; rfl
    have h3' : treeN L root = [] := by unfold treeN; rw [hr]; rfl
    rw [h1, h2, h3']
    subst hr
    refine RunC.cond rfl (fun _ => ?_) (fun g => by cases g)
    refine RunC.seq (RunC.region (RunO.part 1 rfl ?_))
    refine RunO.load (v := .slice (some ⟨mb, 0, none⟩) 512 (exc 512)) rfl (ow.ld rfl) rfl (RunO.all rfl ?_)
    exact RunC.ret ⟨_, rfl, f14, .inl ⟨rfl, mb, _, by omega, rfl, om, Row.nil _ _ _⟩⟩
  rw [show (root == 0) = false from beq_eq_false_iff_ne.2 hr]
  refine RunC.cond rfl (fun g => by cases g) (fun _ => RunC.skip ?_)
  have hTok : treeOk L root = (!(treeW L root).2.2 && !((treeW L root).1.any fun b => (treeW L root).2.1.contains b)) := by unfold treeOk; rw [show (root == 0) = false from beq_eq_false_iff_ne.2 hr]; rfl
  have hTm : treeM L root = (treeW L root).1 := by unfold treeM; rw [show (root == 0) = false from beq_eq_false_iff_ne.2 hr]; rfl
  have hTn : treeN L root = (treeW L root).2.1 := by unfold treeN; rw [show (root == 0) = false from beq_eq_false_iff_ne.2 hr]; rfl
  rw [hTok, hTm, hTn, hTW]
  have hspec := tgo_spec L B 2 root 0 (List.replicate 512 0, [], false) (by decide) List.length_replicate rfl (fun s _ _ => getD_rep _ _ _ _ rfl)
  refine RunC.seq (RunC.region (RunO.part 1 rfl ?_))
  refine RunO.callD (rnode_ok hb (by omega) (by omega) hdl.2.2 hm rb hiv 2 (by decide) (at_ := root) (from_ := 0) sl4 t4 hcp (by decide) (by decide) (fun s _ _ => getD_rep _ _ _ _ rfl)) rfl rfl rfl ?_
  rintro _ h5 ⟨rfl, f5, nv, m, ns, sn, dt, ok, t5, hr5, hl5, hok, hal⟩
  refine RunO.nil ?_
  have F5 : Fr no h h5 := f14.trans f5 (fun b g => .inr (by
    rcases g with e | e | e | e | ⟨n, c, e⟩
    · omega
    · omega
    · omega
    · omega
    · cases e))
  have hw : wb < h5.next := t5.ow.1
  -- what is to be found
  have goal : (!(tgo L B 2 root 0 (List.replicate 512 0, [], false)).2.2 && !((tgo L B 2 root 0 (List.replicate 512 0, [], false)).1.any fun b => (tgo L B 2 root 0 (List.replicate 512 0, [], false)).2.1.contains b)) = (ok && (List.range B).all (apartB sn dt)) := by
    rw [← hok]
    cases hk : ok with
    | false => rfl
    | true =>
      obtain ⟨g1, g2⟩ := hal hk
      have S := hspec (by rw [hk] at hok; cases e : (tgo L B 2 root 0 (List.replicate 512 0, [], false)).2.2 with
        | false => rfl
        | true => rw [e] at hok; cases hok)
      rw [g1] at S ⊢
      exact treeApart S g2
  rw [goal]
  have hmn : ok = true → (tgo L B 2 root 0 (List.replicate 512 0, [], false)).1 = m ∧ (tgo L B 2 root 0 (List.replicate 512 0, [], false)).2.1 = ns := fun hk => by rw [(hal hk).1]; exact ⟨rfl, rfl⟩
  generalize tgo L B 2 root 0 (List.replicate 512 0, [], false) = TT at *
  refine RunC.seqc (fun E' h' => ∃ ok', RW h4.next h' iv B wb sb db mb nv m ns sn dt ok' ∧ ok' = (ok && (List.range B).all (apartB sn dt)) ∧ Fr (· = wb) h5 h' ∧ Le (upd (upd E0 7 (.int .i64 (B : Int))) 9 (.pointer (some ⟨wb, 0, none⟩))) E') ?_ ?_
  · refine RunC.seq (RunC.region (RunO.all rfl ?_))
    refine RunC.block ?_
    let I : Nat → Env → Heap → Prop := fun d E h' => ∃ (i : Nat) (ok' : Bool), i + d = B ∧ RW h4.next h' iv B wb sb db mb nv m ns sn dt ok' ∧ ok' = (ok && (List.range i).all (apartB sn dt)) ∧ Fr (· = wb) h5 h' ∧ Le (upd (upd (upd E0 7 (.int .i64 (B : Int))) 9 (.pointer (some ⟨wb, 0, none⟩))) 10 (.int .i64 (i : Int))) E
    refine RunC.loop I ?_ (k := B) ?_
    · rintro d E h6 ⟨i, ok', hi, t6, ho, F6, hE⟩
      refine RunC.le hE ?_
      clear hE
      have ow6 := t6.ow
      refine RunC.seq (RunC.seq (RunC.region (RunO.part 4 rfl ?_)))
      by_cases hlt : i < B
      case neg =>
        rw [show decide ((i : Int) < (B : Int)) = false from decide_eq_false (by omega)]
        refine RunO.all rfl ?_
        obtain rfl : i = B := by omega
        exact RunC.cond rfl (fun g => by cases g) (fun _ => RunC.exit ⟨ok', t6, ho, F6, Le.cons rfl (Le.cons rfl (Le.nil _))⟩)
      rw [show decide ((i : Int) < (B : Int)) = true from decide_eq_true (by omega)]
      refine RunO.part 1 rfl ?_
      refine RunO.loadG (v := .bool ok') rfl rfl (ow6.ld rfl) rfl (RunO.all rfl ?_)
      cases hk : ok' with
      | false =>
        refine RunC.cond rfl (fun g => by cases g) (fun _ => RunC.exit ⟨false, hk ▸ t6, ?_, F6, Le.cons rfl (Le.cons rfl (Le.nil _))⟩)
        rw [hk] at ho
        cases ok with
        | false => rfl
        | true =>
          rw [Bool.true_and] at ho ⊢
          have := List.all_eq_false.1 ho.symm
          obtain ⟨x, hx, hx2⟩ := this
          exact (List.all_eq_false.2 ⟨x, List.mem_range.2 (by have := List.mem_range.1 hx; omega), hx2⟩).symm
      | true =>
        rw [hk] at t6 ho
        refine RunC.cond rfl (fun _ => RunC.skip ?_) (fun g => by cases g)
        have hs : i < sn.length := by rw [t6.ls]; exact hlt
        have hdl' : i < dt.length := by rw [t6.ld]; exact hlt
        have sls : Sl h6 (.slice (some ⟨sb, 0, none⟩) B (exc B)) 1 B (bs sn) := t6.os.all.sl (by rw [bs_len, t6.ls, Nat.mul_one]) (by omega) (Cp.exc (Nat.le_refl _))
        have sld : Sl h6 (.slice (some ⟨db, 0, none⟩) B (exc B)) 1 B (bs dt) := t6.od.all.sl (by rw [bs_len, t6.ld, Nat.mul_one]) (by omega) (Cp.exc (Nat.le_refl _))
        have hap : apartB sn dt i = (!sn[i] || !dt[i]) := by
          unfold apartB
          rw [List.getD_eq_getElem?_getD, List.getElem?_eq_getElem hs, List.getD_eq_getElem?_getD, List.getElem?_eq_getElem hdl']; rfl
        have ho2 : (!sn[i] || !dt[i]) = (ok && (List.range (i + 1)).all (apartB sn dt)) := by
          rw [List.range_succ, List.all_append, ← Bool.and_assoc, ← ho, Bool.true_and]
          show _ = (apartB sn dt i && true)
          rw [Bool.and_true, hap]
        obtain ⟨e1, e2, e3⟩ := t6.fail rb (!sn[i] || !dt[i])
        have f7 : Fr (· = wb) h5 (h6.put wb (some ⟨rwc iv B sb db mb nv (!sn[i] || !dt[i]), true⟩)) := F6.same (Fr.put _ (.inl rfl))
        have hI : ∀ E, Le (upd (upd (upd E0 7 (.int .i64 (B : Int))) 9 (.pointer (some ⟨wb, 0, none⟩))) 10 (.int .i64 ((i + 1 : Nat) : Int))) E → ∃ d', d' < d ∧ I d' E (h6.put wb (some ⟨rwc iv B sb db mb nv (!sn[i] || !dt[i]), true⟩)) :=
          fun E hE => ⟨d - 1, by omega, i + 1, _, by omega, e2, ho2, f7, hE⟩
        have hbs := bs_part hs
        have hbd := bs_part hdl'
        clear ho2 hap e2 e3
        refine RunC.seq (RunC.block ?_)
        refine RunC.region (RunO.part 1 rfl ?_)
        refine RunO.load (v := .slice (some ⟨sb, 0, none⟩) B (exc B)) rfl (ow6.ld rfl) rfl ?_
        refine RunO.part 1 rfl ?_
        refine RunO.at (s := 1) (k := i) (u := .bool sn[i]) rfl rfl sls rfl rfl hlt hbs rfl rfl rfl ?_
        refine RunO.part 2 rfl ?_
        generalize sn[i] = x at *
        generalize dt[i] = y at *
        cases x with
        | false =>
          refine RunO.part 7 rfl ?_
          refine RunO.part 1 rfl ?_
          refine RunO.store rfl rfl e1 (RunO.nil ?_)
          exact RunC.region (RunO.all rfl (hI _ (Le.cons (inc64 (by omega)) (Le.cons rfl (Le.cons rfl (Le.nil _))))))
        | true =>
          refine RunO.part 1 rfl ?_
          refine RunO.loadG (v := .slice (some ⟨db, 0, none⟩) B (exc B)) rfl rfl (ow6.ld rfl) rfl ?_
          refine RunO.part 1 rfl ?_
          refine RunO.atG (s := 1) (k := i) (u := .bool y) rfl (fun _ => rfl) rfl rfl sld rfl rfl hlt hbd rfl rfl rfl ?_
          refine RunO.part 3 rfl ?_
          refine RunO.store rfl rfl e1 (RunO.nil ?_)
          exact RunC.region (RunO.all rfl (hI _ (Le.cons (inc64 (by omega)) (Le.cons rfl (Le.cons rfl (Le.nil _))))))
    · exact ⟨0, ok, by omega, t5, by simp, Fr.refl _ _, Le.cons rfl (Le.cons rfl (Le.cons rfl (Le.nil _)))⟩
  rintro E' h6 ⟨ok', t6, ho, F6, hE⟩
  refine RunC.le hE ?_
  clear hE
  have ow6 := t6.ow
  rw [← ho]
  have F06 : Fr no h h6 := F5.trans F6 (fun b e => .inr (by omega))
  refine RunC.seq (RunC.seq (RunC.region (RunO.part 1 rfl ?_)))
  refine RunO.load (v := .bool ok') rfl (ow6.ld rfl) rfl (RunO.all rfl ?_)
  cases hk : ok' with
  | false =>
    refine RunC.cond rfl (fun _ => ?_) (fun g => by cases g)
    exact RunC.seq (RunC.region (RunO.all rfl (RunC.ret ⟨_, rfl, F06, .inr ⟨rfl, rfl⟩⟩)))
  | true =>
    refine RunC.cond rfl (fun g => by cases g) (fun _ => RunC.skip ?_)
    have hkk : ok = true := by
      rw [hk] at ho
      cases ok with
      | true => rfl
      | false => cases ho
    obtain ⟨g1, g2⟩ := hmn hkk
    rw [g1, g2]
    refine RunC.seq (RunC.draw0 rfl ?_)
    refine RunO.part 1 rfl ?_
    refine RunO.load (v := .slice (some ⟨mb, 0, none⟩) 512 (exc 512)) rfl (ow6.ld rfl) rfl ?_
    refine RunO.part 1 rfl ?_
    refine RunO.load (v := nv) rfl (ow6.ld rfl) rfl (RunO.all rfl ?_)
    exact RunC.ret ⟨_, rfl, F06, .inl ⟨rfl, mb, nv, by omega, rfl, t6.om, Row.lo t6.row (by omega)⟩⟩
end Go.Proofs.Ytimefcnagilhlaa
end
section
set_option linter.unusedVariables false
set_option maxRecDepth 100000
open Go Go.Am Go.RowKit
namespace Go.Proofs.Ytimefcnagilhlaa
open Go.Proofs.Try
theorem any_take {α : Type} {p : α → Bool} {l : List α} {i : Nat} (h : i < l.length) : (l.take (i + 1)).any p = ((l.take i).any p || p l[i]) := by
  rw [List.take_succ_eq_append_getElem h, List.any_append]; simp
set_option maxHeartbeats 4000000 in
theorem refMap_ok {h : Heap} {v : Value} {m : List Int} {B : Int} (sl : Sl h v 1 m.length (is m)) : RunF prog 18 [v, .int .i64 B] h fun r h' => r = .int .i64 (mapE m B) ∧ h = h' := by
  refine RunF.walk func18 rfl rfl ?_
  have sl0 := sl
  obtain ⟨A, c, rfl, hc, hA⟩ := sl.form
  have hE : mapE m B = if m.length = 512 then (if m.any (offMap B) then 1 else 0) else 2 := rfl
  rw [hE]
  refine RunC.seq (RunC.region (RunO.all rfl ?_))
  refine RunC.seq (RunC.seq (RunC.region (RunO.all rfl ?_)))
  by_cases hl : m.length = 512
  case neg =>
    rw [if_neg hl, show ((m.length : Int) != 512) = true from bne_iff_ne.2 (by omega)]
    refine RunC.cond rfl (fun _ => ?_) (fun g => by cases g)
    exact RunC.seq (RunC.region (RunO.all rfl (RunC.ret ⟨_, rfl, rfl, rfl⟩)))
  rw [if_pos hl, show ((m.length : Int) != 512) = false by simp; omega]
  refine RunC.cond rfl (fun g => by cases g) (fun _ => RunC.skip ?_)
  obtain ⟨iv, hiv⟩ : ∃ iv, iv = Value.slice A m.length c := ⟨_, rfl⟩
  refine RunC.seq (RunC.seq (RunC.region (RunO.all rfl ?_)))
  refine RunC.block ?_
  let I : Nat → Env → Heap → Prop := fun d E h' => ∃ i : Nat, i + d = 512 ∧ h = h' ∧ (m.take i).any (offMap B) = false ∧ Le (upd (upd (upd E0 0 (.slice A m.length c)) 1 (.int .i64 B)) 5 (.int .i64 (i : Int))) E
  refine RunC.loop I ?_ (k := 512) ?_
  · rintro d E _ ⟨i, hi, rfl, hno, hE⟩
    refine RunC.le hE ?_
    clear hE
    refine RunC.seq (RunC.seq (RunC.region (RunO.all rfl ?_)))
    refine RunC.cond rfl (fun hlt => ?_) (fun hge => ?_)
    · have hlt := of_decide_eq_true hlt
      have hi5 : i < m.length := by omega
      refine RunC.skip ?_
      have hat := any_take (p := offMap B) hi5
      rw [hno, Bool.false_or] at hat
      have hoff : offMap B m[i] = (m[i] != 0 && (decide (m[i] < 2) || decide (m[i] ≥ B))) := rfl
      have hp := is_part hi5
      refine RunC.seq (RunC.block (RunC.seqE (upd (upd (upd (upd E0 0 (.slice A m.length c)) 1 (.int .i64 B)) 5 (.int .i64 (i : Int))) 34 (.bool (offMap B m[i]))) ?_ ?_))
      · rw [hoff]
        generalize m[i] = b at *
        refine RunC.region (RunO.part 2 rfl ?_)
        refine RunO.at (s := 1) (k := i) rfl rfl sl0 rfl rfl hi5 hp rfl rfl rfl ?_
        refine RunO.part 2 rfl ?_
        cases (b != 0) with
        | false => exact RunO.all rfl ⟨rfl, Le.cons rfl (Le.cons rfl (Le.cons rfl (Le.cons rfl (Le.nil _))))⟩
        | true =>
          refine RunO.part 2 rfl ?_
          refine RunO.atG (s := 1) (k := i) rfl (fun _ => rfl) rfl rfl sl0 rfl rfl hi5 hp rfl rfl rfl ?_
          refine RunO.part 2 rfl ?_
          cases decide (b < 2) with
          | true => exact RunO.all rfl ⟨rfl, Le.cons rfl (Le.cons rfl (Le.cons rfl (Le.cons rfl (Le.nil _))))⟩
          | false =>
            refine RunO.part 2 rfl ?_
            refine RunO.atG (s := 1) (k := i) rfl (fun _ => rfl) rfl rfl sl0 rfl rfl hi5 hp rfl rfl rfl ?_
            exact RunO.all rfl ⟨rfl, Le.cons rfl (Le.cons rfl (Le.cons rfl (Le.cons rfl (Le.nil _))))⟩
      cases ho : offMap B m[i] with
      | true =>
        refine RunC.cond rfl (fun _ => ?_) (fun g => by cases g)
        rw [show m.any (offMap B) = true from List.any_eq_true.2 ⟨m[i], List.getElem_mem hi5, ho⟩]
        exact RunC.seq (RunC.region (RunO.all rfl (RunC.ret ⟨_, rfl, rfl, rfl⟩)))
      | false =>
        rw [ho] at hat
        refine RunC.cond rfl (fun g => by cases g) (fun _ => RunC.skip ?_)
        refine RunC.region (RunO.all rfl ?_)
        exact ⟨d - 1, by omega, i + 1, by omega, rfl, hat, Le.cons (inc64 (by omega)) (Le.cons rfl (Le.cons rfl (Le.nil _)))⟩
    · have hge := of_decide_eq_false hge
      obtain rfl : i = 512 := by omega
      refine RunC.exit ?_
      rw [List.take_of_length_le (by omega)] at hno
      rw [hno]
      exact RunC.seq (RunC.region (RunO.all rfl (RunC.ret ⟨_, rfl, rfl, rfl⟩)))
  · exact ⟨0, by omega, rfl, rfl, Le.cons rfl (Le.cons rfl (Le.cons rfl (Le.nil _)))⟩
end Go.Proofs.Ytimefcnagilhlaa
end
section
set_option linter.unusedVariables false
set_option maxRecDepth 100000
open Go Go.Am Go.RowKit
namespace Go.Proofs.Ytimefcnagilhlaa
open Go.Proofs.Try
/-- What a tree that is one says of its map. -/
theorem tree_spec {L : List Int} {root : Int} (hr : root ≠ 0) (h : treeOk L root = true) : TSpec L (L.length / 64) 2 root 0 (List.replicate 512 0, [], false) (treeM L root, treeN L root, false) := by
  unfold treeOk at h
  rw [show (root == 0) = false from beq_eq_false_iff_ne.2 hr, Bool.false_or, Bool.and_eq_true, Bool.not_eq_true', Bool.not_eq_true'] at h
  have hm : treeM L root = (treeW L root).1 := by unfold treeM; rw [show (root == 0) = false from beq_eq_false_iff_ne.2 hr]; rfl
  have hn : treeN L root = (treeW L root).2.1 := by unfold treeN; rw [show (root == 0) = false from beq_eq_false_iff_ne.2 hr]; rfl
  have := tgo_spec L (L.length / 64) 2 root 0 (List.replicate 512 0, [], false) (by decide) List.length_replicate rfl (fun s _ _ => by
    rw [List.getD_eq_getElem?_getD, List.getElem?_replicate]; split <;> rfl) h.1
  change TSpec L (L.length / 64) 2 root 0 (List.replicate 512 0, [], false) (treeW L root) at this
  rw [hm, hn]
  generalize treeW L root = w at *
  obtain ⟨a, b, c⟩ := w
  have hc : c = false := h.1
  subst hc
  exact this
theorem tree_at {L : List Int} {root : Int} (hr : root ≠ 0) (h : treeOk L root = true) {s : Nat} (hs : s < 512) : (treeM L root).getD s 0 = look L (L.length / 64) 3 root s := by
  have := (tree_spec hr h).m s hs
  rw [if_pos ⟨Nat.zero_le _, by simpa using hs⟩, Nat.sub_zero] at this
  exact this
theorem sl64 {h : Heap} {v : Value} {l : List Int} (hl : l.length = 64) (sl : Sl h v 1 64 (us l)) : Sl h v 1 l.length (us l) := by rw [hl]; exact sl
theorem nodParseS_ok {h : Heap} {v : Value} {l : List Int} (sl : Sl h v 1 l.length (us l)) (hb : Byt l) : RunF prog 27 [v] h fun r h' => r = .tuple #[.agg ⟨nc (nodV l).1 (nodV l).2⟩, .int .i64 (nCode l)] ∧ Fr no h h' := by
  obtain ⟨A, c, rfl, hc, hA⟩ := sl.form
  rw [← nodV_cells]
  exact nodParse_ok (fun hl => by obtain ⟨b, o, rfl, rd⟩ := hA (by omega); exact ⟨_, rfl, rd⟩) hb hc
theorem is_pos {l : List Int} (hl : l ≠ []) : 0 < l.length := List.length_pos_iff.2 hl
set_option maxHeartbeats 16000000 in
theorem treeWalks_true : ∀ h xs avs, ArgsK [.slice (.int .u8), .int .i64] h xs avs → RunF prog 6 avs h fun v _ => v = .bool true := by
  intro h xs avs ha
  obtain ⟨L, _, iv, _, rfl, sl, hLw, ha⟩ := argInts ha
  obtain ⟨root, _, _, rfl, _, ha⟩ := argInt ha
  obtain rfl := argNil ha
  have hb : Byt L := fun x hx => wf_u8 (hLw x hx)
  have sl : Sl h iv 1 L.length (us L) := sl
  refine RunF.walk func6 rfl rfl ?_
  refine RunC.seq (RunC.region (RunO.all rfl ?_))
  refine RunC.seq (RunC.seq (RunC.region (RunO.part 1 rfl ?_)))
  refine RunO.callD (heavy_ok sl) rfl rfl rfl ?_
  rintro _ _ ⟨rfl, rfl⟩
  refine RunO.all rfl ?_
  cases hh : decide ((L.length : Int) > 19200) with
  | true =>
    refine RunC.cond rfl (fun _ => ?_) (fun g => by cases g)
    exact RunC.seq (RunC.region (RunO.all rfl (RunC.ret ⟨_, rfl, rfl⟩)))
  | false =>
  have hLl : L.length ≤ 19200 := by have := of_decide_eq_false hh; omega
  refine RunC.cond rfl (fun g => by cases g) (fun _ => RunC.skip ?_)
  refine RunC.seq (RunC.region (RunO.part 2 rfl ?_))
  refine RunO.callD (treeMap_ok (root := root) sl hb (by omega)) rfl rfl rfl ?_
  rintro _ h2 ⟨f2, hv2⟩
  have sl2 := sl.fr0 f2
  by_cases he : treeE L root = 0
  case neg =>
    rcases hv2 with ⟨h0, _⟩ | ⟨_, rfl⟩
    · exact absurd h0 he
    refine RunO.all rfl ?_
    refine RunC.seq (RunC.region (RunO.part 2 rfl ?_))
    refine RunO.callD (treeNodes_ok (root := root) sl2 hb (by omega)) rfl rfl rfl ?_
    rintro _ h3 ⟨f3, ⟨h0, _⟩ | ⟨_, rfl⟩⟩
    · exact absurd h0 he
    generalize treeE L root = e at *
    refine RunO.all rfl ?_
    refine RunC.seq (RunC.seq (RunC.region (RunO.part 3 rfl ?_)))
    rw [show (e != 0) = true from bne_iff_ne.2 he]
    refine RunO.all rfl ?_
    refine RunC.cond rfl (fun _ => ?_) (fun g => by cases g)
    refine RunC.seq (RunC.region (RunO.part 4 rfl ?_))
    rw [show (e == e) = true from beq_self_eq_true e]
    refine RunO.part 8 rfl ?_
    refine RunO.callDG rfl wakes10_ok rfl rfl rfl ?_
    rintro _ h9 ⟨rfl, f9⟩
    exact RunO.all rfl (RunC.ret ⟨_, rfl, rfl⟩)
  rcases hv2 with ⟨_, mb, hmb, rfl, om⟩ | ⟨h0, _⟩
  case inr => exact absurd he h0
  refine RunO.all rfl ?_
  refine RunC.seq (RunC.region (RunO.part 2 rfl ?_))
  refine RunO.callD (treeNodes_ok (root := root) sl2 hb (by omega)) rfl rfl rfl ?_
  rintro _ h3 ⟨f3, ⟨_, nv, rfl, row⟩ | ⟨h0, _⟩⟩
  case inr => exact absurd he h0
  have sl3 := sl2.fr0 f3
  replace om := om.fr f3 (fun g => g)
  obtain ⟨hok, hdev⟩ := treeE_ok he
  have hml := treeM_len L root
  have hnl := treeN_len L root
  refine RunO.all rfl ?_
  refine RunC.seq (RunC.seq (RunC.region (RunO.all rfl (RunC.cond rfl (fun g => by cases g) (fun _ => RunC.skip ?_)))))
  have slm := sl_owI om hml (Cp.exc (Nat.le_refl 512)) (by decide)
  have sln := row.sl (by omega)
  have hlen : ∀ {E : Env} {h : Heap}, alen prog 23 nv = some (.int .i64 ((treeN L root).length : Int)) := by
    intro _ _
    obtain ⟨A, c, rfl, _, _⟩ := sln.form
    rfl
  by_cases hr : root = 0
  · -- no tree
    subst hr
    have z2 : treeM L 0 = List.replicate 512 0 := rfl
    have z3 : treeN L 0 = [] := rfl
    rw [z2] at om
    rw [z3] at row sln
    obtain ⟨A, c, rfl, hc, _⟩ := sln.form
    refine RunC.seq (RunC.seq (RunC.region (RunO.all rfl (RunC.cond rfl (fun _ => ?_) (fun g => by cases g)))))
    refine RunC.seq (RunC.region (RunO.part 9 rfl ?_))
    refine RunO.makeG (m := 512) rfl rfl rfl rfl rfl rfl rfl (Nat.le_of_ble_eq_true rfl) (by decide) rfl ?_
    rw [reps_is]
    have ok := Ow.push h3 (is (List.replicate 512 0))
    have f6 : Fr no h3 (h3.push ⟨is (List.replicate 512 0), true⟩) := Fr.push _ _ _
    replace om := om.fr f6 (fun g => g)
    generalize h3.push ⟨is (List.replicate 512 0), true⟩ = h6 at *
    refine RunO.callDG rfl (keepInts_ok (sl_owI om List.length_replicate (Cp.exc (Nat.le_refl 512)) (by decide)) (sl_owI ok List.length_replicate (Cp.exc (Nat.le_refl 512)) (by decide)) (by decide)) rfl rfl rfl ?_
    rintro _ _ ⟨rfl, rfl⟩
    rw [show ((List.replicate 512 (0 : Int)) == List.replicate 512 0) = true from beq_self_eq_true _]
    refine RunO.part 2 rfl ?_
    refine RunO.callDG rfl wakes10_ok rfl rfl rfl ?_
    rintro _ h9 ⟨rfl, f9⟩
    exact RunO.all rfl (RunC.ret ⟨_, rfl, rfl⟩)
  have spec := tree_spec hr hok
  have hat := fun s hs => tree_at hr hok (s := s) hs
  have hnd : (treeN L root).Nodup := spec.nd List.nodup_nil
  obtain ⟨t, hnt⟩ := spec.ns
  have hnt : treeN L root = root :: t := hnt
  have hpath : ∀ s, s < 512 → pathOk L (L.length / 64) 3 root s := fun s hs => spec.path s hs
  have hB : L.length / 64 * 64 ≤ L.length := Nat.div_mul_le_self _ _
  generalize treeN L root = ns at *
  generalize treeM L root = m at *
  clear spec
  have hn0 : 0 < ns.length := by have := congrArg List.length hnt; simp at this; omega
  obtain ⟨nA, nc_, hnv, hncp, _⟩ := sln.form
  refine RunC.seq (RunC.seq (RunC.region (RunO.part 3 rfl ?_)))
  rw [show (root == 0) = false from beq_eq_false_iff_ne.2 hr]
  subst hnv
  refine RunO.part 3 rfl ?_
  rw [show ((ns.length : Int) == 0) = false from beq_eq_false_iff_ne.2 (by omega)]
  refine RunO.all rfl ?_
  refine RunC.cond rfl (fun g => by cases g) (fun _ => RunC.skip ?_)
  refine RunC.seq (RunC.region (RunO.part 1 rfl ?_))
  refine RunO.callD (refBlocks_ok sl3 (by omega)) rfl rfl rfl ?_
  rintro _ _ ⟨rfl, rfl⟩
  obtain ⟨B, hBe⟩ : ∃ B, B = L.length / 64 := ⟨_, rfl⟩
  rw [← hBe] at hat hpath hB ⊢
  refine RunO.all rfl ?_
  refine RunC.seq (RunC.seq (RunC.region (RunO.part 1 rfl ?_)))
  have hn0' : ns[0]'hn0 = root := by
    have := congrArg (fun l => l[0]?) hnt
    simp only [List.getElem?_eq_getElem hn0] at this
    exact Option.some.inj this
  refine RunO.at (s := 1) (k := 0) (u := .int .i64 root) rfl rfl sln rfl rfl hn0 (by rw [is_part hn0, hn0']) rfl rfl rfl ?_
  refine RunO.part 1 rfl ?_
  refine RunO.bin (v := .bool false) rfl rfl (by show some (Value.bool (root != root)) = _; simp) rfl (RunO.all rfl ?_)
  refine RunC.cond rfl (fun g => by cases g) (fun _ => RunC.skip ?_)
  -- the sectors
  refine RunC.seqc (fun E' h' => Fr no h3 h' ∧ Le (upd E0 7 (.slice nA ns.length nc_)) E') ?_ ?_
  · refine RunC.seq (RunC.region (RunO.all rfl ?_))
    refine RunC.block ?_
    let I : Nat → Env → Heap → Prop := fun d E h' => ∃ s : Nat, s + d = 512 ∧ Fr no h3 h' ∧ Le (upd (upd (upd (upd (upd (upd E0 0 iv) 1 (.int .i64 root)) 5 (.slice (some ⟨mb, 0, none⟩) 512 (exc 512))) 7 (.slice nA ns.length nc_)) 9 (.int .i64 (B : Int))) 11 (.int .i64 (s : Int))) E
    refine RunC.loop I ?_ (k := 512) ?_
    · rintro d E h4 ⟨s, hs, f4, hE⟩
      refine RunC.le hE ?_
      clear hE
      refine RunC.seq (RunC.seq (RunC.region (RunO.all rfl ?_)))
      refine RunC.cond rfl (fun hlt => ?_) (fun hge => ?_)
      · have hlt := of_decide_eq_true hlt
        have hs5 : s < 512 := by omega
        have hms := hat s hs5
        refine RunC.skip ?_
        refine RunC.seq (RunC.block ?_)
        refine RunC.seq (RunC.region (RunO.all rfl ?_))
        refine RunC.seq (RunC.seq (RunC.region (RunO.all rfl ?_)))
        refine RunC.block ?_
        let J : Nat → Env → Heap → Prop := fun k E h' => ∃ (at_ : Int) (rest : Nat), k ≤ 3 ∧ look L B k at_ rest = m.getD s 0 ∧ pathOk L B k at_ rest ∧ rest < 8 ^ k ∧ Fr no h3 h' ∧ Le (upd (upd (upd (upd (upd (upd (upd (upd (upd E0 0 iv) 1 (.int .i64 root)) 5 (.slice (some ⟨mb, 0, none⟩) 512 (exc 512))) 7 (.slice nA ns.length nc_)) 9 (.int .i64 (B : Int))) 11 (.int .i64 (s : Int))) 12 (.int .i64 at_)) 13 (.int .i64 (rest : Int))) 14 (.int .i64 ((k : Int) - 1))) E
        refine RunC.loop J ?_ (k := 3) ?_
        · rintro k E h5 ⟨at_, rest, hk3, hlook, hpo, hrest, f5, hE⟩
          refine RunC.le hE ?_
          clear hE
          -- what stands behind the walk down
          have fin : at_ = m.getD s 0 → ∀ E, Le (upd (upd (upd (upd (upd (upd (upd E0 0 iv) 1 (.int .i64 root)) 5 (.slice (some ⟨mb, 0, none⟩) 512 (exc 512))) 7 (.slice nA ns.length nc_)) 9 (.int .i64 (B : Int))) 11 (.int .i64 (s : Int))) 12 (.int .i64 at_)) E → True := fun _ _ _ => trivial
          by_cases hstop : k = 0 ∨ at_ = 0
          · have hval : at_ = m.getD s 0 := by
              rw [← hlook]
              rcases hstop with e | e
              · subst e; rfl
              · subst e; rw [look_zero]
            have hsm : s < m.length := by omega
            have hpm : apart prog 3 (is m) (s * 1) = some (.int .i64 at_) := by
              rw [is_part hsm, hval, List.getD_eq_getElem?_getD, List.getElem?_eq_getElem hsm]; rfl
            refine RunC.seq ?_
            refine RunC.seqE (upd (upd (upd (upd (upd (upd (upd (upd E0 0 iv) 1 (.int .i64 root)) 5 (.slice (some ⟨mb, 0, none⟩) 512 (exc 512))) 7 (.slice nA ns.length nc_)) 9 (.int .i64 (B : Int))) 11 (.int .i64 (s : Int))) 12 (.int .i64 at_)) 104 (.bool false)) ?_ ?_
            · refine RunC.region (RunO.part 3 rfl ?_)
              by_cases hk0 : k = 0
              · rw [show decide ((k : Int) - 1 ≥ 0) = false from decide_eq_false (by omega)]
                exact RunO.all rfl ⟨rfl, Le.cons rfl (Le.cons rfl (Le.cons rfl (Le.cons rfl (Le.cons rfl (Le.cons rfl (Le.cons rfl (Le.cons rfl (Le.nil _))))))))⟩
              · rw [show decide ((k : Int) - 1 ≥ 0) = true from decide_eq_true (by omega)]
                obtain rfl : at_ = 0 := hstop.resolve_left hk0
                exact RunO.all rfl ⟨rfl, Le.cons rfl (Le.cons rfl (Le.cons rfl (Le.cons rfl (Le.cons rfl (Le.cons rfl (Le.cons rfl (Le.cons rfl (Le.nil _))))))))⟩
            refine RunC.cond rfl (fun g => by cases g) (fun _ => RunC.exit ?_)
            have slm5 : Sl h5 (.slice (some ⟨mb, 0, none⟩) 512 (exc 512)) 1 512 (is m) := by have := slm.fr0 f5; rwa [hml] at this
            refine RunC.seq (RunC.region (RunO.part 2 rfl ?_))
            refine RunO.at (s := 1) (k := s) rfl rfl slm5 rfl rfl hs5 hpm rfl rfl rfl ?_
            refine RunO.part 1 rfl ?_
            refine RunO.bin (v := .bool false) rfl rfl (by show some (Value.bool (at_ != at_)) = _; simp) rfl (RunO.all rfl ?_)
            refine RunC.cond rfl (fun g => by cases g) (fun _ => RunC.skip ?_)
            refine RunC.region (RunO.all rfl ?_)
            exact ⟨d - 1, by omega, s + 1, by omega, f5, Le.cons (inc64 (by omega)) (Le.cons rfl (Le.cons rfl (Le.cons rfl (Le.cons rfl (Le.cons rfl (Le.nil _))))))⟩
          · rw [not_or] at hstop
            obtain ⟨hk0, ha0⟩ := hstop
            obtain ⟨j, rfl⟩ : ∃ j, k = j + 1 := ⟨k - 1, by omega⟩
            obtain ⟨his, hpo2⟩ := hpo ha0
            have hab := atIs_ne his
            obtain ⟨a, rfl⟩ := Int.eq_ofNat_of_zero_le (show 0 ≤ at_ by omega)
            have hal : (a + 1) * 64 ≤ L.length := Nat.le_trans (Nat.mul_le_mul_right 64 (by omega)) hB
            have hlook2 : look L B j ((atV L B (a : Int)).2.getD (rest / 8 ^ j) 0) (rest % 8 ^ j) = m.getD s 0 := by rw [← hlook]; show _ = if (a : Int) = 0 then 0 else _; rw [if_neg ha0]
            have hin : atIn B (a : Int) = true := atIn_iff.2 ⟨by omega, by omega⟩
            have hvv : atV L B (a : Int) = nodV (blkI L a) := by unfold atV; rw [hin, if_pos rfl, Int.toNat_natCast]
            have hcd : nCode (blkI L a) = 0 ∧ (nodV (blkI L a)).1 = (j : Int) := by
              unfold atIs at his
              rw [hin, hvv, Int.toNat_natCast, Bool.true_and, Bool.and_eq_true, beq_iff_eq, beq_iff_eq] at his
              exact his
            rw [hvv] at hlook2 hpo2
            have hbl := blkI_len hal
            have hbb := byt_blk hb a
            have hvl := nodV_len (blkI L a)
            have hpos : 0 < 8 ^ j := Nat.pow_pos (by decide)
            have hq8 : rest / 8 ^ j < 8 := by rw [Nat.div_lt_iff_lt_mul hpos]; rw [Nat.pow_succ, Nat.mul_comm] at hrest; exact hrest
            have hlow : rest % 8 ^ j < 8 ^ j := Nat.mod_lt _ hpos
            refine RunC.seq (RunC.seq (RunC.region (RunO.part 3 rfl ?_)))
            rw [show decide (((j + 1 : Nat) : Int) - 1 ≥ 0) = true from decide_eq_true (by omega)]
            refine RunO.part 2 rfl ?_
            rw [show ((a : Int) != 0) = true from bne_iff_ne.2 ha0]
            refine RunO.all rfl ?_
            refine RunC.cond rfl (fun _ => RunC.skip ?_) (fun g => by cases g)
            refine RunC.seq (RunC.block ?_)
            refine RunC.seq (RunC.seq (RunC.region (RunO.part 3 rfl ?_)))
            rw [show decide ((a : Int) < 2) = false from decide_eq_false (by omega)]
            refine RunO.part 3 rfl ?_
            rw [show decide ((a : Int) ≥ (B : Int)) = false from decide_eq_false (by omega)]
            refine RunO.all rfl ?_
            refine RunC.cond rfl (fun g => by cases g) (fun _ => RunC.skip ?_)
            refine RunC.seq (RunC.region (RunO.part 2 rfl ?_))
            refine RunO.callD (refBlock_ok (i := a) (sl3.fr0 f5) hal (by omega)) rfl rfl rfl ?_
            rintro bv _ ⟨slb, rfl⟩
            refine RunO.callD (nodParseS_ok (sl64 hbl slb) hbb) rfl rfl rfl ?_
            rintro _ h6 ⟨rfl, f6⟩
            rw [hcd.1]
            have hl1 := hcd.2
            generalize nodV (blkI L a) = nd at *
            obtain ⟨nl, ps⟩ := nd
            simp only at hvl hl1 hlook2 hpo2
            subst hl1
            refine RunO.part 4 (h1 := h6.push ⟨nc 0 nZero, true⟩) rfl ?_
            have hcl : (cellsOf (.agg ⟨nc (j : Int) ps⟩)).length = 9 := by show (nc (j : Int) ps).length = 9; simp [nc, is_len, hvl]
            have hac : allCells (cellsOf (.agg ⟨nc (j : Int) ps⟩)) = true := by show allCells (.int .i64 (j : Int) :: is ps) = true; exact allCells_map (f := Value.int .i64) (fun _ => rfl) ps
            refine RunO.store rfl rfl (store_ow (s := 9) (Ow.push h6 (nc 0 nZero)) rfl hcl hac (Nat.le_refl 9)) (RunO.all rfl ?_)
            have e9 : (nc 0 nZero).take 0 ++ cellsOf (.agg ⟨nc (j : Int) ps⟩) ++ (nc 0 nZero).drop (0 + 9) = nc (j : Int) ps := by
              show [] ++ nc (j : Int) ps ++ [] = _; simp
            rw [e9]
            have on : Ow ((h6.push ⟨nc 0 nZero, true⟩).put h6.next (some ⟨nc (j : Int) ps, true⟩)) h6.next (nc (j : Int) ps) := Ow.put _ (Nat.lt_succ_self _)
            have f7 : Fr no h6 ((h6.push ⟨nc 0 nZero, true⟩).put h6.next (some ⟨nc (j : Int) ps, true⟩)) := (Fr.push _ _ _).trans (Fr.put (m := (· = h6.next)) _ (.inl rfl)) (fun j hj => .inr (by omega))
            have F7 := (f5.same f6).same f7
            generalize (h6.push ⟨nc 0 nZero, true⟩).put h6.next (some ⟨nc (j : Int) ps, true⟩) = h7 at *
            generalize h6.next = q at *
            refine RunC.seq (RunC.region (RunO.part 2 rfl ?_))
            rw [show ((j + 1 : Nat) : Int) - 1 = (j : Int) by omega]
            refine RunO.callD (nodPlace_ok (s := rest) (k := j) (by omega) hrest) rfl rfl rfl ?_
            rintro _ _ ⟨rfl, rfl⟩
            generalize rest / 8 ^ j = i at *
            generalize rest % 8 ^ j = low at *
            refine RunO.all rfl ?_
            refine RunC.seq (RunC.seq (RunC.region (RunO.part 8 rfl ?_)))
            refine RunO.loadG (v := .int .i64 (j : Int)) rfl rfl (on.ld rfl) rfl ?_
            refine RunO.part 1 rfl ?_
            refine RunO.oneG (v := .bool false) (h1 := h7) rfl (by show some (Value.bool ((j : Int) != (j : Int)), h7) = _; rw [show ((j : Int) != (j : Int)) = false by simp]) rfl ?_
            refine RunO.part 4 rfl ?_
            rw [show decide ((i : Int) < 0) = false from decide_eq_false (by omega)]
            refine RunO.part 4 rfl ?_
            rw [show decide ((i : Int) ≥ 8) = false from decide_eq_false (by omega)]
            refine RunO.all rfl ?_
            refine RunC.cond rfl (fun g => by cases g) (fun _ => RunC.skip ?_)
            refine RunC.region (RunO.part 2 rfl ?_)
            refine RunO.indexA (s := 1) rfl rfl rfl rfl rfl hq8 rfl ?_
            have hip : i < ps.length := by omega
            refine RunO.load (v := .int .i64 ps[i]) rfl (on.ld (by show nth (nc (j : Int) ps) (1 + i * 1) = _; rw [Nat.mul_one, Nat.add_comm]; exact is_nth hip)) rfl (RunO.all rfl ?_)
            have hgd : ps.getD i 0 = ps[i] := by rw [List.getD_eq_getElem?_getD, List.getElem?_eq_getElem hip]; rfl
            rw [hgd] at hlook2 hpo2
            refine RunC.region (RunO.all rfl ?_)
            exact ⟨j, Nat.lt_succ_self j, ps[i], low, by omega, hlook2, hpo2, hlow, F7, Le.cons (by rw [fw64 (by omega) (by omega)]; rfl) (Le.cons rfl (Le.cons rfl (Le.cons rfl (Le.cons rfl (Le.cons rfl (Le.cons rfl (Le.cons rfl (Le.cons rfl (Le.nil _)))))))))⟩
        · exact ⟨root, s, Nat.le_refl 3, hms.symm, hpath s hs5, hs5, f4, Le.cons rfl (Le.cons rfl (Le.cons rfl (Le.cons rfl (Le.cons rfl (Le.cons rfl (Le.cons rfl (Le.cons rfl (Le.cons rfl (Le.nil _)))))))))⟩
      · refine RunC.exit ?_
        exact ⟨f4, Le.cons rfl (Le.nil _)⟩
    · exact ⟨0, by omega, Fr.refl _ _, Le.cons rfl (Le.cons rfl (Le.cons rfl (Le.cons rfl (Le.cons rfl (Le.cons rfl (Le.nil _))))))⟩
  · rintro E' h4 ⟨f4, hE⟩
    refine RunC.le hE ?_
    clear hE
    have sl4 := sln.fr0 f4
    refine RunC.seq (RunC.seq (RunC.region (RunO.all rfl ?_)))
    refine RunC.block ?_
    let I : Nat → Env → Heap → Prop := fun d E h' => ∃ i : Nat, i + d = ns.length ∧ h4 = h' ∧ Le (upd (upd E0 7 (.slice nA ns.length nc_)) 20 (.int .i64 (i : Int))) E
    refine RunC.loop I ?_ (k := ns.length) ?_
    · rintro d E h5 ⟨i, hi, rfl, hE⟩
      refine RunC.le hE ?_
      clear hE
      refine RunC.seq (RunC.seq (RunC.region (RunO.all rfl ?_)))
      refine RunC.cond rfl (fun hlt => ?_) (fun hge => ?_)
      · have hlt := of_decide_eq_true hlt
        have hil : i < ns.length := by omega
        refine RunC.skip ?_
        refine RunC.seq (RunC.block ?_)
        refine RunC.seq (RunC.region (RunO.all rfl ?_))
        refine RunC.block ?_
        let J : Nat → Env → Heap → Prop := fun e E h' => ∃ k : Nat, k + e = i ∧ h4 = h' ∧ Le (upd (upd (upd E0 7 (.slice nA ns.length nc_)) 20 (.int .i64 (i : Int))) 21 (.int .i64 (k : Int))) E
        refine RunC.loop J ?_ (k := i) ?_
        · rintro e E h6 ⟨k, hk, rfl, hE⟩
          refine RunC.le hE ?_
          clear hE
          refine RunC.seq (RunC.seq (RunC.region (RunO.all rfl ?_)))
          refine RunC.cond rfl (fun hlt2 => ?_) (fun hge => ?_)
          · have hlt2 := of_decide_eq_true hlt2
            have hkl : k < ns.length := by omega
            have hne : ns[k] ≠ ns[i] := List.pairwise_iff_getElem.1 hnd k i hkl hil (by omega)
            refine RunC.skip ?_
            refine RunC.seq (RunC.block ?_)
            refine RunC.seq (RunC.draw0 rfl (RunO.part 2 rfl ?_))
            refine RunO.at (s := 1) rfl rfl sl4 rfl rfl hkl (is_part hkl) rfl rfl rfl ?_
            refine RunO.part 2 rfl ?_
            refine RunO.at (s := 1) rfl rfl sl4 rfl rfl hil (is_part hil) rfl rfl rfl ?_
            refine RunO.bin (v := .bool false) rfl rfl (by show some (Value.bool (ns[k] == ns[i])) = _; rw [beq_eq_false_iff_ne.2 hne]) rfl (RunO.all rfl ?_)
            refine RunC.cond rfl (fun g => by cases g) (fun _ => RunC.skip ?_)
            refine RunC.region (RunO.all rfl ?_)
            exact ⟨e - 1, by omega, k + 1, by omega, rfl, Le.cons (inc64 (by omega)) (Le.cons rfl (Le.cons rfl (Le.nil _)))⟩
          · refine RunC.exit ?_
            refine RunC.region (RunO.all rfl ?_)
            exact ⟨d - 1, by omega, i + 1, by omega, rfl, Le.cons (inc64 (by omega)) (Le.cons rfl (Le.nil _))⟩
        · exact ⟨0, by omega, rfl, Le.cons rfl (Le.cons rfl (Le.cons rfl (Le.nil _)))⟩
      · refine RunC.exit ?_
        refine RunC.seq (RunC.region ?_)
        refine RunO.callD wakes10_ok rfl rfl rfl ?_
        rintro _ h9 ⟨rfl, f9⟩
        exact RunO.all rfl (RunC.ret ⟨_, rfl, rfl⟩)
    · exact ⟨0, by omega, rfl, Le.cons rfl (Le.cons rfl (Le.nil _))⟩
end Go.Proofs.Ytimefcnagilhlaa
end
section
set_option linter.unusedVariables false
set_option maxRecDepth 100000
open Go Go.Am Go.RowKit
namespace Go.Proofs.Ytimefcnagilhlaa
open Go.Proofs.Try
theorem keepBytesS_ok {h : Heap} {v w : Value} {l m : List Int} (sl : Sl h v 1 l.length (us l)) (sm : Sl h w 1 m.length (us m)) (hm : l.length ≤ 4611686018427387904) :
    RunF prog 19 [v, w] h fun v h' => v = .bool (l == m) ∧ h = h' := by
  obtain ⟨A, c, rfl, _, hA⟩ := sl.form
  obtain ⟨B, d, rfl, _, hB⟩ := sm.form
  exact keepBytes_ok (fun hl => by obtain ⟨b, o, rfl, rd⟩ := hA hl; exact ⟨_, rfl, rd⟩) (fun hl => by obtain ⟨b, o, rfl, rd⟩ := hB hl; exact ⟨_, rfl, rd⟩) hm
def mapG (L : List Int) (root : Int) : List Int := if treeE L root = 0 then treeM L root else []
def nodG (L : List Int) (root : Int) : List Int := if treeE L root = 0 then treeN L root else []
theorem mapG_len (L : List Int) (root : Int) : (mapG L root).length ≤ 512 := by
  unfold mapG; split
  · rw [treeM_len]; exact Nat.le_refl _
  · exact Nat.zero_le _
theorem nodG_len (L : List Int) (root : Int) : (nodG L root).length ≤ 100000 := by
  unfold nodG; split
  · have := treeN_len L root; omega
  · exact Nat.zero_le _
theorem treeMapS_ok {h : Heap} {iv : Value} {L : List Int} {root : Int} (sl : Sl h iv 1 L.length (us L)) (hb : Byt L) (hm : L.length ≤ 4611686018427387904) :
    RunF prog 14 [iv, .int .i64 root] h fun v h' => Fr no h h' ∧ ∃ gv, v = .tuple #[gv, .int .i64 (treeE L root)] ∧ Osl h.next h' gv 1 (mapG L root).length (is (mapG L root)) := by
  refine (treeMap_ok sl hb hm).mono ?_
  have hml3 := treeM_len L root
  rintro _ h3 ⟨f3, ⟨e0, mb, hmb, rfl, om⟩ | ⟨e0, rfl⟩⟩
  · refine ⟨f3, _, by rw [e0], ?_⟩
    unfold mapG
    rw [if_pos e0, hml3]
    have := sl_owI om hml3 (Cp.exc (Nat.le_refl 512)) (by decide)
    rw [hml3] at this
    exact ⟨this.1, this.2.1, .inr ⟨mb, _, hmb, rfl, Cp.exc (Nat.le_refl 512), om⟩⟩
  · refine ⟨f3, _, rfl, ?_⟩
    unfold mapG
    rw [if_neg e0]
    exact ⟨by simp [is], Nat.zero_le _, .inl ⟨rfl, rfl⟩⟩
theorem treeNodesS_ok {h : Heap} {iv : Value} {L : List Int} {root : Int} (sl : Sl h iv 1 L.length (us L)) (hb : Byt L) (hm : L.length ≤ 4611686018427387904) :
    RunF prog 15 [iv, .int .i64 root] h fun v h' => Fr no h h' ∧ ∃ gv, v = .tuple #[gv, .int .i64 (treeE L root)] ∧ Osl h.next h' gv 1 (nodG L root).length (is (nodG L root)) := by
  refine (treeNodes_ok sl hb hm).mono ?_
  have hnl := treeN_len L root
  rintro _ h3 ⟨f3, ⟨e0, nv, rfl, row⟩ | ⟨e0, rfl⟩⟩
  · refine ⟨f3, _, by rw [e0], ?_⟩
    unfold nodG
    rw [if_pos e0]
    exact row.os (by omega)
  · refine ⟨f3, _, rfl, ?_⟩
    unfold nodG
    rw [if_neg e0]
    exact ⟨by simp [is], Nat.zero_le _, .inl ⟨rfl, rfl⟩⟩
theorem Sl.lenI {P : Program} {h : Heap} {v : Value} {s n : Nat} {cells : List Value} (sl : Sl h v s n cells) : ∃ A c, v = .slice A n c := by
  obtain ⟨A, c, rfl, _⟩ := sl.form
  exact ⟨A, c, rfl⟩
set_option maxHeartbeats 16000000 in
theorem treeExact_true : ∀ h xs avs, ArgsK [.slice (.int .u8), .int .i64, .int .i64, .slice (.int .i64), .int .i64] h xs avs → RunF prog 3 avs h fun v _ => v = .bool true := by
  intro h xs avs ha
  obtain ⟨L, _, iv, _, rfl, sl, hLw, ha⟩ := argInts ha
  obtain ⟨root, _, _, rfl, _, ha⟩ := argInt ha
  obtain ⟨sec, _, _, rfl, _, ha⟩ := argInt ha
  obtain ⟨m, _, mv, _, rfl, slm, _, ha⟩ := argInts ha
  obtain ⟨bl, _, _, rfl, _, ha⟩ := argInt ha
  obtain rfl := argNil ha
  have hb : Byt L := fun x hx => wf_u8 (hLw x hx)
  have sl : Sl h iv 1 L.length (us L) := sl
  have slm : Sl h mv 1 m.length (is m) := slm
  refine RunF.walk func3 rfl rfl ?_
  refine RunC.seq (RunC.region (RunO.all rfl ?_))
  obtain ⟨mA, mc, rfl, _, _⟩ := slm.form
  refine RunC.seq (RunC.seqE (upd (upd (upd (upd (upd (upd E0 0 iv) 1 (.int .i64 root)) 2 (.int .i64 sec)) 3 (.slice mA m.length mc)) 4 (.int .i64 bl)) 30 (.bool (decide ((L.length : Int) > 19200) || decide ((m.length : Int) > 600)))) ?_ ?_)
  · refine RunC.region (RunO.part 1 rfl ?_)
    refine RunO.callD (heavy_ok sl) rfl rfl rfl ?_
    rintro _ _ ⟨rfl, rfl⟩
    refine RunO.part 1 rfl ?_
    cases decide ((L.length : Int) > 19200) with
    | true => exact RunO.all rfl ⟨rfl, Le.cons rfl (Le.cons rfl (Le.cons rfl (Le.cons rfl (Le.cons rfl (Le.cons rfl (Le.nil _))))))⟩
    | false => exact RunO.all rfl ⟨rfl, Le.cons rfl (Le.cons rfl (Le.cons rfl (Le.cons rfl (Le.cons rfl (Le.cons rfl (Le.nil _))))))⟩
  cases hh : decide ((L.length : Int) > 19200) || decide ((m.length : Int) > 600) with
  | true =>
    refine RunC.cond rfl (fun _ => ?_) (fun g => by cases g)
    exact RunC.seq (RunC.region (RunO.all rfl (RunC.ret ⟨_, rfl, rfl⟩)))
  | false =>
  rw [Bool.or_eq_false_iff, decide_eq_false_iff_not, decide_eq_false_iff_not] at hh
  have hLl : L.length ≤ 19200 := by omega
  have hml : m.length ≤ 600 := by omega
  refine RunC.cond rfl (fun g => by cases g) (fun _ => RunC.skip ?_)
  -- the twins
  refine RunC.seq (RunC.region (RunO.part 1 rfl ?_))
  refine RunO.callD (twin_ok sl (by omega)) rfl rfl rfl ?_
  rintro tv h1 ⟨rowt, f1⟩
  refine RunO.part 1 rfl ?_
  refine RunO.callD (twinInts_ok (slm.fr0 f1) (by omega)) rfl rfl rfl ?_
  rintro kv h2 ⟨rowk, f2⟩
  have slt := (rowt.sl (by omega)).fr0 f2
  have slk := rowk.sl (by omega)
  have sl2 := (sl.fr0 f1).fr0 f2
  have slm2 := (slm.fr0 f1).fr0 f2
  clear sl slm rowt rowk f1 f2
  refine RunO.all rfl ?_
  -- the map, the nodes, the sector
  refine RunC.seq (RunC.region (RunO.part 2 rfl ?_))
  refine RunO.callD (treeMapS_ok (root := root) slt hb (by omega)) rfl rfl rfl ?_
  rintro _ h3 ⟨f3, gv, rfl, sg⟩
  replace sg := sg.sl
  replace slt := slt.fr0 f3
  replace slk := slk.fr0 f3
  replace sl2 := sl2.fr0 f3
  replace slm2 := slm2.fr0 f3
  refine RunO.all rfl ?_
  refine RunC.seq (RunC.region (RunO.part 2 rfl ?_))
  refine RunO.callD (treeNodesS_ok (root := root) slt hb (by omega)) rfl rfl rfl ?_
  rintro _ h4 ⟨f4, nv, rfl, sn⟩
  replace sn := sn.sl
  replace slt := slt.fr0 f4
  replace slk := slk.fr0 f4
  replace sl2 := sl2.fr0 f4
  replace slm2 := slm2.fr0 f4
  replace sg := sg.fr0 f4
  refine RunO.all rfl ?_
  refine RunC.seq (RunC.region (RunO.part 3 rfl ?_))
  refine RunO.callD (treeSector_ok (root := root) (s := sec) slt hb (by omega)) rfl rfl rfl ?_
  rintro _ h5 ⟨rfl, f5⟩
  replace slt := slt.fr0 f5
  replace slk := slk.fr0 f5
  replace sl2 := sl2.fr0 f5
  replace slm2 := slm2.fr0 f5
  replace sg := sg.fr0 f5
  replace sn := sn.fr0 f5
  refine RunO.all rfl ?_
  -- the map's check; nothing is changed
  refine RunC.seq (RunC.seq (RunC.region (RunO.part 2 rfl ?_)))
  refine RunO.callD (treeCheck_ok (B := bl) slk) rfl rfl rfl ?_
  rintro _ h6 ⟨rfl, f6⟩
  replace slt := slt.fr0 f6
  replace slk := slk.fr0 f6
  replace sl2 := sl2.fr0 f6
  replace slm2 := slm2.fr0 f6
  replace sg := sg.fr0 f6
  replace sn := sn.fr0 f6
  refine RunO.part 2 rfl ?_
  refine RunO.callD (refMap_ok (B := bl) slm2) rfl rfl rfl ?_
  rintro _ _ ⟨rfl, rfl⟩
  refine RunO.part 1 rfl ?_
  rw [show (mapE m bl != mapE m bl) = false by simp]
  refine RunO.part 3 rfl ?_
  refine RunO.callDG rfl (keepBytesS_ok slt sl2 (by omega)) rfl rfl rfl ?_
  rintro _ _ ⟨rfl, rfl⟩
  rw [show (L == L) = true from beq_self_eq_true _]
  refine RunO.part 5 rfl ?_
  refine RunO.callDG rfl (keepInts_ok slk slm2 (by omega)) rfl rfl rfl ?_
  rintro _ _ ⟨rfl, rfl⟩
  rw [show (m == m) = true from beq_self_eq_true _]
  refine RunO.all rfl (RunC.cond rfl (fun g => by cases g) (fun _ => RunC.skip ?_))
  -- the device
  refine RunC.seq (RunC.seq (RunC.region (RunO.part 1 rfl ?_)))
  refine RunO.callD (refBlocks_ok sl2 (by omega)) rfl rfl rfl ?_
  rintro _ _ ⟨rfl, rfl⟩
  refine RunO.all rfl ?_
  refine RunC.seq (RunC.region (RunO.all rfl ?_))
  have hE : treeE L root = if devOk L.length then (if treeOk L root then 0 else 6) else 2 := rfl
  have hlens : ∀ e : Int, treeE L root = e → e ≠ 0 → mapG L root = [] ∧ nodG L root = [] ∧ sectorE L root sec = e ∧ sectorV L root sec = 0 := fun e h1 h2 => by
    unfold mapG nodG sectorE sectorV
    rw [h1, if_neg h2, if_neg h2, if_neg h2, if_neg h2]
    exact ⟨rfl, rfl, rfl, rfl⟩
  obtain ⟨gA, gc, rfl, _, _⟩ := sg.form
  obtain ⟨nA, nc, rfl, _, _⟩ := sn.form
  cases hd : devOk L.length with
  | false =>
    rw [hd] at hE
    obtain ⟨z1, z2, z3, z4⟩ := hlens 2 hE (by decide)
    rw [hE, z3, z4, z1, z2]
    refine RunC.cond rfl (fun _ => ?_) (fun g => by cases g)
    refine RunC.seq (RunC.region (RunO.part 21 rfl ?_))
    refine RunO.callDG rfl wakes10_ok rfl rfl rfl ?_
    rintro _ h9 ⟨rfl, f9⟩
    exact RunO.all rfl (RunC.ret ⟨_, rfl, rfl⟩)
  | true =>
  rw [hd] at hE
  refine RunC.cond rfl (fun g => by cases g) (fun _ => RunC.skip ?_)
  -- the page's tree
  refine RunC.seq (RunC.region (RunO.part 2 rfl ?_))
  refine RunO.callD (refTree_ok (root := root) sl2 hb hd) rfl rfl rfl ?_
  rintro _ h7 ⟨f7, ⟨ht, mb, wv, _, rfl, om, row⟩ | ⟨ht, rfl⟩⟩
  case inr =>
    rw [ht] at hE
    obtain ⟨z1, z2, z3, z4⟩ := hlens 6 hE (by decide)
    rw [hE, z3, z4, z1, z2]
    refine RunO.all rfl ?_
    refine RunC.seq (RunC.seq (RunC.region (RunO.all rfl (RunC.cond rfl (fun _ => ?_) (fun g => by cases g)))))
    refine RunC.seq (RunC.region (RunO.part 21 rfl ?_))
    refine RunO.callDG rfl wakes10_ok rfl rfl rfl ?_
    rintro _ h9 ⟨rfl, f9⟩
    exact RunO.all rfl (RunC.ret ⟨_, rfl, rfl⟩)
  rw [ht] at hE
  have hE : treeE L root = 0 := hE
  have z1 : mapG L root = treeM L root := by unfold mapG; rw [if_pos hE]
  have z2 : nodG L root = treeN L root := by unfold nodG; rw [if_pos hE]
  have z3 : sectorE L root sec = if secOk sec then 0 else 3 := by unfold sectorE; rw [if_pos hE]
  have z4 : sectorV L root sec = if secOk sec then (treeM L root).getD sec.toNat 0 else 0 := by unfold sectorV; rw [if_pos hE]
  replace sg := sg.fr0 f7
  replace sn := sn.fr0 f7
  rw [hE, z3, z4]
  rw [z1] at sg ⊢
  rw [z2] at sn ⊢
  have hml := treeM_len L root
  have hnl := treeN_len L root
  have slw := sl_owI om hml (Cp.exc (Nat.le_refl 512)) (by decide)
  have sln := row.sl (by omega)
  clear z1 z2 z3 z4 hlens
  generalize treeM L root = M at *
  generalize treeN L root = N at *
  refine RunO.all rfl ?_
  refine RunC.seq (RunC.seq (RunC.region (RunO.all rfl (RunC.cond rfl (fun g => by cases g) (fun _ => RunC.skip ?_)))))
  refine RunC.seq (RunC.seq (RunC.region (RunO.part 9 rfl ?_)))
  refine RunO.callDG rfl (keepInts_ok sg slw (by omega)) rfl rfl rfl ?_
  rintro _ _ ⟨rfl, rfl⟩
  rw [show (M == M) = true from beq_self_eq_true _]
  refine RunO.part 5 rfl ?_
  refine RunO.callDG rfl (keepInts_ok sn sln (by omega)) rfl rfl rfl ?_
  rintro _ _ ⟨rfl, rfl⟩
  rw [show (N == N) = true from beq_self_eq_true _]
  refine RunO.all rfl (RunC.cond rfl (fun g => by cases g) (fun _ => RunC.skip ?_))
  -- the sector
  have hs : secOk sec = !(decide (sec < 0) || decide (sec ≥ 512)) := rfl
  refine RunC.seq (RunC.seqE (upd (upd (upd (upd (upd E0 2 (.int .i64 sec)) 17 (.int .i64 (if secOk sec then M.getD sec.toNat 0 else 0))) 18 (.int .i64 (if secOk sec then 0 else 3))) 21 (.slice (some ⟨mb, 0, none⟩) 512 (exc 512))) 158 (.bool (decide (sec < 0) || decide (sec ≥ 512)))) ?_ ?_)
  · refine RunC.region (RunO.part 3 rfl ?_)
    cases decide (sec < 0) with
    | true => exact RunO.all rfl ⟨rfl, Le.cons rfl (Le.cons rfl (Le.cons rfl (Le.cons rfl (Le.cons rfl (Le.nil _)))))⟩
    | false => exact RunO.all rfl ⟨rfl, Le.cons rfl (Le.cons rfl (Le.cons rfl (Le.cons rfl (Le.cons rfl (Le.nil _)))))⟩
  rw [hs]
  cases hc : decide (sec < 0) || decide (sec ≥ 512) with
  | true =>
    refine RunC.cond rfl (fun _ => ?_) (fun g => by cases g)
    refine RunC.seq (RunC.region (RunO.part 7 rfl ?_))
    refine RunO.callDG rfl wakes10_ok rfl rfl rfl ?_
    rintro _ h9 ⟨rfl, f9⟩
    exact RunO.all rfl (RunC.ret ⟨_, rfl, rfl⟩)
  | false =>
    rw [Bool.or_eq_false_iff, decide_eq_false_iff_not, decide_eq_false_iff_not] at hc
    obtain ⟨k, rfl⟩ := Int.eq_ofNat_of_zero_le (show 0 ≤ sec by omega)
    have hk : k < M.length := by omega
    have hg : M.getD k 0 = M[k] := by rw [List.getD_eq_getElem?_getD, List.getElem?_eq_getElem hk]; rfl
    refine RunC.cond rfl (fun g => by cases g) (fun _ => RunC.skip ?_)
    rw [Int.toNat_natCast, hg]
    have hp := is_part hk
    generalize M[k] = x at *
    refine RunC.seq (RunC.region (RunO.part 6 rfl ?_))
    refine RunO.atG (s := 1) (k := k) rfl (fun _ => rfl) rfl rfl slw rfl rfl (by omega) hp rfl rfl rfl ?_
    refine RunO.part 1 rfl ?_
    rw [if_pos (show (!false) = true from rfl), show (x == x) = true from beq_self_eq_true _]
    refine RunO.part 2 rfl ?_
    refine RunO.callDG rfl wakes10_ok rfl rfl rfl ?_
    rintro _ h9 ⟨rfl, f9⟩
    exact RunO.all rfl (RunC.ret ⟨_, rfl, rfl⟩)
end Go.Proofs.Ytimefcnagilhlaa
end
