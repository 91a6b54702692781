/- WalkExact: a calculus over an abstract machine that stands beside the model, and contracts of functions by it (part 4).
Conditions: what each theorem says of its arguments. -/
import Derived.Test.YtbinkbdfoalbcaaGWalkExact3
section
set_option linter.unusedVariables false
set_option maxRecDepth 100000
open Go Go.Am
namespace Go.Proofs.Ytbinkbdfoalbcaa
open Go.Proofs.Try
theorem bytesOf_us : ∀ (l : List Int), bytesOf (us l) = some l
  | [] => rfl
  | x :: l => by
    show (match bytesOf (us l) with | some r => some (x :: r) | none => none) = _
    rw [bytesOf_us l]
theorem mkStr_data (l : List Int) : (mkStr l).data.toList = l.map (fun n => UInt8.ofNat n.toNat) := by
  have key : ∀ (l : List Int) (s : ByteArray), (l.foldl (fun r n => r.push (UInt8.ofNat n.toNat)) s).data.toList = s.data.toList ++ l.map (fun n => UInt8.ofNat n.toNat) := by
    intro l
    induction l with
    | nil => intro s; simp
    | cons x l ih =>
      intro s
      simp only [List.foldl_cons, List.map_cons]
      rw [ih]
      simp [ByteArray.push]
  unfold mkStr
  rw [key]; rfl
theorem str_eq {l mb : List Int} {mg : ByteArray} (hmg : strCells mg = us mb) (hb : Byt l) : ((mkStr l).data.toList == mg.data.toList) = decide (l = mb) := by
  rw [mkStr_data]
  have h1 : mb = mg.data.toList.map (fun b => (b.toNat : Int)) := by
    unfold strCells us at hmg
    generalize mg.data.toList = L at *
    clear hb
    induction L generalizing mb with
    | nil => cases mb with
      | nil => rfl
      | cons y t => cases hmg
    | cons x L ih => cases mb with
      | nil => cases hmg
      | cons y t =>
        simp only [List.map_cons, List.cons.injEq, Value.int.injEq, true_and] at hmg ⊢
        exact ⟨hmg.1.symm, ih hmg.2⟩
  rw [Bool.eq_iff_iff, beq_iff_eq, decide_eq_true_iff, h1]
  generalize mg.data.toList = L
  constructor
  · intro e
    rw [← e, List.map_map]
    conv => lhs; rw [← List.map_id l]
    refine List.map_congr_left (fun x hx => ?_)
    have := hb x hx
    simp only [id, Function.comp, UInt8.toNat_ofNat']
    omega
  · intro e
    rw [e, List.map_map]
    conv => rhs; rw [← List.map_id L]
    refine List.map_congr_left (fun x hx => ?_)
    simp
def endF (fl : List (Nat × Nat)) : Nat := fl.foldl (fun _ f => f.1 + f.2) 4
theorem endF_snoc (fl : List (Nat × Nat)) (f : Nat × Nat) : endF (fl ++ [f]) = f.1 + f.2 := by unfold endF; rw [List.foldl_append]; rfl
theorem endF_le : ∀ (fl : List (Nat × Nat)), (∀ f ∈ fl, f.1 + f.2 ≤ 64) → endF fl ≤ 64 := by
  intro fl h
  unfold endF
  have key : ∀ (fl : List (Nat × Nat)) (a : Nat), a ≤ 64 → (∀ f ∈ fl, f.1 + f.2 ≤ 64) → fl.foldl (fun _ f => f.1 + f.2) a ≤ 64 := by
    intro fl
    induction fl with
    | nil => intro a ha _; exact ha
    | cons f t ih => intro a ha h; exact ih _ (h f (List.mem_cons_self ..)) (fun g hg => h g (List.mem_cons_of_mem _ hg))
  exact key fl 4 (by omega) h
def okF (l : List Int) (f : Nat × Nat) : Bool := (leGet l f.1 f.2).2 == 0
def numsB (fl : List (Nat × Nat)) (l : List Int) : List Int := fl.map (fun f => (leGet l f.1 f.2).1)
/-- Why bytes are no block; 0: they are one. -/
def readB (mb : List Int) (fl : List (Nat × Nat)) (l : List Int) : Int :=
  if l.length ≠ 64 then 2 else if l.take 4 ≠ mb then 4 else if goodB l = false then 5 else if fl.all (okF l) = false then 1 else if zerosN l (endF fl) 60 = false then 1 else 0
theorem superRead_ok {h : Heap} {A : Option Addr} {af : Addr} {c cf : Nat} {mg : ByteArray} {l mb : List Int} {fl : List (Nat × Nat)} (hmg : strCells mg = us mb)
    (ra : l.length = 64 → ∃ a, A = some a ∧ Rd h a (us l)) (hb : Byt l) (rf : Rd h af (fcs fl)) (hfl : ∀ f ∈ fl, f.1 + f.2 ≤ 64 ∧ (f.2 = 1 ∨ f.2 = 2 ∨ f.2 = 4 ∨ f.2 = 8)) (hlen : fl.length ≤ 1000) (hc : Cp 1 l.length c) :
    RunF prog 58 [.slice A l.length c, .string mg, .slice (some af) fl.length cf] h fun v h' => ∃ o, v = .tuple #[o, .int .i64 (readB mb fl l)] ∧ (readB mb fl l = 0 → Row h.next h' o 1 fl.length (is (numsB fl l))) ∧ (readB mb fl l ≠ 0 → o = .slice none 0 0) ∧ Fr no h h' := by
  obtain ⟨bf, of, sf⟩ := af
  have hsf : sf = none := rf.1
  subst hsf
  have hbf : bf < h.next := rf.2.1
  refine RunF.walk func58 rfl rfl ?_
  refine RunC.seq (RunC.region (RunO.all rfl ?_))
  refine RunC.seq (RunC.block ?_)
  refine RunC.seq (RunC.region (RunO.all rfl ?_))
  by_cases hl : l.length = 64
  case neg =>
    have hr : readB mb fl l = 2 := if_pos hl
    rw [show ((l.length : Int) != 64) = true by simpa using (by omega : ¬ ((l.length : Int) = 64))]
    refine RunC.cond rfl (fun _ => ?_) (fun g => by cases g)
    rw [hr]
    exact RunC.seq (RunC.region (RunO.all rfl (RunC.ret ⟨_, rfl, _, rfl, fun g => by simp at g, fun _ => rfl, Fr.refl _ _⟩)))
  obtain ⟨⟨b, o, sp⟩, rfl, rd⟩ := ra hl
  have hsp : sp = none := rd.1
  subst hsp
  have hb0 : b < h.next := rd.2.1
  rw [show ((l.length : Int) != 64) = false by simpa using (by omega : ((l.length : Int) = 64))]
  refine RunC.cond rfl (fun g => by cases g) (fun _ => ?_)
  refine RunC.seq (RunC.region (RunO.part 1 rfl ?_))
  refine RunO.slicePre (s := 1) (k := 4) rfl rfl rfl rfl hc (by omega) rfl ?_
  intro c' hc'
  have hll : (l.take 4).length = 4 := by rw [List.length_take]; omega
  have hrd4 : aread h ⟨b, o, none⟩ 4 = some (us (l.take 4)) := by
    have := (rdTake rd 4).read0 (m := 4) (by rw [us_len, hll]; exact Nat.le_refl _)
    rw [this, List.take_of_length_le (by rw [us_len, hll]; exact Nat.le_refl _)]
  refine RunO.one rfl (v := .string (mkStr (l.take 4))) (E1 := upd _ 21 (.string (mkStr (l.take 4)))) (h1 := h) ?_ rfl ?_
  · show pureR h (match aread h ⟨b, o, none⟩ 4 with | some l => (match bytesOf l with | some ns => some (Value.string (mkStr ns)) | none => none) | none => none) = _
    rw [hrd4]
    simp only [bytesOf_us, pureR]
  refine RunO.part 1 rfl ?_
  refine RunO.bin (v := .bool (!(decide (l.take 4 = mb)))) rfl rfl ?_ rfl ?_
  · show some (Value.bool (!((mkStr (l.take 4)).data.toList == mg.data.toList))) = _
    rw [str_eq hmg (fun x hx => hb x (List.mem_of_mem_take hx))]
  refine RunO.all rfl ?_
  by_cases hm : l.take 4 = mb
  case neg =>
    have hr : readB mb fl l = 4 := by unfold readB; rw [if_neg (by omega), if_pos hm]
    rw [decide_eq_false hm]
    refine RunC.cond rfl (fun _ => ?_) (fun g => by cases g)
    rw [hr]
    exact RunC.seq (RunC.region (RunO.all rfl (RunC.ret ⟨_, rfl, _, rfl, fun g => by simp at g, fun _ => rfl, Fr.refl _ _⟩)))
  rw [decide_eq_true hm]
  refine RunC.cond rfl (fun g => by cases g) (fun _ => ?_)
  refine RunC.seq (RunC.region (RunO.part 1 rfl ?_))
  refine RunO.callD (crcGood_ok rd hb (by omega) (by omega) hc) rfl rfl rfl ?_
  rintro _ _ ⟨rfl, rfl⟩
  refine RunO.all rfl ?_
  cases hg : goodB l
  case false =>
    have hr : readB mb fl l = 5 := by unfold readB; rw [if_neg (by omega), if_neg (by simpa using hm), if_pos hg]
    refine RunC.cond rfl (fun _ => ?_) (fun g => by cases g)
    rw [hr]
    exact RunC.seq (RunC.region (RunO.all rfl (RunC.ret ⟨_, rfl, _, rfl, fun g => by simp at g, fun _ => rfl, Fr.refl _ _⟩)))
  refine RunC.cond rfl (fun g => by cases g) (fun _ => ?_)
  refine RunC.skip ?_
  have hr0 : readB mb fl l = if fl.all (okF l) = false then 1 else if zerosN l (endF fl) 60 = false then 1 else 0 := by
    unfold readB; rw [if_neg (by omega), if_neg (by simpa using hm), if_neg (by simp [hg])]
  refine RunC.seq (RunC.region (RunO.all rfl ?_))
  refine RunC.seq (RunC.region (RunO.all rfl ?_))
  refine RunC.seq (RunC.seq (RunC.region (RunO.all rfl ?_)))
  refine RunC.block ?_
  let I : Nat → Env → Heap → Prop := fun d E h' => ∃ (i : Nat) (v : Value), i + d = fl.length ∧ (fl.take i).all (okF l) = true ∧ Row h.next h' v 1 i (is (numsB (fl.take i) l)) ∧ Fr (fun b => h.next ≤ b) h h' ∧ Le (upd (upd (upd (upd (upd (upd E0 0 (.slice (some ⟨b, o, none⟩) l.length c)) 8 v) 9 (.int .i64 (endF (fl.take i) : Nat))) 28 (.slice (some ⟨bf, of, none⟩) fl.length cf)) 29 (.int .i64 fl.length)) 30 (.int .i64 i)) E
  refine RunC.loop I ?_ (k := fl.length) ?_
  · rintro d E h' ⟨i, v, hi, hall, hrow, hf, hE⟩
    refine RunC.le hE ?_
    clear hE
    refine RunC.seq (RunC.region (RunO.all rfl ?_))
    refine RunC.seq (RunC.cond rfl (fun hlt => ?_) (fun hge => ?_))
    · have hlt := of_decide_eq_true hlt
      have hlt2 : i < fl.length := by omega
      refine RunC.skip ?_
      refine RunC.seq (RunC.block ?_)
      refine RunC.seq (RunC.region ?_)
      refine RunO.index (s := 2) rfl rfl rfl rfl hlt2 rfl ?_
      refine RunO.load rfl ((rf.fr hf (by show ¬ h.next ≤ bf; omega)).part (field_part hlt2)) rfl ?_
      have hfx := hfl _ (List.getElem_mem hlt2)
      have htk := List.take_succ_eq_append_getElem hlt2
      have hmem := List.getElem_mem hlt2
      generalize hfi : fl[i] = f at *
      obtain ⟨fa, fs⟩ := f
      refine RunO.part 1 (h1 := h'.push ⟨[.int .i64 0, .int .i64 0], true⟩) rfl ?_
      refine RunO.store rfl rfl (store_ow (s := 2) (Ow.push _ _) rfl rfl rfl (by decide)) (RunO.nil ?_)
      change RunC _ _ _ _ ((h'.push ⟨[.int .i64 0, .int .i64 0], true⟩).put h'.next (some ⟨[.int .i64 (fa : Nat), .int .i64 (fs : Nat)], true⟩)) _ _ _
      have ow2 : Ow ((h'.push ⟨[.int .i64 0, .int .i64 0], true⟩).put h'.next (some ⟨[.int .i64 (fa : Nat), .int .i64 (fs : Nat)], true⟩)) h'.next [.int .i64 (fa : Nat), .int .i64 (fs : Nat)] := Ow.put _ (Nat.lt_succ_self _)
      have f2 : Fr no h' ((h'.push ⟨[.int .i64 0, .int .i64 0], true⟩).put h'.next (some ⟨[.int .i64 (fa : Nat), .int .i64 (fs : Nat)], true⟩)) := (Fr.push _ _ _).trans (Fr.put (m := (· = h'.next)) _ (.inl rfl)) (fun j hj => .inr (by omega))
      have hf2 := hf.quiet f2
      have hrow2 := hrow.fr f2 (fun _ _ _ g => g)
      have hn := hf.next
      have hat : ∀ j, At v j → h.next ≤ j ∧ j < h'.next := fun j g => hrow.at g
      generalize h'.next = p at *
      generalize (h'.push ⟨[.int .i64 0, .int .i64 0], true⟩).put p (some ⟨[.int .i64 (fa : Nat), .int .i64 (fs : Nat)], true⟩) = h2 at *
      clear f2
      refine RunC.seq (RunC.region (RunO.part 2 rfl ?_))
      refine RunO.load (v := .int .i64 (fa : Nat)) rfl (ow2.all.cell1 (k := 0) rfl rfl) rfl ?_
      refine RunO.part 1 rfl ?_
      refine RunO.load (v := .int .i64 (fs : Nat)) rfl (ow2.all.cell1 (k := 1) rfl rfl) rfl ?_
      refine RunO.callD (leGet_ok (s := fs) (k := fa) (rd.fr hf2 (by show ¬ h.next ≤ b; omega)) hb hfx.2 (by rw [hl]; exact hfx.1) (by omega)) rfl rfl rfl ?_
      rintro _ _ ⟨rfl, rfl⟩
      refine RunO.all rfl ?_
      refine RunC.seq (RunC.seq (RunC.region (RunO.all rfl ?_)))
      refine RunC.cond rfl (fun hbad => ?_) (fun hok => ?_)
      · have hbad : okF l (fa, fs) = false := by unfold okF; simpa using hbad
        have hr : readB mb fl l = 1 := by
          rw [hr0, if_pos]
          rw [List.all_eq_false]
          exact ⟨_, hmem, by rw [hbad]; decide⟩
        rw [hr]
        exact RunC.seq (RunC.region (RunO.all rfl (RunC.ret ⟨_, rfl, _, rfl, fun g => by simp at g, fun _ => rfl, frNo hf2⟩)))
      · have hok : (leGet l fa fs).2 = 0 := by simpa using hok
        refine RunC.skip ?_
        refine RunC.seq (RunC.region (RunO.part 3 (h1 := h2.push ⟨[.int .i64 (leGet l fa fs).1], true⟩) rfl ?_))
        refine RunO.append (s := 1) (lo := h.next) rfl rfl rfl rfl rfl rfl rfl rfl (by decide) (hrow2.fr (Fr.push no _ _) (fun _ _ _ g => g)) (Nat.le_trans hf2.next (Nat.le_succ _)) (Ow.push _ _).all rfl (by decide) rfl (by show 2 * (i + 1) * 8 ≤ _; omega) (by omega) ?_
        intro v' h3 hrow3 hf3
        refine RunO.all rfl ?_
        have ow3 := (ow2.fr (Fr.push no _ _) (fun g => g)).fr hf3 (fun g => absurd (hat _ g).2 (Nat.lt_irrefl _))
        refine RunC.region (RunO.part 1 rfl ?_)
        refine RunO.load (v := .int .i64 (fa : Nat)) rfl (ow3.all.cell1 (k := 0) rfl rfl) rfl ?_
        refine RunO.part 1 rfl ?_
        refine RunO.load (v := .int .i64 (fs : Nat)) rfl (ow3.all.cell1 (k := 1) rfl rfl) rfl ?_
        refine RunO.all rfl ?_
        refine RunC.region (RunO.all rfl ?_)
        refine ⟨d - 1, by omega, i + 1, v', by omega, ?_, ?_, ?_, ?_⟩
        · rw [htk, List.all_append, hall]
          simp [okF, hok]
        · rw [htk]
          have e : is (numsB (fl.take i ++ [(fa, fs)]) l) = is (numsB (fl.take i) l) ++ [.int .i64 (leGet l fa fs).1] := by
            unfold is numsB; simp
          rw [e]; exact hrow3
        · exact (hf2.same (Fr.push _ _ _)).trans hf3 (fun j g => .inl (hat _ g).1)
        · refine Le.cons (inc64 (by omega)) (Le.cons rfl (Le.cons rfl (Le.cons ?_ (Le.cons rfl (Le.cons rfl (Le.nil _))))))
          show some (Value.int .i64 (fwrap .i64 ((fa : Int) + (fs : Int)))) = _
          have := hfx.1
          rw [fw64 (by omega) (by omega), htk, endF_snoc]
          rfl
    · have hge := of_decide_eq_false hge
      refine RunC.exit ?_
      have hi2 : i = fl.length := by omega
      subst hi2
      rw [List.take_length] at hrow hall
      rw [List.take_length]
      have hend := endF_le fl (fun f hf => (hfl f hf).1)
      refine RunC.seq (RunC.seq (RunC.region (RunO.part 2 rfl ?_)))
      refine RunO.callD (leZeros_ok (k := endF fl) (m := 60) (rd.fr hf (by show ¬ h.next ≤ b; omega)) (by omega) (by omega) (by omega)) rfl rfl rfl ?_
      rintro _ _ ⟨rfl, rfl⟩
      refine RunO.all rfl ?_
      rw [if_neg (by simp [hall])] at hr0
      cases hz : zerosN l (endF fl) 60 with
      | false =>
        rw [if_pos hz] at hr0
        refine RunC.cond rfl (fun _ => ?_) (fun g => by cases g)
        rw [hr0]
        exact RunC.seq (RunC.region (RunO.all rfl (RunC.ret ⟨_, rfl, _, rfl, fun g => by simp at g, fun _ => rfl, frNo hf⟩)))
      | true =>
        rw [if_neg (by simp [hz])] at hr0
        refine RunC.cond rfl (fun g => by cases g) (fun _ => RunC.skip ?_)
        rw [hr0]
        exact RunC.seq (RunC.region (RunO.all rfl (RunC.ret ⟨_, rfl, _, rfl, fun _ => hrow, fun g => absurd rfl g, frNo hf⟩)))
  · exact ⟨0, .slice none 0 0, by omega, rfl, Row.nil _ _ _, Fr.refl _ _, Le.cons rfl (Le.cons rfl (Le.cons rfl (Le.cons rfl (Le.cons rfl (Le.cons rfl (Le.nil _))))))⟩
end Go.Proofs.Ytbinkbdfoalbcaa
end
section
set_option linter.unusedVariables false
set_option maxRecDepth 100000
open Go Go.Am Go.RowKit
namespace Go.Proofs.Ytbinkbdfoalbcaa
open Go.Proofs.Try
def inB (a lo hi : Int) : Bool := decide (a ≥ lo) && decide (a ≤ hi)
theorem inB_iff (a lo hi : Int) : inB a lo hi = true ↔ lo ≤ a ∧ a ≤ hi := by
  unfold inB; rw [Bool.and_eq_true, decide_eq_true_iff, decide_eq_true_iff]
theorem if_eq0 (b : Bool) : ((if b = true then (0 : Int) else 1) == 0) = b := by cases b <;> rfl
theorem foldl_range_succ {α : Type} (f : α → Nat → α) (a : α) (i : Nat) : (List.range (i + 1)).foldl f a = f ((List.range i).foldl f a) i := by
  rw [List.range_succ, List.foldl_append]; rfl
end Go.Proofs.Ytbinkbdfoalbcaa
end
section
set_option linter.unusedVariables false
set_option maxRecDepth 100000
open Go Go.Am Go.RowKit
namespace Go.Proofs.Ytbinkbdfoalbcaa
open Go.Proofs.Try
/-- Is a device one? -/
def devOk (n : Nat) : Bool := n % 64 == 0 && (decide (4 ≤ n / 64) && decide (n / 64 ≤ 4096))
theorem devCheck_ok {h : Heap} {A : Option Addr} {c len : Nat} (hm : len ≤ 4611686018427387904) :
    RunF prog 43 [.slice A len c] h fun v h' => v = .tuple #[.int .i64 (if devOk len then (len / 64 : Nat) else (0 : Nat)), .int .i64 (if devOk len then 0 else 2)] ∧ h = h' := by
  refine RunF.walk func43 rfl rfl ?_
  refine RunC.seq (RunC.region (RunO.all rfl ?_))
  refine RunC.seq (RunC.region (RunO.all rfl ?_))
  have e1 : (len : Int).tdiv 64 = ((len / 64 : Nat) : Int) := by rw [Int.tdiv_eq_ediv_of_nonneg (by omega)]; omega
  have e2 : (len : Int).tmod 64 = ((len % 64 : Nat) : Int) := by rw [Int.tmod_eq_emod_of_nonneg (by omega)]; omega
  rw [e1, fw64 (by omega) (by omega)]
  refine RunC.seq (RunC.seq (RunC.region (RunO.part 3 rfl ?_)))
  rw [e2]
  unfold devOk
  by_cases c1 : len % 64 = 0
  · refine RunO.part 2 rfl ?_
    rw [show (((len % 64 : Nat) : Int) != 0) = false by rw [c1]; rfl]
    by_cases c2 : 4 ≤ len / 64
    · refine RunO.part 4 rfl ?_
      rw [show decide (((len / 64 : Nat) : Int) < 4) = false from decide_eq_false (by omega)]
      refine RunO.all rfl ?_
      by_cases c3 : len / 64 ≤ 4096
      · rw [show decide (((len / 64 : Nat) : Int) > 4096) = false from decide_eq_false (by omega)]
        refine RunC.cond rfl (fun g => by cases g) (fun _ => RunC.skip ?_)
        rw [show (len % 64 == 0 && (decide (4 ≤ len / 64) && decide (len / 64 ≤ 4096))) = true by simp [c1, c2, c3]]
        exact RunC.seq (RunC.region (RunO.all rfl (RunC.ret ⟨_, rfl, rfl, rfl⟩)))
      · rw [show decide (((len / 64 : Nat) : Int) > 4096) = true from decide_eq_true (by omega)]
        refine RunC.cond rfl (fun _ => ?_) (fun g => by cases g)
        rw [show (len % 64 == 0 && (decide (4 ≤ len / 64) && decide (len / 64 ≤ 4096))) = false by simp [c3]]
        exact RunC.seq (RunC.region (RunO.all rfl (RunC.ret ⟨_, rfl, rfl, rfl⟩)))
    · refine RunO.part 4 rfl ?_
      rw [show decide (((len / 64 : Nat) : Int) < 4) = true from decide_eq_true (by omega)]
      refine RunO.all rfl ?_
      refine RunC.cond rfl (fun _ => ?_) (fun g => by cases g)
      rw [show (len % 64 == 0 && (decide (4 ≤ len / 64) && decide (len / 64 ≤ 4096))) = false by simp [c2]]
      exact RunC.seq (RunC.region (RunO.all rfl (RunC.ret ⟨_, rfl, rfl, rfl⟩)))
  · refine RunO.part 2 rfl ?_
    rw [show (((len % 64 : Nat) : Int) != 0) = true by simp; omega]
    refine RunO.all rfl ?_
    refine RunC.cond rfl (fun _ => ?_) (fun g => by cases g)
    rw [show (len % 64 == 0 && (decide (4 ≤ len / 64) && decide (len / 64 ≤ 4096))) = false by simp [c1]]
    exact RunC.seq (RunC.region (RunO.all rfl (RunC.ret ⟨_, rfl, rfl, rfl⟩)))
/-- A block of a device. -/
def blkI (l : List Int) (i : Nat) : List Int := (l.drop (i * 64)).take 64
theorem blkI_len {l : List Int} {i : Nat} (h : (i + 1) * 64 ≤ l.length) : (blkI l i).length = 64 := by unfold blkI; rw [List.length_take, List.length_drop]; omega
theorem rdBlk {h : Heap} {b o : Nat} {l : List Int} {i : Nat} (rd : Rd h ⟨b, o, none⟩ (us l)) (hi : (i + 1) * 64 ≤ l.length) : Rd h ⟨b, o + i * 64, none⟩ (us (blkI l i)) := by
  obtain ⟨h1, h2, ob, ho, he⟩ := rd
  refine ⟨rfl, h2, ob, ho, ?_⟩
  have hl := congrArg List.length he
  rw [List.length_take, List.length_drop, us_len] at hl
  simp only at hl he ⊢
  have e : us (blkI l i) = ((us l).drop (i * 64)).take 64 := by unfold blkI us; rw [List.map_take, List.map_drop]
  rw [us_len, blkI_len hi, e]
  apply List.ext_getElem?
  intro j
  rw [List.getElem?_take, List.getElem?_take]
  split
  · rename_i hj
    rw [List.getElem?_drop, List.getElem?_drop]
    conv => rhs; rw [← he]
    rw [us_len, List.getElem?_take, if_pos (by omega), List.getElem?_drop]
    congr 1; omega
  · rfl
theorem devOf_ok {h : Heap} {b o c i : Nat} {l : List Int} (hi : (i + 1) * 64 ≤ l.length) (hm : l.length ≤ 4611686018427387904) (hc : Cp 1 l.length c) :
    RunF prog 57 [.slice (some ⟨b, o, none⟩) l.length c, .int .i64 i] h fun v h' => (∃ c', Cp 1 64 c' ∧ v = .slice (some ⟨b, o + i * 64, none⟩) 64 c') ∧ h = h' := by
  refine RunF.walk func57 rfl rfl ?_
  refine RunC.seq (RunC.region (RunO.all rfl ?_))
  refine RunC.seq (RunC.region (RunO.part 6 rfl ?_))
  rw [fw64 (x := (i : Int) + 1) (by omega) (by omega), fw64 (x := (i : Int) * 64) (by omega) (by omega), fw64 (x := ((i : Int) + 1) * 64) (by omega) (by omega), show (i : Int) * 64 = ((i * 64 : Nat) : Int) by omega, show ((i : Int) + 1) * 64 = (((i + 1) * 64 : Nat) : Int) by omega]
  refine RunO.sliceMid (s := 1) rfl rfl rfl rfl rfl hc (by omega) hi rfl ?_
  intro c' hc'
  have e : (i + 1) * 64 - i * 64 = 64 := by omega
  rw [e] at hc' ⊢
  refine RunO.all rfl (RunC.ret ⟨_, rfl, ⟨c', hc', ?_⟩, rfl⟩)
  rw [Nat.mul_one]
theorem byt_blk {l : List Int} (h : Byt l) (i : Nat) : Byt (blkI l i) := fun x hx => h x (List.mem_of_mem_drop (List.mem_of_mem_take hx))
end Go.Proofs.Ytbinkbdfoalbcaa
end
section
set_option linter.unusedVariables false
set_option maxRecDepth 100000
open Go Go.Am Go.RowKit
namespace Go.Proofs.Ytbinkbdfoalbcaa
open Go.Proofs.Try
def ptrB (n : Int) : Bool := n == 0 || (decide (n ≥ 2) && decide (n < 4096))
theorem nodePointer_ok {h : Heap} {n : Int} : RunF prog 87 [.int .i64 n] h fun v h' => v = .bool (ptrB n) ∧ h = h' := by
  refine RunF.walk func87 rfl rfl ?_
  refine RunC.seq (RunC.region (RunO.all rfl ?_))
  refine RunC.seq (RunC.region (RunO.part 3 rfl ?_))
  unfold ptrB
  cases (n == 0) with
  | true => exact RunO.all rfl (RunC.ret ⟨_, rfl, rfl, rfl⟩)
  | false =>
    refine RunO.part 3 rfl ?_
    cases decide (n ≥ 2) with
    | true => exact RunO.all rfl (RunC.ret ⟨_, rfl, by simp, rfl⟩)
    | false => exact RunO.all rfl (RunC.ret ⟨_, rfl, by simp, rfl⟩)
end Go.Proofs.Ytbinkbdfoalbcaa
end
section
set_option linter.unusedVariables false
namespace Go.Proofs.Ytbinkbdfoalbcaa
open Go Go.Am
/- Blocks of numbers: what is made is read. Nothing here names the program. -/
theorem leN_leB (n : Nat) : ∀ v : Int, leN (leB n v) = v % 256 ^ n := by
  induction n with
  | zero => intro v; simp [leB, leN, Int.emod_one]
  | succ n ih =>
    intro v
    rw [leB, leN, ih, Int.pow_succ, Int.mul_comm (256 ^ n) 256]
    have h1 := Int.emod_add_mul_ediv v 256
    have h2 := Int.emod_add_mul_ediv (v / 256) (256 ^ n)
    have h3 : v / (256 * 256 ^ n) = v / 256 / 256 ^ n := (Int.ediv_ediv_of_nonneg (by omega)).symm
    have h4 := Int.emod_add_mul_ediv v (256 * 256 ^ n)
    rw [h3, Int.mul_assoc] at h4
    have h5 : 256 * (v / 256 % 256 ^ n + 256 ^ n * (v / 256 / 256 ^ n)) = 256 * (v / 256) := by rw [h2]
    rw [Int.mul_add] at h5
    omega
theorem leB_byt (n : Nat) : ∀ v : Int, Byt (leB n v) := by
  induction n with
  | zero => intro v x h; simp [leB] at h
  | succ n ih =>
    intro v x h
    rw [leB, List.mem_cons] at h
    rcases h with rfl | h
    · omega
    · exact ih _ x h
theorem byt_app {a b : List Int} (ha : Byt a) (hb : Byt b) : Byt (a ++ b) := fun x hx => (List.mem_append.1 hx).elim (ha x) (hb x)
theorem byt_rep (n : Nat) : Byt (List.replicate n 0) := fun x hx => by rw [List.eq_of_mem_replicate hx]; omega
theorem byt_take {l : List Int} (h : Byt l) (k : Nat) : Byt (l.take k) := fun x hx => h x (List.mem_of_mem_take hx)
def catB : List Nat → List Int → List Int
  | s :: ss, n :: ns => leB s n ++ catB ss ns
  | _, _ => []
theorem catB_byt : ∀ (ss : List Nat) (ns : List Int), Byt (catB ss ns)
  | [], _ => fun x h => by simp [catB] at h
  | _ :: _, [] => fun x h => by simp [catB] at h
  | s :: ss, n :: ns => byt_app (leB_byt s n) (catB_byt ss ns)
theorem catB_len : ∀ (ss : List Nat) (ns : List Int), ns.length = ss.length → (catB ss ns).length = ss.sum
  | [], _, _ => rfl
  | s :: ss, [], h => by simp at h
  | s :: ss, n :: ns, h => by
    rw [catB, List.length_append, leB_len, catB_len ss ns (by simpa using h), List.sum_cons]
theorem put_cat : ∀ (ss : List Nat) (ns : List Int) (p : List Int) (z a : Nat), p.length = a → ns.length = ss.length → ss.sum ≤ z →
    putF (p ++ List.replicate z 0) ((layF a ss).zip ns) = p ++ catB ss ns ++ List.replicate (z - ss.sum) 0
  | [], ns, p, z, a, hp, hn, hz => by simp [layF, putF, catB]
  | s :: ss, [], p, z, a, hp, hn, hz => by simp at hn
  | s :: ss, n :: ns, p, z, a, hp, hn, hz => by
    have hz' : s + ss.sum ≤ z := by simpa using hz
    have e : layI (p ++ List.replicate z 0) a (leB s n) = (p ++ leB s n) ++ List.replicate (z - s) 0 := by
      unfold layI
      rw [leB_len, List.take_left' hp, List.drop_append, List.drop_of_length_le (by omega), List.nil_append, List.drop_replicate]
      congr 2
      omega
    show putF (layI (p ++ List.replicate z 0) a (leB s n)) ((layF (a + s) ss).zip ns) = _
    rw [e, put_cat ss ns (p ++ leB s n) (z - s) (a + s) (by rw [List.length_append, leB_len, hp]) (by simpa using hn) (by omega)]
    simp only [catB, List.sum_cons, List.append_assoc]
    congr 4
    omega
/-- Numbers that fit. -/
def Fits : List Nat → List Int → Prop
  | s :: ss, n :: ns => (0 ≤ n ∧ n < 256 ^ s ∧ n ≤ 4611686018427387903) ∧ Fits ss ns
  | [], [] => True
  | _, _ => False
theorem Fits.len : ∀ {ss : List Nat} {ns : List Int}, Fits ss ns → ns.length = ss.length
  | [], [], _ => rfl
  | s :: ss, n :: ns, h => by simpa using Fits.len h.2
  | [], _ :: _, h => h.elim
  | _ :: _, [], h => h.elim
theorem get_at {p r : List Int} {a s : Nat} {n : Int} (hp : p.length = a) (h : 0 ≤ n ∧ n < 256 ^ s ∧ n ≤ 4611686018427387903) : leGet (p ++ leB s n ++ r) a s = (n, 0) := by
  have e : ((p ++ leB s n ++ r).drop a).take s = leB s n := by
    rw [List.append_assoc, List.drop_left' hp, List.take_left' (leB_len s n)]
  unfold leGet
  rw [e, leN_leB, Int.emod_eq_of_lt h.1 h.2.1, if_neg (by omega)]
theorem read_cat : ∀ (ss : List Nat) (ns : List Int) (p r : List Int) (a : Nat), p.length = a → Fits ss ns →
    (layF a ss).all (okF (p ++ catB ss ns ++ r)) = true ∧ numsB (layF a ss) (p ++ catB ss ns ++ r) = ns
  | [], [], p, r, a, hp, hf => ⟨rfl, rfl⟩
  | [], _ :: _, p, r, a, hp, hf => hf.elim
  | _ :: _, [], p, r, a, hp, hf => hf.elim
  | s :: ss, n :: ns, p, r, a, hp, hf => by
    have ih := read_cat ss ns (p ++ leB s n) r (a + s) (by rw [List.length_append, leB_len, hp]) hf.2
    have e : p ++ catB (s :: ss) (n :: ns) ++ r = p ++ leB s n ++ catB ss ns ++ r := by simp [catB]
    rw [e]
    have g : leGet (p ++ leB s n ++ catB ss ns ++ r) a s = (n, 0) := by
      have := get_at (r := catB ss ns ++ r) hp hf.1
      rwa [← List.append_assoc] at this
    constructor
    · simp only [layF, List.all_cons, ih.1, Bool.and_true]
      unfold okF; rw [g]; rfl
    · show (leGet _ a s).1 :: numsB (layF (a + s) ss) _ = _
      rw [ih.2, g]
theorem endF_lay : ∀ (ss : List Nat) (a : Nat), (layF a ss).foldl (fun _ f => f.1 + f.2) a = a + ss.sum
  | [], a => rfl
  | s :: ss, a => by
    show (layF (a + s) ss).foldl _ (a + s) = _
    rw [endF_lay ss (a + s), List.sum_cons, Nat.add_assoc]
theorem makeB_eq {mb : List Int} {ss : List Nat} {ns : List Int} (hm : mb.length = 4) (hn : ns.length = ss.length) (hs : ss.sum ≤ 56) :
    makeB mb (layF 4 ss) ns = mb ++ catB ss ns ++ List.replicate (56 - ss.sum) 0 ++ leB 4 (Crc.sum 0 (mb ++ catB ss ns ++ List.replicate (56 - ss.sum) 0)) := by
  have hc := catB_len ss ns hn
  have e : (putF (mb ++ List.replicate 60 0) ((layF 4 ss).zip ns)).take 60 = mb ++ catB ss ns ++ List.replicate (56 - ss.sum) 0 := by
    rw [put_cat ss ns mb 60 4 hm hn (by omega)]
    rw [List.take_append, List.take_of_length_le (by simp; omega), List.take_replicate]
    congr 2
    simp; omega
  unfold makeB
  rw [e]
theorem makeB_byt {mb : List Int} {ss : List Nat} {ns : List Int} (hb : Byt mb) (hm : mb.length = 4) (hn : ns.length = ss.length) (hs : ss.sum ≤ 56) : Byt (makeB mb (layF 4 ss) ns) := by
  rw [makeB_eq hm hn hs]
  exact byt_app (byt_app (byt_app hb (catB_byt ss ns)) (byt_rep _)) (leB_byt 4 _)
theorem makeB_len {mb : List Int} {ss : List Nat} {ns : List Int} (hm : mb.length = 4) (hn : ns.length = ss.length) (hs : ss.sum ≤ 56) : (makeB mb (layF 4 ss) ns).length = 64 := by
  rw [makeB_eq hm hn hs]
  have hc := catB_len ss ns hn
  simp [leB_len]; omega
theorem zeros_rep {p r : List Int} {a z b : Nat} (hp : p.length = a) (hb : b = a + z) : zerosN (p ++ List.replicate z 0 ++ r) a b = true := by
  unfold zerosN
  rw [List.append_assoc, List.drop_left' hp, List.take_left' (by simp; omega)]
  rw [List.all_eq_true]
  intro x hx
  rw [List.eq_of_mem_replicate hx]; rfl
/-- What is made is read. -/
theorem read_make {mb : List Int} {ss : List Nat} {ns : List Int} (hm : mb.length = 4) (hf : Fits ss ns) (hs : ss.sum ≤ 56) :
    readB mb (layF 4 ss) (makeB mb (layF 4 ss) ns) = 0 ∧ numsB (layF 4 ss) (makeB mb (layF 4 ss) ns) = ns := by
  have hn := hf.len
  have hlen := makeB_len hm hn hs
  have hc := catB_len ss ns hn
  rw [makeB_eq hm hn hs] at hlen ⊢
  generalize hS : Crc.sum 0 (mb ++ catB ss ns ++ List.replicate (56 - ss.sum) 0) = S at *
  have hS0 : 0 ≤ S := by rw [← hS]; exact Crc.sum0 _ _
  have hS1 : S < 4294967296 := by rw [← hS]; exact Crc.sum1 _ _
  have h60 : (mb ++ catB ss ns ++ List.replicate (56 - ss.sum) 0).length = 60 := by simp; omega
  obtain ⟨h1, h2⟩ := read_cat ss ns mb (List.replicate (56 - ss.sum) 0 ++ leB 4 S) 4 hm hf
  rw [← List.append_assoc] at h1 h2
  refine ⟨?_, h2⟩
  have hgood : goodB (mb ++ catB ss ns ++ List.replicate (56 - ss.sum) 0 ++ leB 4 S) = true := by
    unfold goodB
    rw [hlen]
    have g := get_at (p := mb ++ catB ss ns ++ List.replicate (56 - ss.sum) 0) (r := []) (a := 60) (s := 4) (n := S) h60 ⟨hS0, hS1, by omega⟩
    rw [List.append_nil] at g
    rw [show (64 - 4 : Nat) = 60 from rfl, g, List.take_left' h60, hS]
    exact beq_self_eq_true _
  have hz : zerosN (mb ++ catB ss ns ++ List.replicate (56 - ss.sum) 0 ++ leB 4 S) (endF (layF 4 ss)) 60 = true := by
    have e : endF (layF 4 ss) = 4 + ss.sum := endF_lay ss 4
    rw [e]
    exact zeros_rep (by simp; omega) (by omega)
  unfold readB
  rw [if_neg (by omega), if_neg (by rw [List.append_assoc, List.append_assoc, List.take_left' hm]; simp), if_neg (by rw [hgood]; decide), if_neg (by rw [h1]; decide), if_neg (by rw [hz]; decide)]
end Go.Proofs.Ytbinkbdfoalbcaa
end
section
namespace Go.Proofs.Ytbinkbdfoalbcaa
open Go Go.Am
theorem xshift (i a b : Nat) (h : b < 2 ^ i) : b ^^^ (a <<< i) = 2 ^ i * a + b := by
  apply Nat.eq_of_testBit_eq
  intro j
  rw [Nat.testBit_xor, Nat.testBit_shiftLeft, Nat.testBit_two_pow_mul_add a h]
  by_cases c : j < i
  · rw [if_pos c, decide_eq_false (by omega), Bool.false_and, Bool.xor_false]
  · rw [if_neg c, decide_eq_true (by omega), Bool.true_and, Nat.testBit_lt_two_pow (Nat.lt_of_lt_of_le h (Nat.pow_le_pow_right (by omega) (by omega))), Bool.false_xor]
theorem le4_val (c0 c1 c2 c3 : Nat) (h0 : c0 < 256) (h1 : c1 < 256) (h2 : c2 < 256) (h3 : c3 < 256) : (Crc.le4 c0 c1 c2 c3).toNat = c0 + 256 * c1 + 65536 * c2 + 16777216 * c3 := by
  unfold Crc.le4 Crc.by8
  simp only [BitVec.toNat_xor, BitVec.toNat_shiftLeft, BitVec.toNat_ofNat]
  have e0 : c0 % 2 ^ 32 = c0 := Nat.mod_eq_of_lt (by omega)
  have e1 : (c1 % 2 ^ 32) <<< 8 % 2 ^ 32 = c1 <<< 8 := by rw [Nat.mod_eq_of_lt (show c1 < 2 ^ 32 by omega), Nat.shiftLeft_eq]; exact Nat.mod_eq_of_lt (by omega)
  have e2 : (c2 % 2 ^ 32) <<< 16 % 2 ^ 32 = c2 <<< 16 := by rw [Nat.mod_eq_of_lt (show c2 < 2 ^ 32 by omega), Nat.shiftLeft_eq]; exact Nat.mod_eq_of_lt (by omega)
  have e3 : (c3 % 2 ^ 32) <<< 24 % 2 ^ 32 = c3 <<< 24 := by rw [Nat.mod_eq_of_lt (show c3 < 2 ^ 32 by omega), Nat.shiftLeft_eq]; exact Nat.mod_eq_of_lt (by omega)
  rw [e0, e1, e2, e3, xshift 8 c1 c0 (by omega), xshift 16 c2 _ (by omega), xshift 24 c3 _ (by omega)]
  omega
def bys (l : List Int) : List Crc.W := l.map (fun x => Crc.by8 x.toNat)
theorem st_fold (l : List Int) (hb : ∀ x ∈ l, 0 ≤ x ∧ x < 256) : ∀ v, Crc.st l v = Crc.fold v (bys l) := by
  induction l with
  | nil => intro v; rfl
  | cons x t ih =>
    intro v
    have hx := hb x (List.mem_cons_self ..)
    have e : BitVec.ofInt 32 x = Crc.by8 x.toNat := by
      obtain ⟨n, rfl⟩ := Int.eq_ofNat_of_zero_le hx.1
      unfold Crc.by8
      rw [Int.toNat_natCast]
      apply BitVec.eq_of_toNat_eq
      simp
    show Crc.st t (Crc.Zn 8 (v ^^^ BitVec.ofInt 32 x)) = Crc.fold (Crc.Bs v (Crc.by8 x.toNat)) (bys t)
    rw [ih (fun y hy => hb y (List.mem_cons_of_mem _ hy)), e]
    rfl
theorem good_fold (b : List Int) (hl : b.length = 64) (hb : ∀ x ∈ b, 0 ≤ x ∧ x < 256) : goodB b = true ↔ Crc.fold 0xFFFFFFFF#32 (bys b) = Crc.Zn 32 0xFFFFFFFF#32 := by
  obtain ⟨t, c0, c1, c2, c3, ht, rfl⟩ : ∃ (t : List Int) (c0 c1 c2 c3 : Int), t.length = 60 ∧ b = t ++ [c0, c1, c2, c3] := by
    have hd : (b.drop 60).length = 4 := by rw [List.length_drop, hl]
    match hh : b.drop 60, hd with
    | [c0, c1, c2, c3], _ => exact ⟨b.take 60, c0, c1, c2, c3, by rw [List.length_take, hl]; rfl, by rw [← hh, List.take_append_drop]⟩
  have k0 := hb c0 (by simp)
  have k1 := hb c1 (by simp)
  have k2 := hb c2 (by simp)
  have k3 := hb c3 (by simp)
  have kt : ∀ x ∈ t, 0 ≤ x ∧ x < 256 := fun x hx => hb x (List.mem_append_left _ hx)
  have hs := Crc.sealed (bys t) c0.toNat c1.toNat c2.toNat c3.toNat (by omega) (by omega) (by omega)
  rw [show bys (t ++ [c0, c1, c2, c3]) = bys t ++ [Crc.by8 c0.toNat, Crc.by8 c1.toNat, Crc.by8 c2.toNat, Crc.by8 c3.toNat] by unfold bys; rw [List.map_append]; rfl, hs]
  have hv := le4_val c0.toNat c1.toNat c2.toNat c3.toNat (by omega) (by omega) (by omega) (by omega)
  have hn : leN [c0, c1, c2, c3] = Crc.nt (Crc.le4 c0.toNat c1.toNat c2.toNat c3.toNat) := by
    unfold Crc.nt
    rw [hv]
    simp only [leN]
    omega
  unfold goodB leGet
  rw [hl, show (64 - 4 : Nat) = 60 from rfl, List.drop_left' ht, List.take_left' ht, show List.take 4 [c0, c1, c2, c3] = [c0, c1, c2, c3] from rfl, hn, if_neg (by have := Crc.nt1 (Crc.le4 c0.toNat c1.toNat c2.toNat c3.toNat); omega), beq_iff_eq]
  unfold Crc.sum
  rw [st_fold t kt, show (~~~ BitVec.ofInt 32 0 : Crc.W) = 0xFFFFFFFF#32 by decide]
  exact ⟨fun h => Crc.nt_inj h, fun h => by rw [h]⟩
theorem fold_app (v : Crc.W) (a b : List Crc.W) : Crc.fold v (a ++ b) = Crc.fold (Crc.fold v a) b := by unfold Crc.fold; rw [List.foldl_append]
theorem four_of {b : List Int} {p : Nat} (hl : b.length = 64) (hp : p + 4 ≤ 64) : ∃ c0 c1 c2 c3, b = b.take p ++ (c0 :: c1 :: c2 :: c3 :: b.drop (p + 4)) := by
  have hd : ((b.drop p).take 4).length = 4 := by rw [List.length_take, List.length_drop, hl]; omega
  match hh : (b.drop p).take 4, hd with
  | [c0, c1, c2, c3], _ =>
    refine ⟨c0, c1, c2, c3, ?_⟩
    have e : b.drop p = [c0, c1, c2, c3] ++ b.drop (p + 4) := by
      rw [← hh, ← List.drop_drop]
      exact (List.take_append_drop 4 (b.drop p)).symm
    calc b = b.take p ++ b.drop p := (List.take_append_drop p b).symm
      _ = _ := by rw [e]; rfl
theorem bys_four (pre post : List Int) (c0 c1 c2 c3 : Int) : bys (pre ++ (c0 :: c1 :: c2 :: c3 :: post)) = bys pre ++ (Crc.by8 c0.toNat :: Crc.by8 c1.toNat :: Crc.by8 c2.toNat :: Crc.by8 c3.toNat :: bys post) := by
  unfold bys; rw [List.map_append]; rfl
/-- Two blocks whose sums are right and that differ in four bytes side by side alone are one. -/
theorem burst_good {b b' : List Int} {p : Nat} (hp : p + 4 ≤ 64) (hl : b.length = 64) (hl' : b'.length = 64) (hb : ∀ x ∈ b, 0 ≤ x ∧ x < 256) (hb' : ∀ x ∈ b', 0 ≤ x ∧ x < 256)
    (ht : b.take p = b'.take p) (hd : b.drop (p + 4) = b'.drop (p + 4)) (hg : goodB b = true) (hg' : goodB b' = true) : b = b' := by
  have g1 := (good_fold b hl hb).1 hg
  have g2 := (good_fold b' hl' hb').1 hg'
  obtain ⟨c0, c1, c2, c3, hc⟩ := four_of hl hp
  obtain ⟨d0, d1, d2, d3, he⟩ := four_of hl' hp
  rw [← ht, ← hd] at he
  generalize b.take p = pre at *
  generalize b.drop (p + 4) = post at *
  subst hc
  subst he
  rw [bys_four, fold_app] at g1 g2
  have k0 := hb c0 (by simp)
  have k1 := hb c1 (by simp)
  have k2 := hb c2 (by simp)
  have k3 := hb c3 (by simp)
  have m0 := hb' d0 (by simp)
  have m1 := hb' d1 (by simp)
  have m2 := hb' d2 (by simp)
  have m3 := hb' d3 (by simp)
  obtain ⟨e0, e1, e2, e3⟩ := Crc.burst (by omega) (by omega) (by omega) (by omega) (by omega) (by omega) (by omega) (by omega) _ (g1.trans g2.symm)
  rw [show c0 = d0 by omega, show c1 = d1 by omega, show c2 = d2 by omega, show c3 = d3 by omega]
theorem readB_good {m : List Int} {fl : List (Nat × Nat)} {b : List Int} (h : readB m fl b = 0) : goodB b = true ∧ b.length = 64 := by
  unfold readB at h
  by_cases c1 : b.length ≠ 64
  · rw [if_pos c1] at h; cases h
  · rw [if_neg c1] at h
    by_cases c2 : b.take 4 ≠ m
    · rw [if_pos c2] at h; cases h
    · rw [if_neg c2] at h
      by_cases c3 : goodB b = false
      · rw [if_pos c3] at h; cases h
      · exact ⟨by simpa using c3, by omega⟩
end Go.Proofs.Ytbinkbdfoalbcaa
end
section
namespace Go.Proofs.Ytbinkbdfoalbcaa
open Go Go.Am
/-- A byte changed. -/
def xb (c x : Int) : Int := IntKind.u8.wrap (BitVec.ofInt IntKind.u8.bits c ^^^ BitVec.ofInt IntKind.u8.bits x).toNat
theorem u8_toNat (a : BitVec 8) : IntKind.u8.wrap (a.toNat : Int) = a.toNat := by
  have := a.isLt
  simp only [IntKind.wrap]
  first | omega | (simp only [IntKind.bits, IntKind.signed]; omega) | (simp [IntKind.bits, IntKind.signed]; omega)
theorem xor8 (a b : BitVec 8) : xb (a.toNat : Int) (b.toNat : Int) = ((a ^^^ b).toNat : Int) := by
  unfold xb
  have e : ∀ x : BitVec 8, BitVec.ofInt IntKind.u8.bits (x.toNat : Int) = x := fun x => by
    show BitVec.ofInt 8 (x.toNat : Int) = x
    rw [BitVec.ofInt_natCast, BitVec.ofNat_toNat]; rfl
  rw [e a, e b]
  exact u8_toNat (a ^^^ b)
theorem byte_bv {c : Int} (h : 0 ≤ c ∧ c < 256) : ∃ a : BitVec 8, c = (a.toNat : Int) := by
  obtain ⟨n, rfl⟩ := Int.eq_ofNat_of_zero_le h.1
  refine ⟨BitVec.ofNat 8 n, ?_⟩
  rw [BitVec.toNat_ofNat, Nat.mod_eq_of_lt (by omega)]
theorem xb_byte {c x : Int} (hc : 0 ≤ c ∧ c < 256) (hx : 0 ≤ x ∧ x < 256) : 0 ≤ xb c x ∧ xb c x < 256 := by
  obtain ⟨a, rfl⟩ := byte_bv hc
  obtain ⟨b, rfl⟩ := byte_bv hx
  rw [xor8]
  have := (a ^^^ b).isLt
  omega
theorem xb_same {c x : Int} (hc : 0 ≤ c ∧ c < 256) (hx : 0 ≤ x ∧ x < 256) : xb c x = c ↔ x = 0 := by
  obtain ⟨a, rfl⟩ := byte_bv hc
  obtain ⟨b, rfl⟩ := byte_bv hx
  rw [xor8]
  constructor
  · intro h
    have h1 : a ^^^ b = a := BitVec.eq_of_toNat_eq (by omega)
    have h2 : a ^^^ (a ^^^ b) = a ^^^ a := by rw [h1]
    rw [← BitVec.xor_assoc, BitVec.xor_self, BitVec.zero_xor] at h2
    rw [h2]; rfl
  · intro h
    have h1 : b = 0#8 := BitVec.eq_of_toNat_eq (by show b.toNat = 0; omega)
    rw [h1, BitVec.xor_zero]
/-- The list behind so many changes from a place on. -/
def chg (b : List Int) (p : Nat) (x : List Int) : Nat → List Int
  | 0 => b
  | n + 1 => (chg b p x n).set (p + n) (xb ((chg b p x n).getD (p + n) 0) (x.getD n 0))
theorem chg_len (b : List Int) (p : Nat) (x : List Int) : ∀ n, (chg b p x n).length = b.length
  | 0 => rfl
  | n + 1 => by rw [chg, List.length_set, chg_len b p x n]
theorem chg_at (b : List Int) (p : Nat) (x : List Int) : ∀ n j, (chg b p x n).getD j 0 = if p ≤ j ∧ j < p + n ∧ j < b.length then xb (b.getD j 0) (x.getD (j - p) 0) else b.getD j 0 := by
  intro n
  induction n with
  | zero => intro j; rw [if_neg (by omega)]; rfl
  | succ n ih =>
    intro j
    rw [chg]
    by_cases c : j = p + n
    · subst c
      by_cases hl : p + n < b.length
      · rw [if_pos ⟨by omega, by omega, hl⟩, List.getD_eq_getElem?_getD, List.getElem?_set_self (by rw [chg_len]; exact hl), ih, if_neg (by omega)]
        simp
      · rw [if_neg (by omega), List.getD_eq_getElem?_getD, List.getElem?_eq_none (by rw [List.length_set, chg_len]; omega), List.getD_eq_getElem?_getD, List.getElem?_eq_none (by omega)]
    · rw [List.getD_eq_getElem?_getD, List.getElem?_set_ne (by omega), ← List.getD_eq_getElem?_getD, ih]
      by_cases h : p ≤ j ∧ j < p + n ∧ j < b.length
      · rw [if_pos h, if_pos (by omega)]
      · rw [if_neg h, if_neg (by omega)]
theorem ext_getD {a b : List Int} (h : a.length = b.length) (hj : ∀ j, j < a.length → a.getD j 0 = b.getD j 0) : a = b := by
  apply List.ext_getElem h
  intro j h1 h2
  have := hj j h1
  rwa [List.getD_eq_getElem?_getD, List.getD_eq_getElem?_getD, List.getElem?_eq_getElem h1, List.getElem?_eq_getElem h2] at this
theorem chg_take (b : List Int) (p n : Nat) (x : List Int) : (chg b p x n).take p = b.take p := by
  apply ext_getD
  · rw [List.length_take, List.length_take, chg_len]
  · intro j hj
    rw [List.length_take] at hj
    have e : ∀ l : List Int, (l.take p).getD j 0 = l.getD j 0 := fun l => by
      rw [List.getD_eq_getElem?_getD, List.getElem?_take_of_lt (by omega), ← List.getD_eq_getElem?_getD]
    rw [e, e, chg_at, if_neg (by omega)]
theorem chg_drop (b : List Int) (p n : Nat) (x : List Int) : (chg b p x n).drop (p + n) = b.drop (p + n) := by
  apply ext_getD
  · rw [List.length_drop, List.length_drop, chg_len]
  · intro j hj
    have e : ∀ l : List Int, (l.drop (p + n)).getD j 0 = l.getD (p + n + j) 0 := fun l => by
      rw [List.getD_eq_getElem?_getD, List.getElem?_drop, ← List.getD_eq_getElem?_getD]
    rw [e, e, chg_at, if_neg (by omega)]
def bytes (l : List Int) : Prop := ∀ x ∈ l, 0 ≤ x ∧ x < 256
theorem bytes_at {l : List Int} (h : bytes l) (j : Nat) : 0 ≤ l.getD j 0 ∧ l.getD j 0 < 256 := by
  rw [List.getD_eq_getElem?_getD]
  cases hj : l[j]? with
  | none => show (0 : Int) ≤ 0 ∧ (0 : Int) < 256; omega
  | some v => exact h v (List.mem_of_getElem? hj)
theorem chg_bytes {b x : List Int} (hb : bytes b) (hx : bytes x) (p n : Nat) : bytes (chg b p x n) := by
  intro v hv
  obtain ⟨j, hj, rfl⟩ := List.getElem_of_mem hv
  have e : (chg b p x n)[j] = (chg b p x n).getD j 0 := by rw [List.getD_eq_getElem?_getD, List.getElem?_eq_getElem hj]; rfl
  rw [e, chg_at]
  split
  · exact xb_byte (bytes_at hb _) (bytes_at hx _)
  · exact bytes_at hb _
theorem chg_same {b x : List Int} (hb : bytes b) (hx : bytes x) {p : Nat} (hp : p + 4 ≤ b.length) : chg b p x 4 = b ↔ ∀ i, i < 4 → x.getD i 0 = 0 := by
  constructor
  · intro h i hi
    have := chg_at b p x 4 (p + i)
    rw [h, if_pos (by omega), show p + i - p = i by omega] at this
    exact (xb_same (bytes_at hb _) (bytes_at hx _)).1 this.symm
  · intro h
    apply ext_getD (chg_len _ _ _ _)
    intro j hj
    rw [chg_at]
    split
    · rename_i c
      exact (xb_same (bytes_at hb _) (bytes_at hx _)).2 (h _ (by omega))
    · rfl
/-- A block that was right is right no more when one of four bytes side by side was changed. -/
theorem chg_bad {m : List Int} {fl : List (Nat × Nat)} {b x : List Int} (hb : bytes b) (hx : bytes x) {p : Nat} (hp : p + 4 ≤ 64) (h0 : readB m fl b = 0) : readB m fl (chg b p x 4) = 0 ↔ ∀ i, i < 4 → x.getD i 0 = 0 := by
  have hg := readB_good h0
  rw [← chg_same hb hx (by rw [hg.2]; exact hp)]
  constructor
  · intro h1
    have hg1 := readB_good h1
    exact burst_good hp hg1.2 hg.2 (chg_bytes hb hx _ _) hb (chg_take _ _ _ _) (chg_drop _ _ _ _) hg1.1 hg.1
  · intro h1
    rw [h1]; exact h0
end Go.Proofs.Ytbinkbdfoalbcaa
end
section
set_option linter.unusedVariables false
set_option maxRecDepth 100000
open Go Go.Am
namespace Go.Proofs.Ytbinkbdfoalbcaa
open Go.Proofs.Try
theorem beq_take {l m : List Int} {i : Nat} (hi : i < l.length) (hm : i < m.length) (h : l.take i = m.take i) (he : l[i] = m[i]) : l.take (i + 1) = m.take (i + 1) := by
  rw [List.take_succ_eq_append_getElem hi, List.take_succ_eq_append_getElem hm, h, he]
theorem keepBytes_ok {h : Heap} {A B : Option Addr} {c d : Nat} {l m : List Int} (ra : 0 < l.length → ∃ a, A = some a ∧ Rd h a (us l)) (rb : 0 < m.length → ∃ a, B = some a ∧ Rd h a (us m)) (hm : l.length ≤ 4611686018427387904) :
    RunF prog 19 [.slice A l.length c, .slice B m.length d] h fun v h' => v = .bool (l == m) ∧ h = h' := by
  refine RunF.walk func19 rfl rfl ?_
  refine RunC.seq (RunC.region (RunO.all rfl ?_))
  refine RunC.seq (RunC.seq (RunC.region (RunO.all rfl ?_)))
  by_cases hl : l.length = m.length
  case neg =>
    have e : (l == m) = false := beq_eq_false_iff_ne.2 (fun g => hl (by rw [g]))
    rw [show ((l.length : Int) != (m.length : Int)) = true by simp; omega, e]
    refine RunC.cond rfl (fun _ => ?_) (fun g => by cases g)
    exact RunC.seq (RunC.region (RunO.all rfl (RunC.ret ⟨_, rfl, rfl, rfl⟩)))
  rw [show ((l.length : Int) != (m.length : Int)) = false by simp; omega]
  refine RunC.cond rfl (fun g => by cases g) (fun _ => RunC.skip ?_)
  refine RunC.seq (RunC.seq (RunC.region (RunO.all rfl ?_)))
  refine RunC.block ?_
  let I : Nat → Env → Heap → Prop := fun k E h' => ∃ i : Nat, i + k = l.length ∧ l.take i = m.take i ∧ h = h' ∧ Le (upd (upd (upd E0 0 (.slice A l.length c)) 1 (.slice B m.length d)) 5 (.int .i64 i)) E
  refine RunC.loop I ?_ (k := l.length) ?_
  · rintro k E h' ⟨i, hi, ht, rfl, hE⟩
    refine RunC.le hE ?_
    clear hE
    refine RunC.seq (RunC.seq (RunC.region (RunO.all rfl ?_)))
    refine RunC.cond rfl (fun hlt => ?_) (fun hge => ?_)
    · have hlt := of_decide_eq_true hlt
      have h1 : i < l.length := by omega
      have h2 : i < m.length := by omega
      obtain ⟨⟨b1, o1, s1⟩, rfl, rd1⟩ := ra (by omega)
      obtain ⟨⟨b2, o2, s2⟩, rfl, rd2⟩ := rb (by omega)
      have hs1 : s1 = none := rd1.1
      have hs2 : s2 = none := rd2.1
      subst hs1
      subst hs2
      refine RunC.skip ?_
      refine RunC.seq (RunC.block ?_)
      refine RunC.seq (RunC.draw0 rfl (RunO.part 2 rfl ?_))
      refine RunO.index (s := 1) rfl rfl rfl rfl h1 rfl ?_
      refine RunO.load (v := .int .u8 l[i]) rfl (rd1.cell1 (k := i * 1) rfl (by rw [Nat.mul_one]; exact us_nth h1)) rfl ?_
      refine RunO.part 2 rfl ?_
      refine RunO.index (s := 1) rfl rfl rfl rfl h2 rfl ?_
      refine RunO.load (v := .int .u8 m[i]) rfl (rd2.cell1 (k := i * 1) rfl (by rw [Nat.mul_one]; exact us_nth h2)) rfl ?_
      refine RunO.all rfl ?_
      refine RunC.cond rfl (fun hne => ?_) (fun heq => ?_)
      · have hne : l[i] ≠ m[i] := by simpa using hne
        have e : (l == m) = false := beq_eq_false_iff_ne.2 (fun g => hne (by subst g; rfl))
        rw [e]
        exact RunC.seq (RunC.region (RunO.all rfl (RunC.ret ⟨_, rfl, rfl, rfl⟩)))
      · have heq : l[i] = m[i] := by simpa using heq
        refine RunC.skip (RunC.region (RunO.all rfl ?_))
        exact ⟨k - 1, by omega, i + 1, by omega, beq_take h1 h2 ht heq, rfl, Le.cons (inc64 (by omega)) (Le.cons rfl (Le.cons rfl (Le.nil _)))⟩
    · have hge := of_decide_eq_false hge
      refine RunC.exit ?_
      have hi2 : i = l.length := by omega
      have e : l = m := by
        rw [hi2, List.take_length] at ht
        rw [ht, hl, List.take_length]
      rw [show (l == m) = true by rw [e]; exact beq_self_eq_true _]
      exact RunC.seq (RunC.region (RunO.all rfl (RunC.ret ⟨_, rfl, rfl, rfl⟩)))
  · exact ⟨0, by omega, rfl, rfl, Le.cons rfl (Le.cons rfl (Le.cons rfl (Le.nil _)))⟩
end Go.Proofs.Ytbinkbdfoalbcaa
end
section
set_option linter.unusedVariables false
set_option maxRecDepth 100000
open Go Go.Am Go.RowKit
namespace Go.Proofs.Ytbinkbdfoalbcaa
open Go.Proofs.Try
def nodLay : List Nat := [4, 4, 4, 4, 4, 4, 4, 4, 4]
theorem nodLay_ok {h : Heap} : RunF prog 98 [] h fun v h' => Row h.next h' v 2 9 (fcs (layF 4 nodLay)) ∧ Fr no h h' := by
  refine RunF.walk func98 rfl rfl ?_
  refine RunC.seq (RunC.region (RunO.all rfl ?_))
  refine RunC.seq (RunC.region (RunO.part 1 (h1 := h.push ⟨ns nodLay, true⟩) rfl ?_))
  refine RunO.callD (superLayout_ok (ss := nodLay) (c := exc 9) (Ow.push h (ns nodLay)).all (by decide) (by decide)) rfl rfl rfl ?_
  rintro v h' ⟨hr, hf⟩
  refine RunO.all rfl (RunC.ret ⟨_, rfl, ?_, ?_⟩)
  · refine ⟨hr.1, hr.2.imp (fun x => x) ?_⟩
    rintro ⟨b, h1, h2⟩
    exact ⟨b, Nat.le_trans (Nat.le_succ _) h1, h2⟩
  · exact (Fr.push no _ _).same hf
/-- A node's cells: its level, its pointers. -/
def nc (lv : Int) (ps : List Int) : List Value := .int .i64 lv :: is ps
def anyP (ps : List Int) : Bool := ps.any (· != 0)
def nodOk (lv : Int) (ps : List Int) : Bool := ps.all ptrB && (!(decide (lv < 0)) && (!(decide (lv > 2)) && anyP ps))
theorem nodCheck_ok {h : Heap} {lv : Int} {ps : List Int} (hp : ps.length = 8) : RunF prog 97 [.agg ⟨nc lv ps⟩] h fun v h' => v = .int .i64 (if nodOk lv ps then 0 else 1) ∧ Fr no h h' := by
  refine RunF.walk func97 rfl rfl ?_
  refine RunC.seq (RunC.region (RunO.all (h1 := h.push ⟨nc lv ps, true⟩) rfl ?_))
  have ow : Ow (h.push ⟨nc lv ps, true⟩) h.next (nc lv ps) := Ow.push _ _
  have f1 : Fr no h (h.push ⟨nc lv ps, true⟩) := Fr.push _ _ _
  generalize h.push ⟨nc lv ps, true⟩ = h1 at *
  generalize h.next = p at *
  refine RunC.seq (RunC.region (RunO.all rfl ?_))
  refine RunC.seq (RunC.seq (RunC.region (RunO.part 1 rfl ?_)))
  have hload : aload prog h1 113 ⟨p, 1, none⟩ = some (.agg ⟨is ps⟩) := by
    refine ow.all.part (k := 1) ?_
    show (match takeN 8 (dropN 1 (nc lv ps)) with | some l => some (Value.agg ⟨l⟩) | none => none) = _
    rw [takeN_eq, dropN_eq, if_pos (by simp [nc, is_len, hp])]
    simp only [nc, List.drop_succ_cons, List.drop_zero]
    rw [List.take_of_length_le (by rw [is_len]; omega)]
  refine RunO.load rfl hload rfl ?_
  refine RunO.all rfl ?_
  refine RunC.block ?_
  let I : Nat → Env → Heap → Prop := fun k E h' => ∃ i : Nat, i + k = 8 ∧ (ps.take i).all ptrB = true ∧ h1 = h' ∧ Le (upd (upd (upd (upd E0 1 (.pointer (some ⟨p, 0, none⟩))) 3 (.bool (anyP (ps.take i)))) 7 (.agg ⟨is ps⟩)) 8 (.int .i64 i)) E
  refine RunC.loop I ?_ (k := 8) ?_
  · rintro k E h' ⟨i, hi, hall, rfl, hE⟩
    refine RunC.le hE ?_
    clear hE
    refine RunC.seq (RunC.region (RunO.all rfl ?_))
    refine RunC.seq (RunC.cond rfl (fun hlt => ?_) (fun hge => ?_))
    · have hlt := of_decide_eq_true hlt
      have hi2 : i < ps.length := by omega
      have hat : anyP (ps.take (i + 1)) = (anyP (ps.take i) || ps[i] != 0) := by
        unfold anyP; rw [List.take_succ_eq_append_getElem hi2, List.any_append]; simp
      have hal : (ps.take (i + 1)).all ptrB = ptrB ps[i] := by
        rw [List.take_succ_eq_append_getElem hi2, List.all_append, hall]; simp
      have hmem := List.getElem_mem hi2
      have hnth := is_nth hi2
      refine RunC.skip ?_
      refine RunC.seq (RunC.block ?_)
      refine RunC.seq (RunC.region ?_)
      refine RunO.one rfl (v := .int .i64 ps[i]) (E1 := upd _ 10 (.int .i64 ps[i])) (h1 := h1) ?_ rfl ?_
      · show pureR h1 (cond (Nat.ble (Nat.succ i) 8) (nth (is ps) (Nat.mul i 1)) none) = _
        rw [Nat.ble_eq_true_of_le (by omega), cond_true, show Nat.mul i 1 = i from Nat.mul_one i, hnth]; rfl
      refine RunO.all rfl ?_
      generalize ps[i] = x at *
      refine RunC.seq (RunC.seq (RunC.region (RunO.part 1 rfl ?_)))
      refine RunO.callD nodePointer_ok rfl rfl rfl ?_
      rintro _ _ ⟨rfl, rfl⟩
      refine RunO.all rfl ?_
      cases hx : ptrB x with
      | false =>
        refine RunC.cond rfl (fun _ => ?_) (fun g => by cases g)
        have hno : nodOk lv ps = false := by
          unfold nodOk
          have : ps.all ptrB = false := by
            rw [List.all_eq_false]
            exact ⟨x, hmem, by rw [hx]; decide⟩
          rw [this]; rfl
        rw [hno]
        exact RunC.seq (RunC.region (RunO.all rfl (RunC.ret ⟨_, rfl, rfl, f1⟩)))
      | true =>
        rw [hx] at hal
        refine RunC.cond rfl (fun g => by cases g) (fun _ => RunC.skip ?_)
        have hdone : ∀ E', Le (upd (upd (upd (upd E0 1 (.pointer (some ⟨p, 0, none⟩))) 3 (.bool (anyP (ps.take (i + 1))))) 7 (.agg ⟨is ps⟩)) 8 (.int .i64 (i + 1 : Nat))) E' → ∃ k', k' < k ∧ I k' E' h1 := fun E' hE => ⟨k - 1, by omega, i + 1, by omega, hal, rfl, hE⟩
        generalize anyP (ps.take i) = an at *
        cases an with
        | true =>
          refine RunC.region (RunO.all rfl ?_)
          refine RunC.region (RunO.all rfl ?_)
          refine hdone _ ?_
          rw [hat]
          exact Le.cons (inc64 (by omega)) (Le.cons rfl (Le.cons rfl (Le.cons rfl (Le.nil _))))
        | false =>
          refine RunC.region (RunO.all rfl ?_)
          refine RunC.region (RunO.all rfl ?_)
          refine hdone _ ?_
          rw [hat]
          exact Le.cons (inc64 (by omega)) (Le.cons rfl (Le.cons rfl (Le.cons rfl (Le.nil _))))
    · have hge := of_decide_eq_false hge
      refine RunC.exit ?_
      have hi3 : i = 8 := by omega
      subst hi3
      rw [List.take_of_length_le (by omega)] at hall ⊢
      have hok : nodOk lv ps = (!(decide (lv < 0)) && (!(decide (lv > 2)) && anyP ps)) := by unfold nodOk; rw [hall]; rfl
      rw [hok]
      generalize anyP ps = an at *
      refine RunC.seq (RunC.seq (RunC.region (RunO.part 1 rfl ?_)))
      refine RunO.load (v := .int .i64 lv) rfl (ow.all.cell1 (k := 0) rfl rfl) rfl ?_
      refine RunO.part 2 rfl ?_
      cases decide (lv < 0) with
      | true =>
        refine RunO.all rfl (RunC.cond rfl (fun _ => ?_) (fun g => by cases g))
        exact RunC.seq (RunC.region (RunO.all rfl (RunC.ret ⟨_, rfl, rfl, f1⟩)))
      | false =>
      refine RunO.part 1 rfl ?_
      refine RunO.loadG (v := .int .i64 lv) rfl rfl (ow.all.cell1 (k := 0) rfl rfl) rfl ?_
      refine RunO.part 3 rfl ?_
      cases decide (lv > 2) with
      | true =>
        refine RunO.all rfl (RunC.cond rfl (fun _ => ?_) (fun g => by cases g))
        exact RunC.seq (RunC.region (RunO.all rfl (RunC.ret ⟨_, rfl, rfl, f1⟩)))
      | false =>
      cases an with
      | true =>
        refine RunO.all rfl (RunC.cond rfl (fun g => by cases g) (fun _ => RunC.skip ?_))
        exact RunC.seq (RunC.region (RunO.all rfl (RunC.ret ⟨_, rfl, rfl, f1⟩)))
      | false =>
        refine RunO.all rfl (RunC.cond rfl (fun _ => ?_) (fun g => by cases g))
        exact RunC.seq (RunC.region (RunO.all rfl (RunC.ret ⟨_, rfl, rfl, f1⟩)))
  · exact ⟨0, by omega, rfl, rfl, Le.cons rfl (Le.cons rfl (Le.cons rfl (Le.cons rfl (Le.nil _))))⟩
end Go.Proofs.Ytbinkbdfoalbcaa
end
section
set_option linter.unusedVariables false
set_option maxRecDepth 100000
open Go Go.Am Go.RowKit
namespace Go.Proofs.Ytbinkbdfoalbcaa
open Go.Proofs.Try
def nMag : List Int := [78, 79, 68, 69]
def nLay : List (Nat × Nat) := layF 4 nodLay
/-- A node's block. -/
def nodBlock (lv : Int) (ps : List Int) : List Int := makeB nMag nLay (lv :: ps)
theorem nodBytes_ok {h : Heap} {lv : Int} {ps : List Int} (hp : ps.length = 8) : RunF prog 66 [.agg ⟨nc lv ps⟩] h fun v h' => Fr no h h' ∧ ((nodOk lv ps = true ∧ ∃ b, h.next ≤ b ∧ v = .tuple #[.slice (some ⟨b, 0, none⟩) 64 (exc 64), .int .i64 0] ∧ Ow h' b (us (nodBlock lv ps))) ∨ (nodOk lv ps = false ∧ v = .tuple #[.slice none 0 0, .int .i64 1])) := by
  refine RunF.walk func66 rfl rfl ?_
  refine RunC.seq (RunC.region (RunO.all (h1 := h.push ⟨nc lv ps, true⟩) rfl ?_))
  have ow : Ow (h.push ⟨nc lv ps, true⟩) h.next (nc lv ps) := Ow.push _ _
  have f1 : Fr no h (h.push ⟨nc lv ps, true⟩) := Fr.push _ _ _
  generalize h.push ⟨nc lv ps, true⟩ = h1 at *
  refine RunC.seq (RunC.region ?_)
  have hnl : (nc lv ps).length = 9 := by simp [nc, is_len, hp]
  have hload : aload prog h1 115 ⟨h.next, 0, none⟩ = some (.agg ⟨nc lv ps⟩) := by
    refine ow.all.part (k := 0) ?_
    show (match takeN 9 (dropN 0 (nc lv ps)) with | some l => some (Value.agg ⟨l⟩) | none => none) = _
    rw [takeN_eq, dropN_eq, if_pos (by simp [hnl])]
    simp only [List.drop_zero]
    rw [List.take_of_length_le (by omega)]
  refine RunO.load rfl hload rfl ?_
  refine RunO.callD (nodCheck_ok hp) rfl rfl rfl ?_
  rintro v h2 ⟨rfl, hf2⟩
  have f2 := f1.same hf2
  have ow2 := ow.fr hf2 (fun g => g)
  refine RunO.all rfl ?_
  cases hok : nodOk lv ps with
  | false =>
    refine RunC.seq (RunC.seq (RunC.region (RunO.all rfl (RunC.cond rfl (fun _ => ?_) (fun g => by cases g)))))
    exact RunC.seq (RunC.region (RunO.all rfl (RunC.ret ⟨_, rfl, f2, .inr ⟨rfl, rfl⟩⟩)))
  | true =>
    refine RunC.seq (RunC.seq (RunC.region (RunO.all rfl (RunC.cond rfl (fun g => by cases g) (fun _ => RunC.skip ?_)))))
    refine RunC.seq (RunC.draw (l0 := min h2.low h2.next) (Nat.min_le_left _ _) rfl ?_)
    refine RunD.callD nodLay_ok rfl rfl rfl ?_
    rintro v h3 ⟨hr, hf3⟩
    have hl3 : min h2.low h2.next ≤ h3.low := hf3.from (Nat.min_le_right _ _) (fun _ g => g.elim)
    refine ⟨hl3, ?_⟩
    have ow3 : Ow h3 h.next (nc lv ps) := Ow.fr (h := h2.lo h2.next) ow2 hf3 (fun g => g)
    have hn3 : min h2.low h2.next ≤ h3.next := Nat.le_trans (Nat.min_le_right _ _) hf3.next
    obtain ⟨bf, hbf, rfl, owf⟩ := rowOut hr (by decide)
    rw [hf3.quietB]
    refine RunD.pure hn3 rfl rfl (fun _ => rfl) rfl ?_
    refine RunD.load (v := .int .i64 lv) hn3 rfl (ow3.all.cell1 (k := 0) rfl rfl) rfl ?_
    refine RunD.one (h1 := (h3.lo h3.next).push ⟨is [lv], true⟩) rfl rfl (fun _ => rfl) hn3 rfl ?_
    have ow4 := Ow.push (h3.lo h3.next) (is [lv])
    have f4 : Fr no h3 ((h3.lo h3.next).push ⟨is [lv], true⟩) := ⟨Nat.le_succ _, (Fr.push no (h3.lo h3.next) _).get, fun l a b c => b⟩
    have owf4 := owf.fr f4 (fun g => g)
    have owa4 := ow3.fr f4 (fun g => g)
    generalize (h3.lo h3.next).push ⟨is [lv], true⟩ = h4 at *
    generalize hb4 : (h3.lo h3.next).next = b4 at *
    have hn4 : min h2.low h2.next ≤ h4.next := Nat.le_trans hn3 f4.next
    refine RunD.pure hn4 rfl rfl (fun _ => rfl) rfl ?_
    refine RunD.pure hn4 rfl rfl (fun _ => rfl) rfl ?_
    have rdp : Rd (h4.lo h4.next) ⟨h.next, 1, none⟩ (is ps) := Ow.rd (h := h4) owa4 (by simp only [nc, List.drop_succ_cons, List.drop_zero]; rw [List.take_of_length_le (Nat.le_refl _)])
    have happ := append_full (P := prog) (t := 30) (h := h4.lo h4.next) (c := exc 1) (c' := exc 8) (k := 1) (m := 8) (b := ⟨b4, 0, none⟩) (a := ⟨h.next, 1, none⟩) rfl rfl rfl rfl rfl (by decide) (Ow.all (h := h4) ow4) rfl rfl (by decide) rdp (by rw [is_len, hp]; rfl) (by decide) (by decide) (by decide)
    refine RunD.one (h1 := (h4.lo h4.next).push ⟨is (lv :: ps), true⟩) (v := .slice (some ⟨h4.next, 0, none⟩) 9 (unkc 1)) (E1 := upd _ 16 (.slice (some ⟨h4.next, 0, none⟩) 9 (unkc 1))) rfl (abuiltin_app happ) (fun _ => rfl) hn4 rfl ?_
    have ow5 := Ow.push (h4.lo h4.next) (is (lv :: ps))
    have f5 : Fr no h4 ((h4.lo h4.next).push ⟨is (lv :: ps), true⟩) := ⟨Nat.le_succ _, (Fr.push no (h4.lo h4.next) _).get, fun l a b c => b⟩
    have owf5 := owf4.fr f5 (fun g => g)
    generalize (h4.lo h4.next).push ⟨is (lv :: ps), true⟩ = h5 at *
    have hn5 : min h2.low h2.next ≤ h5.next := Nat.le_trans hn4 f5.next
    refine RunD.callD (superMake_ok (h := h5.lo h5.next) (mb := nMag) (fl := nLay) (nums := lv :: ps) (cn := unkc 1) rfl rfl owf5.all ow5.all (by rw [List.length_cons, hp]; rfl) (by decide) (by decide)) rfl (by rw [List.length_cons, hp]; rfl) rfl ?_
    rintro v h6 ⟨b, hb, rfl, ow6, hf6⟩
    refine ⟨hf6.from hn5 (fun _ g => g.elim), ?_⟩
    rw [hf6.quietB]
    have hn6 : min h2.low h2.next ≤ h6.next := Nat.le_trans hn5 hf6.next
    refine RunD.pure hn6 rfl rfl (fun _ => rfl) rfl ?_
    refine RunD.pure hn6 rfl rfl (fun _ => rfl) rfl ?_
    refine RunD.nil ⟨rfl, fun lw hlw => ?_⟩
    refine RunC.ret ⟨_, rfl, ?_, .inl ⟨rfl, b, ?_, rfl, ow6⟩⟩
    · exact ((f2.fg0.same hf3.fg).same ((f4.fg0.same f5.fg0).same hf6.fg)).close (fun l h1 h2 h3 => Nat.le_trans (Nat.le_min.2 ⟨f2.low l h1 h2 h3, Nat.le_trans h2 f2.next⟩) hlw)
    · exact Nat.le_trans (Nat.le_trans f2.next (Nat.le_trans hf3.next (Nat.le_trans f4.next f5.next))) hb
end Go.Proofs.Ytbinkbdfoalbcaa
end
section
set_option linter.unusedVariables false
set_option maxRecDepth 100000
open Go Go.Am Go.RowKit
namespace Go.Proofs.Ytbinkbdfoalbcaa
open Go.Proofs.Try
def nLv (l : List Int) : Int := (leGet l 4 4).1
def nPs (l : List Int) : List Int := [(leGet l 8 4).1, (leGet l 12 4).1, (leGet l 16 4).1, (leGet l 20 4).1, (leGet l 24 4).1, (leGet l 28 4).1, (leGet l 32 4).1, (leGet l 36 4).1]
theorem nPs_eq (l : List Int) : numsB nLay l = nLv l :: nPs l := rfl
def nZero : List Int := [0, 0, 0, 0, 0, 0, 0, 0]
def nCode (l : List Int) : Int := if readB nMag nLay l = 0 then (if nodOk (nLv l) (nPs l) then 0 else 1) else readB nMag nLay l
def nCells (l : List Int) : List Value := if nCode l = 0 then nc (nLv l) (nPs l) else nc 0 nZero
theorem nc_load {h : Heap} {b : Nat} {lv : Int} {ps : List Int} (hp : ps.length = 8) (ow : Ow h b (nc lv ps)) : aload prog h 115 ⟨b, 0, none⟩ = some (.agg ⟨nc lv ps⟩) := by
  have hnl : (nc lv ps).length = 9 := by simp [nc, is_len, hp]
  refine ow.all.part (k := 0) ?_
  show (match takeN 9 (dropN 0 (nc lv ps)) with | some l => some (Value.agg ⟨l⟩) | none => none) = _
  rw [takeN_eq, dropN_eq, if_pos (by simp [hnl])]
  simp only [List.drop_zero]
  rw [List.take_of_length_le (by omega)]
theorem nodParse_ok {h : Heap} {A : Option Addr} {c : Nat} {l : List Int} (ra : l.length = 64 → ∃ a, A = some a ∧ Rd h a (us l)) (hb : Byt l) (hc : Cp 1 l.length c) :
    RunF prog 90 [.slice A l.length c] h fun v h' => v = .tuple #[.agg ⟨nCells l⟩, .int .i64 (nCode l)] ∧ Fr no h h' := by
  refine RunF.walk func90 rfl rfl ?_
  refine RunC.seq (RunC.region (RunO.all (h1 := h.push ⟨nc 0 nZero, true⟩) rfl ?_))
  have ow : Ow (h.push ⟨nc 0 nZero, true⟩) h.next (nc 0 nZero) := Ow.push _ _
  have f1 : Fr no h (h.push ⟨nc 0 nZero, true⟩) := Fr.push _ _ _
  generalize h.push ⟨nc 0 nZero, true⟩ = h1 at *
  refine RunC.seq (RunC.region (RunO.part 1 rfl ?_))
  refine RunO.callD nodLay_ok rfl rfl rfl ?_
  rintro v h2 ⟨hr, hf2⟩
  have ow2 := ow.fr hf2 (fun g => g)
  have f2 := f1.same hf2
  obtain ⟨bf, hbf, rfl, owf⟩ := rowOut hr (by decide)
  refine RunO.callD (superRead_ok (mb := nMag) (mg := ⟨#[78, 79, 68, 69]⟩) (fl := nLay) rfl (fun e => (ra e).imp (fun a x => ⟨x.1, x.2.fr f2 (fun g => g)⟩)) hb owf.all (by decide) (by decide) hc) rfl rfl rfl ?_
  rintro v h3 ⟨o, rfl, hk0, hk1, hf3⟩
  have ow3 := ow2.fr hf3 (fun g => g)
  have f3 := f2.same hf3
  refine RunO.all rfl ?_
  by_cases hr : readB nMag nLay l = 0
  case neg =>
    have hcode : nCode l = readB nMag nLay l := if_neg hr
    have hcells : nCells l = nc 0 nZero := if_neg (by rw [hcode]; exact hr)
    rw [hcells, hcode]
    generalize readB nMag nLay l = r at *
    refine RunC.seq (RunC.seq (RunC.region (RunO.all rfl ?_)))
    rw [show (r != 0) = true by simpa using hr]
    refine RunC.cond rfl (fun _ => ?_) (fun g => by cases g)
    refine RunC.seq (RunC.region (RunO.part 2 rfl ?_))
    refine RunO.store rfl rfl (store_ow (s := 9) ow3 rfl rfl rfl (by decide)) ?_
    refine RunO.all rfl ?_
    refine RunC.ret ⟨_, eresults_cell rfl ((Ow.put (cs := nc 0 nZero) ow3.1).all.part (k := 0) rfl) rfl, rfl, ?_⟩
    exact f3.trans (Fr.put (m := (· = h.next)) _ (.inl rfl)) (fun j hj => .inr (by omega))
  rw [hr]
  have hrow := hk0 hr
  obtain ⟨bn, hbn, rfl, own⟩ := rowOut hrow (by decide)
  have hcode : nCode l = if nodOk (nLv l) (nPs l) then 0 else 1 := if_pos hr
  have hcells : nCells l = if nCode l = 0 then nc (nLv l) (nPs l) else nc 0 nZero := rfl
  rw [nPs_eq] at own
  have hp8 : (nPs l).length = 8 := rfl
  change RunC _ _ _ (upd (upd (upd (upd _ 11 (.slice (some ⟨bn, 0, none⟩) 9 (unkc 1))) 12 (.int .i64 0)) 4 (.slice (some ⟨bn, 0, none⟩) 9 (unkc 1))) 5 (.int .i64 0)) _ _ _ _
  refine RunC.seq (RunC.seq (RunC.region (RunO.all rfl ?_)))
  refine RunC.cond rfl (fun g => by cases g) (fun _ => RunC.skip ?_)
  generalize nLv l = lv at *
  generalize nPs l = ps at *
  have hal : ∀ q : List Int, allCells (is q) = true := fun q => by
    induction q with
    | nil => rfl
    | cons x t ih => exact ih
  refine RunC.seq (RunC.region (RunO.part 1 rfl ?_))
  refine RunO.index (s := 1) (k := 0) rfl rfl rfl rfl (by decide) rfl ?_
  refine RunO.load (v := .int .i64 lv) rfl (own.all.cell1 (k := 0) rfl rfl) rfl ?_
  refine RunO.part 2 (h1 := h3.push ⟨nc 0 nZero, true⟩) rfl ?_
  refine RunO.store rfl rfl (store_ow (s := 9) (Ow.push h3 (nc 0 nZero)) rfl rfl rfl (by decide)) (RunO.nil ?_)
  change RunC _ _ _ _ ((h3.push ⟨nc 0 nZero, true⟩).put h3.next (some ⟨nc lv nZero, true⟩)) _ _ _
  have ow4 : Ow ((h3.push ⟨nc 0 nZero, true⟩).put h3.next (some ⟨nc lv nZero, true⟩)) h3.next (nc lv nZero) := Ow.put _ (Nat.lt_succ_self _)
  have f4 : Fr no h3 ((h3.push ⟨nc 0 nZero, true⟩).put h3.next (some ⟨nc lv nZero, true⟩)) := (Fr.push _ _ _).trans (Fr.put (m := (· = h3.next)) _ (.inl rfl)) (fun j hj => .inr (by omega))
  generalize (h3.push ⟨nc 0 nZero, true⟩).put h3.next (some ⟨nc lv nZero, true⟩) = h4 at *
  have own4 := own.fr f4 (fun g => g)
  have ow34 := ow3.fr f4 (fun g => g)
  have hb6 := own.1
  have hb7 := ow3.1
  have hb8 := f3.next
  have f34 := f3.same f4
  generalize h3.next = b6 at *
  have e1 : aread h4 ⟨bn, 1, none⟩ 8 = some (is ps) := by
    have rd : Rd h4 ⟨bn, 1, none⟩ (is ps) := own4.rd (by show ((Value.int .i64 lv :: is ps).drop 1).take _ = _; simp)
    have := rd.read0 (m := 8) (by rw [is_len, hp8]; exact Nat.le_refl _)
    rwa [List.take_of_length_le (by rw [is_len, hp8]; exact Nat.le_refl _)] at this
  have e2 : astoreL h4 ⟨b6, 1, none⟩ (is ps) = some (h4.put b6 (some ⟨nc lv ps, true⟩)) := by
    rw [storeL_ow ow4 (hal ps) (by rw [is_len, hp8]; exact Nat.le_refl 9), is_len, hp8]
    simp [nc, nZero, is]
  refine RunC.seq (RunC.draw0 rfl (RunO.part 4 rfl ?_))
  refine RunO.one rfl (v := goInt 8) (E1 := upd _ 25 (goInt 8)) (h1 := h4.put b6 (some ⟨nc lv ps, true⟩)) ?_ rfl (RunO.nil ?_)
  · show (match aread h4 ⟨bn, 1, none⟩ 8 with | some cs => (match astoreL h4 ⟨b6, 1, none⟩ cs with | some h' => some (goInt 8, h') | none => none) | none => none) = _
    rw [e1]
    simp only [e2]
  have ow5 := Ow.put (nc lv ps) ow4.1
  have f5 : Fr (fun j => j = b6) h4 (h4.put b6 (some ⟨nc lv ps, true⟩)) := Fr.put _ (.inl rfl)
  generalize h4.put b6 (some ⟨nc lv ps, true⟩) = h5 at *
  have ow35 := ow34.fr f5 (by omega)
  have f35 : Fr no h h5 := f34.trans f5 (fun j hj => .inr (by omega))
  refine RunC.seq (RunC.region ?_)
  refine RunO.load rfl (nc_load hp8 ow5) rfl ?_
  refine RunO.callD (nodCheck_ok hp8) rfl rfl rfl ?_
  rintro v h6 ⟨rfl, hf6⟩
  have ow6 := ow35.fr hf6 (fun g => g)
  have owx := ow5.fr hf6 (fun g => g)
  have f6 := f35.same hf6
  refine RunO.all rfl ?_
  rw [hcells, hcode]
  cases nodOk lv ps with
  | false =>
    refine RunC.seq (RunC.seq (RunC.region (RunO.all rfl (RunC.cond rfl (fun _ => ?_) (fun g => by cases g)))))
    refine RunC.seq (RunC.region (RunO.part 2 rfl ?_))
    refine RunO.store rfl rfl (store_ow (s := 9) ow6 rfl rfl rfl (by decide)) ?_
    refine RunO.all rfl ?_
    refine RunC.ret ⟨_, eresults_cell rfl ((Ow.put (cs := nc 0 nZero) ow6.1).all.part (k := 0) rfl) rfl, rfl, ?_⟩
    exact f6.trans (Fr.put (m := (· = h.next)) _ (.inl rfl)) (fun j hj => .inr (by omega))
  | true =>
    refine RunC.seq (RunC.seq (RunC.region (RunO.all rfl (RunC.cond rfl (fun g => by cases g) (fun _ => RunC.skip ?_)))))
    refine RunC.seq (RunC.region ?_)
    refine RunO.load rfl (nc_load hp8 owx) rfl ?_
    have hst : (cellsOf (.agg ⟨nc lv ps⟩)).length = 9 := by show (nc lv ps).length = 9; simp [nc, is_len, hp8]
    refine RunO.store rfl rfl (store_ow (s := 9) ow6 rfl hst (hal (0 :: ps)) (by decide)) ?_
    refine RunO.all rfl ?_
    have hcs : (nc 0 nZero).take 0 ++ cellsOf (.agg ⟨nc lv ps⟩) ++ (nc 0 nZero).drop (0 + 9) = nc lv ps := by simp [cellsOf, nc, nZero, is]
    refine RunC.ret ⟨_, eresults_cell rfl (nc_load hp8 (by rw [hcs]; exact Ow.put (nc lv ps) ow6.1)) rfl, rfl, ?_⟩
    exact f6.trans (Fr.put (m := (· = h.next)) _ (.inl rfl)) (fun j hj => .inr (by omega))
end Go.Proofs.Ytbinkbdfoalbcaa
end
section
set_option linter.unusedVariables false
set_option maxRecDepth 100000
open Go Go.Am Go.RowKit
namespace Go.Proofs.Ytbinkbdfoalbcaa
open Go.Proofs.Try
theorem nod_fits {lv : Int} {ps : List Int} (hp : ps.length = 8) (h : nodOk lv ps = true) : Fits nodLay (lv :: ps) := by
  unfold nodOk at h
  simp only [Bool.and_eq_true, List.all_eq_true] at h
  obtain ⟨ha, hl0, hl1, _⟩ := h
  have e4 : (256 : Int) ^ 4 = 4294967296 := by decide
  have key : ∀ x ∈ ps, 0 ≤ x ∧ x < 256 ^ 4 ∧ x ≤ 4611686018427387903 := by
    intro x hx
    have := ha x hx
    unfold ptrB at this
    simp at this
    rw [e4]; omega
  have hl0 : ¬ lv < 0 := by simpa using hl0
  have hl1 : ¬ lv > 2 := by simpa using hl1
  match ps, hp with
  | [p0, p1, p2, p3, p4, p5, p6, p7], _ =>
    exact ⟨⟨by omega, by rw [e4]; omega, by omega⟩, key _ (by simp), key _ (by simp), key _ (by simp), key _ (by simp), key _ (by simp), key _ (by simp), key _ (by simp), key _ (by simp), trivial⟩
theorem nodBlock_len {lv : Int} {ps : List Int} (hp : ps.length = 8) : (nodBlock lv ps).length = 64 := makeB_len rfl (by rw [List.length_cons, hp]; rfl) (by decide)
theorem nodBlock_byt {lv : Int} {ps : List Int} (hp : ps.length = 8) : Byt (nodBlock lv ps) := makeB_byt (by unfold Byt; decide) rfl (by rw [List.length_cons, hp]; rfl) (by decide)
theorem nod_back {lv : Int} {ps : List Int} (hp : ps.length = 8) (h : nodOk lv ps = true) : nCode (nodBlock lv ps) = 0 ∧ nCells (nodBlock lv ps) = nc lv ps := by
  obtain ⟨h1, h2⟩ := read_make (mb := nMag) rfl (nod_fits hp h) (by decide)
  have h1 : readB nMag nLay (nodBlock lv ps) = 0 := h1
  have h2 : numsB nLay (nodBlock lv ps) = lv :: ps := h2
  rw [nPs_eq] at h2
  simp only [List.cons.injEq] at h2
  have hc : nCode (nodBlock lv ps) = 0 := by
    unfold nCode
    rw [if_pos h1, h2.1, h2.2, h]; rfl
  refine ⟨hc, ?_⟩
  unfold nCells
  rw [if_pos hc, h2.1, h2.2]
end Go.Proofs.Ytbinkbdfoalbcaa
end
section
set_option linter.unusedVariables false
set_option maxRecDepth 100000
open Go Go.Am Go.RowKit
namespace Go.Proofs.Ytbinkbdfoalbcaa
open Go.Proofs.Try
theorem nodUnder_ok {h : Heap} {k : Nat} (hk : k ≤ 3) : RunF prog 119 [.int .i64 k] h fun v h' => v = .int .i64 (8 ^ k : Nat) ∧ h = h' := by
  refine RunF.walk func119 rfl rfl ?_
  refine RunC.seq (RunC.region (RunO.all rfl ?_))
  refine RunC.seq (RunC.region (RunO.all rfl ?_))
  refine RunC.seq (RunC.seq (RunC.region (RunO.all rfl ?_)))
  refine RunC.block ?_
  let I : Nat → Env → Heap → Prop := fun d E h' => ∃ i : Nat, i + d = k ∧ h = h' ∧ Le (upd (upd (upd E0 3 (.int .i64 (8 ^ i : Nat))) 4 (.int .i64 k)) 5 (.int .i64 i)) E
  refine RunC.loop I ?_ (k := k) ?_
  · rintro d E h' ⟨i, hi, rfl, hE⟩
    refine RunC.le hE ?_
    clear hE
    refine RunC.seq (RunC.region (RunO.all rfl ?_))
    refine RunC.seq (RunC.cond rfl (fun hlt => ?_) (fun hge => ?_))
    · have hlt := of_decide_eq_true hlt
      have h8 : 8 ^ i ≤ 8 ^ 3 := Nat.pow_le_pow_right (by decide) (by omega)
      refine RunC.skip ?_
      refine RunC.seq (RunC.block ?_)
      refine RunC.region (RunO.all rfl ?_)
      refine RunC.region (RunO.all rfl ?_)
      refine ⟨d - 1, by omega, i + 1, by omega, rfl, Le.cons (inc64 (by omega)) (Le.cons rfl (Le.cons ?_ (Le.nil _)))⟩
      show some (Value.int .i64 (fwrap .i64 (((8 ^ i : Nat) : Int) * 8))) = _
      rw [Nat.pow_succ]
      generalize 8 ^ i = q at *
      have h8 : q ≤ 512 := h8
      rw [fw64 (by omega) (by omega)]
      rfl
    · have hge := of_decide_eq_false hge
      have : i = k := by omega
      subst this
      refine RunC.exit ?_
      exact RunC.seq (RunC.region (RunO.all rfl (RunC.ret ⟨_, rfl, rfl, rfl⟩)))
  · exact ⟨0, by omega, rfl, Le.cons rfl (Le.cons rfl (Le.cons rfl (Le.nil _)))⟩
end Go.Proofs.Ytbinkbdfoalbcaa
end
section
set_option linter.unusedVariables false
set_option maxRecDepth 100000
open Go Go.Am
namespace Go.Proofs.Ytbinkbdfoalbcaa
open Go.Proofs.Try
theorem indexIo_ok {h : Heap} {v : Value} {n : Nat} {acs : List Value} (sl : Sl h v 3 n acs) {u : Nat → Value} (hu : ∀ j, j < n → apart prog 79 acs (j * 3) = some (u j)) {g : FuncId} {cap : List Value} {p : Nat → Bool}
    (hg : ∀ j, j < n → ∀ h1, Fr no h h1 → RunF prog g (u j :: cap) h1 (fun v h2 => v = .bool (p j) ∧ Fr no h1 h2)) (hm : n ≤ 4611686018427387904) :
    RunF prog 117 [v, .func (.func g) #[] ⟨cap⟩] h fun r h' => Fr no h h' ∧ ((∃ i : Nat, i < n ∧ r = .int .i64 (i : Int) ∧ p i = true ∧ ∀ j, j < i → p j = false) ∨ (r = .int .i64 (-1) ∧ ∀ j, j < n → p j = false)) := by
  refine RunF.walk func117 rfl rfl ?_
  obtain ⟨A, c, rfl, hc, _⟩ := sl.form
  refine RunC.seq (RunC.region (RunO.all rfl ?_))
  refine RunC.seq (RunC.seq (RunC.region (RunO.all rfl ?_)))
  refine RunC.block ?_
  let I : Nat → Env → Heap → Prop := fun k E h' => ∃ i : Nat, i + k = n ∧ (∀ j, j < i → p j = false) ∧ Fr no h h' ∧ Le (upd (upd (upd (upd E0 0 (.slice A n c)) 1 (.func (.func g) #[] ⟨cap⟩)) 7 (.int .i64 n)) 8 (.int .i64 i)) E
  refine RunC.loop I ?_ (k := n) ?_
  · rintro k E h' ⟨i, hi, hp, hf, hE⟩
    refine RunC.le hE ?_
    clear hE
    refine RunC.seq (RunC.region (RunO.all rfl ?_))
    refine RunC.seq (RunC.cond rfl (fun hlt => ?_) (fun hge => ?_))
    · have hlt := of_decide_eq_true hlt
      have h1 : i < n := by omega
      refine RunC.skip ?_
      refine RunC.seq (RunC.block ?_)
      refine RunC.seq (RunC.region (RunO.all rfl ?_))
      refine RunC.seq (RunC.region (RunO.part 3 rfl ?_))
      refine RunO.at (s := 3) rfl rfl (sl.fr0 hf) rfl rfl h1 (hu i h1) rfl rfl rfl ?_
      refine RunO.call rfl rfl ?_
      refine RunF.mono (hg i h1 _ hf) ?_
      rintro _ h2 ⟨rfl, f2⟩
      refine ⟨_, rfl, RunO.all rfl ?_⟩
      refine RunC.cond rfl (fun ht => ?_) (fun hn => ?_)
      · refine RunC.seq (RunC.region (RunO.all rfl (RunC.ret ⟨_, rfl, hf.quiet f2, .inl ⟨i, h1, rfl, ht, hp⟩⟩)))
      · refine RunC.skip (RunC.region (RunO.all rfl ?_))
        refine ⟨k - 1, by omega, i + 1, by omega, fun j hj => ?_, hf.quiet f2, Le.cons (inc64 (by omega)) (Le.cons rfl (Le.cons rfl (Le.cons rfl (Le.nil _))))⟩
        rcases Nat.lt_or_ge j i with q | q
        · exact hp j q
        · rw [show j = i by omega]; exact hn
    · have hge := of_decide_eq_false hge
      refine RunC.exit ?_
      exact RunC.seq (RunC.region (RunO.all rfl (RunC.ret ⟨_, rfl, hf, .inr ⟨rfl, fun j hj => hp j (by omega)⟩⟩)))
  · exact ⟨0, by omega, fun j hj => absurd hj (Nat.not_lt_zero _), Fr.refl _ _, Le.cons rfl (Le.cons rfl (Le.cons rfl (Le.cons rfl (Le.nil _))))⟩
theorem containsIo_ok {h : Heap} {v : Value} {n : Nat} {acs : List Value} (sl : Sl h v 3 n acs) {u : Nat → Value} (hu : ∀ j, j < n → apart prog 79 acs (j * 3) = some (u j)) {g : FuncId} {cap : List Value} {p : Nat → Bool}
    (hg : ∀ j, j < n → ∀ h1, Fr no h h1 → RunF prog g (u j :: cap) h1 (fun v h2 => v = .bool (p j) ∧ Fr no h1 h2)) (hm : n ≤ 4611686018427387904) :
    RunF prog 94 [v, .func (.func g) #[] ⟨cap⟩] h fun r h' => r = .bool (anyI p n) ∧ Fr no h h' := by
  refine RunF.walk func94 rfl rfl ?_
  refine RunC.seq (RunC.region (RunO.all rfl ?_))
  refine RunC.seq (RunC.region (RunO.part 2 rfl ?_))
  refine RunO.callD (indexIo_ok sl hu hg hm) rfl rfl rfl ?_
  rintro _ h2 ⟨f2, ⟨i, hi, rfl, hp, _⟩ | ⟨rfl, hp⟩⟩
  · refine RunO.all rfl (RunC.ret ⟨_, rfl, ?_, f2⟩)
    rw [anyI_true hi hp]
    exact congrArg Value.bool (decide_eq_true (Int.natCast_nonneg i))
  · refine RunO.all rfl (RunC.ret ⟨_, rfl, ?_, f2⟩)
    rw [anyI_false hp]; rfl
end Go.Proofs.Ytbinkbdfoalbcaa
end
section
set_option linter.unusedVariables false
set_option maxRecDepth 100000
open Go Go.Am
namespace Go.Proofs.Ytbinkbdfoalbcaa
open Go.Proofs.Try
abbrev IoT := Int × Int × List Int × Unit
/-- A device step's cells. -/
def IoK (h : Heap) (x : IoT) (cs : List Value) : Prop := ∃ dv, cs = [.int .i64 x.1, .int .i64 x.2.1, dv] ∧ Sl h dv 1 x.2.2.1.length (us x.2.2.1) ∧ Byt x.2.2.1
/-- A slice of device steps. -/
def Ios (h : Heap) (v : Value) (l : List IoT) : Prop := ∃ acs, Sl h v 3 l.length acs ∧ ∀ (j : Nat) (x : IoT), l[j]? = some x → IoK h x ((acs.drop (j * 3)).take 3)
theorem IoK.ex {h h' : Heap} {x : IoT} {cs : List Value} (k : IoK h x cs) (e : Ex h h') : IoK h' x cs := by
  obtain ⟨dv, h1, h2, h3⟩ := k
  exact ⟨dv, h1, h2.ex e, h3⟩
theorem Ios.ex {h h' : Heap} {v : Value} {l : List IoT} (k : Ios h v l) (e : Ex h h') : Ios h' v l := by
  obtain ⟨acs, h1, h2⟩ := k
  exact ⟨acs, h1.ex e, fun j x hx => (h2 j x hx).ex e⟩
theorem Ios.fr0 {h h' : Heap} {v : Value} {l : List IoT} (k : Ios h v l) (f : Fr no h h') : Ios h' v l := k.ex f.ex
theorem clone8_ok {h : Heap} {v : Value} {l : List Int} (sl : Sl h v 1 l.length (us l)) (hb : 2 * l.length ≤ 281474976710656) :
    RunF prog 65 [v] h fun r h' => Osl h.next h' r 1 l.length (us l) ∧ Fr no h h' ∧ (l.length = 0 → h.next ≤ h'.next) := by
  refine RunF.walk func65 rfl rfl ?_
  refine RunC.seq (RunC.region (RunO.all rfl ?_))
  obtain ⟨hl, hm, ⟨rfl, h0⟩ | ⟨b, o, c, rfl, hc, rd⟩⟩ := sl
  · refine RunC.seq (RunC.seq (RunC.region (RunO.all rfl ?_)))
    refine RunC.cond rfl (fun _ => ?_) (fun g => by cases g)
    exact RunC.seq (RunC.region (RunO.all rfl (RunC.ret ⟨_, rfl, ⟨hl, hm, .inl ⟨rfl, h0⟩⟩, Fr.refl _ _, fun _ => Nat.le_refl _⟩)))
  · refine RunC.seq (RunC.seq (RunC.region (RunO.all rfl ?_)))
    refine RunC.cond rfl (fun g => by cases g) (fun _ => RunC.skip ?_)
    refine RunC.seq (RunC.region (RunO.part 2 (h1 := h.push ⟨[], true⟩) rfl ?_))
    have f1 : Fr no h (h.push ⟨[], true⟩) := Fr.push _ _ _
    have ow : Ow (h.push ⟨[], true⟩) h.next [] := Ow.push _ _
    by_cases hz : l.length = 0
    · have hn : l = [] := List.eq_nil_of_length_eq_zero hz
      subst hn
      have key : aappend prog (h.push ⟨[], true⟩) 22 22 (.slice (some ⟨h.next, 0, none⟩) 0 (exc 0)) (.slice (some ⟨b, o, none⟩) 0 c) = some (.slice (some ⟨h.next, 0, none⟩) 0 (exc 0), h.push ⟨[], true⟩) := by
        have hs : asrc (h.push ⟨[], true⟩) 1 (.slice (some ⟨b, o, none⟩) 0 c) = some (0, []) := ((rd.fr f1 (fun g => g)).sl (s := 1) (n := 0) rfl (Nat.zero_le _) hc).src0
        show (match asrc (h.push ⟨[], true⟩) 1 (.slice (some ⟨b, o, none⟩) 0 c) with
          | some (0, _) => some (Value.slice (some ⟨h.next, 0, none⟩) 0 (exc 0), h.push ⟨[], true⟩)
          | some (m + 1, news) => _
          | none => none) = _
        rw [hs]
      refine RunO.one rfl (v := .slice (some ⟨h.next, 0, none⟩) 0 (exc 0)) (h1 := h.push ⟨[], true⟩) (abuiltin_app key) rfl ?_
      exact RunO.all rfl (RunC.ret ⟨_, rfl, ⟨rfl, hm, .inr ⟨h.next, exc 0, Nat.le_refl _, rfl, Cp.exc (Nat.le_refl _), ow⟩⟩, f1, fun _ => Nat.le_succ _⟩)
    · have key := append_full (P := prog) (t := 22) (e := 5) (s := 1) (k := 0) (m := l.length) (c := exc 0) (c' := c) (olds := []) (news := us l) (b := ⟨h.next, 0, none⟩) (a := ⟨b, o, none⟩) rfl rfl rfl rfl rfl (Nat.le_refl 1) ow.all rfl rfl (by show 0 < 0 + l.length; omega) (rd.fr f1 (fun g => g)) (by rw [us_len, Nat.mul_one]) (by omega)
        (by show 2 * (0 + l.length) * 1 ≤ _; omega) (by omega)
      rw [Nat.zero_add, List.nil_append] at key
      refine RunO.one rfl (abuiltin_app key) rfl ?_
      refine RunO.all rfl (RunC.ret ⟨_, rfl, ⟨hl, hm, .inr ⟨_, _, Nat.le_succ _, rfl, Cp.unkc _ _, Ow.push _ _⟩⟩, f1.same (Fr.push _ _ _), fun _ => Nat.le_succ_of_le (Nat.le_succ _)⟩)
/-- Is a step right? -/
def ioR (k a : Int) (n : Nat) (b : Int) : Bool := if (k == 1) = true then decide (a ≥ 0) && (decide (a < b) && ((n : Int) == 64)) else if (k == 2) = true then a == 0 && ((n : Int) == 0) else false
theorem devRight_ok {h : Heap} {k a b : Int} {A : Option Addr} {n c : Nat} : RunF prog 96 [.agg ⟨[.int .i64 k, .int .i64 a, .slice A n c]⟩, .int .i64 b] h fun v h' => v = .bool (ioR k a n b) ∧ Fr no h h' := by
  refine RunF.walk func96 rfl rfl ?_
  refine RunC.seq (RunC.region (RunO.all (h1 := h.push ⟨[.int .i64 k, .int .i64 a, .slice A n c], true⟩) rfl ?_))
  have ow : Ow (h.push ⟨[.int .i64 k, .int .i64 a, .slice A n c], true⟩) h.next [.int .i64 k, .int .i64 a, .slice A n c] := Ow.push _ _
  have f1 : Fr no h (h.push ⟨[.int .i64 k, .int .i64 a, .slice A n c], true⟩) := Fr.push _ _ _
  generalize h.push ⟨[.int .i64 k, .int .i64 a, .slice A n c], true⟩ = h1 at *
  generalize h.next = p at *
  refine RunC.seq (RunC.seq (RunC.region (RunO.part 1 rfl ?_)))
  refine RunO.load (v := .int .i64 k) rfl (ow.all.cell1 (k := 0) rfl rfl) rfl (RunO.nil ?_)
  refine RunC.block ?_
  refine RunC.seq (RunC.region (RunO.all rfl ?_))
  unfold ioR
  cases (k == 1) with
  | true =>
    refine RunC.cond rfl (fun _ => ?_) (fun g => by cases g)
    refine RunC.seq (RunC.region (RunO.part 1 rfl ?_))
    refine RunO.load (v := .int .i64 a) rfl (ow.all.cell1 (k := 1) rfl rfl) rfl ?_
    refine RunO.part 2 rfl ?_
    cases decide (a ≥ 0) with
    | false => exact RunO.all rfl (RunC.ret ⟨_, rfl, rfl, f1⟩)
    | true =>
      refine RunO.part 1 rfl ?_
      refine RunO.loadG (v := .int .i64 a) rfl rfl (ow.all.cell1 (k := 1) rfl rfl) rfl ?_
      refine RunO.part 4 rfl ?_
      cases decide (a < b) with
      | false => exact RunO.all rfl (RunC.ret ⟨_, rfl, rfl, f1⟩)
      | true =>
        refine RunO.part 1 rfl ?_
        refine RunO.loadG (v := .slice A n c) rfl rfl (ow.all.cell1 (k := 2) rfl rfl) rfl ?_
        exact RunO.all rfl (RunC.ret ⟨_, rfl, rfl, f1⟩)
  | false =>
    refine RunC.cond rfl (fun g => by cases g) (fun _ => ?_)
    refine RunC.seq (RunC.region (RunO.all rfl ?_))
    cases (k == 2) with
    | false =>
      refine RunC.cond rfl (fun g => by cases g) (fun _ => RunC.skip ?_)
      exact RunC.seq (RunC.region (RunO.all rfl (RunC.ret ⟨_, rfl, rfl, f1⟩)))
    | true =>
      refine RunC.cond rfl (fun _ => ?_) (fun g => by cases g)
      refine RunC.seq (RunC.region (RunO.part 1 rfl ?_))
      refine RunO.load (v := .int .i64 a) rfl (ow.all.cell1 (k := 1) rfl rfl) rfl ?_
      refine RunO.part 2 rfl ?_
      cases (a == 0) with
      | false => exact RunO.all rfl (RunC.ret ⟨_, rfl, rfl, f1⟩)
      | true =>
        refine RunO.part 1 rfl ?_
        refine RunO.loadG (v := .slice A n c) rfl rfl (ow.all.cell1 (k := 2) rfl rfl) rfl ?_
        exact RunO.all rfl (RunC.ret ⟨_, rfl, rfl, f1⟩)
theorem devRightC_ok {h : Heap} {k a b : Int} {A : Option Addr} {n c q : Nat} (rd : Rd h ⟨q, 0, none⟩ [.int .i64 b]) : RunF prog 95 [.agg ⟨[.int .i64 k, .int .i64 a, .slice A n c]⟩, .pointer (some ⟨q, 0, none⟩)] h fun v h' => v = .bool (!ioR k a n b) ∧ Fr no h h' := by
  refine RunF.walk func95 rfl rfl ?_
  refine RunC.seq (RunC.region (RunO.all (h1 := h.push ⟨[.int .i64 k, .int .i64 a, .slice A n c], true⟩) rfl ?_))
  have ow : Ow (h.push ⟨[.int .i64 k, .int .i64 a, .slice A n c], true⟩) h.next [.int .i64 k, .int .i64 a, .slice A n c] := Ow.push _ _
  have f1 : Fr no h (h.push ⟨[.int .i64 k, .int .i64 a, .slice A n c], true⟩) := Fr.push _ _ _
  have rd1 := rd.fr f1 (fun g => g)
  generalize h.push ⟨[.int .i64 k, .int .i64 a, .slice A n c], true⟩ = h1 at *
  generalize h.next = p at *
  refine RunC.seq (RunC.region ?_)
  refine RunO.load (v := .agg ⟨[.int .i64 k, .int .i64 a, .slice A n c]⟩) rfl (ow.all.part (k := 0) rfl) rfl ?_
  refine RunO.load (v := .int .i64 b) rfl (rd1.cell1 (k := 0) rfl rfl) rfl ?_
  refine RunO.callD devRight_ok rfl rfl rfl ?_
  rintro _ h2 ⟨rfl, f2⟩
  exact RunO.all rfl (RunC.ret ⟨_, rfl, rfl, f1.same f2⟩)
/-- Why steps are not a device's. -/
def stepsE (n : Nat) (l : List IoT) : Int := if devOk n then (if decide ((l.length : Int) > 1048576) then 2 else if l.any (fun x => !ioR x.1 x.2.1 x.2.2.1.length (n / 64 : Nat)) then 1 else 0) else 2
theorem io_part {acs : List Value} {n j : Nat} (hl : acs.length = n * 3) (hj : j < n) : apart prog 79 acs (j * 3) = some (.agg ⟨(acs.drop (j * 3)).take 3⟩) := by
  show (match takeN 3 (dropN (j * 3) acs) with | some l => some (Value.agg ⟨l⟩) | none => none) = _
  rw [takeN_eq, dropN_eq, if_pos (by rw [List.length_drop]; omega)]
theorem devSteps_ok {h : Heap} {A : Option Addr} {c n : Nat} {v : Value} {l : List IoT} (il : Ios h v l) (hm : n ≤ 4611686018427387904) (hm2 : l.length ≤ 4611686018427387904) :
    RunF prog 64 [.slice A n c, v] h fun r h' => r = .int .i64 (stepsE n l) ∧ Fr no h h' := by
  obtain ⟨acs, sl, hk⟩ := il
  refine RunF.walk func64 rfl rfl ?_
  refine RunC.seq (RunC.region (RunO.all rfl ?_))
  refine RunC.seq (RunC.region (RunO.part 1 rfl ?_))
  refine RunO.callD (devCheck_ok hm) rfl rfl rfl ?_
  rintro _ _ ⟨rfl, rfl⟩
  have hsE : stepsE n l = if devOk n then (if decide ((l.length : Int) > 1048576) then 2 else if l.any (fun x => !ioR x.1 x.2.1 x.2.2.1.length (n / 64 : Nat)) then 1 else 0) else 2 := rfl
  rw [hsE]
  refine RunO.part 4 (h1 := h.push ⟨[.int .i64 0], true⟩) rfl ?_
  refine RunO.store rfl rfl (store1_ow (Ow.push h [.int .i64 0]) rfl rfl rfl (Nat.le_refl 1)) ?_
  change RunO _ _ _ _ _ ((h.push ⟨[.int .i64 0], true⟩).put h.next (some ⟨[.int .i64 (if devOk n then (n / 64 : Nat) else (0 : Nat))], true⟩)) _
  have ow : Ow ((h.push ⟨[.int .i64 0], true⟩).put h.next (some ⟨[.int .i64 (if devOk n then (n / 64 : Nat) else (0 : Nat))], true⟩)) h.next [.int .i64 (if devOk n then (n / 64 : Nat) else (0 : Nat))] := Ow.put _ (Nat.lt_succ_self _)
  have f1 : Fr no h ((h.push ⟨[.int .i64 0], true⟩).put h.next (some ⟨[.int .i64 (if devOk n then (n / 64 : Nat) else (0 : Nat))], true⟩)) := (Fr.push _ _ _).trans (Fr.put (m := (· = h.next)) _ (.inl rfl)) (fun j hj => .inr (by omega))
  generalize (h.push ⟨[.int .i64 0], true⟩).put h.next (some ⟨[.int .i64 (if devOk n then (n / 64 : Nat) else (0 : Nat))], true⟩) = h1 at *
  generalize h.next = p at *
  have sl1 := sl.fr0 f1
  refine RunO.all rfl ?_
  cases hd0 : devOk n with
  | false =>
    refine RunC.seq (RunC.block ?_)
    refine RunC.seq (RunC.region (RunO.all rfl (RunC.cond rfl (fun _ => ?_) (fun g => by cases g))))
    exact RunC.seq (RunC.region (RunO.all rfl (RunC.ret ⟨_, rfl, rfl, f1⟩)))
  | true =>
  rw [hd0, if_pos rfl] at ow
  refine RunC.seq (RunC.block ?_)
  refine RunC.seq (RunC.region (RunO.all rfl (RunC.cond rfl (fun g => by cases g) (fun _ => ?_))))
  obtain ⟨B, d, rfl, hd, _⟩ := sl.form
  refine RunC.seq (RunC.region (RunO.all rfl ?_))
  cases decide ((l.length : Int) > 1048576) with
  | true =>
    refine RunC.cond rfl (fun _ => ?_) (fun g => by cases g)
    exact RunC.seq (RunC.region (RunO.all rfl (RunC.ret ⟨_, rfl, rfl, f1⟩)))
  | false =>
    refine RunC.cond rfl (fun g => by cases g) (fun _ => ?_)
    refine RunC.seq (RunC.region (RunO.part 2 rfl ?_))
    refine RunO.callD (containsIo_ok sl1 (u := fun j => .agg ⟨(acs.drop (j * 3)).take 3⟩) (fun j hj => io_part sl.1 hj) (p := fun j => match l[j]? with | some x => !ioR x.1 x.2.1 x.2.2.1.length (n / 64 : Nat) | none => false) (fun j hj h2 f2 => ?_) hm2) rfl rfl rfl ?_
    · obtain ⟨dv, e1, e2, _⟩ := hk j _ (List.getElem?_eq_getElem hj)
      rw [e1]
      obtain ⟨D, dc, rfl, _, _⟩ := e2.form
      have := devRightC_ok (h := h2) (k := (l[j]).1) (a := (l[j]).2.1) (b := (n / 64 : Nat)) (A := D) (n := (l[j]).2.2.1.length) (c := dc) (q := p) ((ow.fr f2 (fun g => g)).all)
      simp only [List.getElem?_eq_getElem hj]
      exact this
    rintro _ h2 ⟨rfl, f2⟩
    rw [anyI_list (q := fun x : IoT => !ioR x.1 x.2.1 x.2.2.1.length (n / 64 : Nat)) (fun j x hx => by simp only [hx])]
    refine RunO.all rfl ?_
    cases l.any (fun x => !ioR x.1 x.2.1 x.2.2.1.length (n / 64 : Nat)) with
    | true =>
      refine RunC.cond rfl (fun _ => ?_) (fun g => by cases g)
      exact RunC.seq (RunC.region (RunO.all rfl (RunC.ret ⟨_, rfl, rfl, f1.same f2⟩)))
    | false =>
      refine RunC.cond rfl (fun g => by cases g) (fun _ => RunC.skip ?_)
      exact RunC.seq (RunC.region (RunO.all rfl (RunC.ret ⟨_, rfl, rfl, f1.same f2⟩)))
end Go.Proofs.Ytbinkbdfoalbcaa
end
section
set_option linter.unusedVariables false
set_option maxRecDepth 100000
open Go Go.Am
namespace Go.Proofs.Ytbinkbdfoalbcaa
open Go.Proofs.Try
/-- A block written over. -/
def setBlk (o : List Int) (i : Nat) (d : List Int) : List Int := o.take (i * 64) ++ d ++ o.drop (i * 64 + 64)
theorem setBlk_len {o d : List Int} {i : Nat} (hi : (i + 1) * 64 ≤ o.length) (hd : d.length = 64) : (setBlk o i d).length = o.length := by
  unfold setBlk
  rw [List.length_append, List.length_append, List.length_take, List.length_drop, hd]; omega
def applyStep (o : List Int) (x : IoT) : List Int := if (x.1 == 1) = true then setBlk o x.2.1.toNat x.2.2.1 else o
def applyL (o : List Int) (l : List IoT) : List Int := l.foldl applyStep o
/-- A step that is right. -/
def ioOk (n : Nat) (x : IoT) : Prop := x.1 = 1 ∧ (∃ a : Nat, x.2.1 = (a : Int) ∧ a < n / 64) ∧ x.2.2.1.length = 64 ∨ x.1 = 2 ∧ x.2.1 = 0 ∧ x.2.2.1 = []
theorem ioR_iff {n : Nat} {x : IoT} : ioR x.1 x.2.1 x.2.2.1.length (n / 64 : Nat) = true ↔ ioOk n x := by
  unfold ioR ioOk
  by_cases h1 : x.1 = 1
  · rw [if_pos (beq_iff_eq.2 h1)]
    simp only [Bool.and_eq_true, decide_eq_true_eq, beq_iff_eq]
    constructor
    · rintro ⟨h2, h3, h4⟩
      exact .inl ⟨h1, ⟨x.2.1.toNat, by omega, by omega⟩, by omega⟩
    · rintro (⟨_, ⟨a, h2, h3⟩, h4⟩ | ⟨h2, _⟩)
      · exact ⟨by omega, by omega, by omega⟩
      · omega
  · rw [if_neg (fun g => h1 (beq_iff_eq.1 g))]
    by_cases h2 : x.1 = 2
    · rw [if_pos (beq_iff_eq.2 h2)]
      simp only [Bool.and_eq_true, beq_iff_eq]
      constructor
      · rintro ⟨h3, h4⟩
        exact .inr ⟨h2, h3, List.eq_nil_of_length_eq_zero (by omega)⟩
      · rintro (⟨h3, _⟩ | ⟨_, h3, h4⟩)
        · omega
        · exact ⟨h3, by rw [h4]; rfl⟩
    · rw [if_neg (fun g => h2 (beq_iff_eq.1 g))]
      constructor
      · intro g; cases g
      · rintro (⟨h3, _⟩ | ⟨h3, _⟩)
        · exact absurd h3 h1
        · exact absurd h3 h2
theorem stepsE_zero {n : Nat} {l : List IoT} (h : stepsE n l = 0) : devOk n = true ∧ l.length ≤ 1048576 ∧ ∀ x ∈ l, ioOk n x := by
  unfold stepsE at h
  split at h
  · rename_i h1
    split at h
    · cases h
    · rename_i h2
      split at h
      · cases h
      · rename_i h3
        refine ⟨h1, ?_, fun x hx => ?_⟩
        · have := of_decide_eq_false (Bool.eq_false_iff.2 h2); omega
        · refine ioR_iff.1 ?_
          cases e : ioR x.1 x.2.1 x.2.2.1.length (n / 64 : Nat) with
          | true => rfl
          | false => exact absurd (List.any_eq_true.2 ⟨x, hx, by rw [e]; rfl⟩) h3
  · cases h
theorem applyStep_len {n : Nat} {o : List Int} {x : IoT} (hn : o.length = n) (hx : ioOk n x) : (applyStep o x).length = n := by
  unfold applyStep
  split
  · rename_i h1
    rcases hx with ⟨_, ⟨a, e, ha⟩, hd⟩ | ⟨h2, _⟩
    · rw [e, Int.toNat_natCast, setBlk_len (by omega) hd, hn]
    · rw [h2] at h1; cases h1
  · exact hn
theorem foldl_take {α β : Type} (f : β → α → β) (b : β) {l : List α} {i : Nat} (hi : i < l.length) : (l.take (i + 1)).foldl f b = f ((l.take i).foldl f b) l[i] := by
  rw [List.take_succ_eq_append_getElem hi, List.foldl_append]; rfl
theorem us_set {o d : List Int} {i : Nat} (hd : d.length = 64) : (us o).take (i * 64) ++ (us d).take 64 ++ (us o).drop (i * 64 + 64) = us (setBlk o i d) := by
  rw [List.take_of_length_le (l := us d) (by rw [us_len, hd]; exact Nat.le_refl _)]
  unfold us setBlk
  rw [List.map_append, List.map_append, List.map_take, List.map_drop]
set_option maxHeartbeats 4000000 in
theorem devApply_ok {h : Heap} {iv v : Value} {L : List Int} {l : List IoT} (si : Sl h iv 1 L.length (us L)) (hL : 2 * L.length ≤ 281474976710656) (il : Ios h v l) (hm2 : l.length ≤ 4611686018427387904) :
    RunF prog 38 [iv, v] h fun r h' => Fr no h h' ∧ ((stepsE L.length l = 0 ∧ ∃ b c, h.next ≤ b ∧ r = .tuple #[.slice (some ⟨b, 0, none⟩) L.length c, .int .i64 0] ∧ Cp 1 L.length c ∧ Ow h' b (us (applyL L l))) ∨ (stepsE L.length l ≠ 0 ∧ r = .tuple #[.slice none 0 0, .int .i64 (stepsE L.length l)])) := by
  refine RunF.walk func38 rfl rfl ?_
  obtain ⟨A, c, rfl, hc, hA⟩ := si.form
  refine RunC.seq (RunC.region (RunO.all rfl ?_))
  refine RunC.seq (RunC.region (RunO.part 2 rfl ?_))
  refine RunO.callD (devSteps_ok il (by omega) hm2) rfl rfl rfl ?_
  rintro _ h1 ⟨rfl, f1⟩
  refine RunO.all rfl ?_
  refine RunC.seq (RunC.seq (RunC.region (RunO.all rfl ?_)))
  by_cases he : stepsE L.length l = 0
  case neg =>
    rw [show (stepsE L.length l != 0) = true from bne_iff_ne.2 he]
    refine RunC.cond rfl (fun _ => ?_) (fun g => by cases g)
    exact RunC.seq (RunC.region (RunO.all rfl (RunC.ret ⟨_, rfl, f1, .inr ⟨he, rfl⟩⟩)))
  rw [he]
  obtain ⟨hdev, hl20, hall⟩ := stepsE_zero he
  have hlen : 256 ≤ L.length := by
    unfold devOk at hdev
    simp at hdev
    omega
  refine RunC.cond rfl (fun g => by cases g) (fun _ => RunC.skip ?_)
  refine RunC.seq (RunC.region (RunO.part 1 rfl ?_))
  refine RunO.callD (clone8_ok (si.fr0 f1) hL) rfl rfl rfl ?_
  rintro w h2 ⟨os, f2, _⟩
  obtain ⟨_, _, ⟨_, h0⟩ | ⟨ob, oc, hob, rfl, hoc, ow⟩⟩ := os
  · omega
  refine RunO.all rfl ?_
  have f12 := f1.same f2
  obtain ⟨acs, sl, hk⟩ := il
  obtain ⟨B, d, rfl, hd, _⟩ := sl.form
  refine RunC.seq (RunC.seq (RunC.region (RunO.all rfl ?_)))
  refine RunC.block ?_
  have hob1 : h.next ≤ ob := Nat.le_trans f1.next hob
  let I : Nat → Env → Heap → Prop := fun k E h' => ∃ i : Nat, i + k = l.length ∧ Fr no h h' ∧ Ow h' ob (us ((l.take i).foldl applyStep L)) ∧ ((l.take i).foldl applyStep L).length = L.length ∧ Le (upd (upd (upd (upd E0 7 (.slice (some ⟨ob, 0, none⟩) L.length oc)) 18 (.slice B l.length d)) 19 (.int .i64 l.length)) 20 (.int .i64 i)) E
  refine RunC.loop I ?_ (k := l.length) ?_
  · rintro k E h' ⟨i, hi, hf, ow', hol, hE⟩
    refine RunC.le hE ?_
    clear hE
    refine RunC.seq (RunC.region (RunO.all rfl ?_))
    refine RunC.seq (RunC.cond rfl (fun hlt => ?_) (fun hge => ?_))
    · have hlt := of_decide_eq_true hlt
      have h1 : i < l.length := by omega
      have hx := hk i _ (List.getElem?_eq_getElem h1)
      have hok := hall _ (List.getElem_mem h1)
      have hstep := foldl_take applyStep L h1
      have hsl := applyStep_len hol hok
      rw [← hstep] at hsl
      obtain ⟨cur1, hc1⟩ : ∃ z, z = (l.take (i + 1)).foldl applyStep L := ⟨_, rfl⟩
      rw [← hc1] at hstep hsl
      generalize (l.take i).foldl applyStep L = cur at *
      have hpart := io_part (acs := acs) sl.1 h1
      obtain ⟨dv, e1, e2, _⟩ := hx
      rw [e1] at hpart
      generalize l[i] = x at *
      obtain ⟨kd, a, dl, u⟩ := x
      simp only at e1 e2 hpart
      refine RunC.skip ?_
      refine RunC.seq (RunC.block ?_)
      obtain ⟨D, dc, rfl, hdc, _⟩ := e2.form
      refine RunC.seq (RunC.region ?_)
      refine RunO.at (s := 3) rfl rfl (sl.fr0 hf) rfl rfl h1 hpart rfl rfl rfl ?_
      refine RunO.part 1 (h1 := h'.push ⟨[.int .i64 0, .int .i64 0, .slice none 0 0], true⟩) rfl ?_
      refine RunO.store rfl rfl (store_ow (s := 3) (Ow.push h' [.int .i64 0, .int .i64 0, .slice none 0 0]) rfl rfl rfl (Nat.le_of_ble_eq_true rfl)) (RunO.nil ?_)
      change RunC _ _ _ _ ((h'.push ⟨[.int .i64 0, .int .i64 0, .slice none 0 0], true⟩).put h'.next (some ⟨[.int .i64 kd, .int .i64 a, .slice D dl.length dc], true⟩)) _ _ _
      have ox : Ow ((h'.push ⟨[.int .i64 0, .int .i64 0, .slice none 0 0], true⟩).put h'.next (some ⟨[.int .i64 kd, .int .i64 a, .slice D dl.length dc], true⟩)) h'.next [.int .i64 kd, .int .i64 a, .slice D dl.length dc] := Ow.put _ (Nat.lt_succ_self _)
      have f4 : Fr no h' ((h'.push ⟨[.int .i64 0, .int .i64 0, .slice none 0 0], true⟩).put h'.next (some ⟨[.int .i64 kd, .int .i64 a, .slice D dl.length dc], true⟩)) := (Fr.push _ _ _).trans (Fr.put (m := (· = h'.next)) _ (.inl rfl)) (fun j hj => .inr (by omega))
      have ow4 := ow'.fr f4 (fun g => g)
      have hf4 := hf.same f4
      have hne : h'.next ≠ ob := by have := ow'.1; omega
      have sd4 := e2.fr0 hf4
      generalize (h'.push ⟨[.int .i64 0, .int .i64 0, .slice none 0 0], true⟩).put h'.next (some ⟨[.int .i64 kd, .int .i64 a, .slice D dl.length dc], true⟩) = h4 at *
      generalize h'.next = p at *
      refine RunC.seq (RunC.region (RunO.part 1 rfl ?_))
      refine RunO.load (v := .int .i64 kd) rfl (ox.all.cell1 (k := 0) rfl rfl) rfl (RunO.all rfl ?_)
      cases hkd : (kd == 1) with
      | false =>
        refine RunC.cond rfl (fun g => by cases g) (fun _ => RunC.skip ?_)
        refine RunC.region (RunO.all rfl ?_)
        have hst : cur1 = cur := by rw [hstep]; unfold applyStep; rw [if_neg (by simp only [hkd]; exact Bool.false_ne_true)]
        rw [← hst] at ow4
        exact ⟨k - 1, by omega, i + 1, by omega, hf4, hc1 ▸ ow4, hc1 ▸ hsl, Le.cons (inc64 (by omega)) (Le.cons rfl (Le.cons rfl (Le.cons rfl (Le.nil _))))⟩
      | true =>
        refine RunC.cond rfl (fun _ => ?_) (fun g => by cases g)
        have hst : cur1 = setBlk cur a.toNat dl := by rw [hstep]; unfold applyStep; rw [if_pos hkd]
        rcases hok with ⟨_, ⟨an, ea, ha⟩, hdl⟩ | ⟨h2, _⟩
        case inr => rw [show kd = 2 from h2] at hkd; cases hkd
        simp only at ea hdl
        subst ea
        rw [Int.toNat_natCast] at hst
        have hal : (an + 1) * 64 ≤ L.length := by omega
        refine RunC.draw (l0 := min (min h4.low h4.next) ob) (Nat.le_trans (Nat.min_le_left _ _) (Nat.min_le_left _ _)) rfl ?_
        have hn : min (min h4.low h4.next) ob ≤ h4.next := Nat.le_trans (Nat.min_le_left _ _) (Nat.min_le_right h4.low h4.next)
        refine RunD.pure hn rfl rfl (fun _ => rfl) rfl ?_
        refine RunD.pure hn rfl rfl (fun _ => rfl) rfl ?_
        refine RunD.load (v := .int .i64 an) hn rfl (ox.all.cell1 (k := 1) rfl rfl) rfl ?_
        have hof := devOf_ok (h := h4.lo h4.next) (b := ob) (o := 0) (c := oc) (i := an) (l := L) hal (by omega) hoc
        refine RunD.callD hof rfl rfl rfl ?_
        rintro _ _ ⟨⟨c', hc', rfl⟩, rfl⟩
        refine ⟨hn, ?_⟩
        refine RunD.pure hn rfl rfl (fun _ => rfl) rfl ?_
        refine RunD.load (v := .slice D dl.length dc) hn rfl (ox.all.cell1 (k := 2) rfl rfl) rfl ?_
        obtain ⟨h5, hcp, ow5, f5, hn5⟩ := copy_sl (P := prog) (t := 22) (h := h4.lo h4.next) (b := ob) (o := 0 + an * 64) (dn := 64) (dc := c') (k := 64) rfl rfl ow4 sd4 (allCells_map (fun _ => rfl) dl) (by rw [hdl]; rfl) (by rw [us_len, hol]; omega)
        rw [Nat.zero_add, us_set hdl, ← hst] at ow5
        rw [Nat.zero_add] at hcp
        have hl5 : min (min h4.low h4.next) ob ≤ h5.low := f5.low _ (Nat.le_trans (Nat.min_le_left _ _) (Nat.min_le_right _ _)) (Nat.le_trans (Nat.min_le_left _ _) (Nat.min_le_right _ _)) (fun j hj => hj ▸ Nat.min_le_right _ _)
        refine RunD.one (v := goInt (64 : Nat)) (f := .wr _) (h1 := h5) rfl (by rw [Nat.zero_add]; exact hcp) (fun _ => rfl) hl5 rfl ?_
        refine RunD.nil ⟨?_, fun lw hlw => ?_⟩
        · rw [show Nat.ble h4.next (h4.lo h4.next).low = true from Nat.ble_eq_true_of_le (Nat.le_refl _)]; rfl
        have f6 : Fr no h (h5.lo lw) := (hf4.fg0.trans f5.fg (fun j e => .inr (e ▸ hob1))).close (fun q a b _ => by
          have := hf4.low q a b (fun _ g => g.elim)
          have := hf4.next
          omega)
        refine RunC.region (RunO.all rfl ?_)
        exact ⟨k - 1, by omega, i + 1, by omega, f6, hc1 ▸ ow5, hc1 ▸ hsl, Le.cons (inc64 (by omega)) (Le.cons rfl (Le.cons rfl (Le.cons rfl (Le.nil _))))⟩
    · have hge := of_decide_eq_false hge
      refine RunC.exit ?_
      have hi2 : i = l.length := by omega
      subst hi2
      rw [List.take_length] at ow'
      exact RunC.seq (RunC.region (RunO.all rfl (RunC.ret ⟨_, rfl, hf, .inl ⟨rfl, ob, oc, hob1, rfl, hoc, ow'⟩⟩)))
  · exact ⟨0, by omega, f12, ow, rfl, Le.cons rfl (Le.cons rfl (Le.cons rfl (Le.cons rfl (Le.nil _))))⟩
end Go.Proofs.Ytbinkbdfoalbcaa
end
section
set_option linter.unusedVariables false
set_option maxRecDepth 100000
open Go Go.Am Go.RowKit
namespace Go.Proofs.Ytbinkbdfoalbcaa
open Go.Proofs.Try
/-- The node that a block tells; none: no pointers. -/
def nodV (l : List Int) : Int × List Int := if nCode l = 0 then (nLv l, nPs l) else (0, nZero)
theorem nodV_cells (l : List Int) : nCells l = nc (nodV l).1 (nodV l).2 := by unfold nCells nodV; split <;> rfl
theorem nodV_len (l : List Int) : (nodV l).2.length = 8 := by unfold nodV; split <;> rfl
def atIn (B : Nat) (at_ : Int) : Bool := !(decide (at_ < 2) || decide (at_ ≥ (B : Int)))
def atV (L : List Int) (B : Nat) (at_ : Int) : Int × List Int := if atIn B at_ then nodV (blkI L at_.toNat) else (0, nZero)
theorem atV_len (L : List Int) (B : Nat) (at_ : Int) : (atV L B at_).2.length = 8 := by unfold atV; split; exact nodV_len _; rfl
def atIs (L : List Int) (B : Nat) (at_ lv : Int) : Bool := atIn B at_ && (nCode (blkI L at_.toNat) == 0 && (atV L B at_).1 == lv)
theorem atIn_iff {B : Nat} {a : Int} : atIn B a = true ↔ 2 ≤ a ∧ a < B := by
  unfold atIn
  rw [Bool.not_eq_true', Bool.or_eq_false_iff, decide_eq_false_iff_not, decide_eq_false_iff_not]
  omega
/-- A walk through a tree: the map, the nodes, is it none? -/
abbrev TS := List Int × List Int × Bool
def tstep (rec_ : Int → Nat → TS → TS) (B : Nat) (leaf : Bool) (w : TS) (p : Int) (to_ : Nat) : TS :=
  if w.2.2 then w else if decide (p ≥ (B : Int)) then (w.1, w.2.1, true) else if p != 0 && leaf then (w.1.set to_ p, w.2.1, w.2.2) else if p != 0 then rec_ p to_ w else w
def tbody (L : List Int) (B lv : Nat) (rec_ : Int → Nat → TS → TS) (at_ : Int) (from_ : Nat) (w : TS) : TS :=
  if !atIs L B at_ (lv : Int) || w.2.1.contains at_ then (w.1, w.2.1, true)
  else (List.range 8).foldl (fun w i => tstep rec_ B (lv == 0) w ((atV L B at_).2.getD i 0) (from_ + i * 8 ^ lv)) (w.1, w.2.1 ++ [at_], w.2.2)
def tgo (L : List Int) (B : Nat) : Nat → Int → Nat → TS → TS
  | 0 => tbody L B 0 (fun _ _ w => w)
  | k + 1 => tbody L B (k + 1) (tgo L B k)
def trec (L : List Int) (B : Nat) : Nat → Int → Nat → TS → TS
  | 0 => fun _ _ w => w
  | k + 1 => tgo L B k
theorem tgo_eq (L : List Int) (B lv : Nat) (a : Int) (f : Nat) (w : TS) : tgo L B lv a f w = tbody L B lv (trec L B lv) a f w := by cases lv <;> rfl
/-- The map stays as long as it is. -/
theorem tgo_len (L : List Int) (B : Nat) : ∀ (lv : Nat) (a : Int) (f : Nat) (w : TS), (tgo L B lv a f w).1.length = w.1.length := by
  intro lv
  induction lv with
  | zero =>
    intro a f w
    rw [tgo_eq]
    unfold tbody
    split
    · rfl
    · generalize hz : (w.1, w.2.1 ++ [a], w.2.2) = z
      have : w.1 = z.1 := by rw [← hz]
      rw [this]
      clear hz this
      generalize List.range 8 = l
      induction l generalizing z with
      | nil => rfl
      | cons i l ih =>
        rw [List.foldl_cons, ih]
        unfold tstep trec
        split
        · rfl
        · split
          · rfl
          · split
            · exact List.length_set
            · split <;> rfl
  | succ k ihk =>
    intro a f w
    rw [tgo_eq]
    unfold tbody
    split
    · rfl
    · generalize hz : (w.1, w.2.1 ++ [a], w.2.2) = z
      have : w.1 = z.1 := by rw [← hz]
      rw [this]
      clear hz this
      generalize List.range 8 = l
      induction l generalizing z with
      | nil => rfl
      | cons i l ih =>
        rw [List.foldl_cons, ih]
        unfold tstep trec
        split
        · rfl
        · split
          · rfl
          · split
            · exact List.length_set
            · split
              · exact ihk _ _ _
              · rfl
/-- So many nodes at most. -/
def nN : Nat → Nat
  | 0 => 1
  | k + 1 => 1 + 8 * nN k
theorem fold_ns {f : TS → Nat → TS} {M : Nat} (hf : ∀ w i, (f w i).2.1.length ≤ w.2.1.length + M) : ∀ (l : List Nat) (w : TS), (l.foldl f w).2.1.length ≤ w.2.1.length + l.length * M
  | [], w => by simp
  | i :: l, w => by
    rw [List.foldl_cons]
    have h1 := fold_ns hf l (f w i)
    have h2 := hf w i
    rw [List.length_cons, Nat.succ_mul]
    omega
theorem tstep_ns {r : Int → Nat → TS → TS} {M : Nat} (hr : ∀ a f w, (r a f w).2.1.length ≤ w.2.1.length + M) (B : Nat) (leaf : Bool) (w : TS) (p : Int) (t : Nat) : (tstep r B leaf w p t).2.1.length ≤ w.2.1.length + M := by
  unfold tstep
  split
  · omega
  · split
    · simp
    · split
      · simp
      · split
        · exact hr _ _ _
        · omega
def rN : Nat → Nat
  | 0 => 0
  | k + 1 => nN k
theorem nN_eq (lv : Nat) : nN lv = 1 + 8 * rN lv := by cases lv <;> rfl
theorem trec_ns (L : List Int) (B : Nat) : ∀ (lv : Nat) (a : Int) (f : Nat) (w : TS), (trec L B lv a f w).2.1.length ≤ w.2.1.length + rN lv := by
  intro lv
  induction lv with
  | zero => intro a f w; exact Nat.le_refl _
  | succ k ih =>
    intro a f w
    show (tgo L B k a f w).2.1.length ≤ w.2.1.length + nN k
    rw [tgo_eq, nN_eq]
    unfold tbody
    split
    · simp
    · have := fold_ns (f := fun w i => tstep (trec L B k) B (k == 0) w ((atV L B a).2.getD i 0) (f + i * 8 ^ k)) (fun w i => tstep_ns ih B (k == 0) w _ _) (List.range 8) (w.1, w.2.1 ++ [a], w.2.2)
      simp only [List.length_append, List.length_range, List.length_cons, List.length_nil] at this
      omega
theorem trec_len (L : List Int) (B : Nat) (lv : Nat) (a : Int) (f : Nat) (w : TS) : (trec L B lv a f w).1.length = w.1.length := by
  cases lv with
  | zero => rfl
  | succ k => exact tgo_len L B k a f w
end Go.Proofs.Ytbinkbdfoalbcaa
end
section
set_option linter.unusedVariables false
set_option maxRecDepth 100000
open Go Go.Am Go.RowKit
namespace Go.Proofs.Ytbinkbdfoalbcaa
open Go.Proofs.Try
theorem sl_blk {h : Heap} {b o c c' : Nat} {L : List Int} {i : Nat} (rd : Rd h ⟨b, o, none⟩ (us L)) (hi : (i + 1) * 64 ≤ L.length) : Rd h ⟨b, o + i * 64, none⟩ (us (blkI L i)) := rdBlk rd hi
set_option maxHeartbeats 1000000 in
theorem treeAt_ok {h : Heap} {iv : Value} {L : List Int} {B : Nat} {at_ lv : Int} (sl : Sl h iv 1 L.length (us L)) (hb : Byt L) (hB : B * 64 ≤ L.length) (hm : L.length ≤ 4611686018427387904) :
    RunF prog 118 [iv, .int .i64 (B : Int), .int .i64 at_, .int .i64 lv] h fun v h' => v = .tuple #[.agg ⟨nc (atV L B at_).1 (atV L B at_).2⟩, .bool (atIs L B at_ lv)] ∧ Fr no h h' := by
  refine RunF.walk func118 rfl rfl ?_
  refine RunC.seq (RunC.region (RunO.part 1 (h1 := h.push ⟨nc 0 nZero, true⟩) rfl (RunO.all rfl ?_)))
  have ow : Ow (h.push ⟨nc 0 nZero, true⟩) h.next (nc 0 nZero) := Ow.push _ _
  have f1 : Fr (fun b => h.next ≤ b) h (h.push ⟨nc 0 nZero, true⟩) := Fr.push _ _ _
  have s1 := sl.fr0 (Fr.push no h ⟨nc 0 nZero, true⟩)
  generalize h.push ⟨nc 0 nZero, true⟩ = h1 at *
  have hp : h.next < h1.next := ow.1
  obtain ⟨A, c, rfl, hc, hA⟩ := s1.form
  have hin : atIn B at_ = !(decide (at_ < 2) || decide (at_ ≥ (B : Int))) := rfl
  have hbad : atIn B at_ = false → atV L B at_ = (0, nZero) ∧ atIs L B at_ lv = false := by
    intro e
    constructor
    · unfold atV; rw [e]; rfl
    · unfold atIs; rw [e]; rfl
  refine RunC.seq ?_
  refine RunC.seqE (upd (upd (upd (upd (upd (upd E0 0 (.slice A L.length c)) 1 (.int .i64 (B : Int))) 2 (.int .i64 at_)) 3 (.int .i64 lv)) 8 (.pointer (some ⟨h.next, 0, none⟩))) 18 (.bool (decide (at_ < 2) || decide (at_ ≥ (B : Int))))) ?_ ?_
  · refine RunC.region (RunO.part 3 rfl ?_)
    cases decide (at_ < 2) with
    | true => exact RunO.all rfl ⟨rfl, Le.cons rfl (Le.cons rfl (Le.cons rfl (Le.cons rfl (Le.cons rfl (Le.cons rfl (Le.nil _))))))⟩
    | false => exact RunO.all rfl ⟨rfl, Le.cons rfl (Le.cons rfl (Le.cons rfl (Le.cons rfl (Le.cons rfl (Le.cons rfl (Le.nil _))))))⟩
  generalize (decide (at_ < 2) || decide (at_ ≥ (B : Int))) = bd at hin ⊢
  cases bd with
  | true =>
    obtain ⟨e1, e2⟩ := hbad hin
    rw [e1, e2]
    refine RunC.cond rfl (fun _ => ?_) (fun g => by cases g)
    refine RunC.seq (RunC.region (RunO.part 1 rfl ?_))
    refine RunO.store rfl rfl (store_ow (s := 9) ow rfl rfl rfl (Nat.le_refl 9)) (RunO.all rfl ?_)
    exact RunC.ret ⟨_, eresults_cell rfl (nc_load rfl (Ow.put (nc 0 nZero) ow.1)) rfl, rfl, frNo (f1.same (Fr.put _ (.inl (Nat.le_refl _))))⟩
  | false =>
  have hin : atIn B at_ = true := hin
  obtain ⟨ha2, haB⟩ := atIn_iff.1 hin
  obtain ⟨a, rfl⟩ := Int.eq_ofNat_of_zero_le (show 0 ≤ at_ by omega)
  have haL : (a + 1) * 64 ≤ L.length := by
    have : a + 1 ≤ B := by omega
    exact Nat.le_trans (Nat.mul_le_mul_right 64 this) hB
  have hvv : atV L B a = nodV (blkI L a) := by unfold atV; rw [hin, Int.toNat_natCast]; rfl
  have his : atIs L B a lv = (nCode (blkI L a) == 0 && (nodV (blkI L a)).1 == lv) := by unfold atIs; rw [hin, hvv, Int.toNat_natCast]; rfl
  rw [hvv, his]
  obtain ⟨b, o, rfl, rd⟩ := hA (by omega)
  refine RunC.cond rfl (fun g => by cases g) (fun _ => RunC.skip ?_)
  refine RunC.seq (RunC.region (RunO.part 2 rfl ?_))
  refine RunO.callD (devOf_ok (o := o) haL hm hc) rfl rfl rfl ?_
  rintro _ _ ⟨⟨c', hc', rfl⟩, rfl⟩
  have hbl := blkI_len haL
  have hparse := nodParse_ok (h := h1) (A := some ⟨b, o + a * 64, none⟩) (c := c') (l := blkI L a) (fun _ => ⟨_, rfl, rdBlk rd haL⟩) (byt_blk hb a) (by rw [hbl]; exact hc')
  rw [hbl, nodV_cells] at hparse
  refine RunO.callD hparse rfl rfl rfl ?_
  rintro v h2 ⟨rfl, f2⟩
  have hlen := nodV_len (blkI L a)
  generalize nodV (blkI L a) = nv at *
  obtain ⟨nl, ps⟩ := nv
  simp only at hlen ⊢
  refine RunO.part 4 (h1 := h2.push ⟨nc 0 nZero, true⟩) rfl ?_
  have hcl : (cellsOf (.agg ⟨nc nl ps⟩)).length = 9 := by show (nc nl ps).length = 9; simp [nc, is_len, hlen]
  have hac : allCells (cellsOf (.agg ⟨nc nl ps⟩)) = true := by show allCells (.int .i64 nl :: is ps) = true; exact allCells_map (f := Value.int .i64) (fun _ => rfl) ps
  refine RunO.store rfl rfl (store_ow (s := 9) (Ow.push h2 (nc 0 nZero)) rfl hcl hac (Nat.le_refl 9)) (RunO.all rfl ?_)
  have e9 : (nc 0 nZero).take 0 ++ cellsOf (.agg ⟨nc nl ps⟩) ++ (nc 0 nZero).drop (0 + 9) = nc nl ps := by
    show [] ++ nc nl ps ++ [] = _; simp
  rw [e9]
  have on : Ow ((h2.push ⟨nc 0 nZero, true⟩).put h2.next (some ⟨nc nl ps, true⟩)) h2.next (nc nl ps) := Ow.put _ (Nat.lt_succ_self _)
  have f4 : Fr no h2 ((h2.push ⟨nc 0 nZero, true⟩).put h2.next (some ⟨nc nl ps, true⟩)) := (Fr.push _ _ _).trans (Fr.put (m := (· = h2.next)) _ (.inl rfl)) (fun j hj => .inr (by omega))
  have ow4 := (ow.fr f2 (fun g => g)).fr f4 (fun g => g)
  have f14 := (f1.quiet f2).quiet f4
  have hne : h2.next ≠ h.next := by have := f2.next; omega
  generalize (h2.push ⟨nc 0 nZero, true⟩).put h2.next (some ⟨nc nl ps, true⟩) = h4 at *
  generalize h2.next = q at *
  have hqn : q < h4.next := on.1
  refine RunC.seq (RunC.draw (l0 := min (min h4.low h4.next) h.next) (Nat.le_trans (Nat.min_le_left _ _) (Nat.min_le_left _ _)) rfl ?_)
  have hn : min (min h4.low h4.next) h.next ≤ h4.next := Nat.le_trans (Nat.min_le_left _ _) (Nat.min_le_right h4.low h4.next)
  have hst : astore prog (h4.lo h4.next) 115 ⟨h.next, 0, none⟩ (.agg ⟨nc nl ps⟩) = some ((h4.lo h4.next).put h.next (some ⟨nc nl ps, true⟩)) := by
    have := store_ow (P := prog) (t := 115) (h := h4.lo h4.next) (off := 0) (s := 9) ow4 rfl hcl hac (Nat.le_refl 9)
    rw [e9] at this
    exact this
  have o5 : Ow ((h4.lo h4.next).put h.next (some ⟨nc nl ps, true⟩)) h.next (nc nl ps) := Ow.put _ ow4.1
  have f5 : Fr (fun b => h.next ≤ b) h4 ((h4.lo h4.next).put h.next (some ⟨nc nl ps, true⟩)) := ⟨Nat.le_refl _, (Fr.put (h := h4) (m := fun b => h.next ≤ b) _ (.inl (Nat.le_refl _))).get, fun l x y z => by
    rw [lowput_eq]
    have := z h.next (Nat.le_refl _)
    show l ≤ min h4.next h.next
    omega⟩
  have hl5 : min (min h4.low h4.next) h.next ≤ ((h4.lo h4.next).put h.next (some ⟨nc nl ps, true⟩)).low := by
    rw [lowput_eq]
    show _ ≤ min h4.next h.next
    omega
  have hn5 : min (min h4.low h4.next) h.next ≤ ((h4.lo h4.next).put h.next (some ⟨nc nl ps, true⟩)).next := hn
  generalize (h4.lo h4.next).put h.next (some ⟨nc nl ps, true⟩) = h5 at *
  have fin : ∀ lw, min (min h4.low h4.next) h.next ≤ lw → Fr no h (h5.lo lw) := fun lw hlw => frNo ((f14.fg0.trans f5.fg0 (fun i e => .inl e)).close (fun l x y z => by
    have := f14.low l x y z
    have := f14.next
    omega))
  refine RunD.load (v := .agg ⟨nc nl ps⟩) hn rfl (nc_load hlen on) rfl ?_
  refine RunD.pure hn rfl rfl (fun _ => rfl) rfl ?_
  refine RunD.pure hn rfl rfl (fun _ => rfl) rfl ?_
  refine RunD.pure hn rfl rfl (fun _ => rfl) rfl ?_
  cases (nCode (blkI L a) == 0) with
  | false =>
    refine RunD.offG rfl rfl (RunD.offG rfl rfl (RunD.offG rfl rfl (RunD.offG rfl rfl ?_)))
    refine RunD.pure hn rfl rfl (fun _ => rfl) rfl ?_
    refine RunD.one (v := undef) (f := .wr [h.next]) (h1 := h5) rfl (by show (match astore prog (h4.lo h4.next) 115 ⟨h.next, 0, none⟩ (.agg ⟨nc nl ps⟩) with | some h' => some (undef, h') | none => none) = _; rw [hst]) (fun _ => rfl) hl5 rfl ?_
    refine RunD.pure hn5 rfl rfl (fun _ => rfl) rfl ?_
    refine RunD.nil ⟨rfl, fun lw hlw => ?_⟩
    exact RunC.ret ⟨_, eresults_cell rfl (nc_load (h := h5.lo lw) hlen o5) rfl, rfl, fin lw hlw⟩
  | true =>
    refine RunD.pureG hn rfl rfl (fun _ => rfl) rfl ?_
    refine RunD.loadG (v := .int .i64 nl) hn rfl rfl (on.ld rfl) rfl ?_
    refine RunD.pureG hn rfl rfl (fun _ => rfl) rfl ?_
    refine RunD.pureG hn rfl rfl (fun _ => rfl) rfl ?_
    refine RunD.pure hn rfl rfl (fun _ => rfl) rfl ?_
    refine RunD.one (v := undef) (f := .wr [h.next]) (h1 := h5) rfl (by show (match astore prog (h4.lo h4.next) 115 ⟨h.next, 0, none⟩ (.agg ⟨nc nl ps⟩) with | some h' => some (undef, h') | none => none) = _; rw [hst]) (fun _ => rfl) hl5 rfl ?_
    refine RunD.pure hn5 rfl rfl (fun _ => rfl) rfl ?_
    refine RunD.nil ⟨?_, fun lw hlw => ?_⟩
    · have hm : memN q [h.next] = false := by
        show cond (Nat.beq q h.next) true false = false
        rw [beqF hne]; rfl
      show cond (!memN q [h.next]) true false = true
      rw [hm]; rfl
    exact RunC.ret ⟨_, eresults_cell rfl (nc_load (h := h5.lo lw) hlen o5) rfl, rfl, fin lw hlw⟩
end Go.Proofs.Ytbinkbdfoalbcaa
end
section
set_option linter.unusedVariables false
set_option maxRecDepth 100000
open Go Go.Am Go.RowKit
namespace Go.Proofs.Ytbinkbdfoalbcaa
open Go.Proofs.Try
theorem is_part {l : List Int} {i : Nat} (h : i < l.length) : apart prog 3 (is l) (i * 1) = some (.int .i64 l[i]) := by
  show nth (is l) (i * 1) = _
  rw [Nat.mul_one]; exact is_nth h
theorem us_part {l : List Int} {i : Nat} (h : i < l.length) : apart prog 5 (us l) (i * 1) = some (.int .u8 l[i]) := by
  show nth (us l) (i * 1) = _
  rw [Nat.mul_one]; exact us_nth h
theorem is_app (a b : List Int) : is (a ++ b) = is a ++ is b := by unfold is; rw [List.map_append]
theorem contains_cut {l : List Int} {i : Nat} {x : Int} (h : i < l.length) (hn : (l.take i).contains x = false) : (l.take (i + 1)).contains x = (x == l[i]) := by
  rw [List.take_succ_eq_append_getElem h]
  simp only [List.contains_eq_mem, List.mem_append, List.mem_singleton]
  have hn : ¬ x ∈ l.take i := by simpa using hn
  by_cases c : x = l[i]
  · simp [c]
  · simp [c, hn]
theorem indexInt_ok {h : Heap} {v : Value} {l : List Int} {x : Int} (sl : Sl h v 1 l.length (is l)) (hm : l.length ≤ 4611686018427387904) :
    RunF prog 100 [v, .int .i64 x] h fun r h' => h = h' ∧ ∃ k : Int, r = .int .i64 k ∧ decide (k ≥ 0) = l.contains x := by
  refine RunF.walk func100 rfl rfl ?_
  obtain ⟨A, c, rfl, hc, _⟩ := sl.form
  refine RunC.seq (RunC.region (RunO.all rfl ?_))
  refine RunC.seq (RunC.seq (RunC.region (RunO.all rfl ?_)))
  refine RunC.block ?_
  let I : Nat → Env → Heap → Prop := fun k E h' => ∃ i : Nat, i + k = l.length ∧ (l.take i).contains x = false ∧ h = h' ∧ Le (upd (upd (upd (upd E0 0 (.slice A l.length c)) 1 (.int .i64 x)) 7 (.int .i64 l.length)) 8 (.int .i64 i)) E
  refine RunC.loop I ?_ (k := l.length) ?_
  · rintro k E h' ⟨i, hi, hp, rfl, hE⟩
    refine RunC.le hE ?_
    clear hE
    refine RunC.seq (RunC.region (RunO.all rfl ?_))
    refine RunC.seq (RunC.cond rfl (fun hlt => ?_) (fun hge => ?_))
    · have hlt := of_decide_eq_true hlt
      have h1 : i < l.length := by omega
      have hcut := contains_cut h1 hp
      refine RunC.skip ?_
      refine RunC.seq (RunC.block ?_)
      refine RunC.seq (RunC.region (RunO.all rfl ?_))
      refine RunC.seq (RunC.region (RunO.part 3 rfl ?_))
      refine RunO.at (s := 1) rfl rfl sl rfl rfl h1 (is_part h1) rfl rfl rfl ?_
      refine RunO.all rfl ?_
      refine RunC.cond rfl (fun ht => ?_) (fun hn => ?_)
      · refine RunC.seq (RunC.region (RunO.all rfl (RunC.ret ⟨_, rfl, rfl, _, rfl, ?_⟩)))
        have hmem : x ∈ l := by have e : x = l[i] := by simpa using ht
                                rw [e]; exact List.getElem_mem h1
        rw [decide_eq_true (Int.natCast_nonneg i)]; simp [hmem]
      · refine RunC.skip (RunC.region (RunO.all rfl ?_))
        exact ⟨k - 1, by omega, i + 1, by omega, by rw [hcut]; exact hn, rfl, Le.cons (inc64 (by omega)) (Le.cons rfl (Le.cons rfl (Le.cons rfl (Le.nil _))))⟩
    · have hge := of_decide_eq_false hge
      refine RunC.exit ?_
      have hi2 : i = l.length := by omega
      rw [hi2, List.take_length] at hp
      refine RunC.seq (RunC.region (RunO.all rfl (RunC.ret ⟨_, rfl, rfl, _, rfl, ?_⟩)))
      rw [hp]; rfl
  · exact ⟨0, by omega, rfl, rfl, Le.cons rfl (Le.cons rfl (Le.cons rfl (Le.cons rfl (Le.nil _))))⟩
theorem containsInt_ok {h : Heap} {v : Value} {l : List Int} {x : Int} (sl : Sl h v 1 l.length (is l)) (hm : l.length ≤ 4611686018427387904) :
    RunF prog 70 [v, .int .i64 x] h fun r h' => r = .bool (l.contains x) ∧ h = h' := by
  refine RunF.walk func70 rfl rfl ?_
  refine RunC.seq (RunC.region (RunO.all rfl ?_))
  refine RunC.seq (RunC.region (RunO.part 2 rfl ?_))
  refine RunO.callD (indexInt_ok sl hm) rfl rfl rfl ?_
  rintro _ _ ⟨rfl, k, rfl, hk⟩
  refine RunO.part 1 rfl ?_
  rw [hk]
  exact RunO.all rfl (RunC.ret ⟨_, rfl, rfl, rfl⟩)
theorem keepInts_ok {h : Heap} {v w : Value} {l m : List Int} (sl : Sl h v 1 l.length (is l)) (sm : Sl h w 1 m.length (is m)) (hm : l.length ≤ 4611686018427387904) :
    RunF prog 26 [v, w] h fun v h' => v = .bool (l == m) ∧ h = h' := by
  refine RunF.walk func26 rfl rfl ?_
  obtain ⟨A, c, rfl, hc, _⟩ := sl.form
  obtain ⟨B, d, rfl, hd, _⟩ := sm.form
  refine RunC.seq (RunC.region (RunO.all rfl ?_))
  refine RunC.seq (RunC.seq (RunC.region (RunO.all rfl ?_)))
  by_cases hl : l.length = m.length
  case neg =>
    have e : (l == m) = false := beq_eq_false_iff_ne.2 (fun g => hl (by rw [g]))
    rw [show ((l.length : Int) != (m.length : Int)) = true by simp; omega, e]
    refine RunC.cond rfl (fun _ => ?_) (fun g => by cases g)
    exact RunC.seq (RunC.region (RunO.all rfl (RunC.ret ⟨_, rfl, rfl, rfl⟩)))
  rw [show ((l.length : Int) != (m.length : Int)) = false by simp; omega]
  refine RunC.cond rfl (fun g => by cases g) (fun _ => RunC.skip ?_)
  refine RunC.seq (RunC.seq (RunC.region (RunO.all rfl ?_)))
  refine RunC.block ?_
  let I : Nat → Env → Heap → Prop := fun k E h' => ∃ i : Nat, i + k = l.length ∧ l.take i = m.take i ∧ h = h' ∧ Le (upd (upd (upd E0 0 (.slice A l.length c)) 1 (.slice B m.length d)) 5 (.int .i64 i)) E
  refine RunC.loop I ?_ (k := l.length) ?_
  · rintro k E h' ⟨i, hi, ht, rfl, hE⟩
    refine RunC.le hE ?_
    clear hE
    refine RunC.seq (RunC.seq (RunC.region (RunO.all rfl ?_)))
    refine RunC.cond rfl (fun hlt => ?_) (fun hge => ?_)
    · have hlt := of_decide_eq_true hlt
      have h1 : i < l.length := by omega
      have h2 : i < m.length := by omega
      refine RunC.skip ?_
      refine RunC.seq (RunC.block ?_)
      refine RunC.seq (RunC.draw0 rfl (RunO.part 2 rfl ?_))
      refine RunO.at (s := 1) rfl rfl sl rfl rfl h1 (is_part h1) rfl rfl rfl ?_
      refine RunO.part 2 rfl ?_
      refine RunO.at (s := 1) rfl rfl sm rfl rfl h2 (is_part h2) rfl rfl rfl ?_
      refine RunO.all rfl ?_
      refine RunC.cond rfl (fun hne => ?_) (fun heq => ?_)
      · have hne : l[i] ≠ m[i] := by simpa using hne
        have e : (l == m) = false := beq_eq_false_iff_ne.2 (fun g => hne (by subst g; rfl))
        rw [e]
        exact RunC.seq (RunC.region (RunO.all rfl (RunC.ret ⟨_, rfl, rfl, rfl⟩)))
      · have heq : l[i] = m[i] := by simpa using heq
        refine RunC.skip (RunC.region (RunO.all rfl ?_))
        exact ⟨k - 1, by omega, i + 1, by omega, beq_take h1 h2 ht heq, rfl, Le.cons (inc64 (by omega)) (Le.cons rfl (Le.cons rfl (Le.nil _)))⟩
    · have hge := of_decide_eq_false hge
      refine RunC.exit ?_
      have hi2 : i = l.length := by omega
      have e : l = m := by
        rw [hi2, List.take_length] at ht
        rw [ht, hl, List.take_length]
      rw [show (l == m) = true by rw [e]; exact beq_self_eq_true _]
      exact RunC.seq (RunC.region (RunO.all rfl (RunC.ret ⟨_, rfl, rfl, rfl⟩)))
  · exact ⟨0, by omega, rfl, rfl, Le.cons rfl (Le.cons rfl (Le.cons rfl (Le.nil _)))⟩
theorem twin_ok {h : Heap} {v : Value} {l : List Int} (sl : Sl h v 1 l.length (us l)) (hb : 2 * l.length ≤ 281474976710656) : RunF prog 14 [v] h fun r h' => Row h.next h' r 1 l.length (us l) ∧ Fr no h h' := by
  refine RunF.walk func14 rfl rfl ?_
  refine RunC.seq (RunC.region (RunO.all rfl ?_))
  refine RunC.seq (RunC.region (RunO.all rfl ?_))
  refine RunC.seq (RunC.region (RunO.part 2 rfl ?_))
  refine RunO.appendOs (s := 1) (k := 0) rfl rfl rfl rfl rfl rfl rfl rfl (Nat.le_refl 1) (Row.nil h.next h 1) (Nat.le_refl _) sl (allCells_map (fun _ => rfl) l) (by show 2 * (0 + l.length) * 1 ≤ _; omega) (by omega) ?_
  intro v' h' row f
  rw [Nat.zero_add, List.nil_append] at row
  exact RunO.all rfl (RunC.ret ⟨_, rfl, row, f.weak (fun i g => by obtain ⟨_, _, e⟩ := g; cases e)⟩)
end Go.Proofs.Ytbinkbdfoalbcaa
end
section
set_option linter.unusedVariables false
set_option maxRecDepth 100000
open Go Go.Am
namespace Go.Proofs.Ytbinkbdfoalbcaa
open Go.Proofs.Try
theorem indexI_ok {h : Heap} {v : Value} {n : Nat} {acs : List Value} (sl : Sl h v 1 n acs) {u : Nat → Value} (hu : ∀ j, j < n → apart prog 3 acs (j * 1) = some (u j)) {g : FuncId} {cap : List Value} {p : Nat → Bool}
    (hg : ∀ j, j < n → ∀ h1, Fr no h h1 → RunF prog g (u j :: cap) h1 (fun v h2 => v = .bool (p j) ∧ Fr no h1 h2)) (hm : n ≤ 4611686018427387904) :
    RunF prog 120 [v, .func (.func g) #[] ⟨cap⟩] h fun r h' => Fr no h h' ∧ ((∃ i : Nat, i < n ∧ r = .int .i64 (i : Int) ∧ p i = true ∧ ∀ j, j < i → p j = false) ∨ (r = .int .i64 (-1) ∧ ∀ j, j < n → p j = false)) := by
  refine RunF.walk func120 rfl rfl ?_
  obtain ⟨A, c, rfl, hc, _⟩ := sl.form
  refine RunC.seq (RunC.region (RunO.all rfl ?_))
  refine RunC.seq (RunC.seq (RunC.region (RunO.all rfl ?_)))
  refine RunC.block ?_
  let I : Nat → Env → Heap → Prop := fun k E h' => ∃ i : Nat, i + k = n ∧ (∀ j, j < i → p j = false) ∧ Fr no h h' ∧ Le (upd (upd (upd (upd E0 0 (.slice A n c)) 1 (.func (.func g) #[] ⟨cap⟩)) 7 (.int .i64 n)) 8 (.int .i64 i)) E
  refine RunC.loop I ?_ (k := n) ?_
  · rintro k E h' ⟨i, hi, hp, hf, hE⟩
    refine RunC.le hE ?_
    clear hE
    refine RunC.seq (RunC.region (RunO.all rfl ?_))
    refine RunC.seq (RunC.cond rfl (fun hlt => ?_) (fun hge => ?_))
    · have hlt := of_decide_eq_true hlt
      have h1 : i < n := by omega
      refine RunC.skip ?_
      refine RunC.seq (RunC.block ?_)
      refine RunC.seq (RunC.region (RunO.all rfl ?_))
      refine RunC.seq (RunC.region (RunO.part 3 rfl ?_))
      refine RunO.at (s := 1) rfl rfl (sl.fr0 hf) rfl rfl h1 (hu i h1) rfl rfl rfl ?_
      refine RunO.call rfl rfl ?_
      refine RunF.mono (hg i h1 _ hf) ?_
      rintro _ h2 ⟨rfl, f2⟩
      refine ⟨_, rfl, RunO.all rfl ?_⟩
      refine RunC.cond rfl (fun ht => ?_) (fun hn => ?_)
      · refine RunC.seq (RunC.region (RunO.all rfl (RunC.ret ⟨_, rfl, hf.quiet f2, .inl ⟨i, h1, rfl, ht, hp⟩⟩)))
      · refine RunC.skip (RunC.region (RunO.all rfl ?_))
        refine ⟨k - 1, by omega, i + 1, by omega, fun j hj => ?_, hf.quiet f2, Le.cons (inc64 (by omega)) (Le.cons rfl (Le.cons rfl (Le.cons rfl (Le.nil _))))⟩
        rcases Nat.lt_or_ge j i with q | q
        · exact hp j q
        · rw [show j = i by omega]; exact hn
    · have hge := of_decide_eq_false hge
      refine RunC.exit ?_
      exact RunC.seq (RunC.region (RunO.all rfl (RunC.ret ⟨_, rfl, hf, .inr ⟨rfl, fun j hj => hp j (by omega)⟩⟩)))
  · exact ⟨0, by omega, fun j hj => absurd hj (Nat.not_lt_zero _), Fr.refl _ _, Le.cons rfl (Le.cons rfl (Le.cons rfl (Le.cons rfl (Le.nil _))))⟩
theorem containsI_ok {h : Heap} {v : Value} {n : Nat} {acs : List Value} (sl : Sl h v 1 n acs) {u : Nat → Value} (hu : ∀ j, j < n → apart prog 3 acs (j * 1) = some (u j)) {g : FuncId} {cap : List Value} {p : Nat → Bool}
    (hg : ∀ j, j < n → ∀ h1, Fr no h h1 → RunF prog g (u j :: cap) h1 (fun v h2 => v = .bool (p j) ∧ Fr no h1 h2)) (hm : n ≤ 4611686018427387904) :
    RunF prog 104 [v, .func (.func g) #[] ⟨cap⟩] h fun r h' => r = .bool (anyI p n) ∧ Fr no h h' := by
  refine RunF.walk func104 rfl rfl ?_
  refine RunC.seq (RunC.region (RunO.all rfl ?_))
  refine RunC.seq (RunC.region (RunO.part 2 rfl ?_))
  refine RunO.callD (indexI_ok sl hu hg hm) rfl rfl rfl ?_
  rintro _ h2 ⟨f2, ⟨i, hi, rfl, hp, _⟩ | ⟨rfl, hp⟩⟩
  · refine RunO.all rfl (RunC.ret ⟨_, rfl, ?_, f2⟩)
    rw [anyI_true hi hp]
    exact congrArg Value.bool (decide_eq_true (Int.natCast_nonneg i))
  · refine RunO.all rfl (RunC.ret ⟨_, rfl, ?_, f2⟩)
    rw [anyI_false hp]; rfl
end Go.Proofs.Ytbinkbdfoalbcaa
end
section
set_option linter.unusedVariables false
set_option maxRecDepth 100000
open Go Go.Am Go.RowKit
namespace Go.Proofs.Ytbinkbdfoalbcaa
open Go.Proofs.Try
/-- The cells of a walk. -/
def wc (iv : Value) (B : Nat) (mv nv : Value) (bad : Bool) : List Value := [iv, .int .i64 (B : Int), mv, nv, .bool bad]
/-- A walk through a tree, in memory: its own block, the map's, the nodes' row. -/
structure TW (lo : Nat) (h : Heap) (iv : Value) (B wb mb : Nat) (nv : Value) (w : TS) : Prop where
  ow : Ow h wb (wc iv B (.slice (some ⟨mb, 0, none⟩) 512 (exc 512)) nv w.2.2)
  om : Ow h mb (is w.1)
  row : Row lo h nv 1 w.2.1.length (is w.2.1)
  len : w.1.length = 512
  ne : wb ≠ mb
  lw : wb < lo
  lm : mb < lo
  ln : lo ≤ h.next
/-- What a walk writes. -/
def TM (lo wb mb : Nat) : Nat → Prop := fun b => b = wb ∨ b = mb ∨ lo ≤ b
theorem TW.quiet {lo : Nat} {h h' : Heap} {iv : Value} {B wb mb : Nat} {nv : Value} {w : TS} (t : TW lo h iv B wb mb nv w) (f : Fr no h h') : TW lo h' iv B wb mb nv w :=
  ⟨t.ow.fr f (fun g => g), t.om.fr f (fun g => g), t.row.fr f (fun _ _ _ g => g), t.len, t.ne, t.lw, t.lm, Nat.le_trans t.ln f.next⟩
theorem TW.low {lo : Nat} {h : Heap} {iv : Value} {B wb mb : Nat} {nv : Value} {w : TS} {x : Nat} (t : TW lo h iv B wb mb nv w) : TW lo (h.lo x) iv B wb mb nv w :=
  ⟨t.ow, t.om, t.row, t.len, t.ne, t.lw, t.lm, t.ln⟩
/-- A flag is raised. -/
theorem TW.bad {lo : Nat} {h : Heap} {iv : Value} {B wb mb : Nat} {nv : Value} {m ns : List Int} {b : Bool} (t : TW lo h iv B wb mb nv (m, ns, b)) :
    astore prog h 4 ⟨wb, 4, none⟩ (.bool true) = some (h.put wb (some ⟨wc iv B (.slice (some ⟨mb, 0, none⟩) 512 (exc 512)) nv true, true⟩)) ∧
    TW lo (h.put wb (some ⟨wc iv B (.slice (some ⟨mb, 0, none⟩) 512 (exc 512)) nv true, true⟩)) iv B wb mb nv (m, ns, true) ∧ Fr (TM lo wb mb) h (h.put wb (some ⟨wc iv B (.slice (some ⟨mb, 0, none⟩) 512 (exc 512)) nv true, true⟩)) := by
  have f : Fr (· = wb) h (h.put wb (some ⟨wc iv B (.slice (some ⟨mb, 0, none⟩) 512 (exc 512)) nv true, true⟩)) := Fr.put _ (.inl rfl)
  refine ⟨store1_ow t.ow rfl rfl rfl (Nat.le_of_ble_eq_true rfl), ⟨Ow.put _ t.ow.1, t.om.fr f (fun e => t.ne e.symm), t.row.fr f (fun b h1 _ e => by have := t.lw; omega), t.len, t.ne, t.lw, t.lm, t.ln⟩, f.weak (fun i e => .inl (.inl e))⟩
theorem foldl_range_bad {f : TS → Nat → TS} (hf : ∀ w i, w.2.2 = true → f w i = w) : ∀ (l : List Nat) (w : TS), w.2.2 = true → l.foldl f w = w
  | [], w, _ => rfl
  | i :: l, w, h => by rw [List.foldl_cons, hf w i h]; exact foldl_range_bad hf l w h
theorem range8_split {f : TS → Nat → TS} {w : TS} {i : Nat} (hi : i ≤ 8) : (List.range 8).foldl f w = ((List.range (8 - i)).map (· + i)).foldl f ((List.range i).foldl f w) := by
  have : List.range 8 = List.range i ++ (List.range (8 - i)).map (· + i) := by
    rw [show 8 = i + (8 - i) by omega, List.range_add]
    congr 1
    · rw [show i + (8 - i) - i = 8 - i by omega]
      apply List.map_congr_left
      intro x _; omega
  rw [this, List.foldl_append]
theorem nc_ptrs {h : Heap} {b : Nat} {lv : Int} {ps : List Int} (hp : ps.length = 8) (ow : Ow h b (nc lv ps)) : aload prog h 113 ⟨b, 1, none⟩ = some (.agg ⟨is ps⟩) := by
  refine Ow.ld ow ?_
  show (match takeN 8 (dropN 1 (nc lv ps)) with | some l => some (Value.agg ⟨l⟩) | none => none) = _
  rw [takeN_eq, dropN_eq]
  show (match (if 8 ≤ (is ps).length then some ((is ps).take 8) else none) with | some l => some (Value.agg ⟨l⟩) | none => none) = _
  rw [is_len, hp, if_pos (Nat.le_refl 8)]
  show some (Value.agg ⟨(is ps).take 8⟩) = _
  rw [List.take_of_length_le (by rw [is_len, hp]; exact Nat.le_refl _)]
def GoesOk (L : List Int) (B lo wb mb : Nat) (iv : Value) (lv : Nat) : Prop := ∀ {h : Heap} {nv : Value} {w : TS} {at_ : Int} {from_ : Nat},
    Sl h iv 1 L.length (us L) → TW lo h iv B wb mb nv w → w.2.1.length + nN lv ≤ 100000 → from_ + 8 ^ (lv + 1) ≤ 512 → w.2.2 = false →
    RunF prog 103 [.pointer (some ⟨wb, 0, none⟩), .int .i64 at_, .int .i64 (lv : Int), .int .i64 (from_ : Int)] h fun v h' => v = .tuple #[] ∧ ∃ nv', TW lo h' iv B wb mb nv' (tgo L B lv at_ from_ w) ∧ Fr (TM lo wb mb) h h'
theorem sl_tm {h h' : Heap} {iv : Value} {n s : Nat} {cs : List Value} {lo wb mb : Nat} (sl : Sl h iv s n cs) (hn : ∀ b o c, iv = .slice (some ⟨b, o, none⟩) n c → ¬ TM lo wb mb b) (f : Fr (TM lo wb mb) h h') : Sl h' iv s n cs := by
  refine ⟨sl.1, sl.2.1, sl.2.2.imp (fun y => y) ?_⟩
  rintro ⟨b, o, c, h1, h2, h3⟩
  exact ⟨b, o, c, h1, h2, h3.fr f (hn b o c h1)⟩
set_option maxHeartbeats 8000000 in
theorem goes_body {L : List Int} {B lo wb mb : Nat} {iv : Value} (hb : Byt L) (hB : B * 64 ≤ L.length) (hB2 : B ≤ 4096) (hm : L.length ≤ 4611686018427387904) (hiv : ∀ b o c, iv = .slice (some ⟨b, o, none⟩) L.length c → ¬ TM lo wb mb b)
    {lv : Nat} (hlv : lv ≤ 2) (hrec : ∀ k, lv = k + 1 → GoesOk L B lo wb mb iv k) : GoesOk L B lo wb mb iv lv := by
  intro h nv w at_ from_ sl tw hns hfrom hnb
  obtain ⟨m, ns, bad⟩ := w
  simp only at hns hnb
  subst hnb
  have hlv8 : 8 ^ lv ≤ 64 := by
    have : 8 ^ lv ≤ 8 ^ 2 := Nat.pow_le_pow_right (by decide) hlv
    exact this
  have hp8 : 8 ^ (lv + 1) = 8 ^ lv * 8 := Nat.pow_succ ..
  refine RunF.walk func103 rfl rfl ?_
  have tw0 := tw
  obtain ⟨ow, om, row, hlen, hne, hlw, hlm, hln⟩ := tw
  have hnv : ∀ b, At nv b → b < h.next := fun b ha => (row.at ha).2
  refine RunC.seq (RunC.draw0 rfl ?_)
  refine RunO.part 3 rfl ?_
  refine RunO.load (v := iv) rfl (ow.ld rfl) rfl ?_
  refine RunO.part 3 rfl ?_
  refine RunO.load (v := .int .i64 (B : Int)) rfl (ow.ld rfl) rfl ?_
  refine RunO.part 2 rfl ?_
  refine RunO.callD (treeAt_ok sl hb hB hm) rfl rfl rfl ?_
  rintro _ h1 ⟨rfl, f1⟩
  have hpl := atV_len L B at_
  have hgo : tgo L B lv at_ from_ (m, ns, false) = if (!atIs L B at_ (lv : Int) || ns.contains at_) = true then (m, ns, true) else (List.range 8).foldl (fun w i => tstep (trec L B lv) B (lv == 0) w ((atV L B at_).2.getD i 0) (from_ + i * 8 ^ lv)) (m, ns ++ [at_], false) := tgo_eq ..
  rw [hgo]
  clear hgo
  generalize atV L B at_ = nd at *
  obtain ⟨nl, ps⟩ := nd
  simp only at hpl
  refine RunO.part 4 (h1 := h1.push ⟨nc 0 nZero, true⟩) rfl ?_
  have hcl : (cellsOf (.agg ⟨nc nl ps⟩)).length = 9 := by show (nc nl ps).length = 9; simp [nc, is_len, hpl]
  have hac : allCells (cellsOf (.agg ⟨nc nl ps⟩)) = true := by show allCells (.int .i64 nl :: is ps) = true; exact allCells_map (f := Value.int .i64) (fun _ => rfl) ps
  refine RunO.store rfl rfl (store_ow (s := 9) (Ow.push h1 (nc 0 nZero)) rfl hcl hac (Nat.le_refl 9)) (RunO.all rfl ?_)
  have e9 : (nc 0 nZero).take 0 ++ cellsOf (.agg ⟨nc nl ps⟩) ++ (nc 0 nZero).drop (0 + 9) = nc nl ps := by
    show [] ++ nc nl ps ++ [] = _; simp
  rw [e9]
  have on : Ow ((h1.push ⟨nc 0 nZero, true⟩).put h1.next (some ⟨nc nl ps, true⟩)) h1.next (nc nl ps) := Ow.put _ (Nat.lt_succ_self _)
  have f2 : Fr no h1 ((h1.push ⟨nc 0 nZero, true⟩).put h1.next (some ⟨nc nl ps, true⟩)) := (Fr.push _ _ _).trans (Fr.put (m := (· = h1.next)) _ (.inl rfl)) (fun j hj => .inr (by omega))
  have f12 := f1.same f2
  have hq : lo ≤ h1.next := Nat.le_trans hln f1.next
  have hnrow : ∀ b, At nv b → b ≠ h1.next := fun b ha => by have := hnv b ha; have := f1.next; omega
  generalize (h1.push ⟨nc 0 nZero, true⟩).put h1.next (some ⟨nc nl ps, true⟩) = h2 at *
  generalize h1.next = q at *
  have tw2 := tw0.quiet f12
  clear ow om row hln tw0
  obtain ⟨ow, om, row, _, _, _, _, hln⟩ := tw2
  have row : Row lo h2 nv 1 ns.length (is ns) := row
  have tw2 : TW lo h2 iv B wb mb nv (m, ns, false) := ⟨ow, om, row, hlen, hne, hlw, hlm, hln⟩
  have F2 : Fr (TM lo wb mb) h h2 := f12.weak (fun _ g => g.elim)
  -- is it none, or met?
  refine RunC.seq (RunC.seqE (upd (upd (upd (upd (upd (upd E0 0 (.pointer (some ⟨wb, 0, none⟩))) 1 (.int .i64 at_)) 2 (.int .i64 (lv : Int))) 3 (.int .i64 (from_ : Int))) 8 (.pointer (some ⟨q, 0, none⟩))) 36 (.bool (!atIs L B at_ (lv : Int) || ns.contains at_))) ?_ ?_)
  · refine RunC.region (RunO.part 3 rfl ?_)
    cases atIs L B at_ (lv : Int) with
    | false => exact RunO.all rfl ⟨rfl, Le.cons rfl (Le.cons rfl (Le.cons rfl (Le.cons rfl (Le.cons rfl (Le.cons rfl (Le.nil _))))))⟩
    | true =>
      refine RunO.part 3 rfl ?_
      refine RunO.loadG (v := nv) rfl rfl (ow.ld rfl) rfl ?_
      refine RunO.part 1 rfl ?_
      refine RunO.callDG rfl (containsInt_ok (row.sl (by show ns.length ≤ _; omega)) (by show ns.length ≤ _; omega)) rfl rfl rfl ?_
      rintro _ _ ⟨rfl, rfl⟩
      exact RunO.all rfl ⟨rfl, Le.cons rfl (Le.cons rfl (Le.cons rfl (Le.cons rfl (Le.cons rfl (Le.cons rfl (Le.nil _))))))⟩
  generalize (!atIs L B at_ (lv : Int) || ns.contains at_) = bd
  cases bd with
  | true =>
    rw [if_pos rfl]
    refine RunC.cond rfl (fun _ => ?_) (fun g => by cases g)
    obtain ⟨e1, e2, e3⟩ := tw2.bad
    refine RunC.seq (RunC.region (RunO.part 3 rfl ?_))
    refine RunO.store rfl rfl e1 (RunO.all rfl ?_)
    exact RunC.ret ⟨_, rfl, rfl, nv, e2, F2.same e3⟩
  | false =>
  rw [if_neg Bool.false_ne_true]
  refine RunC.cond rfl (fun g => by cases g) (fun _ => RunC.skip ?_)
  -- one node more
  refine RunC.seq (RunC.region (RunO.part 4 rfl ?_))
  refine RunO.load (v := nv) rfl (ow.ld rfl) rfl ?_
  refine RunO.part 2 (h1 := h2.push ⟨is [at_], true⟩) rfl ?_
  have fp : Fr no h2 (h2.push ⟨is [at_], true⟩) := Fr.push _ _ _
  have ob := Ow.push h2 (is [at_])
  have rowp := row.fr fp (fun _ _ _ g => g)
  have owp := ow.fr fp (fun g => g)
  have omp := om.fr fp (fun g => g)
  have onp := on.fr fp (fun g => g)
  have hlnp : lo ≤ (h2.push ⟨is [at_], true⟩).next := Nat.le_trans hln fp.next
  generalize h2.push ⟨is [at_], true⟩ = h3 at *
  refine RunO.append (s := 1) (m := 1) rfl rfl rfl rfl rfl rfl rfl rfl (Nat.le_refl 1) rowp hlnp ob.all rfl (Nat.le_refl 1) rfl (by show 2 * (ns.length + 1) * 8 ≤ _; omega) (by omega) ?_
  intro nv2 h4 row4 f4
  have hat : ∀ b, At nv b → lo ≤ b ∧ b < h3.next := fun b ha => rowp.at ha
  have ow4 := owp.fr f4 (fun g => by have := (hat _ g).1; omega)
  have om4 := omp.fr f4 (fun g => by have := (hat _ g).1; omega)
  have on4 := onp.fr f4 (fun g => hnrow _ g rfl)
  refine RunO.part 2 rfl ?_
  refine RunO.store rfl rfl (store1_ow ow4 rfl row4.cell.1 row4.cell.2 (Nat.le_of_ble_eq_true rfl)) (RunO.all rfl ?_)
  change RunC _ _ _ _ (h4.put wb (some ⟨wc iv B (.slice (some ⟨mb, 0, none⟩) 512 (exc 512)) nv2 false, true⟩)) _ _ _
  rw [← is_app] at row4
  have fw : Fr (· = wb) h4 (h4.put wb (some ⟨wc iv B (.slice (some ⟨mb, 0, none⟩) 512 (exc 512)) nv2 false, true⟩)) := Fr.put _ (.inl rfl)
  have tw5 : TW lo (h4.put wb (some ⟨wc iv B (.slice (some ⟨mb, 0, none⟩) 512 (exc 512)) nv2 false, true⟩)) iv B wb mb nv2 (m, ns ++ [at_], false) :=
    ⟨Ow.put _ ow4.1, om4.fr fw (fun e => hne e.symm), by
      have := row4.fr fw (fun b h1 _ e => by omega)
      rw [List.length_append]; exact this, hlen, hne, hlw, hlm, Nat.le_trans hlnp f4.next⟩
  have on5 := on4.fr fw (show ¬ q = wb by omega)
  have F5 : Fr (TM lo wb mb) h (h4.put wb (some ⟨wc iv B (.slice (some ⟨mb, 0, none⟩) 512 (exc 512)) nv2 false, true⟩)) :=
    ((F2.quiet fp).trans f4 (fun b g => .inl (.inr (.inr (hat b g).1)))).trans fw (fun b e => .inl (.inl e))
  have hn5 : (ns ++ [at_]).length + 8 * rN lv ≤ 100000 := by
    rw [nN_eq] at hns
    rw [List.length_append, List.length_singleton]; omega
  generalize h4.put wb (some ⟨wc iv B (.slice (some ⟨mb, 0, none⟩) 512 (exc 512)) nv2 false, true⟩) = h5 at *
  generalize ns ++ [at_] = ns5 at *
  clear tw2 ow om row on ow4 om4 on4 owp omp onp rowp row4 f4 fp ob fw f12 f2 F2
  refine RunC.seq (RunC.region (RunO.part 1 rfl ?_))
  refine RunO.load (v := .agg ⟨is ps⟩) rfl (nc_ptrs hpl on5) rfl (RunO.all rfl ?_)
  refine RunC.block ?_
  obtain ⟨st, hst⟩ : ∃ st : TS → Nat → TS, st = fun w i => tstep (trec L B lv) B (lv == 0) w (ps.getD i 0) (from_ + i * 8 ^ lv) := ⟨_, rfl⟩
  rw [← hst]
  have hstb : ∀ w i, w.2.2 = true → st w i = w := fun w i hw => by rw [hst]; show tstep _ _ _ _ _ _ = _; unfold tstep; rw [if_pos hw]
  let I : Nat → Env → Heap → Prop := fun d E h' => ∃ (i : Nat) (nv' : Value), i + d = 8 ∧ TW lo h' iv B wb mb nv' ((List.range i).foldl st (m, ns5, false)) ∧ ((List.range i).foldl st (m, ns5, false)).2.1.length ≤ ns5.length + i * rN lv ∧ Fr (TM lo wb mb) h h' ∧ Le (upd (upd (upd (upd (upd E0 0 (.pointer (some ⟨wb, 0, none⟩))) 2 (.int .i64 (lv : Int))) 3 (.int .i64 (from_ : Int))) 51 (.agg ⟨is ps⟩)) 52 (.int .i64 (i : Int))) E
  refine RunC.loop I ?_ (k := 8) ?_
  · rintro d E h6 ⟨i, nv6, hi, tw6, hl6, F6, hE⟩
    refine RunC.le hE ?_
    clear hE
    have hsucc : (List.range (i + 1)).foldl st (m, ns5, false) = st ((List.range i).foldl st (m, ns5, false)) i := by rw [List.range_succ, List.foldl_append]; rfl
    have hall : ((List.range i).foldl st (m, ns5, false)).2.2 = true → (List.range 8).foldl st (m, ns5, false) = (List.range i).foldl st (m, ns5, false) := fun hw => by
      rw [range8_split (i := i) (by omega), foldl_range_bad hstb _ _ hw]
    obtain ⟨w', hw'⟩ : ∃ w', w' = (List.range (i + 1)).foldl st (m, ns5, false) := ⟨_, rfl⟩
    rw [← hw'] at hsucc
    have hfin : i = 8 → (List.range 8).foldl st (m, ns5, false) = (List.range i).foldl st (m, ns5, false) := fun e => by rw [e]
    generalize (List.range i).foldl st (m, ns5, false) = w at *
    obtain ⟨m6, n6, b6⟩ := w
    simp only at hl6 hall
    refine RunC.seq (RunC.region (RunO.all rfl ?_))
    refine RunC.seq (RunC.cond rfl (fun hlt => ?_) (fun hge => ?_))
    · have hlt := of_decide_eq_true hlt
      have hi8 : i < 8 := by omega
      have hps : i < ps.length := by omega
      have hpi : ps.getD i 0 = ps[i] := by rw [List.getD_eq_getElem?_getD, List.getElem?_eq_getElem hps]; rfl
      have hnth := is_nth hps
      have hsti : w' = tstep (trec L B lv) B (lv == 0) (m6, n6, b6) ps[i] (from_ + i * 8 ^ lv) := by rw [hsucc, hst, ← hpi]
      generalize ps[i] = p at *
      have hto : from_ + i * 8 ^ lv + 8 ^ lv ≤ 512 := by
        have : i * 8 ^ lv + 8 ^ lv ≤ 8 ^ lv * 8 := by rw [← Nat.succ_mul, Nat.mul_comm]; exact Nat.mul_le_mul_left _ hi8
        omega
      have hpos : 1 ≤ 8 ^ lv := Nat.pow_pos (by decide)
      obtain ⟨to_, hto_⟩ : ∃ t, t = from_ + i * 8 ^ lv := ⟨_, rfl⟩
      rw [← hto_] at hsti hto
      refine RunC.skip ?_
      refine RunC.seq (RunC.block ?_)
      refine RunC.seq (RunC.region (RunO.part 1 rfl ?_))
      refine RunO.one rfl (v := .int .i64 p) (h1 := h6) ?_ rfl (RunO.all rfl ?_)
      · show pureR h6 (cond (Nat.ble (Nat.succ i) 8) (nth (is ps) (Nat.mul i 1)) none) = _
        rw [Nat.ble_eq_true_of_le (by omega), cond_true, show Nat.mul i 1 = i from Nat.mul_one i, hnth]; rfl
      refine RunC.seq (RunC.region (RunO.part 3 rfl ?_))
      refine RunO.callD (nodUnder_ok (k := lv) (by omega)) rfl rfl rfl ?_
      rintro _ _ ⟨rfl, rfl⟩
      refine RunO.part 1 rfl ?_
      have h1c : (i : Int) * ((8 ^ lv : Nat) : Int) = ((i * 8 ^ lv : Nat) : Int) := by rw [Int.natCast_mul]
      rw [h1c, fw64 (x := ((i * 8 ^ lv : Nat) : Int)) (by omega) (by omega)]
      refine RunO.part 1 rfl ?_
      rw [fw64 (x := (from_ : Int) + ((i * 8 ^ lv : Nat) : Int)) (by omega) (by omega), show (from_ : Int) + ((i * 8 ^ lv : Nat) : Int) = (to_ : Int) by omega]
      refine RunO.all rfl ?_
      refine RunC.block ?_
      have ow6 := tw6.ow
      refine RunC.seq (RunC.region (RunO.part 3 rfl ?_))
      refine RunO.load (v := .bool b6) rfl (ow6.ld rfl) rfl (RunO.all rfl ?_)
      cases b6 with
      | true =>
        refine RunC.cond rfl (fun _ => ?_) (fun g => by cases g)
        rw [hall rfl]
        exact RunC.ret ⟨_, rfl, rfl, nv6, tw6, F6⟩
      | false =>
      refine RunC.cond rfl (fun g => by cases g) (fun _ => ?_)
      have hrl : n6.length + rN lv ≤ 100000 := by
        have : i * rN lv + rN lv ≤ 8 * rN lv := by rw [← Nat.succ_mul]; exact Nat.mul_le_mul_right _ hi8
        omega
      have hnsl : w'.2.1.length ≤ ns5.length + (i + 1) * rN lv := by
        have := tstep_ns (trec_ns L B lv) B (lv == 0) (m6, n6, false) p to_
        rw [← hsti] at this
        rw [Nat.succ_mul]
        simp only at this
        omega
      -- what the loop goes on with
      have next : ∀ (h7 : Heap) (nv7 : Value), TW lo h7 iv B wb mb nv7 w' → Fr (TM lo wb mb) h h7 → ∀ E, Le (upd (upd (upd (upd (upd E0 0 (.pointer (some ⟨wb, 0, none⟩))) 2 (.int .i64 (lv : Int))) 3 (.int .i64 (from_ : Int))) 51 (.agg ⟨is ps⟩)) 52 (.int .i64 ((i + 1 : Nat) : Int))) E → ∃ d', d' < d ∧ I d' E h7 := by
        intro h7 nv7 t7 F7 E hE
        exact ⟨d - 1, by omega, i + 1, nv7, by omega, hw' ▸ t7, hw' ▸ hnsl, F7, hE⟩
      refine RunC.seq (RunC.region (RunO.part 4 rfl ?_))
      refine RunO.load (v := .int .i64 (B : Int)) rfl (ow6.ld rfl) rfl (RunO.all rfl ?_)
      cases hpB : decide (p ≥ (B : Int)) with
      | true =>
        have hw1 : w' = (m6, n6, true) := by rw [hsti]; unfold tstep; rw [if_neg Bool.false_ne_true, if_pos hpB]
        obtain ⟨e1, e2, e3⟩ := tw6.bad
        rw [← hw1] at e2
        refine RunC.cond rfl (fun _ => ?_) (fun g => by cases g)
        refine RunC.region (RunO.part 3 rfl ?_)
        refine RunO.store rfl rfl e1 (RunO.all rfl ?_)
        exact RunC.region (RunO.all rfl (next _ nv6 e2 (F6.same e3) _ (Le.cons (inc64 (by omega)) (Le.cons rfl (Le.cons rfl (Le.cons rfl (Le.cons rfl (Le.nil _))))))))
      | false =>
      refine RunC.cond rfl (fun g => by cases g) (fun _ => ?_)
      by_cases hp0 : p = 0
      · have hw1 : w' = (m6, n6, false) := by
          rw [hsti]; unfold tstep
          rw [if_neg Bool.false_ne_true, if_neg (by rw [hpB]; exact Bool.false_ne_true), hp0]; rfl
        rw [← hw1] at tw6
        subst hp0
        refine RunC.seq (RunC.region (RunO.all rfl (RunC.cond rfl (fun g => by cases g) (fun _ => ?_))))
        refine RunC.seq (RunC.region (RunO.all rfl (RunC.cond rfl (fun g => by cases g) (fun _ => RunC.skip ?_))))
        exact RunC.region (RunO.all rfl (next _ nv6 tw6 F6 _ (Le.cons (inc64 (by omega)) (Le.cons rfl (Le.cons rfl (Le.cons rfl (Le.cons rfl (Le.nil _))))))))
      have hpn : (p != 0) = true := bne_iff_ne.2 hp0
      refine RunC.seq (RunC.region (RunO.part 3 rfl ?_))
      rw [hpn]
      refine RunO.all rfl ?_
      cases hl0 : lv == 0 with
      | true =>
        have hl00 : lv = 0 := beq_iff_eq.1 hl0
        rw [show ((lv : Int) == 0) = true from beq_iff_eq.2 (by omega)]
        have hw1 : w' = (m6.set to_ p, n6, false) := by
          rw [hsti]; unfold tstep
          rw [if_neg Bool.false_ne_true, if_neg (by rw [hpB]; exact Bool.false_ne_true), hl0, hpn]; rfl
        refine RunC.cond rfl (fun _ => ?_) (fun g => by cases g)
        have hmt : to_ < m6.length := by have := tw6.len; simp only at this; omega
        refine RunC.region (RunO.part 3 rfl ?_)
        refine RunO.load (v := .slice (some ⟨mb, 0, none⟩) 512 (exc 512)) rfl (ow6.ld rfl) rfl ?_
        refine RunO.part 2 rfl ?_
        refine RunO.index (s := 1) rfl rfl rfl rfl (by omega) rfl ?_
        refine RunO.store rfl rfl (store1_ow tw6.om rfl rfl rfl (by rw [is_len]; simpa using hmt)) (RunO.all rfl ?_)
        have ei : (is m6).set (0 + to_ * 1) (.int .i64 p) = is (m6.set to_ p) := by rw [Nat.zero_add, Nat.mul_one]; unfold is; rw [List.map_set]
        have fm : Fr (· = mb) h6 (h6.put mb (some ⟨(is m6).set (0 + to_ * 1) (.int .i64 p), true⟩)) := Fr.put _ (.inl rfl)
        have t7 : TW lo (h6.put mb (some ⟨(is m6).set (0 + to_ * 1) (.int .i64 p), true⟩)) iv B wb mb nv6 (m6.set to_ p, n6, false) :=
          ⟨tw6.ow.fr fm hne, by show Ow _ mb (is (m6.set to_ p)); rw [← ei]; exact Ow.put _ tw6.om.1, tw6.row.fr fm (fun b h1 _ e => by omega), by show (m6.set to_ p).length = 512; rw [List.length_set]; exact tw6.len, hne, hlw, hlm, tw6.ln⟩
        rw [← hw1] at t7
        exact RunC.region (RunO.all rfl (next _ nv6 t7 (F6.trans fm (fun b e => .inl (.inr (.inl e)))) _ (Le.cons (inc64 (by omega)) (Le.cons rfl (Le.cons rfl (Le.cons rfl (Le.cons rfl (Le.nil _))))))))
      | false =>
        obtain ⟨k, rfl⟩ : ∃ k, lv = k + 1 := by
          cases lv with
          | zero => cases hl0
          | succ k => exact ⟨k, rfl⟩
        rw [show (((k + 1 : Nat) : Int) == 0) = false from beq_eq_false_iff_ne.2 (by omega)]
        have hw1 : w' = tgo L B k p to_ (m6, n6, false) := by
          rw [hsti]; unfold tstep
          rw [if_neg Bool.false_ne_true, if_neg (by rw [hpB]; exact Bool.false_ne_true), hl0, hpn]; rfl
        refine RunC.cond rfl (fun g => by cases g) (fun _ => ?_)
        refine RunC.seq (RunC.region (RunO.part 1 rfl ?_))
        refine RunO.part 1 rfl ?_
        rw [hpn]
        refine RunO.all rfl ?_
        refine RunC.cond rfl (fun _ => ?_) (fun g => by cases g)
        refine RunC.region (RunO.part 3 rfl ?_)
        refine RunO.part 1 rfl ?_
        rw [fw64 (x := ((k + 1 : Nat) : Int) - 1) (by omega) (by omega), show ((k + 1 : Nat) : Int) - 1 = (k : Int) by omega]
        refine RunO.part 1 rfl ?_
        refine RunO.callD (hrec k rfl (at_ := p) (from_ := to_) (sl_tm sl hiv F6) tw6 hrl hto rfl) rfl rfl rfl ?_
        rintro _ h7 ⟨rfl, nv7, t7, F7⟩
        rw [← hw1] at t7
        refine RunO.all rfl ?_
        exact RunC.region (RunO.all rfl (next _ nv7 t7 (F6.same F7) _ (Le.cons (inc64 (by omega)) (Le.cons rfl (Le.cons rfl (Le.cons rfl (Le.cons rfl (Le.nil _))))))))
    · have hge := of_decide_eq_false hge
      refine RunC.exit ?_
      rw [hfin (by omega)]
      exact ⟨_, rfl, rfl, nv6, tw6, F6⟩
  · exact ⟨0, nv2, by omega, tw5, by simp, F5, Le.cons rfl (Le.cons rfl (Le.cons rfl (Le.cons rfl (Le.cons rfl (Le.nil _)))))⟩
theorem treeGoes_ok {L : List Int} {B lo wb mb : Nat} {iv : Value} (hb : Byt L) (hB : B * 64 ≤ L.length) (hB2 : B ≤ 4096) (hm : L.length ≤ 4611686018427387904) (hiv : ∀ b o c, iv = .slice (some ⟨b, o, none⟩) L.length c → ¬ TM lo wb mb b) : ∀ (lv : Nat), lv ≤ 2 → GoesOk L B lo wb mb iv lv := by
  intro lv
  induction lv with
  | zero => intro h; exact goes_body hb hB hB2 hm hiv h (fun k e => by cases e)
  | succ k ih =>
    intro h
    exact goes_body hb hB hB2 hm hiv h (fun j e => by cases e; exact ih (by omega))
end Go.Proofs.Ytbinkbdfoalbcaa
end
section
set_option linter.unusedVariables false
set_option maxRecDepth 100000
open Go Go.Am Go.RowKit
namespace Go.Proofs.Ytbinkbdfoalbcaa
open Go.Proofs.Try
def treeW (L : List Int) (root : Int) : TS := tgo L (L.length / 64) 2 root 0 (List.replicate 512 0, [], false)
/-- Is there a tree at a root of a right device? -/
def treeOk (L : List Int) (root : Int) : Bool := root == 0 || (!(treeW L root).2.2 && !((treeW L root).1.any fun b => (treeW L root).2.1.contains b))
def treeM (L : List Int) (root : Int) : List Int := if root == 0 then List.replicate 512 0 else (treeW L root).1
def treeN (L : List Int) (root : Int) : List Int := if root == 0 then [] else (treeW L root).2.1
theorem treeW_len (L : List Int) (root : Int) : (treeW L root).1.length = 512 := by unfold treeW; rw [tgo_len]; exact List.length_replicate
theorem treeM_len (L : List Int) (root : Int) : (treeM L root).length = 512 := by
  unfold treeM; split
  · exact List.length_replicate
  · exact treeW_len L root
theorem treeW_ns (L : List Int) (root : Int) : (treeW L root).2.1.length ≤ 73 := by
  have := trec_ns L (L.length / 64) 3 root 0 (List.replicate 512 0, [], false)
  have e : rN 3 = 73 := rfl
  rw [e] at this
  have h2 : trec L (L.length / 64) 3 root 0 (List.replicate 512 0, [], false) = treeW L root := rfl
  rw [h2] at this
  simpa using this
theorem treeN_len (L : List Int) (root : Int) : (treeN L root).length ≤ 73 := by
  unfold treeN; split
  · exact Nat.zero_le _
  · exact treeW_ns L root
/-- A walk that is told. -/
def WK (lo : Nat) (h : Heap) (wb : Nat) (iv : Value) (B : Nat) (m ns : List Int) : Prop :=
  ∃ mb nv, lo ≤ wb ∧ lo ≤ mb ∧ Ow h wb (wc iv B (.slice (some ⟨mb, 0, none⟩) 512 (exc 512)) nv false) ∧ Ow h mb (is m) ∧ Row lo h nv 1 ns.length (is ns) ∧ m.length = 512 ∧ ns.length ≤ 73
theorem WK.fr0 {lo : Nat} {h h' : Heap} {wb : Nat} {iv : Value} {B : Nat} {m ns : List Int} (w : WK lo h wb iv B m ns) (f : Fr no h h') : WK lo h' wb iv B m ns := by
  obtain ⟨mb, nv, h1, h2, h3, h4, h5, h6⟩ := w
  exact ⟨mb, nv, h1, h2, h3.fr f (fun g => g), h4.fr f (fun g => g), h5.fr f (fun _ _ _ g => g), h6⟩
theorem Row.lo {lo lo' : Nat} {h : Heap} {v : Value} {s n : Nat} {cells : List Value} (r : Row lo h v s n cells) (hl : lo' ≤ lo) : Row lo' h v s n cells := by
  refine ⟨r.1, r.2.imp (fun x => x) ?_⟩
  rintro ⟨b, h1, h2⟩
  exact ⟨b, by omega, h2⟩
theorem WK.lo {lo lo' : Nat} {h : Heap} {wb : Nat} {iv : Value} {B : Nat} {m ns : List Int} (w : WK lo h wb iv B m ns) (hl : lo' ≤ lo) : WK lo' h wb iv B m ns := by
  obtain ⟨mb, nv, h1, h2, h3, h4, h5, h6⟩ := w
  exact ⟨mb, nv, by omega, by omega, h3, h4, Row.lo h5 hl, h6⟩
theorem treeGoC_ok {h : Heap} {pc wb : Nat} {iv mv nv : Value} {B : Nat} {bad : Bool} {ns : List Int} {lo : Nat} {b : Int} (op : Rd h ⟨pc, 0, none⟩ [.pointer (some ⟨wb, 0, none⟩)]) (ow : Ow h wb (wc iv B mv nv bad)) (row : Row lo h nv 1 ns.length (is ns)) (hl : ns.length ≤ 100000) :
    RunF prog 105 [.int .i64 b, .pointer (some ⟨pc, 0, none⟩)] h fun v h' => v = .bool (ns.contains b) ∧ Fr no h h' := by
  refine RunF.walk func105 rfl rfl ?_
  refine RunC.seq (RunC.region (RunO.all rfl ?_))
  refine RunC.seq (RunC.region ?_)
  refine RunO.load (v := .pointer (some ⟨wb, 0, none⟩)) rfl (op.ld rfl) rfl ?_
  refine RunO.part 2 rfl ?_
  refine RunO.load (v := nv) rfl (ow.ld rfl) rfl ?_
  refine RunO.part 1 rfl ?_
  refine RunO.callD (containsInt_ok (row.sl (by omega)) (by omega)) rfl rfl rfl ?_
  rintro _ _ ⟨rfl, rfl⟩
  exact RunO.all rfl (RunC.ret ⟨_, rfl, rfl, Fr.refl _ _⟩)
set_option maxHeartbeats 4000000 in
theorem treeGo_ok {h : Heap} {iv : Value} {L : List Int} {root : Int} (sl : Sl h iv 1 L.length (us L)) (hb : Byt L) (hd : devOk L.length = true) :
    RunF prog 72 [iv, .int .i64 root] h fun v h' => Fr no h h' ∧ ((treeOk L root = true ∧ ∃ wb, v = .tuple #[.pointer (some ⟨wb, 0, none⟩), .bool true] ∧ WK h.next h' wb iv (L.length / 64) (treeM L root) (treeN L root)) ∨ (treeOk L root = false ∧ v = .tuple #[.pointer none, .bool false])) := by
  have hdl : L.length % 64 = 0 ∧ 4 ≤ L.length / 64 ∧ L.length / 64 ≤ 4096 := by
    unfold devOk at hd
    simpa using hd
  have hm : L.length ≤ 4611686018427387904 := by omega
  refine RunF.walk func72 rfl rfl ?_
  have sl0 := sl
  obtain ⟨A, c, rfl, hc, hA⟩ := sl.form
  have hAlt : ∀ b o c', Value.slice A L.length c = .slice (some ⟨b, o, none⟩) L.length c' → b < h.next := fun b o c' e => by
    obtain ⟨b', o', rfl, rd⟩ := hA (by omega)
    cases e; exact rd.2.1
  refine RunC.seq (RunC.region (RunO.all rfl ?_))
  refine RunC.seq (RunC.region (RunO.part 1 rfl ?_))
  refine RunO.callD (devCheck_ok hm) rfl rfl rfl ?_
  rintro _ _ ⟨rfl, rfl⟩
  rw [hd, if_pos rfl, if_pos rfl]
  refine RunO.all rfl ?_
  obtain ⟨B, hBe⟩ : ∃ B, B = L.length / 64 := ⟨_, rfl⟩
  rw [← hBe] at hdl ⊢
  refine RunC.seq (RunC.region (RunO.part 2 rfl ?_))
  refine RunO.make (m := 512) rfl rfl rfl rfl rfl rfl (by decide) (by decide) rfl ?_
  rw [show reps (cellsOf (Value.int .i64 0)) 512 = is (List.replicate 512 0) by rw [show cellsOf (Value.int .i64 0) = [.int .i64 0] from rfl, reps_one]; unfold is; rw [List.map_replicate]]
  have om := Ow.push h (is (List.replicate 512 0))
  have f1 : Fr no h (h.push ⟨is (List.replicate 512 0), true⟩) := Fr.push _ _ _
  have hn1 : (h.push ⟨is (List.replicate 512 0), true⟩).next = h.next + 1 := rfl
  generalize h.push ⟨is (List.replicate 512 0), true⟩ = h1 at *
  generalize hmb : h.next = mb at om hn1 ⊢
  refine RunO.part 2 (h1 := h1.push ⟨wc (.slice A L.length c) B (.slice (some ⟨mb, 0, none⟩) 512 (exc 512)) (.slice none 0 0) false, true⟩) rfl ?_
  obtain ⟨iv, hiv⟩ : ∃ iv, iv = Value.slice A L.length c := ⟨_, rfl⟩
  rw [← hiv] at sl0 hAlt ⊢
  have ow := Ow.push h1 (wc iv B (.slice (some ⟨mb, 0, none⟩) 512 (exc 512)) (.slice none 0 0) false)
  have f2 : Fr no h1 (h1.push ⟨wc iv B (.slice (some ⟨mb, 0, none⟩) 512 (exc 512)) (.slice none 0 0) false, true⟩) := Fr.push _ _ _
  have hn2 : (h1.push ⟨wc iv B (.slice (some ⟨mb, 0, none⟩) 512 (exc 512)) (.slice none 0 0) false, true⟩).next = h1.next + 1 := rfl
  generalize h1.push ⟨wc iv B (.slice (some ⟨mb, 0, none⟩) 512 (exc 512)) (.slice none 0 0) false, true⟩ = h2 at *
  refine RunO.part 1 (h1 := h2.push ⟨[.pointer none], true⟩) rfl ?_
  refine RunO.store rfl rfl (store1_ow (Ow.push h2 [.pointer none]) rfl rfl rfl (Nat.le_refl 1)) (RunO.nil ?_)
  change RunC _ _ _ _ ((h2.push ⟨[.pointer none], true⟩).put h2.next (some ⟨[.pointer (some ⟨h1.next, 0, none⟩)], true⟩)) _ _ _
  have op : Ow ((h2.push ⟨[.pointer none], true⟩).put h2.next (some ⟨[.pointer (some ⟨h1.next, 0, none⟩)], true⟩)) h2.next [.pointer (some ⟨h1.next, 0, none⟩)] := Ow.put _ (Nat.lt_succ_self _)
  have f3 : Fr no h2 ((h2.push ⟨[.pointer none], true⟩).put h2.next (some ⟨[.pointer (some ⟨h1.next, 0, none⟩)], true⟩)) := (Fr.push _ _ _).trans (Fr.put (m := (· = h2.next)) _ (.inl rfl)) (fun j hj => .inr (by omega))
  have hn3 : ((h2.push ⟨[.pointer none], true⟩).put h2.next (some ⟨[.pointer (some ⟨h1.next, 0, none⟩)], true⟩)).next = h2.next + 1 := rfl
  replace om := (om.fr f2 (fun g => g)).fr f3 (fun g => g)
  replace ow := ow.fr f3 (fun g => g)
  have f13 := (f1.same f2).same f3
  generalize (h2.push ⟨[.pointer none], true⟩).put h2.next (some ⟨[.pointer (some ⟨h1.next, 0, none⟩)], true⟩) = h3 at *
  generalize h2.next = pc at *
  generalize h1.next = wb at *
  have hmB : B * 64 ≤ L.length := by omega
  have tm : ∀ b o c', iv = .slice (some ⟨b, o, none⟩) L.length c' → ¬ TM h3.next wb mb b := fun b o c' e => by
    have := hAlt b o c' e
    rintro (e | e | e) <;> omega
  have tw : TW h3.next h3 iv B wb mb (.slice none 0 0) (List.replicate 512 0, [], false) := ⟨ow, om, Row.nil _ _ _, List.length_replicate, by omega, by omega, by omega, Nat.le_refl _⟩
  have sl3 := sl0.fr0 f13
  refine RunC.seq (RunC.seq (RunC.region (RunO.all rfl ?_)))
  by_cases hr : root = 0
  · have h1 : treeOk L root = true := by unfold treeOk; rw [hr]; rfl
    have h2 : treeM L root = List.replicate 512 0 := by unfold treeM; rw [hr]; rfl
    have h3' : treeN L root = [] := by unfold treeN; rw [hr]; rfl
    rw [h1, h2, h3']
    subst hr
    refine RunC.cond rfl (fun _ => ?_) (fun g => by cases g)
    refine RunC.seq (RunC.region ?_)
    refine RunO.load (v := .pointer (some ⟨wb, 0, none⟩)) rfl (op.ld rfl) rfl (RunO.all rfl ?_)
    exact RunC.ret ⟨_, rfl, f13, .inl ⟨rfl, wb, rfl, mb, _, by omega, by omega, ow, om, Row.nil _ _ _, List.length_replicate, Nat.zero_le _⟩⟩
  rw [show (root == 0) = false from beq_eq_false_iff_ne.2 hr]
  refine RunC.cond rfl (fun g => by cases g) (fun _ => RunC.skip ?_)
  have hTok : treeOk L root = (!(treeW L root).2.2 && !((treeW L root).1.any fun b => (treeW L root).2.1.contains b)) := by unfold treeOk; rw [show (root == 0) = false from beq_eq_false_iff_ne.2 hr]; rfl
  have hTm : treeM L root = (treeW L root).1 := by unfold treeM; rw [show (root == 0) = false from beq_eq_false_iff_ne.2 hr]; rfl
  have hTn : treeN L root = (treeW L root).2.1 := by unfold treeN; rw [show (root == 0) = false from beq_eq_false_iff_ne.2 hr]; rfl
  rw [hTok, hTm, hTn]
  refine RunC.seq (RunC.region ?_)
  refine RunO.load (v := .pointer (some ⟨wb, 0, none⟩)) rfl (op.ld rfl) rfl ?_
  refine RunO.part 1 rfl ?_
  refine RunO.callD (treeGoes_ok hb hmB (by omega) hm tm 2 (by decide) (at_ := root) (from_ := 0) sl3 tw (by decide) (by decide) rfl) rfl rfl rfl ?_
  rintro _ h4 ⟨rfl, nv, t4, F4⟩
  have htw : tgo L B 2 root 0 (List.replicate 512 0, [], false) = treeW L root := by rw [hBe]; rfl
  rw [htw] at t4
  have hwl := treeW_len L root
  have hns := treeW_ns L root
  generalize treeW L root = w at *
  obtain ⟨m, ns, bad⟩ := w
  simp only at hwl hns
  obtain ⟨ow4, om4, row4, _, _, _, _, _⟩ := t4
  simp only at ow4 om4 row4
  have op4 := op.fr F4 (by rintro (e | e | e) <;> omega)
  have F04 : Fr no h h4 := (f13.trans F4 (fun i g => .inr (by rcases g with e | e | e <;> omega)))
  refine RunO.all rfl ?_
  have row0 : Row mb h4 nv 1 ns.length (is ns) := Row.lo row4 (by omega)
  refine RunC.seq (RunC.seq (RunC.region ?_))
  refine RunO.load (v := .pointer (some ⟨wb, 0, none⟩)) rfl (op4.ld rfl) rfl ?_
  refine RunO.part 2 rfl ?_
  refine RunO.load (v := .bool bad) rfl (ow4.ld rfl) rfl ?_
  refine RunO.part 1 rfl ?_
  cases bad with
  | true =>
    refine RunO.all rfl ?_
    refine RunC.cond rfl (fun _ => ?_) (fun g => by cases g)
    exact RunC.seq (RunC.region (RunO.all rfl (RunC.ret ⟨_, rfl, F04, .inr ⟨rfl, rfl⟩⟩)))
  | false =>
    refine RunO.loadG (v := .pointer (some ⟨wb, 0, none⟩)) rfl rfl (op4.ld rfl) rfl ?_
    refine RunO.part 2 rfl ?_
    refine RunO.loadG (v := .slice (some ⟨mb, 0, none⟩) 512 (exc 512)) rfl rfl (ow4.ld rfl) rfl ?_
    refine RunO.part 1 rfl ?_
    have slm : Sl h4 (.slice (some ⟨mb, 0, none⟩) 512 (exc 512)) 1 512 (is m) := om4.all.sl (by rw [is_len, hwl]) (by decide) (Cp.exc (Nat.le_refl _))
    refine RunO.callDG rfl (containsI_ok slm (u := fun j => .int .i64 (m.getD j 0)) (fun j hj => ?_) (p := fun j => ns.contains (m.getD j 0)) (fun j hj h5 f5 => ?_) (by decide)) rfl rfl rfl ?_
    · have hj2 : j < m.length := by omega
      rw [is_part hj2, List.getD_eq_getElem?_getD, List.getElem?_eq_getElem hj2]; rfl
    · exact treeGoC_ok (pc := pc) (op4.all.fr f5 (fun g => g)) (ow4.fr f5 (fun g => g)) (row4.fr f5 (fun _ _ _ g => g)) (by omega)
    rintro _ h5 ⟨rfl, f5⟩
    rw [← hwl, anyI_list (q := fun b => ns.contains b) (fun j x hx => by rw [List.getD_eq_getElem?_getD, hx]; rfl)]
    have ow5 := ow4.fr f5 (fun g => g)
    have om5 := om4.fr f5 (fun g => g)
    have op5 := op4.fr f5 (fun g => g)
    have row5 := row0.fr f5 (fun _ _ _ g => g)
    have F05 := F04.same f5
    refine RunO.all rfl ?_
    cases hc : m.any fun b => ns.contains b with
    | true =>
      refine RunC.cond rfl (fun _ => ?_) (fun g => by cases g)
      exact RunC.seq (RunC.region (RunO.all rfl (RunC.ret ⟨_, rfl, F05, .inr ⟨rfl, rfl⟩⟩)))
    | false =>
      refine RunC.cond rfl (fun g => by cases g) (fun _ => RunC.skip ?_)
      refine RunC.seq (RunC.region ?_)
      refine RunO.load (v := .pointer (some ⟨wb, 0, none⟩)) rfl (op5.ld rfl) rfl (RunO.all rfl ?_)
      exact RunC.ret ⟨_, rfl, F05, .inl ⟨rfl, wb, rfl, mb, nv, by omega, by omega, ow5, om5, row5, hwl, hns⟩⟩
end Go.Proofs.Ytbinkbdfoalbcaa
end
section
set_option linter.unusedVariables false
set_option maxRecDepth 100000
open Go Go.Am Go.RowKit
namespace Go.Proofs.Ytbinkbdfoalbcaa
open Go.Proofs.Try
/-- Why there is no tree. -/
def treeE (L : List Int) (root : Int) : Int := if devOk L.length then (if treeOk L root then 0 else 6) else 2
theorem treeChecked_ok {h : Heap} {iv : Value} {L : List Int} {root : Int} (sl : Sl h iv 1 L.length (us L)) (hb : Byt L) (hm : L.length ≤ 4611686018427387904) :
    RunF prog 69 [iv, .int .i64 root] h fun v h' => Fr no h h' ∧ ((treeE L root = 0 ∧ ∃ wb, v = .tuple #[.pointer (some ⟨wb, 0, none⟩), .int .i64 0] ∧ WK h.next h' wb iv (L.length / 64) (treeM L root) (treeN L root)) ∨ (treeE L root ≠ 0 ∧ v = .tuple #[.pointer none, .int .i64 (treeE L root)])) := by
  refine RunF.walk func69 rfl rfl ?_
  have sl0 := sl
  obtain ⟨A, c, rfl, hc, hA⟩ := sl.form
  refine RunC.seq (RunC.region (RunO.all rfl ?_))
  refine RunC.seq (RunC.region (RunO.part 1 rfl ?_))
  refine RunO.callD (devCheck_ok hm) rfl rfl rfl ?_
  rintro _ _ ⟨rfl, rfl⟩
  refine RunO.all rfl ?_
  have hE : treeE L root = if devOk L.length then (if treeOk L root then 0 else 6) else 2 := rfl
  rw [hE]
  cases hd : devOk L.length with
  | false =>
    refine RunC.seq (RunC.seq (RunC.region (RunO.all rfl (RunC.cond rfl (fun _ => ?_) (fun g => by cases g)))))
    exact RunC.seq (RunC.region (RunO.all rfl (RunC.ret ⟨_, rfl, Fr.refl _ _, .inr ⟨by rw [if_neg Bool.false_ne_true]; decide, rfl⟩⟩)))
  | true =>
    refine RunC.seq (RunC.seq (RunC.region (RunO.all rfl (RunC.cond rfl (fun g => by cases g) (fun _ => RunC.skip ?_)))))
    refine RunC.seq (RunC.region (RunO.part 2 rfl ?_))
    refine RunO.callD (treeGo_ok (root := root) sl0 hb hd) rfl rfl rfl ?_
    rintro v h1 ⟨f1, ⟨hok, wb, rfl, wk⟩ | ⟨hok, rfl⟩⟩
    · rw [hok]
      refine RunO.all rfl ?_
      refine RunC.seq (RunC.seq (RunC.region (RunO.all rfl (RunC.cond rfl (fun g => by cases g) (fun _ => RunC.skip ?_)))))
      exact RunC.seq (RunC.region (RunO.all rfl (RunC.ret ⟨_, rfl, f1, .inl ⟨rfl, wb, rfl, wk⟩⟩)))
    · rw [hok]
      refine RunO.all rfl ?_
      refine RunC.seq (RunC.seq (RunC.region (RunO.all rfl (RunC.cond rfl (fun _ => ?_) (fun g => by cases g)))))
      exact RunC.seq (RunC.region (RunO.all rfl (RunC.ret ⟨_, rfl, f1, .inr ⟨by decide, rfl⟩⟩)))
theorem treeMap_ok {h : Heap} {iv : Value} {L : List Int} {root : Int} (sl : Sl h iv 1 L.length (us L)) (hb : Byt L) (hm : L.length ≤ 4611686018427387904) :
    RunF prog 42 [iv, .int .i64 root] h fun v h' => Fr no h h' ∧ ((treeE L root = 0 ∧ ∃ mb, h.next ≤ mb ∧ v = .tuple #[.slice (some ⟨mb, 0, none⟩) 512 (exc 512), .int .i64 0] ∧ Ow h' mb (is (treeM L root))) ∨ (treeE L root ≠ 0 ∧ v = .tuple #[.slice none 0 0, .int .i64 (treeE L root)])) := by
  refine RunF.walk func42 rfl rfl ?_
  refine RunC.seq (RunC.region (RunO.all rfl ?_))
  refine RunC.seq (RunC.region (RunO.part 2 rfl ?_))
  refine RunO.callD (treeChecked_ok (root := root) sl hb hm) rfl rfl rfl ?_
  rintro v h1 ⟨f1, ⟨he, wb, rfl, mb, nv, h2, h3, ow, om, row, hl, hn⟩ | ⟨he, rfl⟩⟩
  · refine RunO.all rfl ?_
    refine RunC.seq (RunC.seq (RunC.region (RunO.all rfl (RunC.cond rfl (fun g => by cases g) (fun _ => RunC.skip ?_)))))
    refine RunC.seq (RunC.region (RunO.part 3 rfl ?_))
    refine RunO.load (v := .slice (some ⟨mb, 0, none⟩) 512 (exc 512)) rfl (ow.ld rfl) rfl (RunO.all rfl ?_)
    exact RunC.ret ⟨_, rfl, f1, .inl ⟨he, mb, h3, rfl, om⟩⟩
  · refine RunO.all rfl ?_
    refine RunC.seq (RunC.seq (RunC.region (RunO.all rfl ?_)))
    rw [show (treeE L root != 0) = true from bne_iff_ne.2 he]
    refine RunC.cond rfl (fun _ => ?_) (fun g => by cases g)
    exact RunC.seq (RunC.region (RunO.all rfl (RunC.ret ⟨_, rfl, f1, .inr ⟨he, rfl⟩⟩)))
theorem treeNodes_ok {h : Heap} {iv : Value} {L : List Int} {root : Int} (sl : Sl h iv 1 L.length (us L)) (hb : Byt L) (hm : L.length ≤ 4611686018427387904) :
    RunF prog 41 [iv, .int .i64 root] h fun v h' => Fr no h h' ∧ ((treeE L root = 0 ∧ ∃ nv, v = .tuple #[nv, .int .i64 0] ∧ Row h.next h' nv 1 (treeN L root).length (is (treeN L root))) ∨ (treeE L root ≠ 0 ∧ v = .tuple #[.slice none 0 0, .int .i64 (treeE L root)])) := by
  refine RunF.walk func41 rfl rfl ?_
  refine RunC.seq (RunC.region (RunO.all rfl ?_))
  refine RunC.seq (RunC.region (RunO.part 2 rfl ?_))
  refine RunO.callD (treeChecked_ok (root := root) sl hb hm) rfl rfl rfl ?_
  rintro v h1 ⟨f1, ⟨he, wb, rfl, mb, nv, h2, h3, ow, om, row, hl, hn⟩ | ⟨he, rfl⟩⟩
  · refine RunO.all rfl ?_
    refine RunC.seq (RunC.seq (RunC.region (RunO.all rfl (RunC.cond rfl (fun g => by cases g) (fun _ => RunC.skip ?_)))))
    refine RunC.seq (RunC.region (RunO.part 3 rfl ?_))
    refine RunO.load (v := nv) rfl (ow.ld rfl) rfl (RunO.all rfl ?_)
    exact RunC.ret ⟨_, rfl, f1, .inl ⟨he, nv, rfl, row⟩⟩
  · refine RunO.all rfl ?_
    refine RunC.seq (RunC.seq (RunC.region (RunO.all rfl ?_)))
    rw [show (treeE L root != 0) = true from bne_iff_ne.2 he]
    refine RunC.cond rfl (fun _ => ?_) (fun g => by cases g)
    exact RunC.seq (RunC.region (RunO.all rfl (RunC.ret ⟨_, rfl, f1, .inr ⟨he, rfl⟩⟩)))
def secOk (s : Int) : Bool := !(decide (s < 0) || decide (s ≥ 512))
/-- Why a sector has no block. -/
def sectorE (L : List Int) (root s : Int) : Int := if treeE L root = 0 then (if secOk s then 0 else 3) else treeE L root
def sectorV (L : List Int) (root s : Int) : Int := if treeE L root = 0 then (if secOk s then (treeM L root).getD s.toNat 0 else 0) else 0
def offMap (B b : Int) : Bool := b != 0 && (decide (b < 2) || decide (b ≥ B))
/-- Why a map is none. -/
def mapE (m : List Int) (B : Int) : Int := if m.length = 512 then (if m.any (offMap B) then 1 else 0) else 2
end Go.Proofs.Ytbinkbdfoalbcaa
end
section
set_option linter.unusedVariables false
set_option maxRecDepth 100000
open Go Go.Am Go.RowKit
namespace Go.Proofs.Ytbinkbdfoalbcaa
open Go.Proofs.Try
theorem blk_get (l : List Int) (i j : Nat) : (blkI l i)[j]? = if j < 64 then l[i * 64 + j]? else none := by
  unfold blkI
  rw [List.getElem?_take, List.getElem?_drop]
theorem setBlk_get {o d : List Int} {i k : Nat} (hi : (i + 1) * 64 ≤ o.length) (hd : d.length = 64) : (setBlk o i d)[k]? = if i * 64 ≤ k ∧ k < i * 64 + 64 then d[k - i * 64]? else o[k]? := by
  unfold setBlk
  have h1 : (o.take (i * 64)).length = i * 64 := by rw [List.length_take]; omega
  by_cases c1 : k < i * 64
  · rw [if_neg (by omega), List.append_assoc, List.getElem?_append_left (by omega), List.getElem?_take, if_pos c1]
  · by_cases c2 : k < i * 64 + 64
    · rw [if_pos (by omega), List.append_assoc, List.getElem?_append_right (by omega), h1, List.getElem?_append_left (by omega)]
    · rw [if_neg (by omega), List.append_assoc, List.getElem?_append_right (by omega), h1, List.getElem?_append_right (by omega), hd, List.getElem?_drop]
      congr 1; omega
theorem blk_set_same {o d : List Int} {i : Nat} (hi : (i + 1) * 64 ≤ o.length) (hd : d.length = 64) : blkI (setBlk o i d) i = d := by
  apply List.ext_getElem?
  intro j
  rw [blk_get, setBlk_get hi hd]
  by_cases c : j < 64
  · rw [if_pos c, if_pos (by omega)]; congr 1; omega
  · rw [if_neg c, List.getElem?_eq_none (by omega)]
theorem blk_set_ne {o d : List Int} {i j : Nat} (hi : (i + 1) * 64 ≤ o.length) (hd : d.length = 64) (hne : j ≠ i) : blkI (setBlk o i d) j = blkI o j := by
  apply List.ext_getElem?
  intro k
  rw [blk_get, blk_get]
  by_cases c : k < 64
  · rw [if_pos c, if_pos c, setBlk_get hi hd, if_neg]
    rcases Nat.lt_or_gt_of_ne hne with g | g <;> omega
  · rw [if_neg c, if_neg c]
theorem setBlk_byt {o d : List Int} {i : Nat} (ho : Byt o) (hd : Byt d) : Byt (setBlk o i d) := by
  intro x hx
  unfold setBlk at hx
  rcases List.mem_append.1 hx with hx | hx
  · rcases List.mem_append.1 hx with hx | hx
    · exact ho x (List.mem_of_mem_take hx)
    · exact hd x hx
  · exact ho x (List.mem_of_mem_drop hx)
theorem byt_zeros (n : Nat) : Byt (List.replicate n 0) := fun x hx => by rw [List.eq_of_mem_replicate hx]; omega
/-- A node of one pointer. -/
def oneP (k : Nat) (p : Int) : List Int := nZero.set k p
theorem oneP_len (k : Nat) (p : Int) : (oneP k p).length = 8 := by unfold oneP; rw [List.length_set]; rfl
theorem oneP_get {k : Nat} (hk : k < 8) (p : Int) (i : Nat) : (oneP k p).getD i 0 = if i = k then p else 0 := by
  unfold oneP
  rw [List.getD_eq_getElem?_getD, List.getElem?_set]
  have hz : ∀ i : Nat, nZero[i]?.getD 0 = 0 := by
    intro i
    match i with
    | 0 | 1 | 2 | 3 | 4 | 5 | 6 | 7 => rfl
    | i + 8 => rw [List.getElem?_eq_none (by show 8 ≤ _; omega)]; rfl
  by_cases c : k = i
  · subst c
    rw [if_pos rfl, if_pos (by show k < 8; exact hk), if_pos rfl]; rfl
  · rw [if_neg c, if_neg (fun e => c e.symm)]; exact hz i
theorem nodOk_one {lv k : Nat} {p : Int} (hl : lv ≤ 2) (hk : k < 8) (hp : 2 ≤ p) (hp2 : p < 4096) : nodOk (lv : Int) (oneP k p) = true := by
  have h1 : ptrB p = true := by unfold ptrB; rw [decide_eq_true hp2, show decide (p ≥ 2) = true from decide_eq_true hp]; simp
  have h0 : ptrB 0 = true := rfl
  have hne : (p != 0) = true := bne_iff_ne.2 (by omega)
  unfold nodOk anyP oneP nZero
  rw [decide_eq_false (show ¬ (lv : Int) < 0 by omega), show decide ((lv : Int) > 2) = false from decide_eq_false (by omega)]
  obtain rfl | rfl | rfl | rfl | rfl | rfl | rfl | rfl : k = 0 ∨ k = 1 ∨ k = 2 ∨ k = 3 ∨ k = 4 ∨ k = 5 ∨ k = 6 ∨ k = 7 := by omega
  all_goals simp [h0, h1, hne]
/-- A device with a tree of one sector, so many nodes of it written: its bytes, what the next one leads to. -/
def chainI (B at_ sec : Nat) (data : Int) : Nat → List Int × Int
  | 0 => (List.replicate (B * 64) 0, data)
  | i + 1 => (setBlk (chainI B at_ sec data i).1 (at_ + i) (nodBlock i (oneP (sec / 8 ^ i % 8) (chainI B at_ sec data i).2)), ((at_ + i : Nat) : Int))
theorem chainI_len {B at_ sec : Nat} {data : Int} : ∀ i, at_ + i ≤ B → (chainI B at_ sec data i).1.length = B * 64
  | 0, _ => by show (List.replicate _ _).length = _; simp
  | i + 1, h => by
    show (setBlk _ _ _).length = _
    have hl := chainI_len (B := B) (at_ := at_) (sec := sec) (data := data) i (by omega)
    rw [setBlk_len (by rw [hl]; exact Nat.mul_le_mul_right 64 (by omega)) (nodBlock_len (oneP_len _ _)), hl]
theorem chainI_byt {B at_ sec : Nat} {data : Int} : ∀ i, Byt (chainI B at_ sec data i).1
  | 0 => byt_zeros _
  | i + 1 => setBlk_byt (chainI_byt i) (nodBlock_byt (oneP_len _ _))
def chain (B at_ sec : Nat) (data : Int) : List Int := (chainI B at_ sec data 3).1
theorem chain_len {B at_ sec : Nat} {data : Int} (h : at_ + 3 ≤ B) : (chain B at_ sec data).length = B * 64 := chainI_len 3 h
theorem chain_byt (B at_ sec : Nat) (data : Int) : Byt (chain B at_ sec data) := chainI_byt 3
/-- Each of the three nodes stands on its block. -/
theorem chain_blk {B at_ sec : Nat} {data : Int} (h : at_ + 3 ≤ B) (i : Nat) (hi : i < 3) : blkI (chain B at_ sec data) (at_ + i) = nodBlock i (oneP (sec / 8 ^ i % 8) (if i = 0 then data else ((at_ + i - 1 : Nat) : Int))) := by
  have hb : ∀ j, j < 3 → (at_ + j + 1) * 64 ≤ (chainI B at_ sec data j).1.length := fun j hj => by rw [chainI_len j (by omega)]; exact Nat.mul_le_mul_right 64 (by omega)
  have hn : ∀ (j : Nat) (p : Int), (nodBlock (j : Int) (oneP (sec / 8 ^ j % 8) p)).length = 64 := fun j p => nodBlock_len (oneP_len _ _)
  have keep : ∀ j, j < 3 → i < j → blkI (chainI B at_ sec data (j + 1)).1 (at_ + i) = blkI (chainI B at_ sec data j).1 (at_ + i) := fun j hj hij => by
    show blkI (setBlk _ _ _) _ = _
    exact blk_set_ne (hb j hj) (hn _ _) (by omega)
  have here : blkI (chainI B at_ sec data (i + 1)).1 (at_ + i) = nodBlock i (oneP (sec / 8 ^ i % 8) (chainI B at_ sec data i).2) := blk_set_same (hb i hi) (hn _ _)
  have hp : (chainI B at_ sec data i).2 = if i = 0 then data else ((at_ + i - 1 : Nat) : Int) := by
    cases i with
    | zero => rfl
    | succ i => rw [if_neg (by omega)]; show ((at_ + i : Nat) : Int) = _; congr 1
  rw [hp] at here
  rw [← here]
  unfold chain
  obtain rfl | rfl | rfl : i = 0 ∨ i = 1 ∨ i = 2 := by omega
  · rw [keep 2 (by omega) (by omega), keep 1 (by omega) (by omega)]
  · rw [keep 2 (by omega) (by omega)]
  · rfl
/-- All other blocks are zeros. -/
theorem chain_other {B at_ sec : Nat} {data : Int} (h : at_ + 3 ≤ B) {j : Nat} (hj : j < at_ ∨ at_ + 3 ≤ j) : blkI (chain B at_ sec data) j = blkI (List.replicate (B * 64) 0) j := by
  have hb : ∀ j, j < 3 → (at_ + j + 1) * 64 ≤ (chainI B at_ sec data j).1.length := fun j hj => by rw [chainI_len j (by omega)]; exact Nat.mul_le_mul_right 64 (by omega)
  have hn : ∀ (j : Nat) (p : Int), (nodBlock (j : Int) (oneP (sec / 8 ^ j % 8) p)).length = 64 := fun j p => nodBlock_len (oneP_len _ _)
  have keep : ∀ i, i < 3 → blkI (chainI B at_ sec data (i + 1)).1 j = blkI (chainI B at_ sec data i).1 j := fun i hi => by
    show blkI (setBlk _ _ _) _ = _
    exact blk_set_ne (hb i hi) (hn _ _) (by omega)
  show blkI (chainI B at_ sec data 3).1 j = blkI (chainI B at_ sec data 0).1 j
  rw [keep 2 (by omega), keep 1 (by omega), keep 0 (by omega)]
theorem nodV_back {lv : Int} {ps : List Int} (hp : ps.length = 8) (h : nodOk lv ps = true) : nCode (nodBlock lv ps) = 0 ∧ nodV (nodBlock lv ps) = (lv, ps) := by
  obtain ⟨h1, h2⟩ := nod_back hp h
  refine ⟨h1, ?_⟩
  rw [nodV_cells] at h2
  generalize nodV (nodBlock lv ps) = v at *
  unfold nc at h2
  injection h2 with h3 h4
  injection h3 with _ h3
  have hi : ∀ a b : List Int, is a = is b → a = b := by
    intro a b e
    unfold is at e
    exact (List.map_inj_right (fun x y e => by injection e)).1 e
  exact Prod.ext h3 (hi _ _ h4)
theorem nodV_block {lv k : Nat} {p : Int} (hl : lv ≤ 2) (hk : k < 8) (hp : 2 ≤ p) (hp2 : p < 4096) : nCode (nodBlock lv (oneP k p)) = 0 ∧ nodV (nodBlock lv (oneP k p)) = ((lv : Int), oneP k p) :=
  nodV_back (oneP_len k p) (nodOk_one hl hk hp hp2)
theorem foldl_skip {f : TS → Nat → TS} {k : Nat} (hf : ∀ w i, i ≠ k → f w i = w) : ∀ (l : List Nat) (w : TS), ¬ k ∈ l → l.foldl f w = w
  | [], w, _ => rfl
  | i :: l, w, h => by
    rw [List.foldl_cons, hf w i (fun e => h (e ▸ List.mem_cons_self ..))]
    exact foldl_skip hf l w (fun g => h (List.mem_cons_of_mem _ g))
theorem foldl_once {f : TS → Nat → TS} {k : Nat} (hf : ∀ w i, i ≠ k → f w i = w) : ∀ (l : List Nat) (w : TS), l.Nodup → k ∈ l → l.foldl f w = f w k
  | [], w, _, h => by cases h
  | i :: l, w, hn, h => by
    rw [List.nodup_cons] at hn
    rw [List.foldl_cons]
    by_cases c : i = k
    · subst c; exact foldl_skip hf l _ hn.1
    · rw [hf w i c]
      exact foldl_once hf l w hn.2 ((List.mem_cons.1 h).resolve_left (fun e => c e.symm))
/-- A fold where but one step counts. -/
theorem fold_one {f : TS → Nat → TS} {k : Nat} (hf : ∀ w i, i ≠ k → f w i = w) (hk : k < 8) (w : TS) : (List.range 8).foldl f w = f w k :=
  foldl_once hf _ w List.nodup_range (List.mem_range.2 hk)
theorem tstep_zero {r : Int → Nat → TS → TS} {B : Nat} {leaf : Bool} {w : TS} {t : Nat} (hB : 1 ≤ B) : tstep r B leaf w 0 t = w := by
  unfold tstep
  split
  · rfl
  · rw [if_neg (by rw [decide_eq_true_eq]; omega)]; rfl
/-- One node of one pointer, walked. -/
theorem tgo_one {L : List Int} {B lv : Nat} {a k : Nat} {p : Int} {f : Nat} {w : TS} (hlv : lv ≤ 2) (hB : 1 ≤ B) (ha : 2 ≤ a) (haB : a < B) (hk : k < 8) (hp : 2 ≤ p) (hp2 : p < 4096) (hblk : blkI L a = nodBlock lv (oneP k p)) (hw : w.2.1.contains (a : Int) = false) :
    tgo L B lv a f w = tstep (trec L B lv) B (lv == 0) (w.1, w.2.1 ++ [(a : Int)], w.2.2) p (f + k * 8 ^ lv) := by
  obtain ⟨h1, h2⟩ := nodV_block hlv hk hp hp2
  have hin : atIn B (a : Int) = true := atIn_iff.2 ⟨by omega, by omega⟩
  have hv : atV L B (a : Int) = ((lv : Int), oneP k p) := by unfold atV; rw [hin, if_pos rfl, Int.toNat_natCast, hblk, h2]
  have his : atIs L B (a : Int) (lv : Int) = true := by unfold atIs; rw [hin, hv, Int.toNat_natCast, hblk, h1]; simp
  rw [tgo_eq]
  unfold tbody
  rw [his, hw, hv, if_neg (by decide)]
  dsimp only
  rw [fold_one (k := k) (fun w i hi => by rw [oneP_get hk, if_neg hi]; exact tstep_zero hB) hk, oneP_get hk, if_pos rfl]
theorem sec_parts {sec : Nat} (h : sec < 512) : sec / 8 ^ 2 % 8 * 8 ^ 2 + sec / 8 ^ 1 % 8 * 8 ^ 1 + sec / 8 ^ 0 % 8 * 8 ^ 0 = sec := by
  simp only [Nat.reducePow, Nat.pow_zero, Nat.pow_one, Nat.div_one, Nat.mul_one]
  omega
/-- What a walk through such a device meets. -/
theorem chain_walk {B at_ sec : Nat} {data : Int} (h2 : 2 ≤ at_) (h : at_ + 3 ≤ B) (hB : B ≤ 4096) (hs : sec < 512) (hd : 2 ≤ data) (hd2 : data < 4096) :
    tgo (chain B at_ sec data) B 2 ((at_ + 2 : Nat) : Int) 0 (List.replicate 512 0, [], false) =
      if data < B then ((List.replicate 512 0).set sec data, [((at_ + 2 : Nat) : Int), ((at_ + 1 : Nat) : Int), (at_ : Int)], false) else (List.replicate 512 0, [((at_ + 2 : Nat) : Int), ((at_ + 1 : Nat) : Int), (at_ : Int)], true) := by
  have b2 := chain_blk (data := data) (sec := sec) h 2 (by omega)
  have b1 := chain_blk (data := data) (sec := sec) h 1 (by omega)
  have b0 := chain_blk (data := data) (sec := sec) h 0 (by omega)
  rw [if_neg (by omega), show at_ + 2 - 1 = at_ + 1 by omega] at b2
  rw [if_neg (by omega), show at_ + 1 - 1 = at_ by omega] at b1
  rw [if_pos rfl, Nat.add_zero] at b0
  have hk : ∀ i, sec / 8 ^ i % 8 < 8 := fun i => Nat.mod_lt _ (by decide)
  have hparts := sec_parts hs
  have hn : ∀ (x : Nat) (w : TS) t, x < B → 1 ≤ x → w.2.2 = false → ∀ lv, lv ≠ 0 → tstep (trec (chain B at_ sec data) B lv) B (lv == 0) w (x : Int) t = trec (chain B at_ sec data) B lv (x : Int) t w := by
    intro x w t hx hx1 hw lv hl
    unfold tstep
    rw [if_neg (by rw [hw]; exact Bool.false_ne_true), if_neg (by rw [decide_eq_true_eq]; omega), show ((x : Int) != 0) = true from bne_iff_ne.2 (by omega), show (lv == 0) = false from beq_eq_false_iff_ne.2 hl]
    rfl
  rw [tgo_one (by decide) (by omega) (by omega) (by omega) (hk 2) (by omega) (by omega) b2 rfl, hn _ _ _ (by omega) (by omega) rfl 2 (by decide)]
  show tgo (chain B at_ sec data) B 1 _ _ _ = _
  rw [tgo_one (by decide) (by omega) (by omega) (by omega) (hk 1) (by omega) (by omega) b1 (by simp <;> omega), hn _ _ _ (by omega) (by omega) rfl 1 (by decide)]
  show tgo (chain B at_ sec data) B 0 _ _ _ = _
  rw [tgo_one (by decide) (by omega) (by omega) (by omega) (hk 0) hd hd2 b0 (by simp <;> omega)]
  rw [show 0 + sec / 8 ^ 2 % 8 * 8 ^ 2 + sec / 8 ^ 1 % 8 * 8 ^ 1 + sec / 8 ^ 0 % 8 * 8 ^ 0 = sec by omega]
  unfold tstep
  rw [if_neg Bool.false_ne_true]
  by_cases c : data < B
  · rw [if_pos c, if_neg (by rw [decide_eq_true_eq]; omega), show (data != 0) = true from bne_iff_ne.2 (by omega)]
    rfl
  · rw [if_neg c, if_pos (by rw [decide_eq_true_eq]; omega)]
    rfl
end Go.Proofs.Ytbinkbdfoalbcaa
end
section
set_option linter.unusedVariables false
set_option maxRecDepth 100000
open Go Go.Am Go.RowKit
namespace Go.Proofs.Ytbinkbdfoalbcaa
open Go.Proofs.Try
theorem any_set {f : Int → Bool} {k : Nat} {p : Int} {n : Nat} (hk : k < n) (h0 : f 0 = false) : ((List.replicate n (0 : Int)).set k p).any f = f p := by
  cases hp : f p with
  | true =>
    rw [List.any_eq_true]
    exact ⟨p, List.mem_of_getElem? (List.getElem?_set_self (by rw [List.length_replicate]; exact hk)), hp⟩
  | false =>
    rw [List.any_eq_false]
    intro x hx
    rcases List.mem_or_eq_of_mem_set hx with g | g
    · rw [List.eq_of_mem_replicate g, h0]; exact Bool.false_ne_true
    · rw [g, hp]; exact Bool.false_ne_true
theorem devOk_iff {n : Nat} : devOk n = true ↔ n % 64 = 0 ∧ 4 ≤ n / 64 ∧ n / 64 ≤ 4096 := by
  unfold devOk
  simp
theorem devOk_mul {B : Nat} (h4 : 4 ≤ B) (hB : B ≤ 4096) : devOk (B * 64) = true := devOk_iff.2 ⟨by omega, by omega, by omega⟩
/-- The tree of such a device. -/
theorem chain_tree {B at_ sec : Nat} {data : Int} (h2 : 2 ≤ at_) (h : at_ + 3 ≤ B) (hB : B ≤ 4096) (hs : sec < 512) (hd : 2 ≤ data) (hd2 : data < 4096) :
    treeE (chain B at_ sec data) ((at_ + 2 : Nat) : Int) = (if data < B ∧ ¬ ((at_ : Int) ≤ data ∧ data < at_ + 3) then 0 else 6) ∧
    (treeE (chain B at_ sec data) ((at_ + 2 : Nat) : Int) = 0 → treeM (chain B at_ sec data) ((at_ + 2 : Nat) : Int) = (List.replicate 512 0).set sec data ∧ treeN (chain B at_ sec data) ((at_ + 2 : Nat) : Int) = [((at_ + 2 : Nat) : Int), ((at_ + 1 : Nat) : Int), (at_ : Int)]) := by
  have hl := chain_len (sec := sec) (data := data) h
  have hw : treeW (chain B at_ sec data) ((at_ + 2 : Nat) : Int) = if data < B then ((List.replicate 512 0).set sec data, [((at_ + 2 : Nat) : Int), ((at_ + 1 : Nat) : Int), (at_ : Int)], false) else (List.replicate 512 0, [((at_ + 2 : Nat) : Int), ((at_ + 1 : Nat) : Int), (at_ : Int)], true) := by
    unfold treeW
    rw [hl, Nat.mul_div_cancel _ (by decide)]
    exact chain_walk h2 h hB hs hd hd2
  have hr : (((at_ + 2 : Nat) : Int) == 0) = false := beq_eq_false_iff_ne.2 (by omega)
  have hdv : devOk (chain B at_ sec data).length = true := by rw [hl]; exact devOk_mul (by omega) hB
  have hE : treeE (chain B at_ sec data) ((at_ + 2 : Nat) : Int) = if treeOk (chain B at_ sec data) ((at_ + 2 : Nat) : Int) then 0 else 6 := by unfold treeE; rw [hdv, if_pos rfl]
  have hok : treeOk (chain B at_ sec data) ((at_ + 2 : Nat) : Int) = decide (data < B ∧ ¬ ((at_ : Int) ≤ data ∧ data < at_ + 3)) := by
    unfold treeOk
    rw [hr, hw]
    by_cases c : data < B
    · rw [if_pos c]
      dsimp only
      rw [any_set hs (by simp <;> omega)]
      by_cases c2 : (at_ : Int) ≤ data ∧ data < at_ + 3
      · rw [decide_eq_false (fun g => g.2 c2)]
        have : [((at_ + 2 : Nat) : Int), ((at_ + 1 : Nat) : Int), (at_ : Int)].contains data = true := by
          simp only [List.contains_eq_mem, List.mem_cons, List.not_mem_nil, or_false, decide_eq_true_eq]
          omega
        rw [this]; rfl
      · rw [decide_eq_true ⟨c, c2⟩]
        have : [((at_ + 2 : Nat) : Int), ((at_ + 1 : Nat) : Int), (at_ : Int)].contains data = false := by
          simp only [List.contains_eq_mem, List.mem_cons, List.not_mem_nil, or_false, decide_eq_false_iff_not]
          omega
        rw [this]; rfl
    · rw [if_neg c, decide_eq_false (fun g => c g.1)]; rfl
  constructor
  · rw [hE, hok]
    by_cases c : data < B ∧ ¬ ((at_ : Int) ≤ data ∧ data < at_ + 3)
    · rw [decide_eq_true c, if_pos c]; rfl
    · rw [decide_eq_false c, if_neg c]; rfl
  · intro h0
    have c : data < B ∧ ¬ ((at_ : Int) ≤ data ∧ data < at_ + 3) := by
      rw [hE, hok] at h0
      by_cases c : data < B ∧ ¬ ((at_ : Int) ≤ data ∧ data < at_ + 3)
      · exact c
      · rw [decide_eq_false c, if_neg Bool.false_ne_true] at h0; cases h0
    unfold treeM treeN
    rw [hr, hw, if_pos c.1]
    exact ⟨rfl, rfl⟩
theorem stepsE_ok {n : Nat} {l : List IoT} (h1 : devOk n = true) (h2 : l.length ≤ 1048576) (h3 : ∀ x ∈ l, ioOk n x) : stepsE n l = 0 := by
  unfold stepsE
  rw [if_pos h1, if_neg (by rw [decide_eq_true_eq]; omega), if_neg]
  intro g
  obtain ⟨x, hx, hr⟩ := List.any_eq_true.1 g
  rw [ioR_iff.2 (h3 x hx)] at hr
  cases hr
theorem us_zeros (n : Nat) : us (List.replicate n 0) = List.replicate n (Value.int .u8 0) := by unfold us; rw [List.map_replicate]
theorem reps_us (n : Nat) : reps (cellsOf (Value.int .u8 0)) n = us (List.replicate n 0) := by rw [us_zeros]; exact reps_one _ _
theorem reps_is (n : Nat) : reps (cellsOf (Value.int .i64 0)) n = is (List.replicate n 0) := by rw [show cellsOf (Value.int .i64 0) = [.int .i64 0] from rfl, reps_one]; unfold is; rw [List.map_replicate]
/-- A list of one write. -/
theorem ios_one {h : Heap} {q : Nat} {k a : Int} {d : List Int} {dv : Value} (oq : Ow h q [.int .i64 k, .int .i64 a, dv]) (sd : Sl h dv 1 d.length (us d)) (hd : Byt d) : Ios h (.slice (some ⟨q, 0, none⟩) 1 (exc 1)) [(k, a, d, ())] := by
  refine ⟨_, oq.all.sl (s := 3) rfl (by decide) (Cp.exc (Nat.le_refl _)), fun j x hx => ?_⟩
  match j, hx with
  | 0, hx => cases hx; exact ⟨_, rfl, sd, hd⟩
  | j + 1, hx => simp at hx
set_option maxHeartbeats 4000000 in
theorem chain_ok {h : Heap} {B at_ sec : Nat} {data : Int} (h2 : 2 ≤ at_) (hat : at_ + 3 ≤ B) (hB4 : 4 ≤ B) (hB : B ≤ 4096) (hs : sec < 512) (hd : 2 ≤ data) (hd2 : data < 4096) :
    RunF prog 39 [.int .i64 (B : Int), .int .i64 (at_ : Int), .int .i64 (sec : Int), .int .i64 data] h fun v h' => Fr no h h' ∧ ∃ b c, h.next ≤ b ∧ v = .tuple #[.slice (some ⟨b, 0, none⟩) (B * 64) c, .int .i64 ((at_ + 2 : Nat) : Int)] ∧ Cp 1 (B * 64) c ∧ Ow h' b (us (chain B at_ sec data)) := by
  refine RunF.walk func39 rfl rfl ?_
  refine RunC.seq (RunC.region (RunO.all rfl ?_))
  refine RunC.seq (RunC.region (RunO.part 2 rfl ?_))
  rw [fw64 (x := (B : Int) * 64) (by omega) (by omega), show (B : Int) * 64 = ((B * 64 : Nat) : Int) by omega]
  refine RunO.make (m := B * 64) rfl rfl rfl rfl rfl rfl (by show 1 * (B * 64) ≤ _; omega) (by omega) rfl (RunO.all rfl ?_)
  rw [reps_us]
  have oi := Ow.push h (us (List.replicate (B * 64) 0))
  have f1 : Fr no h (h.push ⟨us (List.replicate (B * 64) 0), true⟩) := Fr.push _ _ _
  generalize h.push ⟨us (List.replicate (B * 64) 0), true⟩ = h1 at *
  refine RunC.seq (RunC.region (RunO.all rfl ?_))
  refine RunC.seq (RunC.seq (RunC.region (RunO.all rfl ?_)))
  refine RunC.block ?_
  let I : Nat → Env → Heap → Prop := fun d E h' => ∃ (i b c : Nat), i + d = 3 ∧ Fr no h h' ∧ h.next ≤ b ∧ Cp 1 (B * 64) c ∧ Ow h' b (us (chainI B at_ sec data i).1) ∧ Le (upd (upd (upd (upd (upd E0 1 (.int .i64 (at_ : Int))) 2 (.int .i64 (sec : Int))) 10 (.slice (some ⟨b, 0, none⟩) (B * 64) c)) 11 (.int .i64 (chainI B at_ sec data i).2)) 12 (.int .i64 (i : Int))) E
  refine RunC.loop I ?_ (k := 3) ?_
  · rintro d E h2 ⟨i, bi, c, hi, f2, hbi, hc, oi2, hE⟩
    refine RunC.le hE ?_
    clear hE oi f1
    refine RunC.seq (RunC.seq (RunC.region (RunO.all rfl ?_)))
    refine RunC.cond rfl (fun hlt => ?_) (fun hge => ?_)
    · have hlt := of_decide_eq_true hlt
      have hi3 : i < 3 := by omega
      have hil := chainI_len (B := B) (sec := sec) (data := data) i (show at_ + i ≤ B by omega)
      have hnext : (chainI B at_ sec data (i + 1)) = (setBlk (chainI B at_ sec data i).1 (at_ + i) (nodBlock i (oneP (sec / 8 ^ i % 8) (chainI B at_ sec data i).2)), ((at_ + i : Nat) : Int)) := rfl
      have hp : 2 ≤ (chainI B at_ sec data i).2 ∧ (chainI B at_ sec data i).2 < 4096 := by
        cases i with
        | zero => exact ⟨hd, hd2⟩
        | succ i => show 2 ≤ ((at_ + i : Nat) : Int) ∧ ((at_ + i : Nat) : Int) < 4096; omega
      have hib := chainI_byt (B := B) (at_ := at_) (sec := sec) (data := data) i
      obtain ⟨ci1, hci1⟩ : ∃ z, z = chainI B at_ sec data (i + 1) := ⟨_, rfl⟩
      rw [← hci1] at hnext
      generalize chainI B at_ sec data i = ci at *
      obtain ⟨im, p⟩ := ci
      simp only at hil hnext hp hib
      have hk : sec / 8 ^ i % 8 < 8 := Nat.mod_lt _ (by decide)
      have hok : nodOk (i : Int) (oneP (sec / 8 ^ i % 8) p) = true := nodOk_one (by omega) hk hp.1 hp.2
      refine RunC.skip ?_
      refine RunC.seq (RunC.block ?_)
      refine RunC.seq (RunC.region (RunO.part 3 (h1 := h2.push ⟨nc 0 nZero, true⟩) rfl ?_))
      refine RunO.store rfl rfl (store_ow (s := 9) (Ow.push h2 (nc 0 nZero)) rfl rfl rfl (by decide)) (RunO.nil ?_)
      change RunC _ _ _ _ ((h2.push ⟨nc 0 nZero, true⟩).put h2.next (some ⟨nc (i : Int) nZero, true⟩)) _ _ _
      have on : Ow ((h2.push ⟨nc 0 nZero, true⟩).put h2.next (some ⟨nc (i : Int) nZero, true⟩)) h2.next (nc (i : Int) nZero) := Ow.put _ (Nat.lt_succ_self _)
      have f3 : Fr no h2 ((h2.push ⟨nc 0 nZero, true⟩).put h2.next (some ⟨nc (i : Int) nZero, true⟩)) := (Fr.push _ _ _).trans (Fr.put (m := (· = h2.next)) _ (.inl rfl)) (fun j hj => .inr (by omega))
      have oi3 := oi2.fr f3 (fun g => g)
      have F3 := f2.same f3
      have hnb : bi ≠ h2.next := by have := oi2.1; omega
      have hnn : h.next ≤ h2.next := f2.next
      generalize (h2.push ⟨nc 0 nZero, true⟩).put h2.next (some ⟨nc (i : Int) nZero, true⟩) = h3 at *
      generalize h2.next = nb at *
      refine RunC.seq (RunC.region (RunO.part 1 (h1 := h3.push ⟨is [1, 8, 64], true⟩) rfl ?_))
      have osp := Ow.push h3 (is [1, 8, 64])
      have f4 : Fr no h3 (h3.push ⟨is [1, 8, 64], true⟩) := Fr.push _ _ _
      have oi4 := oi3.fr f4 (fun g => g)
      have on4 := on.fr f4 (fun g => g)
      have F4 := F3.same f4
      generalize h3.push ⟨is [1, 8, 64], true⟩ = h4 at *
      generalize h3.next = sb at *
      refine RunO.part 1 rfl ?_
      have ssp : Sl h4 (.slice (some ⟨sb, 0, none⟩) 3 (exc 3)) 1 3 (is [1, 8, 64]) := osp.all.sl rfl (by decide) (Cp.exc (Nat.le_refl _))
      have hsp : apart prog 3 (is [1, 8, 64]) (i * 1) = some (.int .i64 ((8 ^ i : Nat) : Int)) := by
        obtain rfl | rfl | rfl : i = 0 ∨ i = 1 ∨ i = 2 := by omega
        all_goals rfl
      refine RunO.at (s := 1) (k := i) rfl rfl ssp rfl rfl hi3 hsp rfl rfl rfl (RunO.all rfl ?_)
      have hp8 : 1 ≤ 8 ^ i := Nat.pow_pos (by decide)
      refine RunC.seq (RunC.region (RunO.part 2 rfl ?_))
      refine RunO.bin (v := .int .i64 ((sec / 8 ^ i : Nat) : Int)) rfl rfl ?_ rfl ?_
      · show cond (decide (((8 ^ i : Nat) : Int) = 0)) none (some (Value.int .i64 (fwrap .i64 ((sec : Int).tdiv ((8 ^ i : Nat) : Int))))) = _
        rw [decide_eq_false (by omega), cond_false]
        have e : (sec : Int).tdiv ((8 ^ i : Nat) : Int) = ((sec / 8 ^ i : Nat) : Int) := by rw [Int.tdiv_eq_ediv_of_nonneg (by omega)]; exact (Int.natCast_ediv _ _).symm
        rw [e]
        have hu := Nat.div_le_self sec (8 ^ i)
        clear e
        generalize sec / 8 ^ i = u at hu ⊢
        rw [fw64 (by omega) (by omega)]
      refine RunO.bin (v := .int .i64 ((sec / 8 ^ i % 8 : Nat) : Int)) rfl rfl ?_ rfl ?_
      · show some (Value.int .i64 (((sec / 8 ^ i : Nat) : Int).tmod 8)) = _
        rw [Int.tmod_eq_emod_of_nonneg (Int.natCast_nonneg _)]; rfl
      refine RunO.part 2 rfl ?_
      refine RunO.indexA (s := 1) rfl rfl rfl rfl rfl hk rfl ?_
      generalize hkk : sec / 8 ^ i % 8 = kk at *
      have on5 := Ow.put (h := h4) (b := nb) (nc (i : Int) (oneP kk p)) on4.1
      have f5 : Fr (· = nb) h4 (h4.put nb (some ⟨nc (i : Int) (oneP kk p), true⟩)) := Fr.put _ (.inl rfl)
      have oi5 := oi4.fr f5 hnb
      have F5 : Fr no h (h4.put nb (some ⟨nc (i : Int) (oneP kk p), true⟩)) := F4.trans f5 (fun j e => .inr (by omega))
      refine RunO.store (h1 := h4.put nb (some ⟨nc (i : Int) (oneP kk p), true⟩)) rfl rfl ?_ (RunO.nil ?_)
      · rw [Nat.mul_one]
        show astore _ _ _ ⟨nb, 1 + kk, none⟩ _ = _
        rw [Nat.add_comm 1]
        refine (store1_ow on4 rfl rfl rfl (by show _ < (is _).length + 1; rw [is_len]; show kk + 1 < 8 + 1; omega)).trans ?_
        unfold nc oneP
        rw [List.set_cons_succ]
        unfold is
        rw [List.map_set]
      generalize h4.put nb (some ⟨nc (i : Int) (oneP kk p), true⟩) = h5 at *
      refine RunC.seq (RunC.region ?_)
      refine RunO.load (v := .agg ⟨nc (i : Int) (oneP kk p)⟩) rfl (nc_load (oneP_len _ _) on5) rfl ?_
      refine RunO.callD (nodBytes_ok (oneP_len _ _)) rfl rfl rfl ?_
      rintro _ h6 ⟨f6, ⟨_, nbb, hnbb, rfl, onb⟩ | ⟨hno, _⟩⟩
      case inr => rw [hok] at hno; cases hno
      have oi6 := oi5.fr f6 (fun g => g)
      have F6 := F5.same f6
      refine RunO.all rfl ?_
      have hnl := nodBlock_len (lv := (i : Int)) (oneP_len kk p)
      have hnb := nodBlock_byt (lv := (i : Int)) (oneP_len kk p)
      refine RunC.seq (RunC.region (RunO.part 4 rfl ?_))
      rw [fw64 (x := (at_ : Int) + (i : Int)) (by omega) (by omega), show (at_ : Int) + (i : Int) = ((at_ + i : Nat) : Int) by omega]
      refine RunO.part 3 (h1 := h6.push ⟨[.int .i64 1, .int .i64 ((at_ + i : Nat) : Int), .slice (some ⟨nbb, 0, none⟩) 64 (exc 64)], true⟩) rfl ?_
      have ol := Ow.push h6 [.int .i64 1, .int .i64 ((at_ + i : Nat) : Int), .slice (some ⟨nbb, 0, none⟩) 64 (exc 64)]
      have f7 : Fr no h6 (h6.push ⟨[.int .i64 1, .int .i64 ((at_ + i : Nat) : Int), .slice (some ⟨nbb, 0, none⟩) 64 (exc 64)], true⟩) := Fr.push _ _ _
      have oi7 := oi6.fr f7 (fun g => g)
      have onb7 := onb.fr f7 (fun g => g)
      have F7 := F6.same f7
      generalize h6.push ⟨[.int .i64 1, .int .i64 ((at_ + i : Nat) : Int), .slice (some ⟨nbb, 0, none⟩) 64 (exc 64)], true⟩ = h7 at *
      generalize h6.next = lb at *
      have sd : Sl h7 (.slice (some ⟨nbb, 0, none⟩) 64 (exc 64)) 1 (nodBlock (i : Int) (oneP kk p)).length (us (nodBlock (i : Int) (oneP kk p))) := by rw [hnl]; exact onb7.all.sl (by rw [us_len, hnl]) (by decide) (Cp.exc (Nat.le_refl _))
      have si : Sl h7 (.slice (some ⟨bi, 0, none⟩) (B * 64) c) 1 im.length (us im) := by rw [hil]; exact oi7.all.sl (by rw [us_len, hil, Nat.mul_one]) (by omega) hc
      have hse : stepsE im.length [(1, ((at_ + i : Nat) : Int), nodBlock (i : Int) (oneP kk p), ())] = 0 := by
        rw [hil]
        refine stepsE_ok (devOk_mul hB4 hB) (Nat.le_of_ble_eq_true rfl) (fun x hx => ?_)
        rw [List.mem_singleton] at hx
        subst hx
        exact .inl ⟨rfl, ⟨at_ + i, rfl, by rw [Nat.mul_div_cancel _ (by decide)]; omega⟩, hnl⟩
      refine RunO.callD (devApply_ok si (by rw [hil]; omega) (ios_one ol sd hnb) (Nat.le_of_ble_eq_true rfl)) rfl rfl rfl ?_
      rw [hse]
      rintro _ h8 ⟨f8, ⟨_, b8, c8, hb8, rfl, hc8, o8⟩ | ⟨hno, _⟩⟩
      case inr => exact absurd rfl hno
      have o8 : Ow h8 b8 (us ci1.1) := by
        rw [hnext]
        exact o8
      rw [hil] at hc8 ⊢
      refine RunO.all rfl ?_
      refine RunC.seq (RunC.seq (RunC.region (RunO.all rfl (RunC.cond rfl (fun g => by cases g) (fun _ => RunC.skip ?_)))))
      refine RunC.region (RunO.part 4 rfl ?_)
      rw [fw64 (x := (at_ : Int) + (i : Int)) (by omega) (by omega), show (at_ : Int) + (i : Int) = ((at_ + i : Nat) : Int) by omega]
      refine RunO.all rfl ?_
      refine RunC.region (RunO.all rfl ?_)
      have hci2 : ci1.2 = ((at_ + i : Nat) : Int) := by rw [hnext]
      exact ⟨d - 1, by omega, i + 1, b8, c8, by omega, F7.same f8, Nat.le_trans F7.next hb8, hc8, hci1 ▸ o8, Le.cons (inc64 (by omega)) (Le.cons (by rw [← hci1, hci2]; rfl) (Le.cons rfl (Le.cons rfl (Le.cons rfl (Le.nil _)))))⟩
    · have hge := of_decide_eq_false hge
      refine RunC.exit ?_
      obtain rfl : i = 3 := by omega
      exact RunC.seq (RunC.region (RunO.all rfl (RunC.ret ⟨_, rfl, f2, bi, c, hbi, rfl, hc, oi2⟩)))
  · exact ⟨0, h.next, exc (B * 64), by omega, f1, Nat.le_refl _, Cp.exc (Nat.le_refl _), oi, Le.cons rfl (Le.cons rfl (Le.cons rfl (Le.cons rfl (Le.cons rfl (Le.nil _)))))⟩
end Go.Proofs.Ytbinkbdfoalbcaa
end
section
open Go Go.Am Go.RowKit
namespace Go.Proofs.Ytbinkbdfoalbcaa
open Go.Proofs.Try
theorem mixed : prog.follows .mixedOrders = true := by kernel_rfl
theorem routines : noRoutine prog = true := by kernel_rfl
end Go.Proofs.Ytbinkbdfoalbcaa
end
section
set_option linter.unusedVariables false
set_option maxRecDepth 100000
open Go Go.Am Go.RowKit
namespace Go.Proofs.Ytbinkbdfoalbcaa
open Go.Proofs.Try
theorem tree_none {L : List Int} {root : Int} (hr : root ≠ 0) (h : atIs L (L.length / 64) root 2 = false) : treeOk L root = false := by
  have hw : treeW L root = (List.replicate 512 0, [], true) := by
    unfold treeW
    rw [tgo_eq]
    unfold tbody
    have h : atIs L (L.length / 64) root ((2 : Nat) : Int) = false := h
    rw [h]; rfl
  unfold treeOk
  rw [hw, show (root == 0) = false from beq_eq_false_iff_ne.2 hr]; rfl
theorem nCode_zeros : nCode (List.replicate 64 0) = 4 := by
  have h : readB nMag nLay (List.replicate 64 0) = 4 := by
    unfold readB
    rw [if_neg (by decide), if_pos (by decide)]
  unfold nCode
  rw [h]; rfl
theorem blk_zeros {n i : Nat} (h : (i + 1) * 64 ≤ n) : blkI (List.replicate n 0) i = List.replicate 64 0 := by
  unfold blkI
  rw [List.drop_replicate, List.take_replicate]
  congr 1; omega
theorem zeros_none {L : List Int} {root : Nat} (hr : root ≠ 0) (hb : blkI L root = List.replicate 64 0) : treeOk L (root : Int) = false := by
  refine tree_none (by omega) ?_
  unfold atIs
  rw [Int.toNat_natCast, hb, nCode_zeros]
  cases atIn (L.length / 64) (root : Int) <;> rfl
theorem treeE_ok {L : List Int} {root : Int} (h : treeE L root = 0) : treeOk L root = true ∧ devOk L.length = true := by
  unfold treeE at h
  split at h
  · rename_i hd
    split at h
    · rename_i ho; exact ⟨ho, hd⟩
    · cases h
  · cases h
theorem sl_own {h : Heap} {b c n : Nat} {l : List Int} (ow : Ow h b (us l)) (hl : l.length = n) (hc : Cp 1 n c) (hn : n ≤ 9223372036854775807) : Sl h (.slice (some ⟨b, 0, none⟩) n c) 1 l.length (us l) := by
  subst hl
  exact ow.all.sl (by rw [us_len, Nat.mul_one]) hn hc
theorem sl_owI {h : Heap} {b c n : Nat} {l : List Int} (ow : Ow h b (is l)) (hl : l.length = n) (hc : Cp 1 n c) (hn : n ≤ 9223372036854775807) : Sl h (.slice (some ⟨b, 0, none⟩) n c) 1 l.length (is l) := by
  subst hl
  exact ow.all.sl (by rw [is_len, Nat.mul_one]) hn hc
end Go.Proofs.Ytbinkbdfoalbcaa
end
