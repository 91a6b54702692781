/- Read: part of a calculus over an abstract machine that stands beside the model, and contracts of functions by it.
Conditions: what each theorem says of its arguments. -/
import Derived.Test.YtaaemamcdhebhaaMake
set_option linter.unusedVariables false
set_option maxRecDepth 100000
open Go Go.Am
namespace Go.Proofs.Ytaaemamcdhebhaa
open Go.Proofs.Try
theorem bytesOf_us : ∀ (l : List Int), bytesOf (us l) = some l
  | [] => rfl
  | x :: l => by
    show (match bytesOf (us l) with | some r => some (x :: r) | none => none) = _
    rw [bytesOf_us l]
theorem mkStr_data (l : List Int) : (mkStr l).data.toList = l.map (fun n => UInt8.ofNat n.toNat) := by
  have key : ∀ (l : List Int) (s : ByteArray), (l.foldl (fun r n => r.push (UInt8.ofNat n.toNat)) s).data.toList = s.data.toList ++ l.map (fun n => UInt8.ofNat n.toNat) := by
    intro l
    induction l with
    | nil => intro s; simp
    | cons x l ih =>
      intro s
      simp only [List.foldl_cons, List.map_cons]
      rw [ih]
      simp [ByteArray.push]
  unfold mkStr
  rw [key]; rfl
theorem str_eq {l mb : List Int} {mg : ByteArray} (hmg : strCells mg = us mb) (hb : Byt l) : ((mkStr l).data.toList == mg.data.toList) = decide (l = mb) := by
  rw [mkStr_data]
  have h1 : mb = mg.data.toList.map (fun b => (b.toNat : Int)) := by
    unfold strCells us at hmg
    generalize mg.data.toList = L at *
    clear hb
    induction L generalizing mb with
    | nil => cases mb with
      | nil => rfl
      | cons y t => cases hmg
    | cons x L ih => cases mb with
      | nil => cases hmg
      | cons y t =>
        simp only [List.map_cons, List.cons.injEq, Value.int.injEq, true_and] at hmg ⊢
        exact ⟨hmg.1.symm, ih hmg.2⟩
  rw [Bool.eq_iff_iff, beq_iff_eq, decide_eq_true_iff, h1]
  generalize mg.data.toList = L
  constructor
  · intro e
    rw [← e, List.map_map]
    conv => lhs; rw [← List.map_id l]
    refine List.map_congr_left (fun x hx => ?_)
    have := hb x hx
    simp only [id, Function.comp, UInt8.toNat_ofNat']
    omega
  · intro e
    rw [e, List.map_map]
    conv => rhs; rw [← List.map_id L]
    refine List.map_congr_left (fun x hx => ?_)
    simp
def endF (fl : List (Nat × Nat)) : Nat := fl.foldl (fun _ f => f.1 + f.2) 4
theorem endF_snoc (fl : List (Nat × Nat)) (f : Nat × Nat) : endF (fl ++ [f]) = f.1 + f.2 := by unfold endF; rw [List.foldl_append]; rfl
theorem endF_le : ∀ (fl : List (Nat × Nat)), (∀ f ∈ fl, f.1 + f.2 ≤ 64) → endF fl ≤ 64 := by
  intro fl h
  unfold endF
  have key : ∀ (fl : List (Nat × Nat)) (a : Nat), a ≤ 64 → (∀ f ∈ fl, f.1 + f.2 ≤ 64) → fl.foldl (fun _ f => f.1 + f.2) a ≤ 64 := by
    intro fl
    induction fl with
    | nil => intro a ha _; exact ha
    | cons f t ih => intro a ha h; exact ih _ (h f (List.mem_cons_self ..)) (fun g hg => h g (List.mem_cons_of_mem _ hg))
  exact key fl 4 (by omega) h
def okF (l : List Int) (f : Nat × Nat) : Bool := (leGet l f.1 f.2).2 == 0
def numsB (fl : List (Nat × Nat)) (l : List Int) : List Int := fl.map (fun f => (leGet l f.1 f.2).1)
/-- Why bytes are no block; 0: they are one. -/
def readB (mb : List Int) (fl : List (Nat × Nat)) (l : List Int) : Int :=
  if l.length ≠ 64 then 2 else if l.take 4 ≠ mb then 4 else if goodB l = false then 5 else if fl.all (okF l) = false then 1 else if zerosN l (endF fl) 60 = false then 1 else 0
theorem superRead_ok {h : Heap} {A : Option Addr} {af : Addr} {c cf : Nat} {mg : ByteArray} {l mb : List Int} {fl : List (Nat × Nat)} (hmg : strCells mg = us mb)
    (ra : l.length = 64 → ∃ a, A = some a ∧ Rd h a (us l)) (hb : Byt l) (rf : Rd h af (fcs fl)) (hfl : ∀ f ∈ fl, f.1 + f.2 ≤ 64 ∧ (f.2 = 1 ∨ f.2 = 2 ∨ f.2 = 4 ∨ f.2 = 8)) (hlen : fl.length ≤ 1000) (hc : Cp 1 l.length c) :
    RunF prog 45 [.slice A l.length c, .string mg, .slice (some af) fl.length cf] h fun v h' => ∃ o, v = .tuple #[o, .int .i64 (readB mb fl l)] ∧ (readB mb fl l = 0 → Row h.next h' o 1 fl.length (is (numsB fl l))) ∧ (readB mb fl l ≠ 0 → o = .slice none 0 0) ∧ Fr no h h' := by
  obtain ⟨bf, of, sf⟩ := af
  have hsf : sf = none := rf.1
  subst hsf
  have hbf : bf < h.next := rf.2.1
  refine RunF.walk func45 rfl rfl ?_
  refine RunC.seq (RunC.region (RunO.all rfl ?_))
  refine RunC.seq (RunC.block ?_)
  refine RunC.seq (RunC.region (RunO.all rfl ?_))
  by_cases hl : l.length = 64
  case neg =>
    have hr : readB mb fl l = 2 := if_pos hl
    rw [show ((l.length : Int) != 64) = true by simpa using (by omega : ¬ ((l.length : Int) = 64))]
    refine RunC.cond rfl (fun _ => ?_) (fun g => by cases g)
    rw [hr]
    exact RunC.seq (RunC.region (RunO.all rfl (RunC.ret ⟨_, rfl, _, rfl, fun g => by simp at g, fun _ => rfl, Fr.refl _ _⟩)))
  obtain ⟨⟨b, o, sp⟩, rfl, rd⟩ := ra hl
  have hsp : sp = none := rd.1
  subst hsp
  have hb0 : b < h.next := rd.2.1
  rw [show ((l.length : Int) != 64) = false by simpa using (by omega : ((l.length : Int) = 64))]
  refine RunC.cond rfl (fun g => by cases g) (fun _ => ?_)
  refine RunC.seq (RunC.region (RunO.part 1 rfl ?_))
  refine RunO.slicePre (s := 1) (k := 4) rfl rfl rfl rfl hc (by omega) rfl ?_
  intro c' hc'
  have hll : (l.take 4).length = 4 := by rw [List.length_take]; omega
  have hrd4 : aread h ⟨b, o, none⟩ 4 = some (us (l.take 4)) := by
    have := (rdTake rd 4).read0 (m := 4) (by rw [us_len, hll]; exact Nat.le_refl _)
    rw [this, List.take_of_length_le (by rw [us_len, hll]; exact Nat.le_refl _)]
  refine RunO.one rfl (v := .string (mkStr (l.take 4))) (E1 := upd _ 21 (.string (mkStr (l.take 4)))) (h1 := h) ?_ rfl ?_
  · show pureR h (match aread h ⟨b, o, none⟩ 4 with | some l => (match bytesOf l with | some ns => some (Value.string (mkStr ns)) | none => none) | none => none) = _
    rw [hrd4]
    simp only [bytesOf_us, pureR]
  refine RunO.part 1 rfl ?_
  refine RunO.bin (v := .bool (!(decide (l.take 4 = mb)))) rfl rfl ?_ rfl ?_
  · show some (Value.bool (!((mkStr (l.take 4)).data.toList == mg.data.toList))) = _
    rw [str_eq hmg (fun x hx => hb x (List.mem_of_mem_take hx))]
  refine RunO.all rfl ?_
  by_cases hm : l.take 4 = mb
  case neg =>
    have hr : readB mb fl l = 4 := by unfold readB; rw [if_neg (by omega), if_pos hm]
    rw [decide_eq_false hm]
    refine RunC.cond rfl (fun _ => ?_) (fun g => by cases g)
    rw [hr]
    exact RunC.seq (RunC.region (RunO.all rfl (RunC.ret ⟨_, rfl, _, rfl, fun g => by simp at g, fun _ => rfl, Fr.refl _ _⟩)))
  rw [decide_eq_true hm]
  refine RunC.cond rfl (fun g => by cases g) (fun _ => ?_)
  refine RunC.seq (RunC.region (RunO.part 1 rfl ?_))
  refine RunO.callD (crcGood_ok rd hb (by omega) (by omega) hc) rfl rfl rfl ?_
  rintro _ _ ⟨rfl, rfl⟩
  refine RunO.all rfl ?_
  cases hg : goodB l
  case false =>
    have hr : readB mb fl l = 5 := by unfold readB; rw [if_neg (by omega), if_neg (by simpa using hm), if_pos hg]
    refine RunC.cond rfl (fun _ => ?_) (fun g => by cases g)
    rw [hr]
    exact RunC.seq (RunC.region (RunO.all rfl (RunC.ret ⟨_, rfl, _, rfl, fun g => by simp at g, fun _ => rfl, Fr.refl _ _⟩)))
  refine RunC.cond rfl (fun g => by cases g) (fun _ => ?_)
  refine RunC.skip ?_
  have hr0 : readB mb fl l = if fl.all (okF l) = false then 1 else if zerosN l (endF fl) 60 = false then 1 else 0 := by
    unfold readB; rw [if_neg (by omega), if_neg (by simpa using hm), if_neg (by simp [hg])]
  refine RunC.seq (RunC.region (RunO.all rfl ?_))
  refine RunC.seq (RunC.region (RunO.all rfl ?_))
  refine RunC.seq (RunC.seq (RunC.region (RunO.all rfl ?_)))
  refine RunC.block ?_
  let I : Nat → Env → Heap → Prop := fun d E h' => ∃ (i : Nat) (v : Value), i + d = fl.length ∧ (fl.take i).all (okF l) = true ∧ Row h.next h' v 1 i (is (numsB (fl.take i) l)) ∧ Fr (fun b => h.next ≤ b) h h' ∧ Le (upd (upd (upd (upd (upd (upd E0 0 (.slice (some ⟨b, o, none⟩) l.length c)) 8 v) 9 (.int .i64 (endF (fl.take i) : Nat))) 28 (.slice (some ⟨bf, of, none⟩) fl.length cf)) 29 (.int .i64 fl.length)) 30 (.int .i64 i)) E
  refine RunC.loop I ?_ (k := fl.length) ?_
  · rintro d E h' ⟨i, v, hi, hall, hrow, hf, hE⟩
    refine RunC.le hE ?_
    clear hE
    refine RunC.seq (RunC.region (RunO.all rfl ?_))
    refine RunC.seq (RunC.cond rfl (fun hlt => ?_) (fun hge => ?_))
    · have hlt := of_decide_eq_true hlt
      have hlt2 : i < fl.length := by omega
      refine RunC.skip ?_
      refine RunC.seq (RunC.block ?_)
      refine RunC.seq (RunC.region ?_)
      refine RunO.index (s := 2) rfl rfl rfl rfl hlt2 rfl ?_
      refine RunO.load rfl ((rf.fr hf (by show ¬ h.next ≤ bf; omega)).part (field_part hlt2)) rfl ?_
      have hfx := hfl _ (List.getElem_mem hlt2)
      have htk := List.take_succ_eq_append_getElem hlt2
      have hmem := List.getElem_mem hlt2
      generalize hfi : fl[i] = f at *
      obtain ⟨fa, fs⟩ := f
      refine RunO.part 1 (h1 := h'.push ⟨[.int .i64 0, .int .i64 0], true⟩) rfl ?_
      refine RunO.store rfl rfl (store_ow (s := 2) (Ow.push _ _) rfl rfl rfl (by decide)) (RunO.nil ?_)
      change RunC _ _ _ _ ((h'.push ⟨[.int .i64 0, .int .i64 0], true⟩).put h'.next (some ⟨[.int .i64 (fa : Nat), .int .i64 (fs : Nat)], true⟩)) _ _ _
      have ow2 : Ow ((h'.push ⟨[.int .i64 0, .int .i64 0], true⟩).put h'.next (some ⟨[.int .i64 (fa : Nat), .int .i64 (fs : Nat)], true⟩)) h'.next [.int .i64 (fa : Nat), .int .i64 (fs : Nat)] := Ow.put _ (Nat.lt_succ_self _)
      have f2 : Fr no h' ((h'.push ⟨[.int .i64 0, .int .i64 0], true⟩).put h'.next (some ⟨[.int .i64 (fa : Nat), .int .i64 (fs : Nat)], true⟩)) := (Fr.push _ _ _).trans (Fr.put (m := (· = h'.next)) _ (.inl rfl)) (fun j hj => .inr (by omega))
      have hf2 := hf.quiet f2
      have hrow2 := hrow.fr f2 (fun _ _ _ g => g)
      have hn := hf.next
      have hat : ∀ j, At v j → h.next ≤ j ∧ j < h'.next := fun j g => hrow.at g
      generalize h'.next = p at *
      generalize (h'.push ⟨[.int .i64 0, .int .i64 0], true⟩).put p (some ⟨[.int .i64 (fa : Nat), .int .i64 (fs : Nat)], true⟩) = h2 at *
      clear f2
      refine RunC.seq (RunC.region (RunO.part 2 rfl ?_))
      refine RunO.load (v := .int .i64 (fa : Nat)) rfl (ow2.all.cell1 (k := 0) rfl rfl) rfl ?_
      refine RunO.part 1 rfl ?_
      refine RunO.load (v := .int .i64 (fs : Nat)) rfl (ow2.all.cell1 (k := 1) rfl rfl) rfl ?_
      refine RunO.callD (leGet_ok (s := fs) (k := fa) (rd.fr hf2 (by show ¬ h.next ≤ b; omega)) hb hfx.2 (by rw [hl]; exact hfx.1) (by omega)) rfl rfl rfl ?_
      rintro _ _ ⟨rfl, rfl⟩
      refine RunO.all rfl ?_
      refine RunC.seq (RunC.seq (RunC.region (RunO.all rfl ?_)))
      refine RunC.cond rfl (fun hbad => ?_) (fun hok => ?_)
      · have hbad : okF l (fa, fs) = false := by unfold okF; simpa using hbad
        have hr : readB mb fl l = 1 := by
          rw [hr0, if_pos]
          rw [List.all_eq_false]
          exact ⟨_, hmem, by rw [hbad]; decide⟩
        rw [hr]
        exact RunC.seq (RunC.region (RunO.all rfl (RunC.ret ⟨_, rfl, _, rfl, fun g => by simp at g, fun _ => rfl, frNo hf2⟩)))
      · have hok : (leGet l fa fs).2 = 0 := by simpa using hok
        refine RunC.skip ?_
        refine RunC.seq (RunC.region (RunO.part 3 (h1 := h2.push ⟨[.int .i64 (leGet l fa fs).1], true⟩) rfl ?_))
        refine RunO.append (s := 1) (lo := h.next) rfl rfl rfl rfl rfl rfl rfl rfl (by decide) (hrow2.fr (Fr.push no _ _) (fun _ _ _ g => g)) (Nat.le_trans hf2.next (Nat.le_succ _)) (Ow.push _ _).all rfl (by decide) rfl (by show 2 * (i + 1) * 8 ≤ _; omega) (by omega) ?_
        intro v' h3 hrow3 hf3
        refine RunO.all rfl ?_
        have ow3 := (ow2.fr (Fr.push no _ _) (fun g => g)).fr hf3 (fun g => absurd (hat _ g).2 (Nat.lt_irrefl _))
        refine RunC.region (RunO.part 1 rfl ?_)
        refine RunO.load (v := .int .i64 (fa : Nat)) rfl (ow3.all.cell1 (k := 0) rfl rfl) rfl ?_
        refine RunO.part 1 rfl ?_
        refine RunO.load (v := .int .i64 (fs : Nat)) rfl (ow3.all.cell1 (k := 1) rfl rfl) rfl ?_
        refine RunO.all rfl ?_
        refine RunC.region (RunO.all rfl ?_)
        refine ⟨d - 1, by omega, i + 1, v', by omega, ?_, ?_, ?_, ?_⟩
        · rw [htk, List.all_append, hall]
          simp [okF, hok]
        · rw [htk]
          have e : is (numsB (fl.take i ++ [(fa, fs)]) l) = is (numsB (fl.take i) l) ++ [.int .i64 (leGet l fa fs).1] := by
            unfold is numsB; simp
          rw [e]; exact hrow3
        · exact (hf2.same (Fr.push _ _ _)).trans hf3 (fun j g => .inl (hat _ g).1)
        · refine Le.cons (inc64 (by omega)) (Le.cons rfl (Le.cons rfl (Le.cons ?_ (Le.cons rfl (Le.cons rfl (Le.nil _))))))
          show some (Value.int .i64 (fwrap .i64 ((fa : Int) + (fs : Int)))) = _
          have := hfx.1
          rw [fw64 (by omega) (by omega), htk, endF_snoc]
          rfl
    · have hge := of_decide_eq_false hge
      refine RunC.exit ?_
      have hi2 : i = fl.length := by omega
      subst hi2
      rw [List.take_length] at hrow hall
      rw [List.take_length]
      have hend := endF_le fl (fun f hf => (hfl f hf).1)
      refine RunC.seq (RunC.seq (RunC.region (RunO.part 2 rfl ?_)))
      refine RunO.callD (leZeros_ok (k := endF fl) (m := 60) (rd.fr hf (by show ¬ h.next ≤ b; omega)) (by omega) (by omega) (by omega)) rfl rfl rfl ?_
      rintro _ _ ⟨rfl, rfl⟩
      refine RunO.all rfl ?_
      rw [if_neg (by simp [hall])] at hr0
      cases hz : zerosN l (endF fl) 60 with
      | false =>
        rw [if_pos hz] at hr0
        refine RunC.cond rfl (fun _ => ?_) (fun g => by cases g)
        rw [hr0]
        exact RunC.seq (RunC.region (RunO.all rfl (RunC.ret ⟨_, rfl, _, rfl, fun g => by simp at g, fun _ => rfl, frNo hf⟩)))
      | true =>
        rw [if_neg (by simp [hz])] at hr0
        refine RunC.cond rfl (fun g => by cases g) (fun _ => RunC.skip ?_)
        rw [hr0]
        exact RunC.seq (RunC.region (RunO.all rfl (RunC.ret ⟨_, rfl, _, rfl, fun _ => hrow, fun g => absurd rfl g, frNo hf⟩)))
  · exact ⟨0, .slice none 0 0, by omega, rfl, Row.nil _ _ _, Fr.refl _ _, Le.cons rfl (Le.cons rfl (Le.cons rfl (Le.cons rfl (Le.cons rfl (Le.cons rfl (Le.nil _))))))⟩
end Go.Proofs.Ytaaemamcdhebhaa
