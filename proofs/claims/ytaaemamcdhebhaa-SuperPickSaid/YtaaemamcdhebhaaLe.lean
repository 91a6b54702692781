/- Le: part of a calculus over an abstract machine that stands beside the model, and contracts of functions by it.
Conditions: what each theorem says of its arguments. -/
import Derived.Test.YtaaemamcdhebhaaAm14
import Derived.Test.YtaaemamcdhebhaaProg
set_option linter.unusedVariables false
set_option maxRecDepth 100000
open Go Go.Am
namespace Go.Proofs.Ytaaemamcdhebhaa
open Go.Proofs.Try
def us (l : List Int) : List Value := l.map (Value.int .u8)
theorem us_len (l : List Int) : (us l).length = l.length := List.length_map _
theorem us_get (l : List Int) (i : Nat) : (us l)[i]? = l[i]?.map (Value.int .u8) := List.getElem?_map
theorem us_nth {l : List Int} {i : Nat} (h : i < l.length) : nth (us l) i = some (.int .u8 l[i]) := by
  rw [nth_eq, us_get, List.getElem?_eq_getElem h]; rfl
/-- All are bytes. -/
def Byt (l : List Int) : Prop := ∀ x ∈ l, 0 ≤ x ∧ x < 256
theorem Byt.get {l : List Int} (h : Byt l) {i : Nat} (hi : i < l.length) : 0 ≤ l[i] ∧ l[i] < 256 := h _ (List.getElem_mem hi)
def leB : Nat → Int → List Int
  | 0, _ => []
  | n + 1, v => v % 256 :: leB n (v / 256)
theorem leB_len (n : Nat) : ∀ v, (leB n v).length = n := by
  induction n with
  | zero => intro v; rfl
  | succ n ih => intro v; rw [leB, List.length_cons, ih]
theorem leB_snoc (n : Nat) : ∀ v : Int, leB (n + 1) v = leB n v ++ [v / 256 ^ n % 256] := by
  induction n with
  | zero => intro v; simp [leB]
  | succ n ih =>
    intro v
    rw [leB, ih, leB, List.cons_append]
    congr 3
    rw [Int.pow_succ, Int.mul_comm, Int.ediv_ediv_of_nonneg (by omega)]
def leN : List Int → Int
  | [] => 0
  | x :: t => x + 256 * leN t
theorem leN_snoc : ∀ (l : List Int) (x : Int), leN (l ++ [x]) = leN l + x * 256 ^ l.length
  | [], x => by simp [leN]
  | y :: l, x => by
    simp only [List.cons_append, leN, leN_snoc l x, List.length_cons, Int.pow_succ]
    rw [Int.mul_add, ← Int.add_assoc, Int.mul_comm (256 ^ l.length) 256, ← Int.mul_assoc, ← Int.mul_assoc, Int.mul_comm x 256]
theorem leN_bound : ∀ {l : List Int}, Byt l → 0 ≤ leN l ∧ leN l < 256 ^ l.length
  | [], _ => by simp [leN]
  | x :: t, h => by
    have h1 := h x (List.mem_cons_self ..)
    have h2 := leN_bound (l := t) (fun y hy => h y (List.mem_cons_of_mem _ hy))
    rw [leN, List.length_cons, Int.pow_succ, Int.mul_comm (256 ^ t.length) 256]
    omega
/-- Cells laid over others. -/
def lay (cs : List Value) (o : Nat) (l : List Value) : List Value := cs.take o ++ l ++ cs.drop (o + l.length)
theorem lay_nil (cs : List Value) (o : Nat) : lay cs o [] = cs := by simp [lay]
theorem lay_len {cs : List Value} {o : Nat} {l : List Value} (h : o + l.length ≤ cs.length) : (lay cs o l).length = cs.length := by
  simp [lay]; omega
theorem lay_snoc {cs : List Value} {o : Nat} {l : List Value} {v : Value} (h : o + l.length < cs.length) : (lay cs o l).set (o + l.length) v = lay cs o (l ++ [v]) := by
  unfold lay
  have e : (cs.take o ++ l).length = o + l.length := by simp; omega
  rw [List.set_append_right _ _ (by omega), e, Nat.sub_self, List.drop_eq_getElem_cons h, List.set_cons_zero]
  simp [Nat.add_assoc]
/-- le.Set. -/
theorem leSet_ok {h : Heap} {b o len c k s : Nat} {v : Int} {cs : List Value} (ow : Ow h b cs) (hl : o + len ≤ cs.length) (hs : s ≤ 8) (hk : k + s ≤ len) (hm : cs.length ≤ 4611686018427387904) :
    RunF prog 67 [.slice (some ⟨b, o, none⟩) len c, .int .i64 k, .int .i64 s, .int .i64 v] h fun _ h' => Fr (· = b) h h' ∧ Ow h' b (lay cs (o + k) (us (leB s v))) := by
  refine RunF.walk func67 rfl rfl ?_
  refine RunC.seq (RunC.region (RunO.all rfl ?_))
  refine RunC.block ?_
  let I : Nat → Env → Heap → Prop := fun m E h' => ∃ i : Nat, i + m = s ∧ Fr (· = b) h h' ∧ Ow h' b (lay cs (o + k) (us (leB i v))) ∧ Le (upd (upd (upd (upd (upd E0 0 (.slice (some ⟨b, o, none⟩) len c)) 1 (.int .i64 k)) 3 (.int .i64 v)) 9 (.int .i64 s)) 10 (.int .i64 i)) E
  refine RunC.loop I ?_ (k := s) ?_
  · rintro m E h' ⟨i, hi, hf, ho, hE⟩
    refine RunC.le hE ?_
    clear hE
    refine RunC.seq (RunC.region (RunO.all rfl ?_))
    refine RunC.seq (RunC.cond rfl (fun hlt => ?_) (fun hge => ?_))
    · have hlt := of_decide_eq_true hlt
      refine RunC.skip ?_
      refine RunC.seq (RunC.block ?_)
      refine RunC.seq (RunC.region (RunO.all rfl ?_))
      refine RunC.region (RunO.part 7 rfl ?_)
      rw [fw64 (x := (k : Int) + i) (by omega) (by omega), fw64 (x := 8 * (i : Int)) (by omega) (by omega), show (8 * (i : Int)) = ((8 * i : Nat) : Int) by omega, show ((k : Int) + i) = ((k + i : Nat) : Int) by omega]
      refine RunO.bin rfl rfl (shr64 (by omega)) rfl ?_
      refine RunO.part 1 rfl ?_
      rw [fwu8]
      have hlen : (us (leB i v)).length = i := by rw [us_len, leB_len]
      have hc : (lay cs (o + k) (us (leB i v))).length = cs.length := lay_len (by omega)
      refine RunO.index (s := 1) rfl rfl rfl rfl (by omega) rfl ?_
      refine RunO.store rfl rfl (store1_ow ho rfl rfl rfl (by omega)) (RunO.nil ?_)
      refine RunC.region (RunO.all rfl ?_)
      refine ⟨m - 1, by omega, i + 1, by omega, hf.same (Fr.put _ (.inl rfl)), ?_, ?_⟩
      · have e : o + (k + i) * 1 = (o + k) + (us (leB i v)).length := by omega
        rw [e, lay_snoc (by omega), leB_snoc]
        have e2 : us (leB i v ++ [v / 256 ^ i % 256]) = us (leB i v) ++ [.int .u8 (v / 2 ^ (8 * i) % 256)] := by
          rw [Int.pow_mul]; simp [us]
        rw [e2]
        exact Ow.put _ ho.1
      · refine Le.cons ?_ (Le.cons rfl (Le.cons rfl (Le.cons rfl (Le.cons rfl (Le.nil _)))))
        show some (Value.int .i64 (fwrap .i64 ((i : Int) + 1))) = _
        rw [fw64 (by omega) (by omega)]; rfl
    · have hge := of_decide_eq_false hge
      refine RunC.exit ?_
      have : i = s := by omega
      subst this
      exact ⟨_, rfl, hf, ho⟩
  · exact ⟨0, by omega, Fr.refl _ _, by simpa [leB, us, lay_nil] using ow, Le.cons rfl (Le.cons rfl (Le.cons rfl (Le.cons rfl (Le.cons rfl (Le.nil _)))))⟩

/-- What le.Get tells of s bytes from k on. -/
def leGet (l : List Int) (k s : Nat) : Int × Int := if leN ((l.drop k).take s) > 4611686018427387903 then (0, 1) else (leN ((l.drop k).take s), 0)
theorem take_drop_snoc {α : Type} {l : List α} {k i : Nat} (h : k + i < l.length) : (l.drop k).take (i + 1) = (l.drop k).take i ++ [l[k + i]] := by
  rw [List.take_succ_eq_append_getElem (by rw [List.length_drop]; omega), List.getElem_drop]
theorem Byt.part {l : List Int} (h : Byt l) (k i : Nat) : Byt ((l.drop k).take i) := fun x hx => h x (List.mem_of_mem_drop (List.mem_of_mem_take hx))
theorem leRight_ok {h : Heap} {s : Nat} (hs : s = 1 ∨ s = 2 ∨ s = 4 ∨ s = 8) : RunF prog 81 [.int .i64 s] h fun v h' => v = .bool true ∧ h = h' := by
  refine RunF.walk func81 rfl rfl ?_
  rcases hs with rfl | rfl | rfl | rfl <;>
    exact RunC.seq (RunC.region (RunO.all rfl (RunC.seq (RunC.region (RunO.all rfl (RunC.ret ⟨_, rfl, rfl, rfl⟩))))))
theorem leWithin_ok {h : Heap} {a : Option Addr} {len c k s : Nat} (hm : len ≤ 4611686018427387904) (hs : s ≤ 8) : RunF prog 82 [.slice a len c, .int .i64 k, .int .i64 s] h fun v h' => v = .bool (decide (k + s ≤ len)) ∧ h = h' := by
  refine RunF.walk func82 rfl rfl ?_
  refine RunC.seq (RunC.region (RunO.all rfl ?_))
  refine RunC.seq (RunC.region (RunO.part 2 rfl ?_))
  rw [show decide ((k : Int) ≥ 0) = true from decide_eq_true (by omega)]
  refine RunO.part 6 rfl ?_
  rw [fw64 (by omega) (by omega)]
  refine RunO.all rfl ?_
  refine RunC.ret ⟨_, rfl, ?_, rfl⟩
  show Value.bool _ = _
  congr 1
  exact decide_eq_decide.2 (by omega)
theorem leGet_ok {h : Heap} {a : Addr} {c k s : Nat} {l : List Int} (rd : Rd h a (us l)) (hb : Byt l) (hs : s = 1 ∨ s = 2 ∨ s = 4 ∨ s = 8) (hk : k + s ≤ l.length) (hm : l.length ≤ 4611686018427387904) :
    RunF prog 71 [.slice (some a) l.length c, .int .i64 k, .int .i64 s] h fun v h' => v = .tuple #[.int .i64 (leGet l k s).1, .int .i64 (leGet l k s).2] ∧ h = h' := by
  obtain ⟨b, o, sp⟩ := a
  have hsp : sp = none := rd.1
  subst hsp
  have hs8 : s ≤ 8 := by omega
  refine RunF.walk func71 rfl rfl ?_
  refine RunC.seq (RunC.region (RunO.all rfl ?_))
  refine RunC.seq (RunC.block ?_)
  refine RunC.seq (RunC.region (RunO.part 1 rfl ?_))
  refine RunO.callD (leRight_ok hs) rfl rfl rfl ?_
  rintro _ _ ⟨rfl, rfl⟩
  refine RunO.all rfl ?_
  refine RunC.cond rfl (fun g => by cases g) (fun _ => ?_)
  refine RunC.seq (RunC.region (RunO.part 3 rfl ?_))
  refine RunO.callD (leWithin_ok hm hs8) rfl rfl rfl ?_
  rintro _ _ ⟨rfl, rfl⟩
  rw [decide_eq_true hk]
  refine RunO.all rfl ?_
  refine RunC.cond rfl (fun g => by cases g) (fun _ => ?_)
  refine RunC.skip ?_
  refine RunC.seq (RunC.region (RunO.all rfl ?_))
  refine RunC.seq (RunC.seq (RunC.region (RunO.all rfl ?_)))
  refine RunC.block ?_
  let I : Nat → Env → Heap → Prop := fun m E h' => ∃ i : Nat, i + m = s ∧ h = h' ∧ Le (upd (upd (upd (upd (upd E0 0 (.slice (some ⟨b, o, none⟩) l.length c)) 1 (.int .i64 k)) 8 (.int .u64 (leN ((l.drop k).take i)).toNat)) 20 (.int .i64 s)) 21 (.int .i64 i)) E
  refine RunC.loop I ?_ (k := s) ?_
  · rintro m E h' ⟨i, hi, rfl, hE⟩
    refine RunC.le hE ?_
    clear hE
    have hbi := leN_bound (hb.part k i)
    have hli : ((l.drop k).take i).length = i := by rw [List.length_take, List.length_drop]; omega
    rw [hli] at hbi
    refine RunC.seq (RunC.region (RunO.all rfl ?_))
    refine RunC.seq (RunC.cond rfl (fun hlt => ?_) (fun hge => ?_))
    · have hlt := of_decide_eq_true hlt
      have hlt2 : k + i < l.length := by omega
      refine RunC.skip ?_
      refine RunC.seq (RunC.block ?_)
      refine RunC.seq (RunC.region (RunO.all rfl ?_))
      refine RunC.region (RunO.part 5 rfl ?_)
      rw [fw64 (x := (k : Int) + i) (by omega) (by omega), show ((k : Int) + i) = ((k + i : Nat) : Int) by omega]
      refine RunO.index (s := 1) rfl rfl rfl rfl (by omega) rfl ?_
      refine RunO.load (v := .int .u8 l[k + i]) rfl (rd.cell1 (k := (k + i) * 1) rfl (by rw [Nat.mul_one]; exact us_nth hlt2)) rfl ?_
      obtain ⟨hx0, hx1⟩ := hb.get hlt2
      generalize hx : l[k + i] = x at *
      obtain ⟨y, rfl⟩ := Int.eq_ofNat_of_zero_le hx0
      refine RunO.part 3 rfl ?_
      rw [fwu64 (x := (y : Int)) (by omega) (by omega), fw64 (x := 8 * (i : Int)) (by omega) (by omega), show (8 * (i : Int)) = ((8 * i : Nat) : Int) by omega]
      have hp : (256 : Int) ^ i = ((2 ^ (8 * i) : Nat) : Int) := by
        rw [Nat.pow_mul, Int.natCast_pow]; rfl
      have hp2 : 2 ^ (8 * i) ≤ 2 ^ 56 := Nat.pow_le_pow_right (by decide) (by omega)
      have hy : y * 2 ^ (8 * i) ≤ 255 * 2 ^ 56 := Nat.mul_le_mul (by omega) hp2
      refine RunO.bin rfl rfl (shl64 (by omega) (by omega)) rfl ?_
      have hn : (leN ((l.drop k).take i)).toNat < 2 ^ (8 * i) := by omega
      refine RunO.bin rfl rfl (or64 (by omega) (by omega)) rfl ?_
      rw [or_add hn]
      refine RunO.all rfl ?_
      refine RunC.region (RunO.all rfl ?_)
      refine ⟨m - 1, by omega, i + 1, by omega, rfl, ?_⟩
      refine Le.cons ?_ (Le.cons rfl (Le.cons ?_ (Le.cons rfl (Le.cons rfl (Le.nil _)))))
      · show some (Value.int .i64 (fwrap .i64 ((i : Int) + 1))) = _
        rw [fw64 (by omega) (by omega)]; rfl
      · show some (Value.int .u64 (((leN ((l.drop k).take i)).toNat + y * 2 ^ (8 * i) : Nat) : Int)) = _
        congr 2
        rw [take_drop_snoc hlt2, leN_snoc, hx, hli, hp]
        have : (y : Int) * ((2 ^ (8 * i) : Nat) : Int) = ((y * 2 ^ (8 * i) : Nat) : Int) := by rw [Int.natCast_mul]
        rw [this]
        omega
    · have hge := of_decide_eq_false hge
      refine RunC.exit ?_
      have : i = s := by omega
      subst this
      have hb2 : (leN ((l.drop k).take i)) < 2 ^ 64 := by
        have e : (256 : Int) ^ i = ((2 ^ (8 * i) : Nat) : Int) := by rw [Nat.pow_mul, Int.natCast_pow]; rfl
        have hp2 : 2 ^ (8 * i) ≤ 2 ^ 64 := Nat.pow_le_pow_right (by decide) (by omega)
        rw [e] at hbi
        omega
      generalize hN : leN ((l.drop k).take i) = N at *
      obtain ⟨N, rfl⟩ := Int.eq_ofNat_of_zero_le hbi.1
      refine RunC.seq (RunC.seq (RunC.region (RunO.all rfl ?_)))
      have hle : leGet l k i = if (N : Int) > 4611686018427387903 then (0, 1) else ((N : Int), 0) := by unfold leGet; rw [hN]
      refine RunC.cond rfl (fun hc => ?_) (fun hc => ?_)
      · have hc : (N : Int) > 4611686018427387903 := of_decide_eq_true hc
        rw [if_pos hc] at hle
        rw [hle]
        exact RunC.seq (RunC.region (RunO.all rfl (RunC.ret ⟨_, rfl, rfl, rfl⟩)))
      · have hc : ¬ (N : Int) > 4611686018427387903 := of_decide_eq_false hc
        rw [if_neg hc] at hle
        rw [hle]
        refine RunC.skip ?_
        refine RunC.seq (RunC.region (RunO.all rfl (RunC.ret ⟨_, rfl, ?_, rfl⟩)))
        show Value.tuple #[.int .i64 (fwrap .i64 (N : Int)), _] = _
        rw [fw64 (by omega) (by omega)]
  · exact ⟨0, by omega, rfl, Le.cons rfl (Le.cons rfl (Le.cons rfl (Le.cons rfl (Le.cons rfl (Le.nil _)))))⟩
end Go.Proofs.Ytaaemamcdhebhaa
