/- BuildExact: a calculus over an abstract machine that stands beside the model, and contracts of functions by it (part 3).
Conditions: what each theorem says of its arguments. -/
import Derived.Test.YtdcggjkcbheolaaGBuildExact2
import Derived.Test.YtdcggjkcbheolaaProg
import Derived.KernelRfl
import Derived.ChangeArms
import Derived.OpenShut
import Derived.Deep.Slices
import Derived.WideShapes
import Derived.DataReads
section
set_option linter.unusedVariables false
set_option maxRecDepth 100000
open Go Go.Am
namespace Go.Proofs.Ytdcggjkcbheolaa
open Go.Proofs.Try
def us (l : List Int) : List Value := l.map (Value.int .u8)
theorem us_len (l : List Int) : (us l).length = l.length := List.length_map _
theorem us_get (l : List Int) (i : Nat) : (us l)[i]? = l[i]?.map (Value.int .u8) := List.getElem?_map
theorem us_nth {l : List Int} {i : Nat} (h : i < l.length) : nth (us l) i = some (.int .u8 l[i]) := by
  rw [nth_eq, us_get, List.getElem?_eq_getElem h]; rfl
/-- All are bytes. -/
def Byt (l : List Int) : Prop := ∀ x ∈ l, 0 ≤ x ∧ x < 256
theorem Byt.get {l : List Int} (h : Byt l) {i : Nat} (hi : i < l.length) : 0 ≤ l[i] ∧ l[i] < 256 := h _ (List.getElem_mem hi)
def leB : Nat → Int → List Int
  | 0, _ => []
  | n + 1, v => v % 256 :: leB n (v / 256)
theorem leB_len (n : Nat) : ∀ v, (leB n v).length = n := by
  induction n with
  | zero => intro v; rfl
  | succ n ih => intro v; rw [leB, List.length_cons, ih]
theorem leB_snoc (n : Nat) : ∀ v : Int, leB (n + 1) v = leB n v ++ [v / 256 ^ n % 256] := by
  induction n with
  | zero => intro v; simp [leB]
  | succ n ih =>
    intro v
    rw [leB, ih, leB, List.cons_append]
    congr 3
    rw [Int.pow_succ, Int.mul_comm, Int.ediv_ediv_of_nonneg (by omega)]
def leN : List Int → Int
  | [] => 0
  | x :: t => x + 256 * leN t
theorem leN_snoc : ∀ (l : List Int) (x : Int), leN (l ++ [x]) = leN l + x * 256 ^ l.length
  | [], x => by simp [leN]
  | y :: l, x => by
    simp only [List.cons_append, leN, leN_snoc l x, List.length_cons, Int.pow_succ]
    rw [Int.mul_add, ← Int.add_assoc, Int.mul_comm (256 ^ l.length) 256, ← Int.mul_assoc, ← Int.mul_assoc, Int.mul_comm x 256]
theorem leN_bound : ∀ {l : List Int}, Byt l → 0 ≤ leN l ∧ leN l < 256 ^ l.length
  | [], _ => by simp [leN]
  | x :: t, h => by
    have h1 := h x (List.mem_cons_self ..)
    have h2 := leN_bound (l := t) (fun y hy => h y (List.mem_cons_of_mem _ hy))
    rw [leN, List.length_cons, Int.pow_succ, Int.mul_comm (256 ^ t.length) 256]
    omega
/-- Cells laid over others. -/
def lay (cs : List Value) (o : Nat) (l : List Value) : List Value := cs.take o ++ l ++ cs.drop (o + l.length)
theorem lay_nil (cs : List Value) (o : Nat) : lay cs o [] = cs := by simp [lay]
theorem lay_len {cs : List Value} {o : Nat} {l : List Value} (h : o + l.length ≤ cs.length) : (lay cs o l).length = cs.length := by
  simp [lay]; omega
theorem lay_snoc {cs : List Value} {o : Nat} {l : List Value} {v : Value} (h : o + l.length < cs.length) : (lay cs o l).set (o + l.length) v = lay cs o (l ++ [v]) := by
  unfold lay
  have e : (cs.take o ++ l).length = o + l.length := by simp; omega
  rw [List.set_append_right _ _ (by omega), e, Nat.sub_self, List.drop_eq_getElem_cons h, List.set_cons_zero]
  simp [Nat.add_assoc]
/-- le.Set. -/
theorem leSet_ok {h : Heap} {b o len c k s : Nat} {v : Int} {cs : List Value} (ow : Ow h b cs) (hl : o + len ≤ cs.length) (hs : s ≤ 8) (hk : k + s ≤ len) (hm : cs.length ≤ 4611686018427387904) :
    RunF prog 119 [.slice (some ⟨b, o, none⟩) len c, .int .i64 k, .int .i64 s, .int .i64 v] h fun _ h' => Fr (· = b) h h' ∧ Ow h' b (lay cs (o + k) (us (leB s v))) := by
  refine RunF.walk func119 rfl rfl ?_
  refine RunC.seq (RunC.region (RunO.all rfl ?_))
  refine RunC.block ?_
  let I : Nat → Env → Heap → Prop := fun m E h' => ∃ i : Nat, i + m = s ∧ Fr (· = b) h h' ∧ Ow h' b (lay cs (o + k) (us (leB i v))) ∧ Le (upd (upd (upd (upd (upd E0 0 (.slice (some ⟨b, o, none⟩) len c)) 1 (.int .i64 k)) 3 (.int .i64 v)) 9 (.int .i64 s)) 10 (.int .i64 i)) E
  refine RunC.loop I ?_ (k := s) ?_
  · rintro m E h' ⟨i, hi, hf, ho, hE⟩
    refine RunC.le hE ?_
    clear hE
    refine RunC.seq (RunC.region (RunO.all rfl ?_))
    refine RunC.seq (RunC.cond rfl (fun hlt => ?_) (fun hge => ?_))
    · have hlt := of_decide_eq_true hlt
      refine RunC.skip ?_
      refine RunC.seq (RunC.block ?_)
      refine RunC.seq (RunC.region (RunO.all rfl ?_))
      refine RunC.region (RunO.part 7 rfl ?_)
      rw [fw64 (x := (k : Int) + i) (by omega) (by omega), fw64 (x := 8 * (i : Int)) (by omega) (by omega), show (8 * (i : Int)) = ((8 * i : Nat) : Int) by omega, show ((k : Int) + i) = ((k + i : Nat) : Int) by omega]
      refine RunO.bin rfl rfl (shr64 (by omega)) rfl ?_
      refine RunO.part 1 rfl ?_
      rw [fwu8]
      have hlen : (us (leB i v)).length = i := by rw [us_len, leB_len]
      have hc : (lay cs (o + k) (us (leB i v))).length = cs.length := lay_len (by omega)
      refine RunO.index (s := 1) rfl rfl rfl rfl (by omega) rfl ?_
      refine RunO.store rfl rfl (store1_ow ho rfl rfl rfl (by omega)) (RunO.nil ?_)
      refine RunC.region (RunO.all rfl ?_)
      refine ⟨m - 1, by omega, i + 1, by omega, hf.same (Fr.put _ (.inl rfl)), ?_, ?_⟩
      · have e : o + (k + i) * 1 = (o + k) + (us (leB i v)).length := by omega
        rw [e, lay_snoc (by omega), leB_snoc]
        have e2 : us (leB i v ++ [v / 256 ^ i % 256]) = us (leB i v) ++ [.int .u8 (v / 2 ^ (8 * i) % 256)] := by
          rw [Int.pow_mul]; simp [us]
        rw [e2]
        exact Ow.put _ ho.1
      · refine Le.cons ?_ (Le.cons rfl (Le.cons rfl (Le.cons rfl (Le.cons rfl (Le.nil _)))))
        show some (Value.int .i64 (fwrap .i64 ((i : Int) + 1))) = _
        rw [fw64 (by omega) (by omega)]; rfl
    · have hge := of_decide_eq_false hge
      refine RunC.exit ?_
      have : i = s := by omega
      subst this
      exact ⟨_, rfl, hf, ho⟩
  · exact ⟨0, by omega, Fr.refl _ _, by simpa [leB, us, lay_nil] using ow, Le.cons rfl (Le.cons rfl (Le.cons rfl (Le.cons rfl (Le.cons rfl (Le.nil _)))))⟩

/-- What le.Get tells of s bytes from k on. -/
def leGet (l : List Int) (k s : Nat) : Int × Int := if leN ((l.drop k).take s) > 4611686018427387903 then (0, 1) else (leN ((l.drop k).take s), 0)
theorem take_drop_snoc {α : Type} {l : List α} {k i : Nat} (h : k + i < l.length) : (l.drop k).take (i + 1) = (l.drop k).take i ++ [l[k + i]] := by
  rw [List.take_succ_eq_append_getElem (by rw [List.length_drop]; omega), List.getElem_drop]
theorem Byt.part {l : List Int} (h : Byt l) (k i : Nat) : Byt ((l.drop k).take i) := fun x hx => h x (List.mem_of_mem_drop (List.mem_of_mem_take hx))
theorem leRight_ok {h : Heap} {s : Nat} (hs : s = 1 ∨ s = 2 ∨ s = 4 ∨ s = 8) : RunF prog 151 [.int .i64 s] h fun v h' => v = .bool true ∧ h = h' := by
  refine RunF.walk func151 rfl rfl ?_
  rcases hs with rfl | rfl | rfl | rfl <;>
    exact RunC.seq (RunC.region (RunO.all rfl (RunC.seq (RunC.region (RunO.all rfl (RunC.ret ⟨_, rfl, rfl, rfl⟩))))))
theorem leWithin_ok {h : Heap} {a : Option Addr} {len c k s : Nat} (hm : len ≤ 4611686018427387904) (hs : s ≤ 8) : RunF prog 152 [.slice a len c, .int .i64 k, .int .i64 s] h fun v h' => v = .bool (decide (k + s ≤ len)) ∧ h = h' := by
  refine RunF.walk func152 rfl rfl ?_
  refine RunC.seq (RunC.region (RunO.all rfl ?_))
  refine RunC.seq (RunC.region (RunO.part 2 rfl ?_))
  rw [show decide ((k : Int) ≥ 0) = true from decide_eq_true (by omega)]
  refine RunO.part 6 rfl ?_
  rw [fw64 (by omega) (by omega)]
  refine RunO.all rfl ?_
  refine RunC.ret ⟨_, rfl, ?_, rfl⟩
  show Value.bool _ = _
  congr 1
  exact decide_eq_decide.2 (by omega)
theorem leGet_ok {h : Heap} {a : Addr} {c k s : Nat} {l : List Int} (rd : Rd h a (us l)) (hb : Byt l) (hs : s = 1 ∨ s = 2 ∨ s = 4 ∨ s = 8) (hk : k + s ≤ l.length) (hm : l.length ≤ 4611686018427387904) :
    RunF prog 148 [.slice (some a) l.length c, .int .i64 k, .int .i64 s] h fun v h' => v = .tuple #[.int .i64 (leGet l k s).1, .int .i64 (leGet l k s).2] ∧ h = h' := by
  obtain ⟨b, o, sp⟩ := a
  have hsp : sp = none := rd.1
  subst hsp
  have hs8 : s ≤ 8 := by omega
  refine RunF.walk func148 rfl rfl ?_
  refine RunC.seq (RunC.region (RunO.all rfl ?_))
  refine RunC.seq (RunC.block ?_)
  refine RunC.seq (RunC.region (RunO.part 1 rfl ?_))
  refine RunO.callD (leRight_ok hs) rfl rfl rfl ?_
  rintro _ _ ⟨rfl, rfl⟩
  refine RunO.all rfl ?_
  refine RunC.cond rfl (fun g => by cases g) (fun _ => ?_)
  refine RunC.seq (RunC.region (RunO.part 3 rfl ?_))
  refine RunO.callD (leWithin_ok hm hs8) rfl rfl rfl ?_
  rintro _ _ ⟨rfl, rfl⟩
  rw [decide_eq_true hk]
  refine RunO.all rfl ?_
  refine RunC.cond rfl (fun g => by cases g) (fun _ => ?_)
  refine RunC.skip ?_
  refine RunC.seq (RunC.region (RunO.all rfl ?_))
  refine RunC.seq (RunC.seq (RunC.region (RunO.all rfl ?_)))
  refine RunC.block ?_
  let I : Nat → Env → Heap → Prop := fun m E h' => ∃ i : Nat, i + m = s ∧ h = h' ∧ Le (upd (upd (upd (upd (upd E0 0 (.slice (some ⟨b, o, none⟩) l.length c)) 1 (.int .i64 k)) 8 (.int .u64 (leN ((l.drop k).take i)).toNat)) 20 (.int .i64 s)) 21 (.int .i64 i)) E
  refine RunC.loop I ?_ (k := s) ?_
  · rintro m E h' ⟨i, hi, rfl, hE⟩
    refine RunC.le hE ?_
    clear hE
    have hbi := leN_bound (hb.part k i)
    have hli : ((l.drop k).take i).length = i := by rw [List.length_take, List.length_drop]; omega
    rw [hli] at hbi
    refine RunC.seq (RunC.region (RunO.all rfl ?_))
    refine RunC.seq (RunC.cond rfl (fun hlt => ?_) (fun hge => ?_))
    · have hlt := of_decide_eq_true hlt
      have hlt2 : k + i < l.length := by omega
      refine RunC.skip ?_
      refine RunC.seq (RunC.block ?_)
      refine RunC.seq (RunC.region (RunO.all rfl ?_))
      refine RunC.region (RunO.part 5 rfl ?_)
      rw [fw64 (x := (k : Int) + i) (by omega) (by omega), show ((k : Int) + i) = ((k + i : Nat) : Int) by omega]
      refine RunO.index (s := 1) rfl rfl rfl rfl (by omega) rfl ?_
      refine RunO.load (v := .int .u8 l[k + i]) rfl (rd.cell1 (k := (k + i) * 1) rfl (by rw [Nat.mul_one]; exact us_nth hlt2)) rfl ?_
      obtain ⟨hx0, hx1⟩ := hb.get hlt2
      generalize hx : l[k + i] = x at *
      obtain ⟨y, rfl⟩ := Int.eq_ofNat_of_zero_le hx0
      refine RunO.part 3 rfl ?_
      rw [fwu64 (x := (y : Int)) (by omega) (by omega), fw64 (x := 8 * (i : Int)) (by omega) (by omega), show (8 * (i : Int)) = ((8 * i : Nat) : Int) by omega]
      have hp : (256 : Int) ^ i = ((2 ^ (8 * i) : Nat) : Int) := by
        rw [Nat.pow_mul, Int.natCast_pow]; rfl
      have hp2 : 2 ^ (8 * i) ≤ 2 ^ 56 := Nat.pow_le_pow_right (by decide) (by omega)
      have hy : y * 2 ^ (8 * i) ≤ 255 * 2 ^ 56 := Nat.mul_le_mul (by omega) hp2
      refine RunO.bin rfl rfl (shl64 (by omega) (by omega)) rfl ?_
      have hn : (leN ((l.drop k).take i)).toNat < 2 ^ (8 * i) := by omega
      refine RunO.bin rfl rfl (or64 (by omega) (by omega)) rfl ?_
      rw [or_add hn]
      refine RunO.all rfl ?_
      refine RunC.region (RunO.all rfl ?_)
      refine ⟨m - 1, by omega, i + 1, by omega, rfl, ?_⟩
      refine Le.cons ?_ (Le.cons rfl (Le.cons ?_ (Le.cons rfl (Le.cons rfl (Le.nil _)))))
      · show some (Value.int .i64 (fwrap .i64 ((i : Int) + 1))) = _
        rw [fw64 (by omega) (by omega)]; rfl
      · show some (Value.int .u64 (((leN ((l.drop k).take i)).toNat + y * 2 ^ (8 * i) : Nat) : Int)) = _
        congr 2
        rw [take_drop_snoc hlt2, leN_snoc, hx, hli, hp]
        have : (y : Int) * ((2 ^ (8 * i) : Nat) : Int) = ((y * 2 ^ (8 * i) : Nat) : Int) := by rw [Int.natCast_mul]
        rw [this]
        omega
    · have hge := of_decide_eq_false hge
      refine RunC.exit ?_
      have : i = s := by omega
      subst this
      have hb2 : (leN ((l.drop k).take i)) < 2 ^ 64 := by
        have e : (256 : Int) ^ i = ((2 ^ (8 * i) : Nat) : Int) := by rw [Nat.pow_mul, Int.natCast_pow]; rfl
        have hp2 : 2 ^ (8 * i) ≤ 2 ^ 64 := Nat.pow_le_pow_right (by decide) (by omega)
        rw [e] at hbi
        omega
      generalize hN : leN ((l.drop k).take i) = N at *
      obtain ⟨N, rfl⟩ := Int.eq_ofNat_of_zero_le hbi.1
      refine RunC.seq (RunC.seq (RunC.region (RunO.all rfl ?_)))
      have hle : leGet l k i = if (N : Int) > 4611686018427387903 then (0, 1) else ((N : Int), 0) := by unfold leGet; rw [hN]
      refine RunC.cond rfl (fun hc => ?_) (fun hc => ?_)
      · have hc : (N : Int) > 4611686018427387903 := of_decide_eq_true hc
        rw [if_pos hc] at hle
        rw [hle]
        exact RunC.seq (RunC.region (RunO.all rfl (RunC.ret ⟨_, rfl, rfl, rfl⟩)))
      · have hc : ¬ (N : Int) > 4611686018427387903 := of_decide_eq_false hc
        rw [if_neg hc] at hle
        rw [hle]
        refine RunC.skip ?_
        refine RunC.seq (RunC.region (RunO.all rfl (RunC.ret ⟨_, rfl, ?_, rfl⟩)))
        show Value.tuple #[.int .i64 (fwrap .i64 (N : Int)), _] = _
        rw [fw64 (by omega) (by omega)]
  · exact ⟨0, by omega, rfl, Le.cons rfl (Le.cons rfl (Le.cons rfl (Le.cons rfl (Le.cons rfl (Le.nil _)))))⟩
end Go.Proofs.Ytdcggjkcbheolaa
end
section
set_option linter.unusedVariables false
set_option maxRecDepth 100000
open Go Go.Am
namespace Go.Proofs.Ytdcggjkcbheolaa.Crc
/-- A word's number. -/
def nt (a : W) : Int := a.toNat
theorem nt0 (a : W) : 0 ≤ nt a := by unfold nt; omega
theorem nt1 (a : W) : nt a < 4294967296 := by have := a.isLt; unfold nt; omega
theorem nt_of (a : W) : BitVec.ofInt 32 (nt a) = a := by
  unfold nt; rw [BitVec.ofInt_natCast, BitVec.ofNat_toNat]; rfl
theorem nt_wrap (a : W) : IntKind.u32.wrap (nt a) = nt a := by
  rw [wrap_u32]; exact Int.emod_eq_of_lt (nt0 a) (nt1 a)
theorem nt_ofInt (x : Int) : nt (BitVec.ofInt 32 x) = x % 4294967296 := by
  unfold nt; rw [BitVec.toNat_ofInt]; omega
theorem xor32 (a b : W) : abin .xor .u32 (nt a) .u32 (nt b) = some (.int .u32 (nt (a ^^^ b))) := by
  show some (Value.int .u32 (IntKind.u32.wrap ((BitVec.ofInt 32 (nt a) ^^^ BitVec.ofInt 32 (nt b) : BitVec 32).toNat : Nat))) = _
  rw [nt_of, nt_of]
  exact congrArg (fun x => some (Value.int .u32 x)) (nt_wrap (a ^^^ b))
theorem and32 (a b : W) : abin .and .u32 (nt a) .u32 (nt b) = some (.int .u32 (nt (a &&& b))) := by
  show some (Value.int .u32 (IntKind.u32.wrap ((BitVec.ofInt 32 (nt a) &&& BitVec.ofInt 32 (nt b) : BitVec 32).toNat : Nat))) = _
  rw [nt_of, nt_of]
  exact congrArg (fun x => some (Value.int .u32 x)) (nt_wrap (a &&& b))
theorem not32 (a : W) : aunop .xor (.int .u32 (nt a)) = some (.int .u32 (nt (~~~ a))) := by
  have h := xor32 (BitVec.allOnes 32) a
  rw [BitVec.allOnes_xor] at h
  exact h
theorem half32 (a : W) : abin .shr .u32 (nt a) .u64 1 = some (.int .u32 (nt (a >>> 1))) := by
  show some (Value.int .u32 ((nt a).fdiv (2 ^ 1))) = _
  rw [Int.fdiv_eq_ediv_of_nonneg _ (by decide)]
  congr 2
theorem bit0 (a : W) : (nt (a &&& 1#32) == 1) = a.getLsbD 0 := by
  have h : (a &&& 1#32).toNat = a.toNat % 2 := by
    rw [BitVec.toNat_and]
    exact Nat.and_one_is_mod _
  unfold nt
  rw [h, BitVec.getLsbD, Nat.testBit_zero]
  rcases Nat.mod_two_eq_zero_or_one a.toNat with e | e <;> rw [e] <;> rfl
theorem Zn_succ (n : Nat) (v : W) : Zn (n + 1) v = Z (Zn n v) := Zn_add n 1 v
/-- The state behind bytes. -/
def st (l : List Int) (v : W) : W := l.foldl (fun s x => Zn 8 (s ^^^ BitVec.ofInt 32 x)) v
theorem st_snoc (l : List Int) (x : Int) (v : W) : st (l ++ [x]) v = Zn 8 (st l v ^^^ BitVec.ofInt 32 x) := by
  unfold st; rw [List.foldl_append]; rfl
/-- The sum of bytes, gone on from a sum. -/
def sum (a : Int) (l : List Int) : Int := nt (~~~ st l (~~~ BitVec.ofInt 32 a))
theorem sum0 (a : Int) (l : List Int) : 0 ≤ sum a l := nt0 _
theorem sum1 (a : Int) (l : List Int) : sum a l < 4294967296 := nt1 _
end Go.Proofs.Ytdcggjkcbheolaa.Crc
namespace Go.Proofs.Ytdcggjkcbheolaa
open Go.Proofs.Try Crc
theorem crcMore_ok {h : Heap} {a : Addr} {c : Nat} {s0 : Int} {l : List Int} (rd : Rd h a (us l)) (hm : l.length ≤ 4611686018427387904) :
    RunF prog 96 [.int .i64 s0, .slice (some a) l.length c] h fun v h' => v = .int .i64 (Crc.sum s0 l) ∧ h = h' := by
  obtain ⟨b, o, sp⟩ := a
  have hsp : sp = none := rd.1
  subst hsp
  refine RunF.walk func96 rfl rfl ?_
  refine RunC.seq (RunC.region (RunO.all rfl ?_))
  refine RunC.seq (RunC.region (RunO.part 3 rfl ?_))
  rw [fwu64', fwu32, show s0 % 18446744073709551616 % 4294967296 = nt (BitVec.ofInt 32 s0) by rw [nt_ofInt]; omega]
  unfold Crc.sum
  generalize BitVec.ofInt 32 s0 = v
  refine RunO.un rfl (not32 v) rfl ?_
  refine RunO.all rfl ?_
  refine RunC.seq (RunC.seq (RunC.region (RunO.all rfl ?_)))
  refine RunC.block ?_
  let I : Nat → Env → Heap → Prop := fun m E h' => ∃ i : Nat, i + m = l.length ∧ h = h' ∧ Le (upd (upd (upd (upd E0 5 (.int .u32 (nt (st (l.take i) (~~~ v))))) 13 (.slice (some ⟨b, o, none⟩) l.length c)) 14 (.int .i64 l.length)) 15 (.int .i64 i)) E
  refine RunC.loop I ?_ (k := l.length) ?_
  · rintro m E h' ⟨i, hi, rfl, hE⟩
    refine RunC.le hE ?_
    clear hE
    refine RunC.seq (RunC.region (RunO.all rfl ?_))
    refine RunC.seq (RunC.cond rfl (fun hlt => ?_) (fun hge => ?_))
    · have hlt := of_decide_eq_true hlt
      have hlt2 : i < l.length := by omega
      refine RunC.skip ?_
      refine RunC.seq (RunC.block ?_)
      refine RunC.seq (RunC.region ?_)
      refine RunO.index (s := 1) rfl rfl rfl rfl hlt2 rfl ?_
      refine RunO.load (v := .int .u8 l[i]) rfl (rd.cell1 (k := i * 1) rfl (by rw [Nat.mul_one]; exact us_nth hlt2)) rfl ?_
      refine RunO.all rfl ?_
      have hst : st (l.take (i + 1)) (~~~ v) = Zn 8 (st (l.take i) (~~~ v) ^^^ BitVec.ofInt 32 l[i]) := by rw [List.take_succ_eq_append_getElem hlt2, st_snoc]
      generalize l[i] = x at *
      generalize st (l.take i) (~~~ v) = s at *
      refine RunC.seq (RunC.region (RunO.part 3 rfl ?_))
      rw [fwu32, ← nt_ofInt]
      refine RunO.bin rfl rfl (xor32 _ _) rfl ?_
      refine RunO.all rfl ?_
      generalize s ^^^ BitVec.ofInt 32 x = y at *
      refine RunC.seq (RunC.region (RunO.all rfl ?_))
      refine RunC.block ?_
      let J : Nat → Env → Heap → Prop := fun m E h' => ∃ j : Nat, j + m = 8 ∧ h = h' ∧ Le (upd (upd (upd (upd (upd E0 5 (.int .u32 (nt (Zn j y)))) 13 (.slice (some ⟨b, o, none⟩) l.length c)) 14 (.int .i64 l.length)) 15 (.int .i64 i)) 23 (.int .i64 j)) E
      refine RunC.loop J ?_ (k := 8) ?_
      · rintro m2 E h' ⟨j, hj, rfl, hE⟩
        refine RunC.le hE ?_
        clear hE
        refine RunC.seq (RunC.region (RunO.all rfl ?_))
        refine RunC.seq (RunC.cond rfl (fun hlt => ?_) (fun hge => ?_))
        · have hlt := of_decide_eq_true hlt
          refine RunC.skip ?_
          have hz : Zn (j + 1) y = Z (Zn j y) := Zn_succ j y
          generalize Zn j y = u at *
          refine RunC.seq (RunC.block ?_)
          refine RunC.seq (RunC.region (RunO.part 1 rfl ?_))
          refine RunO.bin rfl rfl (and32 u 1#32) rfl ?_
          refine RunO.all rfl ?_
          refine RunC.seq (RunC.region (RunO.part 1 rfl ?_))
          refine RunO.bin rfl rfl (half32 u) rfl ?_
          refine RunO.all rfl ?_
          refine RunC.seq (RunC.region (RunO.all rfl ?_))
          refine RunC.cond rfl (fun hb => ?_) (fun hb => ?_)
          · rw [bit0] at hb
            refine RunC.region (RunO.part 1 rfl ?_)
            refine RunO.bin rfl rfl (xor32 (u >>> 1) poly) rfl ?_
            refine RunO.all rfl ?_
            refine RunC.region (RunO.all rfl ?_)
            refine ⟨m2 - 1, by omega, j + 1, by omega, rfl, ?_⟩
            have e : Zn (j + 1) y = (u >>> 1) ^^^ poly := by rw [hz]; unfold Z; rw [if_pos hb]
            rw [e]
            exact Le.cons (inc64 (by omega)) (Le.cons rfl (Le.cons rfl (Le.cons rfl (Le.cons rfl (Le.nil _)))))
          · rw [bit0] at hb
            refine RunC.skip ?_
            refine RunC.region (RunO.all rfl ?_)
            refine ⟨m2 - 1, by omega, j + 1, by omega, rfl, ?_⟩
            have e : Zn (j + 1) y = u >>> 1 := by rw [hz]; unfold Z; rw [if_neg (by rw [hb]; decide), BitVec.xor_zero]
            rw [e]
            exact Le.cons (inc64 (by omega)) (Le.cons rfl (Le.cons rfl (Le.cons rfl (Le.cons rfl (Le.nil _)))))
        · have hge := of_decide_eq_false hge
          refine RunC.exit ?_
          have : j = 8 := by omega
          subst this
          refine RunC.region (RunO.all rfl ?_)
          refine ⟨m - 1, by omega, i + 1, by omega, rfl, ?_⟩
          rw [hst]
          exact Le.cons (inc64 (by omega)) (Le.cons rfl (Le.cons rfl (Le.cons rfl (Le.nil _))))
      · exact ⟨0, by omega, rfl, Le.cons rfl (Le.cons rfl (Le.cons rfl (Le.cons rfl (Le.cons rfl (Le.nil _)))))⟩
    · have hge := of_decide_eq_false hge
      refine RunC.exit ?_
      have : i = l.length := by omega
      subst this
      rw [List.take_length]
      refine RunC.seq (RunC.region (RunO.part 1 rfl ?_))
      generalize st l (~~~ v) = s
      refine RunO.un rfl (not32 s) rfl ?_
      refine RunO.all rfl ?_
      refine RunC.ret ⟨_, rfl, ?_, rfl⟩
      show Value.int .i64 (fwrap .i64 (nt (~~~ s))) = _
      have h0 := nt0 (~~~ s)
      have h1 := nt1 (~~~ s)
      rw [fw64 (by omega) (by omega)]
  · exact ⟨0, by omega, rfl, Le.cons rfl (Le.cons rfl (Le.cons rfl (Le.cons rfl (Le.nil _))))⟩
theorem crcSum_ok {h : Heap} {a : Addr} {c : Nat} {l : List Int} (rd : Rd h a (us l)) (hm : l.length ≤ 4611686018427387904) :
    RunF prog 138 [.slice (some a) l.length c] h fun v h' => v = .int .i64 (Crc.sum 0 l) ∧ h = h' := by
  refine RunF.walk func138 rfl rfl ?_
  refine RunC.seq (RunC.region (RunO.all rfl ?_))
  refine RunC.seq (RunC.region (RunO.part 1 rfl ?_))
  refine RunO.callD (crcMore_ok rd hm) rfl rfl rfl ?_
  rintro _ _ ⟨rfl, rfl⟩
  exact RunO.all rfl (RunC.ret ⟨_, rfl, rfl, rfl⟩)
end Go.Proofs.Ytdcggjkcbheolaa
end
section
set_option linter.unusedVariables false
namespace Go.Am
open Go.RowKit
theorem unk_exc (c : Nat) : isUnk (exc c) = false := beqF (show 2 * c % 2 ≠ 1 by omega)
theorem unk_unkc (s : Nat) : isUnk (unkc s) = true := beqT (show (2 * s + 1) % 2 = 1 by omega)
/-- A capacity that fits. -/
def Cp (s len c : Nat) : Prop := (isUnk c = true ∧ half c = s) ∨ (isUnk c = false ∧ len ≤ half c)
theorem Cp.exc {s len c : Nat} (h : len ≤ c) : Cp s len (exc c) := .inr ⟨unk_exc c, by rw [half_exc]; exact h⟩
theorem Cp.unkc (s len : Nat) : Cp s len (unkc s) := .inl ⟨unk_unkc s, half_unkc s⟩
section
variable {P : Program} {n : Nat} {ops rest : List Oper} {E E1 : Env} {h h1 : Heap} {Q : Env → Heap → Prop}
theorem slice_pre {t e : TypeId} {b o len c s k : Nat} {ik : IntKind} (hu : P.underlying t = some (.slice e)) (hs : sizeOf P e = some s) (hc : Cp s len c) (hk : k ≤ len) :
    ∃ c', Cp s k c' ∧ aslice P t (.slice (some ⟨b, o, none⟩) len c) none (some (.int ik (k : Int))) none = some (.slice (some ⟨b, o, none⟩) k c') := by
  rcases hc with ⟨h1, h2⟩ | ⟨h1, h2⟩
  · refine ⟨c, .inl ⟨h1, h2⟩, ?_⟩
    have e2 : abounds len len none (some (.int ik (k : Int))) none = some (0, k, len) := by
      show (match cond (Nat.ble k len) (some k) none with | none => none | some h => some (0, h, len)) = _
      rw [Nat.ble_eq_true_of_le hk]; rfl
    simp only [aslice, hu, hs, h1, cond_true, h2, Nat.beq_refl, e2]
    simp [addrAdd]
  · have e2 : abounds len (half c) none (some (.int ik (k : Int))) none = some (0, k, half c) := by
      show (match cond (Nat.ble k (half c)) (some k) none with | none => none | some h => some (0, h, half c)) = _
      rw [Nat.ble_eq_true_of_le (by omega)]; rfl
    refine ⟨exc (half c), Cp.exc (by omega), ?_⟩
    simp only [aslice, hu, hs, h1, cond_false, e2]
    congr 2
    cases Nat.beq (half c) 0 <;> simp [addrAdd]
theorem RunO.slicePre {d : Tmp} {t ty e : TypeId} {x y : Operand} {pos : String} {after : Array Edge} {b o len c s k : Nat} {ik : IntKind}
    (hx : gE E x = some (.slice (some ⟨b, o, none⟩) len c)) (hy : gE E y = some (.int ik (k : Int))) (hu : P.underlying t = some (.slice e)) (hs : sizeOf P e = some s) (hc : Cp s len c) (hk : k ≤ len) (hd : Nat.ble (Nat.succ d) n = true)
    (r : ∀ c', Cp s k c' → RunO P n ops rest (upd E d (.slice (some ⟨b, o, none⟩) k c')) h Q) : RunO P n ops (⟨some d, .slice t x none (some y) none, ty, pos, after, none⟩ :: rest) E h Q := by
  obtain ⟨c', h1, h2⟩ := slice_pre (b := b) (o := o) (ik := ik) hu hs hc hk
  refine RunO.one rfl (v := .slice (some ⟨b, o, none⟩) k c') ?_ (by simp only [eput, hd, cond_true]) (r c' h1)
  simp only [eop, hx, hy, go, h2, pureR]

theorem slice_mid {t e : TypeId} {b o len c s k m : Nat} {ik jk : IntKind} (hu : P.underlying t = some (.slice e)) (hs : sizeOf P e = some s) (hc : Cp s len c) (hk : k < m) (hm : m ≤ len) :
    ∃ c', Cp s (m - k) c' ∧ aslice P t (.slice (some ⟨b, o, none⟩) len c) (some (.int ik (k : Int))) (some (.int jk (m : Int))) none = some (.slice (some ⟨b, o + k * s, none⟩) (m - k) c') := by
  have hkm : (match cond (Nat.ble k m) (some k) none with | none => none | some l => some (l, m, len)) = some (k, m, len) := by rw [Nat.ble_eq_true_of_le (by omega)]; rfl
  rcases hc with ⟨h1, h2⟩ | ⟨h1, h2⟩
  · refine ⟨c, .inl ⟨h1, h2⟩, ?_⟩
    have e2 : abounds len len (some (.int ik (k : Int))) (some (.int jk (m : Int))) none = some (k, m, len) := by
      show (match cond (Nat.ble m len) (some m) none with | none => none | some h => match cond (Nat.ble k h) (some k) none with | none => none | some l => some (l, h, len)) = _
      rw [Nat.ble_eq_true_of_le hm]; simp only [cond_true]; rw [Nat.ble_eq_true_of_le (by omega)]; rfl
    simp only [aslice, hu, hs, h1, cond_true, h2, Nat.beq_refl, e2]
    rfl
  · have e2 : abounds len (half c) (some (.int ik (k : Int))) (some (.int jk (m : Int))) none = some (k, m, half c) := by
      show (match cond (Nat.ble m (half c)) (some m) none with | none => none | some h => match cond (Nat.ble k h) (some k) none with | none => none | some l => some (l, h, half c)) = _
      rw [Nat.ble_eq_true_of_le (by omega)]; simp only [cond_true]; rw [Nat.ble_eq_true_of_le (by omega)]; rfl
    refine ⟨exc (half c - k), Cp.exc (by omega), ?_⟩
    simp only [aslice, hu, hs, h1, cond_false, e2, beqF (show half c ≠ k by omega)]
    rfl
theorem RunO.sliceMid {d : Tmp} {t ty e : TypeId} {x y z : Operand} {pos : String} {after : Array Edge} {b o len c s k m : Nat} {ik jk : IntKind}
    (hx : gE E x = some (.slice (some ⟨b, o, none⟩) len c)) (hy : gE E y = some (.int ik (k : Int))) (hz : gE E z = some (.int jk (m : Int))) (hu : P.underlying t = some (.slice e)) (hs : sizeOf P e = some s) (hc : Cp s len c) (hk : k < m) (hm : m ≤ len) (hd : Nat.ble (Nat.succ d) n = true)
    (r : ∀ c', Cp s (m - k) c' → RunO P n ops rest (upd E d (.slice (some ⟨b, o + k * s, none⟩) (m - k) c')) h Q) : RunO P n ops (⟨some d, .slice t x (some y) (some z) none, ty, pos, after, none⟩ :: rest) E h Q := by
  obtain ⟨c', h1, h2⟩ := slice_mid (b := b) (o := o) (ik := ik) (jk := jk) hu hs hc hk hm
  refine RunO.one rfl (v := .slice (some ⟨b, o + k * s, none⟩) (m - k) c') ?_ (by simp only [eput, hd, cond_true]) (r c' h1)
  simp only [eop, hx, hy, hz, go, h2, pureR]
theorem RunO.indexA {d : Tmp} {t ty : TypeId} {x i : Operand} {pos : String} {after : Array Edge} {gd : Option (Nat × Bool)} {b o len s k : Nat} {ik : IntKind} {e : TypeId}
    (hw : ewanted ops E ⟨some d, .indexAddr t x i, ty, pos, after, gd⟩ = some true) (hx : gE E x = some (.pointer (some ⟨b, o, none⟩))) (hi : gE E i = some (.int ik (k : Int))) (hu : P.underlying t = some (.array len e)) (hs : sizeOf P e = some s) (hk : k < len) (hd : Nat.ble (Nat.succ d) n = true)
    (r : RunO P n ops rest (upd E d (.pointer (some ⟨b, o + k * s, none⟩))) h Q) : RunO P n ops (⟨some d, .indexAddr t x i, ty, pos, after, gd⟩ :: rest) E h Q := by
  refine RunO.oneG hw (v := .pointer (some ⟨b, o + k * s, none⟩)) ?_ (by simp only [eput, hd, cond_true]) r
  have hi : gE E i = some (.int ik (.ofNat k)) := hi
  simp only [eop, hx, hi, aindexAddr, hu, hs, Nat.ble_eq_true_of_le (show Nat.succ k ≤ len from hk), cond_true]
  rfl
/-- A growing row, of its own, in a block from lo on: n elements of s cells. -/
def Row (lo : Nat) (h : Heap) (v : Value) (s n : Nat) (cells : List Value) : Prop :=
  cells.length = n * s ∧ ((v = .slice none 0 0 ∧ n = 0) ∨ ∃ b, lo ≤ b ∧ v = .slice (some ⟨b, 0, none⟩) n (unkc s) ∧ Ow h b cells)
theorem Row.nil (lo : Nat) (h : Heap) (s : Nat) : Row lo h (.slice none 0 0) s 0 [] := ⟨by simp, .inl ⟨rfl, rfl⟩⟩
theorem Row.fr {lo : Nat} {h h' : Heap} {v : Value} {s n : Nat} {cells : List Value} {m : Nat → Prop} (r : Row lo h v s n cells) (f : Fr m h h') (hm : ∀ b, lo ≤ b → b < h.next → ¬ m b) : Row lo h' v s n cells := by
  refine ⟨r.1, r.2.imp (fun x => x) ?_⟩
  rintro ⟨b, h1, h2, h3⟩
  exact ⟨b, h1, h2, h3.fr f (hm b h1 h3.1)⟩
/-- A slice at a block's front. -/
def At (v : Value) (b : Nat) : Prop := ∃ n c, v = .slice (some ⟨b, 0, none⟩) n c
theorem Row.at {lo : Nat} {h : Heap} {v : Value} {s n b : Nat} {cells : List Value} (r : Row lo h v s n cells) (a : At v b) : lo ≤ b ∧ b < h.next := by
  obtain ⟨m, c, rfl⟩ := a
  rcases r.2 with ⟨e, _⟩ | ⟨b', h1, h2, h3⟩
  · cases e
  · cases h2; exact ⟨h1, h3.1⟩
theorem abuiltin_app {P : Program} {h : Heap} {t t2 : TypeId} {x y : Value} {r : Value × Heap} (e : aappend P h t t2 x y = some r) : abuiltin P .append [t, t2] [x, y] h = some r := by
  simp only [abuiltin, e]
theorem append_row {t e : TypeId} {i : TypeInfo} {z : Value} {lo s k m c' : Nat} {xv : Value} {cells news : List Value} {a : Addr}
    (hu : P.underlying t = some (.slice e)) (hi : P.info? e = some i) (hz : zeroOf P e = some z) (hlz : lenIs (cellsOf z) i.size = true) (hs : i.size = s) (hs1 : 1 ≤ s) (row : Row lo h xv s k cells) (hlo : lo ≤ h.next)
    (rd : Rd h a news) (hn : news.length = m * s) (hm : 1 ≤ m) (ha : allCells news = true) (hb : 2 * (k + m) * i.bytes ≤ 281474976710656) (hb2 : k + m ≤ 9223372036854775807) :
    ∃ v' h', aappend P h t t xv (.slice (some a) m c') = some (v', h') ∧ Row lo h' v' s (k + m) (cells ++ news) ∧ Fr (At xv) h h' := by
  subst hs
  obtain ⟨hl, row⟩ := row
  obtain ⟨m, rfl⟩ : ∃ j, m = j + 1 := ⟨m - 1, by omega⟩
  have hr : asrc h i.size (.slice (some a) (m + 1) c') = some (m + 1, news) := by
    have hq : aread h a (Nat.mul (m + 1) i.size) = some (news.take ((m + 1) * i.size)) := rd.read0 (m := (m + 1) * i.size) (by omega)
    simp only [asrc, hq]
    rw [List.take_of_length_le (by omega)]
  rcases row with ⟨rfl, rfl⟩ | ⟨b, hb1, rfl, ow⟩
  · have hc : cells = [] := List.eq_nil_of_length_eq_zero (by omega)
    subst hc
    refine ⟨.slice (some ⟨h.next, 0, none⟩) (m + 1) (unkc i.size), h.push ⟨news, true⟩, ?_, ⟨by simp; omega, .inr ⟨h.next, hlo, by simp, Ow.push _ _⟩⟩, Fr.push _ _ _⟩
    have e1 : Nat.ble (Nat.mul (Nat.mul 2 (Nat.succ m)) i.bytes) 281474976710656 = true := Nat.ble_eq_true_of_le (by simpa using hb)
    have e2 : Nat.ble (Nat.succ m) 9223372036854775807 = true := Nat.ble_eq_true_of_le (by simpa using hb2)
    simp only [aappend, hu, Nat.beq_refl, cond_true, hi, hz, hlz, Nat.ble_eq_true_of_le hs1, hr, e1, e2]
  · refine ⟨.slice (some ⟨h.next, 0, none⟩) (k + (m + 1)) (unkc i.size), (h.put b none).push ⟨cells ++ news, true⟩, ?_, ⟨by rw [List.length_append, hl, hn, ← Nat.add_mul], .inr ⟨h.next, hlo, rfl, Ow.push _ _⟩⟩, (Fr.put none (.inl ⟨_, _, rfl⟩)).same (Fr.push _ _ _)⟩
    have e1 : Nat.ble (Nat.mul (Nat.mul 2 (Nat.add k (Nat.succ m))) i.bytes) 281474976710656 = true := Nat.ble_eq_true_of_le hb
    have e2 : Nat.ble (Nat.add k (Nat.succ m)) 9223372036854775807 = true := Nat.ble_eq_true_of_le hb2
    have e3 : aread h ⟨b, 0, none⟩ (Nat.mul k i.size) = some cells := by
      have := ow.all.read0 (m := k * i.size) (by omega)
      rw [List.take_of_length_le (by omega)] at this
      exact this
    have e4 : lenIs cells (Nat.add 0 (Nat.mul k i.size)) = true := (lenIs_iff _ _).2 (by show _ = 0 + k * i.size; omega)
    simp only [aappend, hu, Nat.beq_refl, cond_true, hi, hz, hlz, Nat.ble_eq_true_of_le hs1, hr, e1, e2, e3, unk_unkc, half_unkc, ow.2, e4, ha]
    rfl
theorem RunO.append {d : Tmp} {t ty e : TypeId} {x y : Operand} {pos : String} {after : Array Edge} {i : TypeInfo} {z : Value} {lo s k m c' : Nat} {xv : Value} {cells news : List Value} {a : Addr}
    (hx : gE E x = some xv) (hy : gE E y = some (.slice (some a) m c')) (hd : Nat.ble (Nat.succ d) n = true)
    (hu : P.underlying t = some (.slice e)) (hi : P.info? e = some i) (hz : zeroOf P e = some z) (hlz : lenIs (cellsOf z) i.size = true) (hs : i.size = s) (hs1 : 1 ≤ s) (row : Row lo h xv s k cells) (hlo : lo ≤ h.next)
    (rd : Rd h a news) (hn : news.length = m * s) (hm : 1 ≤ m) (ha : allCells news = true) (hb : 2 * (k + m) * i.bytes ≤ 281474976710656) (hb2 : k + m ≤ 9223372036854775807)
    (r : ∀ v' h', Row lo h' v' s (k + m) (cells ++ news) → Fr (At xv) h h' → RunO P n ops rest (upd E d v') h' Q) : RunO P n ops (⟨some d, .call ⟨.builtin .append, #[x, y], #[t, t]⟩, ty, pos, after, none⟩ :: rest) E h Q := by
  obtain ⟨v', h', h1, h2, h3⟩ := append_row (c' := c') hu hi hz hlz hs hs1 row hlo rd hn hm ha hb hb2
  refine RunO.one rfl (v := v') (h1 := h') ?_ (by simp only [eput, hd, cond_true]) (r v' h' h2 h3)
  simp only [eop, gs, hx, hy, abuiltin, h1]
/-- A string copied to the front of a row of one's own. -/
theorem copy_str {t e : TypeId} {b len c : Nat} {m : ByteArray} {cs : List Value} (hu : P.underlying t = some (.slice e)) (hs : sizeOf P e = some 1) (ow : Ow h b cs) (hm : 1 ≤ m.data.toList.length) (hl : m.data.toList.length ≤ len) (hc : m.data.toList.length ≤ cs.length) :
    acopy P h t (.slice (some ⟨b, 0, none⟩) len c) (.string m) = some (goInt m.data.toList.length, h.put b (some ⟨strCells m ++ cs.drop m.data.toList.length, true⟩)) := by
  have hk : (strCells m).length = m.data.toList.length := List.length_map _
  obtain ⟨k, hk2⟩ : ∃ k, m.data.toList.length = k + 1 := ⟨m.data.toList.length - 1, by omega⟩
  have e1 : Nat.min m.data.toList.length len = k + 1 := by rw [← hk2]; exact Nat.min_eq_left hl
  have e2 : takeN (Nat.succ k) (strCells m) = some (strCells m) := by
    rw [takeN_eq, if_pos (by omega), List.take_of_length_le (by omega)]
  have e3 : allCells (strCells m) = true := by
    unfold strCells
    generalize m.data.toList = l
    induction l with
    | nil => rfl
    | cons x l ih => exact ih
  have e4 := storeL_ow (off := 0) ow e3 (by omega)
  simp only [acopy, hu, hs, e1, e2, e4]
  rw [hk, hk2]
  simp
end
end Go.Am
end
section
set_option linter.unusedVariables false
set_option maxRecDepth 100000
open Go Go.Am
namespace Go.Proofs.Ytdcggjkcbheolaa
open Go.Proofs.Try
/-- le.Zeros: are all of from .. to 0? -/
def zerosN (l : List Int) (k m : Nat) : Bool := ((l.drop k).take (m - k)).all (· == 0)
theorem frNo {h h' : Heap} (f : Fr (fun b => h.next ≤ b) h h') : Fr no h h' := f.weak (fun _ g => .inr g)
theorem leZeros_ok {h : Heap} {a : Addr} {c k m : Nat} {l : List Int} (rd : Rd h a (us l)) (hk : m ≤ l.length) (hm : l.length ≤ 4611686018427387904) (hkm : k ≤ 4611686018427387904) :
    RunF prog 149 [.slice (some a) l.length c, .int .i64 k, .int .i64 m] h fun v h' => v = .bool (zerosN l k m) ∧ h = h' := by
  obtain ⟨b, o, sp⟩ := a
  have hsp : sp = none := rd.1
  subst hsp
  refine RunF.walk func149 rfl rfl ?_
  refine RunC.seq (RunC.region (RunO.all rfl ?_))
  refine RunC.seq (RunC.seq (RunC.region (RunO.all rfl ?_)))
  rw [show (cond (decide ((0 : Int) > (k : Int))) 0 (k : Int)) = (k : Int) by rw [decide_eq_false (by omega)]; rfl]
  refine RunC.block ?_
  let I : Nat → Env → Heap → Prop := fun d E h' => ∃ i : Nat, i + d = max k m ∧ k ≤ i ∧ ((l.drop k).take (i - k)).all (· == 0) = true ∧ h = h' ∧ Le (upd (upd (upd E0 0 (.slice (some ⟨b, o, none⟩) l.length c)) 2 (.int .i64 m)) 7 (.int .i64 i)) E
  refine RunC.loop I ?_ (k := max k m - k) ?_
  · rintro d E h' ⟨i, hi, hki, hall, rfl, hE⟩
    refine RunC.le hE ?_
    clear hE
    refine RunC.seq (RunC.seq (RunC.region (RunO.part 4 rfl ?_)))
    refine RunO.one (v := .int .i64 m) (E1 := upd _ 14 (.int .i64 m)) (h1 := h) rfl ?_ rfl ?_
    · show some (Value.int .i64 (cond (decide ((l.length : Int) < (m : Int))) (l.length : Int) (m : Int)), h) = _
      rw [decide_eq_false (by omega)]; rfl
    refine RunO.all rfl ?_
    refine RunC.cond rfl (fun hlt => ?_) (fun hge => ?_)
    · have hlt := of_decide_eq_true hlt
      have hlt2 : i < l.length := by omega
      refine RunC.skip ?_
      refine RunC.seq (RunC.block ?_)
      refine RunC.seq (RunC.region (RunO.part 2 rfl ?_))
      refine RunO.index (s := 1) rfl rfl rfl rfl hlt2 rfl ?_
      refine RunO.load (v := .int .u8 l[i]) rfl (rd.cell1 (k := i * 1) rfl (by rw [Nat.mul_one]; exact us_nth hlt2)) rfl ?_
      refine RunO.all rfl ?_
      have hx : ((l.drop k).take (i + 1 - k)) = ((l.drop k).take (i - k)) ++ [l[i]] := by
        have e := take_drop_snoc (l := l) (k := k) (i := i - k) (by omega)
        rw [show i + 1 - k = i - k + 1 by omega, e]
        congr 3
        omega
      refine RunC.cond rfl (fun hb => ?_) (fun hb => ?_)
      · have hz : zerosN l k m = false := by
          unfold zerosN
          have hin : l[i] ∈ (l.drop k).take (m - k) := by
            rw [List.mem_iff_getElem?]
            refine ⟨i - k, ?_⟩
            rw [List.getElem?_take, if_pos (by omega), List.getElem?_drop, show k + (i - k) = i by omega, List.getElem?_eq_getElem hlt2]
          rw [List.all_eq_false]
          refine ⟨_, hin, ?_⟩
          simpa using hb
        rw [hz]
        exact RunC.seq (RunC.region (RunO.all rfl (RunC.ret ⟨_, rfl, rfl, rfl⟩)))
      · refine RunC.skip ?_
        refine RunC.region (RunO.all rfl ?_)
        refine ⟨d - 1, by omega, i + 1, by omega, by omega, ?_, rfl, ?_⟩
        · rw [hx, List.all_append, hall]
          have : l[i] = 0 := by simpa using hb
          rw [this]; rfl
        · exact Le.cons (inc64 (by omega)) (Le.cons rfl (Le.cons rfl (Le.nil _)))
    · have hge := of_decide_eq_false hge
      refine RunC.exit ?_
      have hz : zerosN l k m = true := by
        unfold zerosN
        by_cases hkm2 : k ≤ m
        · have : i = m := by omega
          rw [← this]; exact hall
        · rw [show m - k = 0 by omega]; rfl
      rw [hz]
      exact RunC.seq (RunC.region (RunO.all rfl (RunC.ret ⟨_, rfl, rfl, rfl⟩)))
  · exact ⟨k, by omega, by omega, by simp, rfl, Le.cons rfl (Le.cons rfl (Le.cons rfl (Le.nil _)))⟩
/-- Do bytes end with the sum of those ahead? -/
def goodB (l : List Int) : Bool := (leGet l (l.length - 4) 4).1 == Crc.sum 0 (l.take (l.length - 4))
theorem rdTake {h : Heap} {a : Addr} {l : List Int} (rd : Rd h a (us l)) (k : Nat) : Rd h a (us (l.take k)) := by
  obtain ⟨h1, h2, o, ho, he⟩ := rd
  refine ⟨h1, h2, o, ho, ?_⟩
  have e : us (l.take k) = (us l).take k := List.map_take
  rw [e, List.length_take, ← List.take_take, he]
theorem crcGood_ok {h : Heap} {a : Addr} {c : Nat} {l : List Int} (rd : Rd h a (us l)) (hb : Byt l) (hl : 4 ≤ l.length) (hm : l.length ≤ 4611686018427387904) (hc : Cp 1 l.length c) :
    RunF prog 147 [.slice (some a) l.length c] h fun v h' => v = .bool (goodB l) ∧ h = h' := by
  obtain ⟨b, o, sp⟩ := a
  have hsp : sp = none := rd.1
  subst hsp
  refine RunF.walk func147 rfl rfl ?_
  refine RunC.seq (RunC.region (RunO.all rfl ?_))
  refine RunC.seq (RunC.region (RunO.all rfl ?_))
  rw [fw64 (by omega) (by omega), show (l.length : Int) - 4 = ((l.length - 4 : Nat) : Int) by omega]
  refine RunC.seq (RunC.seq (RunC.region (RunO.all rfl ?_)))
  rw [show decide (((l.length - 4 : Nat) : Int) < 0) = false from decide_eq_false (by omega)]
  refine RunC.cond rfl (fun g => by cases g) (fun _ => RunC.skip ?_)
  refine RunC.seq (RunC.region (RunO.part 2 rfl ?_))
  refine RunO.callD (leGet_ok (s := 4) rd hb (by omega) (by omega) hm) rfl rfl rfl ?_
  rintro _ _ ⟨rfl, rfl⟩
  refine RunO.all rfl ?_
  refine RunC.seq (RunC.region (RunO.part 3 rfl ?_))
  refine RunO.slicePre (s := 1) rfl rfl rfl rfl hc (by omega) rfl ?_
  intro c' hc'
  have hll : (l.take (l.length - 4)).length = l.length - 4 := by rw [List.length_take]; omega
  have hs := crcSum_ok (c := c') (rdTake rd (l.length - 4)) (by omega)
  rw [hll] at hs
  refine RunO.callD hs rfl rfl rfl ?_
  rintro _ _ ⟨rfl, rfl⟩
  exact RunO.all rfl (RunC.ret ⟨_, rfl, rfl, rfl⟩)
/-- The sum of all but the last four put there. -/
theorem crcSeal_ok {h : Heap} {b c : Nat} {l : List Int} (ow : Ow h b (us l)) (hl : 4 ≤ l.length) (hm : l.length ≤ 4611686018427387904) (hc : Cp 1 l.length c) :
    RunF prog 120 [.slice (some ⟨b, 0, none⟩) l.length c] h fun v h' => Fr (· = b) h h' ∧ Ow h' b (us (l.take (l.length - 4) ++ leB 4 (Crc.sum 0 (l.take (l.length - 4))))) := by
  refine RunF.walk func120 rfl rfl ?_
  refine RunC.seq (RunC.region (RunO.all rfl ?_))
  rw [fw64 (by omega) (by omega), show (l.length : Int) - 4 = ((l.length - 4 : Nat) : Int) by omega]
  refine RunC.region (RunO.part 4 rfl ?_)
  refine RunO.slicePre (s := 1) rfl rfl rfl rfl hc (by omega) rfl ?_
  intro c' hc'
  have hll : (l.take (l.length - 4)).length = l.length - 4 := by rw [List.length_take]; omega
  have hs := crcSum_ok (c := c') (rdTake ow.all (l.length - 4)) (by omega)
  rw [hll] at hs
  refine RunO.callD hs rfl rfl rfl ?_
  rintro _ _ ⟨rfl, rfl⟩
  have hset := leSet_ok (o := 0) (c := c) (len := l.length) (k := l.length - 4) (s := 4) (v := Crc.sum 0 (l.take (l.length - 4))) ow (by rw [us_len]; omega) (by omega) (by omega) (by rw [us_len]; exact hm)
  refine RunO.callD hset rfl rfl rfl ?_
  rintro v h' ⟨hf, ho⟩
  refine RunO.nil ⟨_, rfl, hf, ?_⟩
  have e : lay (us l) (0 + (l.length - 4)) (us (leB 4 (Crc.sum 0 (l.take (l.length - 4))))) = us (l.take (l.length - 4) ++ leB 4 (Crc.sum 0 (l.take (l.length - 4)))) := by
    unfold lay us
    rw [List.length_map, leB_len, List.map_append, ← List.map_take, List.drop_of_length_le (by simp; omega), List.append_nil, Nat.zero_add]
  rw [← e]; exact ho
end Go.Proofs.Ytdcggjkcbheolaa
end
section
set_option linter.unusedVariables false
set_option maxRecDepth 100000
open Go Go.Am
namespace Go.Proofs.Ytdcggjkcbheolaa
open Go.Proofs.Try
def ns (l : List Nat) : List Value := l.map (fun n => Value.int .i64 (n : Nat))
def is (l : List Int) : List Value := l.map (Value.int .i64)
theorem is_len (l : List Int) : (is l).length = l.length := List.length_map _
theorem ns_nth {l : List Nat} {i : Nat} (h : i < l.length) : nth (ns l) i = some (.int .i64 (l[i] : Nat)) := by
  rw [nth_eq, ns, List.getElem?_map, List.getElem?_eq_getElem h]; rfl
theorem is_nth {l : List Int} {i : Nat} (h : i < l.length) : nth (is l) i = some (.int .i64 l[i]) := by
  rw [nth_eq, is, List.getElem?_map, List.getElem?_eq_getElem h]; rfl
/-- Fields side by side from a place on. -/
def layF : Nat → List Nat → List (Nat × Nat)
  | _, [] => []
  | a, s :: t => (a, s) :: layF (a + s) t
theorem layF_snoc : ∀ (l : List Nat) (a x : Nat), layF a (l ++ [x]) = layF a l ++ [(a + l.sum, x)]
  | [], a, x => by simp [layF]
  | s :: t, a, x => by simp only [List.cons_append, layF, layF_snoc t, List.sum_cons, Nat.add_assoc]
def fcs : List (Nat × Nat) → List Value
  | [] => []
  | (a, s) :: t => .int .i64 (a : Nat) :: .int .i64 (s : Nat) :: fcs t
theorem fcs_snoc : ∀ (l : List (Nat × Nat)) (a s : Nat), fcs (l ++ [(a, s)]) = fcs l ++ [.int .i64 (a : Nat), .int .i64 (s : Nat)]
  | [], a, s => rfl
  | (b, t) :: l, a, s => by simp only [List.cons_append, fcs, fcs_snoc l]
theorem fcs_drop : ∀ (l : List (Nat × Nat)) (i : Nat) (h : i < l.length), (fcs l).drop (2 * i) = .int .i64 (l[i].1 : Nat) :: .int .i64 (l[i].2 : Nat) :: fcs (l.drop (i + 1))
  | [], i, h => absurd h (by simp)
  | (a, s) :: t, 0, h => by simp [fcs]
  | (a, s) :: t, i + 1, h => by
    have h' : i < t.length := by simpa using h
    rw [show 2 * (i + 1) = 2 * i + 1 + 1 by omega]
    simp only [fcs, List.drop_succ_cons, fcs_drop t i h', List.getElem_cons_succ]
theorem sum_le {l : List Nat} (h : ∀ x ∈ l, x ≤ 8) : l.sum ≤ 8 * l.length := by
  induction l with
  | nil => simp
  | cons x t ih =>
    have h1 := h x (List.mem_cons_self ..)
    have h2 := ih (fun y hy => h y (List.mem_cons_of_mem _ hy))
    simp only [List.sum_cons, List.length_cons]; omega
theorem superLayout_ok {h : Heap} {a : Addr} {c : Nat} {ss : List Nat} (rd : Rd h a (ns ss)) (hs : ∀ x ∈ ss, x ≤ 8) (hl : ss.length ≤ 1000) :
    RunF prog 121 [.slice (some a) ss.length c] h fun v h' => Row h.next h' v 2 ss.length (fcs (layF 4 ss)) ∧ Fr no h h' := by
  obtain ⟨b, o, sp⟩ := a
  have hsp : sp = none := rd.1
  subst hsp
  refine RunF.walk func121 rfl rfl ?_
  refine RunC.seq (RunC.region (RunO.all rfl ?_))
  refine RunC.seq (RunC.region (RunO.all rfl ?_))
  refine RunC.seq (RunC.region (RunO.all rfl ?_))
  refine RunC.seq (RunC.seq (RunC.region (RunO.all rfl ?_)))
  refine RunC.block ?_
  let I : Nat → Env → Heap → Prop := fun d E h' => ∃ (i : Nat) (v : Value), i + d = ss.length ∧ Row h.next h' v 2 i (fcs (layF 4 (ss.take i))) ∧ Fr (fun b => h.next ≤ b) h h' ∧ Le (upd (upd (upd (upd (upd E0 3 v) 4 (.int .i64 (4 + (ss.take i).sum : Nat))) 7 (.slice (some ⟨b, o, none⟩) ss.length c)) 8 (.int .i64 ss.length)) 9 (.int .i64 i)) E
  refine RunC.loop I ?_ (k := ss.length) ?_
  · rintro d E h' ⟨i, v, hi, hrow, hf, hE⟩
    refine RunC.le hE ?_
    clear hE
    have hsum : (ss.take i).sum ≤ 8 * 1000 := by
      have := sum_le (l := ss.take i) (fun x hx => hs x (List.mem_of_mem_take hx))
      rw [List.length_take] at this; omega
    refine RunC.seq (RunC.region (RunO.all rfl ?_))
    refine RunC.seq (RunC.cond rfl (fun hlt => ?_) (fun hge => ?_))
    · have hlt := of_decide_eq_true hlt
      have hlt2 : i < ss.length := by omega
      refine RunC.skip ?_
      refine RunC.seq (RunC.block ?_)
      refine RunC.seq (RunC.region ?_)
      refine RunO.index (s := 1) rfl rfl rfl rfl hlt2 rfl ?_
      refine RunO.load (v := .int .i64 (ss[i] : Nat)) rfl ((rd.fr hf (by have := rd.2.1; simp only at *; omega)).cell1 (k := i * 1) rfl (by rw [Nat.mul_one]; exact ns_nth hlt2)) rfl ?_
      refine RunO.all rfl ?_
      have hx := hs _ (List.getElem_mem hlt2)
      have htk := List.take_succ_eq_append_getElem hlt2
      generalize ss[i] = x at *
      refine RunC.seq (RunC.region (RunO.part 5 (h1 := h'.push ⟨[.int .i64 (4 + (ss.take i).sum : Nat), .int .i64 (x : Nat)], true⟩) rfl ?_))
      refine RunO.append (s := 2) (lo := h.next) rfl rfl rfl rfl rfl rfl rfl rfl (by decide) (hrow.fr (Fr.push no _ _) (fun _ _ _ g => g)) (Nat.le_trans hf.next (Nat.le_succ _)) (Ow.push _ _).all rfl (by decide) rfl (by show 2 * (i + 1) * 16 ≤ _; omega) (by omega) ?_
      intro v' h2 hrow2 hf2
      refine RunO.all rfl ?_
      refine RunC.region (RunO.all rfl ?_)
      refine RunC.region (RunO.all rfl ?_)
      refine ⟨d - 1, by omega, i + 1, v', by omega, ?_, ?_, ?_⟩
      · rw [htk, layF_snoc, fcs_snoc]; exact hrow2
      · exact (hf.same (Fr.push _ _ _)).trans hf2 (fun b hb => .inl (hrow.at hb).1)
      · refine Le.cons (inc64 (by omega)) (Le.cons rfl (Le.cons rfl (Le.cons ?_ (Le.cons rfl (Le.nil _)))))
        show some (Value.int .i64 (fwrap .i64 (((4 + (ss.take i).sum : Nat) : Int) + (x : Int)))) = _
        rw [fw64 (by omega) (by omega), htk, List.sum_append]
        simp
        omega
    · have hge := of_decide_eq_false hge
      refine RunC.exit ?_
      have : i = ss.length := by omega
      subst this
      rw [List.take_length] at hrow
      exact RunC.seq (RunC.region (RunO.all rfl (RunC.ret ⟨_, rfl, hrow, frNo hf⟩)))
  · exact ⟨0, .slice none 0 0, by omega, Row.nil _ _ _, Fr.refl _ _, Le.cons rfl (Le.cons rfl (Le.cons rfl (Le.cons rfl (Le.cons rfl (Le.nil _)))))⟩
end Go.Proofs.Ytdcggjkcbheolaa
end
section
set_option linter.unusedVariables false
set_option maxRecDepth 100000
open Go Go.Am
namespace Go.Proofs.Ytdcggjkcbheolaa
open Go.Proofs.Try
def layI (l : List Int) (o : Nat) (x : List Int) : List Int := l.take o ++ x ++ l.drop (o + x.length)
theorem layI_us (l : List Int) (o : Nat) (x : List Int) : lay (us l) o (us x) = us (layI l o x) := by
  unfold lay layI us; simp
theorem layI_len {l : List Int} {o : Nat} {x : List Int} (h : o + x.length ≤ l.length) : (layI l o x).length = l.length := by
  unfold layI; simp; omega
def putF (l : List Int) (ps : List ((Nat × Nat) × Int)) : List Int := ps.foldl (fun l p => layI l p.1.1 (leB p.1.2 p.2)) l
theorem putF_snoc (l : List Int) (ps : List ((Nat × Nat) × Int)) (p : (Nat × Nat) × Int) : putF l (ps ++ [p]) = layI (putF l ps) p.1.1 (leB p.1.2 p.2) := by
  unfold putF; rw [List.foldl_append]; rfl
theorem putF_len : ∀ {ps : List ((Nat × Nat) × Int)} {l : List Int}, (∀ p ∈ ps, p.1.1 + p.1.2 ≤ l.length) → (putF l ps).length = l.length
  | [], l, h => rfl
  | p :: ps, l, h => by
    have h2 := h p (List.mem_cons_self ..)
    have h1 : (layI l p.1.1 (leB p.1.2 p.2)).length = l.length := layI_len (by rw [leB_len]; exact h2)
    have h3 := putF_len (ps := ps) (l := layI l p.1.1 (leB p.1.2 p.2)) (fun q hq => by rw [h1]; exact h q (List.mem_cons_of_mem _ hq))
    show (putF (layI l p.1.1 (leB p.1.2 p.2)) ps).length = _
    rw [h3, h1]
/-- The block of a magic and numbers. -/
def makeB (mb : List Int) (fl : List (Nat × Nat)) (nums : List Int) : List Int :=
  (putF (mb ++ List.replicate 60 0) (fl.zip nums)).take 60 ++ leB 4 (Crc.sum 0 ((putF (mb ++ List.replicate 60 0) (fl.zip nums)).take 60))
theorem field_part {fl : List (Nat × Nat)} {i : Nat} (h : i < fl.length) : apart prog 188 (fcs fl) (i * 2) = some (.agg ⟨[.int .i64 (fl[i].1 : Nat), .int .i64 (fl[i].2 : Nat)]⟩) := by
  show (match takeN 2 (dropN (i * 2) (fcs fl)) with | some l => some (Value.agg ⟨l⟩) | none => none) = _
  rw [takeN_eq, dropN_eq, Nat.mul_comm, fcs_drop _ _ h, if_pos (by simp)]
  rfl
theorem superMake_ok {h : Heap} {af an : Addr} {cf cn : Nat} {mg : ByteArray} {mb : List Int} {fl : List (Nat × Nat)} {nums : List Int} (hmg : strCells mg = us mb) (hmb : mb.length = 4)
    (rf : Rd h af (fcs fl)) (rn : Rd h an (is nums)) (hl : nums.length = fl.length) (hfl : ∀ f ∈ fl, f.1 + f.2 ≤ 64 ∧ f.2 ≤ 8) (hlen : fl.length ≤ 1000) :
    RunF prog 86 [.string mg, .slice (some af) fl.length cf, .slice (some an) nums.length cn] h fun v h' => ∃ b, h.next ≤ b ∧ v = .slice (some ⟨b, 0, none⟩) 64 (exc 64) ∧ Ow h' b (us (makeB mb fl nums)) ∧ Fr no h h' := by
  obtain ⟨bf, of, sf⟩ := af
  have hsf : sf = none := rf.1
  subst hsf
  obtain ⟨bn, on, sn⟩ := an
  have hsn : sn = none := rn.1
  subst hsn
  have hbf : bf < h.next := rf.2.1
  have hbn : bn < h.next := rn.2.1
  have hmg2 : mg.data.toList.length = 4 := by
    have := congrArg List.length hmg
    rw [us_len, hmb] at this
    unfold strCells at this
    rw [List.length_map] at this
    exact this
  refine RunF.walk func86 rfl rfl ?_
  refine RunC.seq (RunC.region (RunO.all rfl ?_))
  refine RunC.seq (RunC.region (RunO.all (h1 := h.push ⟨us (List.replicate 64 0), true⟩) rfl ?_))
  refine RunC.seq (RunC.region (RunO.part 2 rfl ?_))
  have ow0 : Ow (h.push ⟨us (List.replicate 64 0), true⟩) h.next (us (List.replicate 64 0)) := Ow.push _ _
  have hcp := copy_str (P := prog) (t := 23) (len := 64) (c := exc 64) (m := mg) rfl rfl ow0 (by omega) (by omega) (by rw [us_len, List.length_replicate]; omega)
  refine RunO.one rfl (v := goInt mg.data.toList.length) (E1 := upd _ 13 (goInt mg.data.toList.length)) (h1 := _) (by show acopy prog _ 23 (.slice (some ⟨h.next, 0, none⟩) 64 (exc 64)) (.string mg) = _; exact hcp) rfl ?_
  refine RunO.nil ?_
  have hz : strCells mg ++ (us (List.replicate 64 0)).drop mg.data.toList.length = us (mb ++ List.replicate 60 0) := by
    rw [hmg2, hmg]; unfold us; rw [← List.map_drop, List.map_append, List.drop_replicate]
  rw [hz]
  have f1 : Fr (fun b => h.next ≤ b) h ((h.push ⟨us (List.replicate 64 0), true⟩).put h.next (some ⟨us (mb ++ List.replicate 60 0), true⟩)) := (Fr.push _ _ _).same (Fr.put _ (.inl (Nat.le_refl _)))
  have ow1 : Ow ((h.push ⟨us (List.replicate 64 0), true⟩).put h.next (some ⟨us (mb ++ List.replicate 60 0), true⟩)) h.next (us (mb ++ List.replicate 60 0)) := Ow.put _ ow0.1
  generalize (h.push ⟨us (List.replicate 64 0), true⟩).put h.next (some ⟨us (mb ++ List.replicate 60 0), true⟩) = h1 at *
  clear ow0 hcp hz
  refine RunC.seq (RunC.seq (RunC.region (RunO.all rfl ?_)))
  refine RunC.block ?_
  have hzl : ∀ i, i ≤ fl.length → (putF (mb ++ List.replicate 60 0) ((fl.zip nums).take i)).length = 64 := fun i hi => by
    rw [putF_len]
    · simp; omega
    · intro p hp
      have h3 := (List.of_mem_zip (List.mem_of_mem_take hp)).1
      have := (hfl _ h3).1
      simp; omega
  let I : Nat → Env → Heap → Prop := fun d E h' => ∃ i : Nat, i + d = fl.length ∧ Ow h' h.next (us (putF (mb ++ List.replicate 60 0) ((fl.zip nums).take i))) ∧ Fr (fun b => h.next ≤ b) h h' ∧ Le (upd (upd (upd (upd (upd E0 2 (.slice (some ⟨bn, on, none⟩) nums.length cn)) 7 (.slice (some ⟨h.next, 0, none⟩) 64 (exc 64))) 14 (.slice (some ⟨bf, of, none⟩) fl.length cf)) 15 (.int .i64 fl.length)) 16 (.int .i64 i)) E
  refine RunC.loop I ?_ (k := fl.length) ?_
  · rintro d E h' ⟨i, hi, ow, hf, hE⟩
    refine RunC.le hE ?_
    clear hE
    refine RunC.seq (RunC.region (RunO.all rfl ?_))
    refine RunC.seq (RunC.cond rfl (fun hlt => ?_) (fun hge => ?_))
    · have hlt := of_decide_eq_true hlt
      have hlt2 : i < fl.length := by omega
      have hlt3 : i < nums.length := by omega
      refine RunC.skip ?_
      refine RunC.seq (RunC.block ?_)
      refine RunC.seq (RunC.region (RunO.part 1 rfl ?_))
      refine RunO.index (s := 2) rfl rfl rfl rfl hlt2 rfl ?_
      refine RunO.load rfl ((rf.fr hf (by show ¬ h.next ≤ bf; omega)).part (field_part hlt2)) rfl ?_
      have hfx := hfl _ (List.getElem_mem hlt2)
      have hzip : (fl.zip nums).take (i + 1) = (fl.zip nums).take i ++ [(fl[i], nums[i])] := by
        rw [List.take_succ_eq_append_getElem (by rw [List.length_zip]; omega), List.getElem_zip]
      have hzi := hzl i (by omega)
      generalize hfi : fl[i] = f at *
      obtain ⟨fa, fs⟩ := f
      refine RunO.part 2 (h1 := h'.push ⟨[.int .i64 0, .int .i64 0], true⟩) rfl ?_
      refine RunO.store rfl rfl (store_ow (s := 2) (Ow.push _ _) rfl rfl rfl (by decide)) (RunO.nil ?_)
      have ow2 : Ow ((h'.push ⟨[.int .i64 0, .int .i64 0], true⟩).put h'.next (some ⟨[.int .i64 (fa : Nat), .int .i64 (fs : Nat)], true⟩)) h'.next [.int .i64 (fa : Nat), .int .i64 (fs : Nat)] := Ow.put _ (Nat.lt_succ_self _)
      have f2 : Fr no h' ((h'.push ⟨[.int .i64 0, .int .i64 0], true⟩).put h'.next (some ⟨[.int .i64 (fa : Nat), .int .i64 (fs : Nat)], true⟩)) := (Fr.push _ _ _).trans (Fr.put (m := (· = h'.next)) _ (.inl rfl)) (fun j hj => .inr (by omega))
      refine RunC.draw0 rfl (RunO.part 2 rfl ?_)
      refine RunO.load (v := .int .i64 (fa : Nat)) rfl (ow2.all.cell1 (k := 0) rfl rfl) rfl ?_
      refine RunO.part 1 rfl ?_
      refine RunO.load (v := .int .i64 (fs : Nat)) rfl (ow2.all.cell1 (k := 1) rfl rfl) rfl ?_
      refine RunO.part 2 rfl ?_
      change RunO _ _ _ _ _ ((h'.push ⟨[.int .i64 0, .int .i64 0], true⟩).put h'.next (some ⟨[.int .i64 (fa : Nat), .int .i64 (fs : Nat)], true⟩)) _
      have owb := ow.fr f2 (fun g => g)
      have hf2 := hf.quiet f2
      generalize (h'.push ⟨[.int .i64 0, .int .i64 0], true⟩).put h'.next (some ⟨[.int .i64 (fa : Nat), .int .i64 (fs : Nat)], true⟩) = h2 at *
      refine RunO.index (s := 1) rfl rfl rfl rfl hlt3 rfl ?_
      refine RunO.load (v := .int .i64 nums[i]) rfl ((rn.fr hf2 (by show ¬ h.next ≤ bn; omega)).cell1 (k := i * 1) rfl (by rw [Nat.mul_one]; exact is_nth hlt3)) rfl ?_
      refine RunO.callD (leSet_ok (o := 0) (len := 64) (c := exc 64) (k := fa) (s := fs) (v := nums[i]) owb (by rw [us_len]; omega) hfx.2 hfx.1 (by rw [us_len]; omega)) rfl rfl rfl ?_
      rintro v h3 ⟨hf3, ow3⟩
      refine RunO.nil ?_
      refine RunC.region (RunO.all rfl ?_)
      refine ⟨d - 1, by omega, i + 1, by omega, ?_, hf2.trans hf3 (fun j hj => .inl (by omega)), ?_⟩
      · rw [hzip, putF_snoc, ← layI_us]
        rw [Nat.zero_add] at ow3
        exact ow3
      · exact Le.cons (inc64 (by omega)) (Le.cons rfl (Le.cons rfl (Le.cons rfl (Le.cons rfl (Le.nil _)))))
    · have hge := of_decide_eq_false hge
      refine RunC.exit ?_
      have hi2 : i = fl.length := by omega
      subst hi2
      have hz2 := hzl fl.length (Nat.le_refl _)
      rw [List.take_of_length_le (by rw [List.length_zip]; omega)] at ow hz2
      refine RunC.seq (RunC.region (RunO.part 1 rfl ?_))
      have hseal := crcSeal_ok (c := exc 64) ow (by omega) (by omega) (Cp.exc (by omega))
      rw [hz2] at hseal
      refine RunO.callD hseal rfl rfl rfl ?_
      rintro v h3 ⟨hf3, ow3⟩
      refine RunO.nil ?_
      refine RunC.seq (RunC.region (RunO.all rfl (RunC.ret ⟨_, rfl, h.next, Nat.le_refl _, rfl, ow3, ?_⟩)))
      exact frNo (hf.trans hf3 (fun j hj => .inl (by omega)))
  · exact ⟨0, by omega, ow1, f1, Le.cons rfl (Le.cons rfl (Le.cons rfl (Le.cons rfl (Le.cons rfl (Le.nil _)))))⟩
end Go.Proofs.Ytdcggjkcbheolaa
end
section
set_option linter.unusedVariables false
set_option maxRecDepth 100000
open Go Go.Am
namespace Go.Proofs.Ytdcggjkcbheolaa
open Go.Proofs.Try
theorem bytesOf_us : ∀ (l : List Int), bytesOf (us l) = some l
  | [] => rfl
  | x :: l => by
    show (match bytesOf (us l) with | some r => some (x :: r) | none => none) = _
    rw [bytesOf_us l]
theorem mkStr_data (l : List Int) : (mkStr l).data.toList = l.map (fun n => UInt8.ofNat n.toNat) := by
  have key : ∀ (l : List Int) (s : ByteArray), (l.foldl (fun r n => r.push (UInt8.ofNat n.toNat)) s).data.toList = s.data.toList ++ l.map (fun n => UInt8.ofNat n.toNat) := by
    intro l
    induction l with
    | nil => intro s; simp
    | cons x l ih =>
      intro s
      simp only [List.foldl_cons, List.map_cons]
      rw [ih]
      simp [ByteArray.push]
  unfold mkStr
  rw [key]; rfl
theorem str_eq {l mb : List Int} {mg : ByteArray} (hmg : strCells mg = us mb) (hb : Byt l) : ((mkStr l).data.toList == mg.data.toList) = decide (l = mb) := by
  rw [mkStr_data]
  have h1 : mb = mg.data.toList.map (fun b => (b.toNat : Int)) := by
    unfold strCells us at hmg
    generalize mg.data.toList = L at *
    clear hb
    induction L generalizing mb with
    | nil => cases mb with
      | nil => rfl
      | cons y t => cases hmg
    | cons x L ih => cases mb with
      | nil => cases hmg
      | cons y t =>
        simp only [List.map_cons, List.cons.injEq, Value.int.injEq, true_and] at hmg ⊢
        exact ⟨hmg.1.symm, ih hmg.2⟩
  rw [Bool.eq_iff_iff, beq_iff_eq, decide_eq_true_iff, h1]
  generalize mg.data.toList = L
  constructor
  · intro e
    rw [← e, List.map_map]
    conv => lhs; rw [← List.map_id l]
    refine List.map_congr_left (fun x hx => ?_)
    have := hb x hx
    simp only [id, Function.comp, UInt8.toNat_ofNat']
    omega
  · intro e
    rw [e, List.map_map]
    conv => rhs; rw [← List.map_id L]
    refine List.map_congr_left (fun x hx => ?_)
    simp
def endF (fl : List (Nat × Nat)) : Nat := fl.foldl (fun _ f => f.1 + f.2) 4
theorem endF_snoc (fl : List (Nat × Nat)) (f : Nat × Nat) : endF (fl ++ [f]) = f.1 + f.2 := by unfold endF; rw [List.foldl_append]; rfl
theorem endF_le : ∀ (fl : List (Nat × Nat)), (∀ f ∈ fl, f.1 + f.2 ≤ 64) → endF fl ≤ 64 := by
  intro fl h
  unfold endF
  have key : ∀ (fl : List (Nat × Nat)) (a : Nat), a ≤ 64 → (∀ f ∈ fl, f.1 + f.2 ≤ 64) → fl.foldl (fun _ f => f.1 + f.2) a ≤ 64 := by
    intro fl
    induction fl with
    | nil => intro a ha _; exact ha
    | cons f t ih => intro a ha h; exact ih _ (h f (List.mem_cons_self ..)) (fun g hg => h g (List.mem_cons_of_mem _ hg))
  exact key fl 4 (by omega) h
def okF (l : List Int) (f : Nat × Nat) : Bool := (leGet l f.1 f.2).2 == 0
def numsB (fl : List (Nat × Nat)) (l : List Int) : List Int := fl.map (fun f => (leGet l f.1 f.2).1)
/-- Why bytes are no block; 0: they are one. -/
def readB (mb : List Int) (fl : List (Nat × Nat)) (l : List Int) : Int :=
  if l.length ≠ 64 then 2 else if l.take 4 ≠ mb then 4 else if goodB l = false then 5 else if fl.all (okF l) = false then 1 else if zerosN l (endF fl) 60 = false then 1 else 0
theorem superRead_ok {h : Heap} {A : Option Addr} {af : Addr} {c cf : Nat} {mg : ByteArray} {l mb : List Int} {fl : List (Nat × Nat)} (hmg : strCells mg = us mb)
    (ra : l.length = 64 → ∃ a, A = some a ∧ Rd h a (us l)) (hb : Byt l) (rf : Rd h af (fcs fl)) (hfl : ∀ f ∈ fl, f.1 + f.2 ≤ 64 ∧ (f.2 = 1 ∨ f.2 = 2 ∨ f.2 = 4 ∨ f.2 = 8)) (hlen : fl.length ≤ 1000) (hc : Cp 1 l.length c) :
    RunF prog 139 [.slice A l.length c, .string mg, .slice (some af) fl.length cf] h fun v h' => ∃ o, v = .tuple #[o, .int .i64 (readB mb fl l)] ∧ (readB mb fl l = 0 → Row h.next h' o 1 fl.length (is (numsB fl l))) ∧ (readB mb fl l ≠ 0 → o = .slice none 0 0) ∧ Fr no h h' := by
  obtain ⟨bf, of, sf⟩ := af
  have hsf : sf = none := rf.1
  subst hsf
  have hbf : bf < h.next := rf.2.1
  refine RunF.walk func139 rfl rfl ?_
  refine RunC.seq (RunC.region (RunO.all rfl ?_))
  refine RunC.seq (RunC.block ?_)
  refine RunC.seq (RunC.region (RunO.all rfl ?_))
  by_cases hl : l.length = 64
  case neg =>
    have hr : readB mb fl l = 2 := if_pos hl
    rw [show ((l.length : Int) != 64) = true by simpa using (by omega : ¬ ((l.length : Int) = 64))]
    refine RunC.cond rfl (fun _ => ?_) (fun g => by cases g)
    rw [hr]
    exact RunC.seq (RunC.region (RunO.all rfl (RunC.ret ⟨_, rfl, _, rfl, fun g => by simp at g, fun _ => rfl, Fr.refl _ _⟩)))
  obtain ⟨⟨b, o, sp⟩, rfl, rd⟩ := ra hl
  have hsp : sp = none := rd.1
  subst hsp
  have hb0 : b < h.next := rd.2.1
  rw [show ((l.length : Int) != 64) = false by simpa using (by omega : ((l.length : Int) = 64))]
  refine RunC.cond rfl (fun g => by cases g) (fun _ => ?_)
  refine RunC.seq (RunC.region (RunO.part 1 rfl ?_))
  refine RunO.slicePre (s := 1) (k := 4) rfl rfl rfl rfl hc (by omega) rfl ?_
  intro c' hc'
  have hll : (l.take 4).length = 4 := by rw [List.length_take]; omega
  have hrd4 : aread h ⟨b, o, none⟩ 4 = some (us (l.take 4)) := by
    have := (rdTake rd 4).read0 (m := 4) (by rw [us_len, hll]; exact Nat.le_refl _)
    rw [this, List.take_of_length_le (by rw [us_len, hll]; exact Nat.le_refl _)]
  refine RunO.one rfl (v := .string (mkStr (l.take 4))) (E1 := upd _ 21 (.string (mkStr (l.take 4)))) (h1 := h) ?_ rfl ?_
  · show pureR h (match aread h ⟨b, o, none⟩ 4 with | some l => (match bytesOf l with | some ns => some (Value.string (mkStr ns)) | none => none) | none => none) = _
    rw [hrd4]
    simp only [bytesOf_us, pureR]
  refine RunO.part 1 rfl ?_
  refine RunO.bin (v := .bool (!(decide (l.take 4 = mb)))) rfl rfl ?_ rfl ?_
  · show some (Value.bool (!((mkStr (l.take 4)).data.toList == mg.data.toList))) = _
    rw [str_eq hmg (fun x hx => hb x (List.mem_of_mem_take hx))]
  refine RunO.all rfl ?_
  by_cases hm : l.take 4 = mb
  case neg =>
    have hr : readB mb fl l = 4 := by unfold readB; rw [if_neg (by omega), if_pos hm]
    rw [decide_eq_false hm]
    refine RunC.cond rfl (fun _ => ?_) (fun g => by cases g)
    rw [hr]
    exact RunC.seq (RunC.region (RunO.all rfl (RunC.ret ⟨_, rfl, _, rfl, fun g => by simp at g, fun _ => rfl, Fr.refl _ _⟩)))
  rw [decide_eq_true hm]
  refine RunC.cond rfl (fun g => by cases g) (fun _ => ?_)
  refine RunC.seq (RunC.region (RunO.part 1 rfl ?_))
  refine RunO.callD (crcGood_ok rd hb (by omega) (by omega) hc) rfl rfl rfl ?_
  rintro _ _ ⟨rfl, rfl⟩
  refine RunO.all rfl ?_
  cases hg : goodB l
  case false =>
    have hr : readB mb fl l = 5 := by unfold readB; rw [if_neg (by omega), if_neg (by simpa using hm), if_pos hg]
    refine RunC.cond rfl (fun _ => ?_) (fun g => by cases g)
    rw [hr]
    exact RunC.seq (RunC.region (RunO.all rfl (RunC.ret ⟨_, rfl, _, rfl, fun g => by simp at g, fun _ => rfl, Fr.refl _ _⟩)))
  refine RunC.cond rfl (fun g => by cases g) (fun _ => ?_)
  refine RunC.skip ?_
  have hr0 : readB mb fl l = if fl.all (okF l) = false then 1 else if zerosN l (endF fl) 60 = false then 1 else 0 := by
    unfold readB; rw [if_neg (by omega), if_neg (by simpa using hm), if_neg (by simp [hg])]
  refine RunC.seq (RunC.region (RunO.all rfl ?_))
  refine RunC.seq (RunC.region (RunO.all rfl ?_))
  refine RunC.seq (RunC.seq (RunC.region (RunO.all rfl ?_)))
  refine RunC.block ?_
  let I : Nat → Env → Heap → Prop := fun d E h' => ∃ (i : Nat) (v : Value), i + d = fl.length ∧ (fl.take i).all (okF l) = true ∧ Row h.next h' v 1 i (is (numsB (fl.take i) l)) ∧ Fr (fun b => h.next ≤ b) h h' ∧ Le (upd (upd (upd (upd (upd (upd E0 0 (.slice (some ⟨b, o, none⟩) l.length c)) 8 v) 9 (.int .i64 (endF (fl.take i) : Nat))) 28 (.slice (some ⟨bf, of, none⟩) fl.length cf)) 29 (.int .i64 fl.length)) 30 (.int .i64 i)) E
  refine RunC.loop I ?_ (k := fl.length) ?_
  · rintro d E h' ⟨i, v, hi, hall, hrow, hf, hE⟩
    refine RunC.le hE ?_
    clear hE
    refine RunC.seq (RunC.region (RunO.all rfl ?_))
    refine RunC.seq (RunC.cond rfl (fun hlt => ?_) (fun hge => ?_))
    · have hlt := of_decide_eq_true hlt
      have hlt2 : i < fl.length := by omega
      refine RunC.skip ?_
      refine RunC.seq (RunC.block ?_)
      refine RunC.seq (RunC.region ?_)
      refine RunO.index (s := 2) rfl rfl rfl rfl hlt2 rfl ?_
      refine RunO.load rfl ((rf.fr hf (by show ¬ h.next ≤ bf; omega)).part (field_part hlt2)) rfl ?_
      have hfx := hfl _ (List.getElem_mem hlt2)
      have htk := List.take_succ_eq_append_getElem hlt2
      have hmem := List.getElem_mem hlt2
      generalize hfi : fl[i] = f at *
      obtain ⟨fa, fs⟩ := f
      refine RunO.part 1 (h1 := h'.push ⟨[.int .i64 0, .int .i64 0], true⟩) rfl ?_
      refine RunO.store rfl rfl (store_ow (s := 2) (Ow.push _ _) rfl rfl rfl (by decide)) (RunO.nil ?_)
      change RunC _ _ _ _ ((h'.push ⟨[.int .i64 0, .int .i64 0], true⟩).put h'.next (some ⟨[.int .i64 (fa : Nat), .int .i64 (fs : Nat)], true⟩)) _ _ _
      have ow2 : Ow ((h'.push ⟨[.int .i64 0, .int .i64 0], true⟩).put h'.next (some ⟨[.int .i64 (fa : Nat), .int .i64 (fs : Nat)], true⟩)) h'.next [.int .i64 (fa : Nat), .int .i64 (fs : Nat)] := Ow.put _ (Nat.lt_succ_self _)
      have f2 : Fr no h' ((h'.push ⟨[.int .i64 0, .int .i64 0], true⟩).put h'.next (some ⟨[.int .i64 (fa : Nat), .int .i64 (fs : Nat)], true⟩)) := (Fr.push _ _ _).trans (Fr.put (m := (· = h'.next)) _ (.inl rfl)) (fun j hj => .inr (by omega))
      have hf2 := hf.quiet f2
      have hrow2 := hrow.fr f2 (fun _ _ _ g => g)
      have hn := hf.next
      have hat : ∀ j, At v j → h.next ≤ j ∧ j < h'.next := fun j g => hrow.at g
      generalize h'.next = p at *
      generalize (h'.push ⟨[.int .i64 0, .int .i64 0], true⟩).put p (some ⟨[.int .i64 (fa : Nat), .int .i64 (fs : Nat)], true⟩) = h2 at *
      clear f2
      refine RunC.seq (RunC.region (RunO.part 2 rfl ?_))
      refine RunO.load (v := .int .i64 (fa : Nat)) rfl (ow2.all.cell1 (k := 0) rfl rfl) rfl ?_
      refine RunO.part 1 rfl ?_
      refine RunO.load (v := .int .i64 (fs : Nat)) rfl (ow2.all.cell1 (k := 1) rfl rfl) rfl ?_
      refine RunO.callD (leGet_ok (s := fs) (k := fa) (rd.fr hf2 (by show ¬ h.next ≤ b; omega)) hb hfx.2 (by rw [hl]; exact hfx.1) (by omega)) rfl rfl rfl ?_
      rintro _ _ ⟨rfl, rfl⟩
      refine RunO.all rfl ?_
      refine RunC.seq (RunC.seq (RunC.region (RunO.all rfl ?_)))
      refine RunC.cond rfl (fun hbad => ?_) (fun hok => ?_)
      · have hbad : okF l (fa, fs) = false := by unfold okF; simpa using hbad
        have hr : readB mb fl l = 1 := by
          rw [hr0, if_pos]
          rw [List.all_eq_false]
          exact ⟨_, hmem, by rw [hbad]; decide⟩
        rw [hr]
        exact RunC.seq (RunC.region (RunO.all rfl (RunC.ret ⟨_, rfl, _, rfl, fun g => by simp at g, fun _ => rfl, frNo hf2⟩)))
      · have hok : (leGet l fa fs).2 = 0 := by simpa using hok
        refine RunC.skip ?_
        refine RunC.seq (RunC.region (RunO.part 3 (h1 := h2.push ⟨[.int .i64 (leGet l fa fs).1], true⟩) rfl ?_))
        refine RunO.append (s := 1) (lo := h.next) rfl rfl rfl rfl rfl rfl rfl rfl (by decide) (hrow2.fr (Fr.push no _ _) (fun _ _ _ g => g)) (Nat.le_trans hf2.next (Nat.le_succ _)) (Ow.push _ _).all rfl (by decide) rfl (by show 2 * (i + 1) * 8 ≤ _; omega) (by omega) ?_
        intro v' h3 hrow3 hf3
        refine RunO.all rfl ?_
        have ow3 := (ow2.fr (Fr.push no _ _) (fun g => g)).fr hf3 (fun g => absurd (hat _ g).2 (Nat.lt_irrefl _))
        refine RunC.region (RunO.part 1 rfl ?_)
        refine RunO.load (v := .int .i64 (fa : Nat)) rfl (ow3.all.cell1 (k := 0) rfl rfl) rfl ?_
        refine RunO.part 1 rfl ?_
        refine RunO.load (v := .int .i64 (fs : Nat)) rfl (ow3.all.cell1 (k := 1) rfl rfl) rfl ?_
        refine RunO.all rfl ?_
        refine RunC.region (RunO.all rfl ?_)
        refine ⟨d - 1, by omega, i + 1, v', by omega, ?_, ?_, ?_, ?_⟩
        · rw [htk, List.all_append, hall]
          simp [okF, hok]
        · rw [htk]
          have e : is (numsB (fl.take i ++ [(fa, fs)]) l) = is (numsB (fl.take i) l) ++ [.int .i64 (leGet l fa fs).1] := by
            unfold is numsB; simp
          rw [e]; exact hrow3
        · exact (hf2.same (Fr.push _ _ _)).trans hf3 (fun j g => .inl (hat _ g).1)
        · refine Le.cons (inc64 (by omega)) (Le.cons rfl (Le.cons rfl (Le.cons ?_ (Le.cons rfl (Le.cons rfl (Le.nil _))))))
          show some (Value.int .i64 (fwrap .i64 ((fa : Int) + (fs : Int)))) = _
          have := hfx.1
          rw [fw64 (by omega) (by omega), htk, endF_snoc]
          rfl
    · have hge := of_decide_eq_false hge
      refine RunC.exit ?_
      have hi2 : i = fl.length := by omega
      subst hi2
      rw [List.take_length] at hrow hall
      rw [List.take_length]
      have hend := endF_le fl (fun f hf => (hfl f hf).1)
      refine RunC.seq (RunC.seq (RunC.region (RunO.part 2 rfl ?_)))
      refine RunO.callD (leZeros_ok (k := endF fl) (m := 60) (rd.fr hf (by show ¬ h.next ≤ b; omega)) (by omega) (by omega) (by omega)) rfl rfl rfl ?_
      rintro _ _ ⟨rfl, rfl⟩
      refine RunO.all rfl ?_
      rw [if_neg (by simp [hall])] at hr0
      cases hz : zerosN l (endF fl) 60 with
      | false =>
        rw [if_pos hz] at hr0
        refine RunC.cond rfl (fun _ => ?_) (fun g => by cases g)
        rw [hr0]
        exact RunC.seq (RunC.region (RunO.all rfl (RunC.ret ⟨_, rfl, _, rfl, fun g => by simp at g, fun _ => rfl, frNo hf⟩)))
      | true =>
        rw [if_neg (by simp [hz])] at hr0
        refine RunC.cond rfl (fun g => by cases g) (fun _ => RunC.skip ?_)
        rw [hr0]
        exact RunC.seq (RunC.region (RunO.all rfl (RunC.ret ⟨_, rfl, _, rfl, fun _ => hrow, fun g => absurd rfl g, frNo hf⟩)))
  · exact ⟨0, .slice none 0 0, by omega, rfl, Row.nil _ _ _, Fr.refl _ _, Le.cons rfl (Le.cons rfl (Le.cons rfl (Le.cons rfl (Le.cons rfl (Le.cons rfl (Le.nil _))))))⟩
end Go.Proofs.Ytdcggjkcbheolaa
end
section
set_option linter.unusedVariables false
namespace Go.Am
open Go.RowKit
section
variable {P : Program} {n : Nat} {ops rest : List Oper} {E E1 : Env} {h h1 : Heap} {Q : Env → Heap → Prop}
theorem RunO.loadG {d : Tmp} {t ty : TypeId} {x : Operand} {pos : String} {after : Array Edge} {gd : Option (Nat × Bool)} {a : Addr} {v : Value}
    (hw : ewanted ops E ⟨some d, .load t x, ty, pos, after, gd⟩ = some true) (hx : gE E x = some (.pointer (some a))) (hl : aload P h t a = some v) (hd : Nat.ble (Nat.succ d) n = true)
    (r : RunO P n ops rest (upd E d v) h Q) : RunO P n ops (⟨some d, .load t x, ty, pos, after, gd⟩ :: rest) E h Q := by
  refine RunO.oneG hw (v := v) ?_ (by simp only [eput, hd, cond_true]) r
  simp only [eop, hx, hl, pureR]
theorem RunO.callDG {d : Tmp} {f : Operand} {args : Array Operand} {ats : Array TypeId} {t : TypeId} {pos : String} {after : Array Edge} {gd : Option (Nat × Bool)} {g : FuncId} {vs : List Value} {R : Value → Heap → Prop}
    (hw : ewanted ops E ⟨some d, .call ⟨.value f, args, ats⟩, t, pos, after, gd⟩ = some true) (r : RunF P g vs h R) (hf : gE E f = some (.func (.func g) #[] #[])) (hv : gs (gE E) args.toList = some vs) (hd : Nat.ble (Nat.succ d) n = true)
    (k : ∀ v h1, R v h1 → RunO P n ops rest (upd E d v) h1 Q) : RunO P n ops (⟨some d, .call ⟨.value f, args, ats⟩, t, pos, after, gd⟩ :: rest) E h Q := by
  refine RunO.callG hw hf hv (RunF.mono ?_ (fun v h1 q => ⟨_, by simp only [eput, hd, cond_true], k v h1 q⟩))
  have e : (#[] : Array Value).toList ++ (vs ++ (#[] : Array Value).toList) = vs := by simp
  rw [e]; exact r
end

/- Regions that draw their order. -/
def fpE (E : Env) (o : Oper) (quiet : Bool) : Option Fp :=
  match o.op with
  | .load _ a => (match gE E a with | some (.pointer (some a)) => some (.rd a.block) | _ => none)
  | .store _ a _ => (match gE E a with | some (.pointer (some a)) => some (.wr [a.block]) | _ => none)
  | .convert s d a => (match gE E a with | some (.slice (some a) _ _) => some (cond (Nat.beq s d) (.wr [a.block]) (.rd a.block)) | some _ => some .none | none => none)
  | .call c => (match c.callee with
    | .builtin .append | .builtin .copy | .builtin .clear => (match gs (gE E) c.args.toList with | some vs => some (.wr (idsOf vs)) | none => none)
    | .builtin _ => some .none
    | _ => some (.all quiet))
  | _ => some .none
theorem fpE_le {E : Env} {T : Tr Value} (hs : Sub E T) {o : Oper} {q : Bool} {f : Fp} (e : fpE E o q = some f) : fpOf T o q = f := by
  obtain ⟨dst, op, type, pos, after, guard⟩ := o
  cases op
  case load t x =>
    simp only [fpE] at e
    split at e
    · rename_i h1; cases e; simp only [fpOf, gE_le hs h1]
    · cases e
  case store t x y =>
    simp only [fpE] at e
    split at e
    · rename_i h1; cases e; simp only [fpOf, gE_le hs h1]
    · cases e
  case convert s t x =>
    simp only [fpE] at e
    split at e
    · rename_i h1; cases e; simp only [fpOf, gE_le hs h1]
    · rename_i v hv h1
      cases e
      simp only [fpOf, gE_le hs h1]
      first
        | rfl
        | (split
           · rename_i h2; cases h2; exact absurd rfl (hv _ _ _)
           · rfl)
    · cases e
  case call c =>
    obtain ⟨callee, args, ats⟩ := c
    cases callee with
    | value g => cases e; rfl
    | invoke r m => cases e; rfl
    | builtin b =>
      cases b
      all_goals simp only [fpE] at e
      all_goals first
        | (cases e; rfl)
        | (split at e
           · rename_i h1; cases e; simp only [fpOf, gs_le hs h1]
           · cases e)
  all_goals first | (cases e; rfl)

def estepC (P : Program) (n : Nat) (ops : List Oper) (E : Env) (h : Heap) (o : Oper) : Option (Env × Heap × Fp) :=
  match ewanted ops E o with
  | none => none
  | some false => (match eput n E o.dst undef with | some E' => some (E', h, .none) | none => none)
  | some true => (match eop P E o h, fpE E o true with
    | some (v, h'), some f => (match eput n E o.dst v with | some E' => some (E', h', f) | none => none)
    | _, _ => none)
/-- Operations of a drawing region that are no calls and write nothing old. -/
def eopsC (P : Program) (n : Nat) (ops : List Oper) : List Oper → Env → Heap → Option (Env × Heap × List Fp)
  | [], E, h => some (E, h, [])
  | o :: l, E, h => match estepC P n ops E h o with
    | some (E', h', f) => (match eopsC P n ops l E' h' with
      | some (E'', h'', fs) => some (E'', h'', f :: fs)
      | none => none)
    | none => none
/-- The memory with another mark. -/
def Heap.lo (h : Heap) (l : Nat) : Heap := ⟨h.objs, h.next, l⟩
def RunD (P : Program) (n : Nat) (ops rest : List Oper) (l0 : Nat) (E : Env) (h : Heap) (Q : Env → Heap → List Fp → Prop) : Prop :=
  ∀ lw, l0 ≤ lw → ∃ E' h' fs lw', Q E' h' fs ∧ l0 ≤ lw' ∧ ∃ N, ∀ d, N ≤ d → ∀ K, N ≤ K → ∀ T, Sub E T → ∃ T', Sub E' T' ∧ aopsC P (cfl P K d) n ops rest T (h.lo lw) = some (T', h'.lo lw', fs)
section
variable {P : Program} {n l0 : Nat} {ops rest : List Oper} {E E1 : Env} {h h1 : Heap} {Q : Env → Heap → List Fp → Prop}
theorem RunD.nil (q : Q E h []) : RunD P n ops [] l0 E h Q := fun lw hl => ⟨E, h, [], lw, q, hl, 0, fun d _ K _ T hs => ⟨T, hs, rfl⟩⟩
theorem low_mix {l a b : Nat} (h1 : l ≤ a) (h2 : l ≤ b) : l ≤ cond (Nat.ble a b) a b := by
  cases Nat.ble a b
  · exact h2
  · exact h1
theorem RunD.oneG {o : Oper} {v : Value} {f : Fp} (g : ewanted ops E o = some true) (e : eop P E o (h.lo h.next) = some (v, h1)) (hf : ∀ q, fpE E o q = some f) (hl : l0 ≤ h1.low) (p : eput n E o.dst v = some E1)
    (r : RunD P n ops rest l0 E1 h1 fun E' h' fs => Q E' h' (f :: fs)) : RunD P n ops (o :: rest) l0 E h Q := by
  intro lw hlw
  obtain ⟨E2, h2, fs, lw2, q, hl2, N, hN⟩ := r (cond (Nat.ble lw h1.low) lw h1.low) (low_mix hlw hl)
  refine ⟨E2, h2, f :: fs, lw2, q, hl2, N, fun d hd K hK T hs => ?_⟩
  obtain ⟨T1, ha, hs1⟩ := eput_le hs p
  obtain ⟨T2, hs2, hb⟩ := hN d hd K hK T1 hs1
  refine ⟨T2, hs2, ?_⟩
  have e2 : aop P (cfl P K d) T o ⟨(h.lo lw).objs, (h.lo lw).next, (h.lo lw).next⟩ = some (v, h1) := eop_le hs e
  unfold aopsC astepC
  simp only [ewanted_le hs g, e2, ha, fpE_le hs (hf _)]
  have hb : aopsC P (cfl P K d) n ops rest T1 ⟨h1.objs, h1.next, cond (Nat.ble (h.lo lw).low h1.low) (h.lo lw).low h1.low⟩ = some (T2, h2.lo lw2, fs) := hb
  rw [hb]
theorem RunD.one {o : Oper} {v : Value} {f : Fp} (g : o.guard = none) (e : eop P E o (h.lo h.next) = some (v, h1)) (hf : ∀ q, fpE E o q = some f) (hl : l0 ≤ h1.low) (p : eput n E o.dst v = some E1)
    (r : RunD P n ops rest l0 E1 h1 fun E' h' fs => Q E' h' (f :: fs)) : RunD P n ops (o :: rest) l0 E h Q :=
  RunD.oneG (by simp only [ewanted, g]) e hf hl p r
theorem RunD.offG {o : Oper} (g : ewanted ops E o = some false) (p : eput n E o.dst undef = some E1) (r : RunD P n ops rest l0 E1 h fun E' h' fs => Q E' h' (.none :: fs)) : RunD P n ops (o :: rest) l0 E h Q := by
  intro lw hlw
  obtain ⟨E2, h2, fs, lw2, q, hl2, N, hN⟩ := r lw hlw
  refine ⟨E2, h2, .none :: fs, lw2, q, hl2, N, fun d hd K hK T hs => ?_⟩
  obtain ⟨T1, ha, hs1⟩ := eput_le hs p
  obtain ⟨T2, hs2, hb⟩ := hN d hd K hK T1 hs1
  refine ⟨T2, hs2, ?_⟩
  unfold aopsC astepC
  simp only [ewanted_le hs g, ha]
  rw [hb]
/-- An operation that leaves memory alone. -/
theorem RunD.pure {o : Oper} {v : Value} (hn : l0 ≤ h.next) (g : o.guard = none) (e : eop P E o (h.lo h.next) = some (v, h.lo h.next)) (hf : ∀ q, fpE E o q = some .none) (p : eput n E o.dst v = some E1)
    (r : RunD P n ops rest l0 E1 h fun E' h' fs => Q E' h' (.none :: fs)) : RunD P n ops (o :: rest) l0 E h Q := by
  exact RunD.one g e hf hn p r
theorem RunD.pureG {o : Oper} {v : Value} (hn : l0 ≤ h.next) (g : ewanted ops E o = some true) (e : eop P E o (h.lo h.next) = some (v, h.lo h.next)) (hf : ∀ q, fpE E o q = some .none) (p : eput n E o.dst v = some E1)
    (r : RunD P n ops rest l0 E1 h fun E' h' fs => Q E' h' (.none :: fs)) : RunD P n ops (o :: rest) l0 E h Q :=
  RunD.oneG g e hf hn p r
theorem RunD.loadG {d : Tmp} {t ty : TypeId} {x : Operand} {pos : String} {after : Array Edge} {gd : Option (Nat × Bool)} {a : Addr} {v : Value} (hn : l0 ≤ h.next)
    (hw : ewanted ops E ⟨some d, .load t x, ty, pos, after, gd⟩ = some true) (hx : gE E x = some (.pointer (some a))) (hl : aload P h t a = some v) (hd : Nat.ble (Nat.succ d) n = true)
    (r : RunD P n ops rest l0 (upd E d v) h fun E' h' fs => Q E' h' (.rd a.block :: fs)) : RunD P n ops (⟨some d, .load t x, ty, pos, after, gd⟩ :: rest) l0 E h Q := by
  refine RunD.oneG (v := v) (f := .rd a.block) (h1 := h.lo h.next) (E1 := upd E d v) hw ?_ ?_ hn (by simp only [eput, hd, cond_true]) r
  · have hl : aload P (h.lo h.next) t a = some v := hl
    simp only [eop, hx, hl, pureR]
  · intro q; simp only [fpE, hx]
theorem RunD.load {d : Tmp} {t ty : TypeId} {x : Operand} {pos : String} {after : Array Edge} {a : Addr} {v : Value} (hn : l0 ≤ h.next)
    (hx : gE E x = some (.pointer (some a))) (hl : aload P h t a = some v) (hd : Nat.ble (Nat.succ d) n = true)
    (r : RunD P n ops rest l0 (upd E d v) h fun E' h' fs => Q E' h' (.rd a.block :: fs)) : RunD P n ops (⟨some d, .load t x, ty, pos, after, none⟩ :: rest) l0 E h Q := by
  refine RunD.one (v := v) (f := .rd a.block) (h1 := h.lo h.next) (E1 := upd E d v) rfl ?_ ?_ hn (by simp only [eput, hd, cond_true]) ?_
  · have hl : aload P (h.lo h.next) t a = some v := hl
    simp only [eop, hx, hl, pureR]
  · intro q; simp only [fpE, hx]
  · exact r
theorem RunD.callG {dst : Option Tmp} {f : Operand} {args : Array Operand} {ats : Array TypeId} {t : TypeId} {pos : String} {after : Array Edge} {gd : Option (Nat × Bool)} {g : FuncId} {vs : List Value} {R : Value → Heap → Prop}
    (hw : ewanted ops E ⟨dst, .call ⟨.value f, args, ats⟩, t, pos, after, gd⟩ = some true) (r : RunF P g vs (h.lo h.next) R) (hf : gE E f = some (.func (.func g) #[] #[])) (hv : gs (gE E) args.toList = some vs)
    (k : ∀ v h1, R v h1 → l0 ≤ h1.low ∧ ∃ E1, eput n E dst v = some E1 ∧ RunD P n ops rest l0 E1 h1 fun E' h' fs => Q E' h' (.all (Nat.ble h.next h1.low) :: fs)) : RunD P n ops (⟨dst, .call ⟨.value f, args, ats⟩, t, pos, after, gd⟩ :: rest) l0 E h Q := by
  intro lw hlw
  obtain ⟨v, h1, q, N1, hN1⟩ := r
  obtain ⟨hl, E1, hp, r2⟩ := k v h1 q
  obtain ⟨E2, h2, fs, lw2, q2, hl2, N2, hN2⟩ := r2 (cond (Nat.ble lw h1.low) lw h1.low) (low_mix hlw hl)
  refine ⟨E2, h2, _, lw2, q2, hl2, Nat.max N1 N2, fun d hd K hK T hs => ?_⟩
  obtain ⟨T1, ha, hs1⟩ := eput_le hs hp
  obtain ⟨T2, hs2, hb⟩ := hN2 d (Nat.le_trans (Nat.le_max_right _ _) hd) K (Nat.le_trans (Nat.le_max_right _ _) hK) T1 hs1
  refine ⟨T2, hs2, ?_⟩
  have e : (#[] : Array Value).toList ++ (vs ++ (#[] : Array Value).toList) = vs := by simp
  have hc := hN1 d (Nat.le_trans (Nat.le_max_left _ _) hd) K (Nat.le_trans (Nat.le_max_left _ _) hK)
  have hc : cfl P K d g vs ⟨(h.lo lw).objs, (h.lo lw).next, (h.lo lw).next⟩ = some (v, h1) := hc
  unfold aopsC astepC
  simp only [ewanted_le hs hw, aop, acallv, gE_le hs hf, gs_le hs hv, e, hc, ha, fpOf]
  have hb : aopsC P (cfl P K d) n ops rest T1 ⟨h1.objs, h1.next, cond (Nat.ble (h.lo lw).low h1.low) (h.lo lw).low h1.low⟩ = some (T2, h2.lo lw2, fs) := hb
  rw [hb]
  rfl
theorem RunD.callD {d : Tmp} {f : Operand} {args : Array Operand} {ats : Array TypeId} {t : TypeId} {pos : String} {after : Array Edge} {g : FuncId} {vs : List Value} {R : Value → Heap → Prop}
    (r : RunF P g vs (h.lo h.next) R) (hf : gE E f = some (.func (.func g) #[] #[])) (hv : gs (gE E) args.toList = some vs) (hd : Nat.ble (Nat.succ d) n = true)
    (k : ∀ v h1, R v h1 → l0 ≤ h1.low ∧ RunD P n ops rest l0 (upd E d v) h1 fun E' h' fs => Q E' h' (.all (Nat.ble h.next h1.low) :: fs)) : RunD P n ops (⟨some d, .call ⟨.value f, args, ats⟩, t, pos, after, none⟩ :: rest) l0 E h Q :=
  RunD.callG rfl r hf hv (fun v h1 q => ⟨(k v h1 q).1, _, by simp only [eput, hd, cond_true], (k v h1 q).2⟩)
theorem RunC.draw {i : Nat} {ops : Array Oper} {p : Nat × Nat} {ps : List (Nat × Nat)} {Qn : Env → Heap → Prop} {Qx : Nat → Env → Heap → Prop} {Qr : Env → Heap → Prop} (hl : l0 ≤ h.low) (hd : drawOk ops = some (p :: ps))
    (r : RunD P n ops.toList ops.toList l0 E h (fun E' h' fs => pairsOk fs (p :: ps) = true ∧ ∀ lw, l0 ≤ lw → Qn E' (h'.lo lw))) : RunC P n (.region i ops true) E h Qn Qx Qr := by
  obtain ⟨E', h', fs, lw', ⟨hp, q⟩, hl', N, hN⟩ := r h.low hl
  refine ⟨.normal, E', h'.lo lw', q lw' hl', N, fun d hdd K hK T hs => ?_⟩
  obtain ⟨T', hs', e⟩ := hN d hdd K hK T hs
  have e : aopsC P (cfl P K d) n ops.toList ops.toList T h = some (T', h'.lo lw', fs) := e
  exact ⟨T', hs', by simp only [acode, aregion, hd, e, hp, cond_true]⟩
/-- As Fr, without the mark. -/
structure Fg (m : Nat → Prop) (h h' : Heap) : Prop where
  next : h.next ≤ h'.next
  get : ∀ i, i < h.next → ¬ m i → h'.get i = h.get i
theorem Fr.fg {m : Nat → Prop} {h h' : Heap} {x : Nat} (f : Fr m (h.lo x) h') : Fg m h h' := ⟨f.next, f.get⟩
theorem Fr.fg0 {m : Nat → Prop} {h h' : Heap} (f : Fr m h h') : Fg m h h' := ⟨f.next, f.get⟩
theorem Fg.trans {m m1 : Nat → Prop} {h h1 h2 : Heap} (a : Fg m h h1) (b : Fg m1 h1 h2) (w : ∀ i, m1 i → m i ∨ h.next ≤ i) : Fg m h h2 :=
  ⟨Nat.le_trans a.next b.next, fun i hi hm => by rw [b.get i (Nat.lt_of_lt_of_le hi a.next) (fun g => (w i g).elim hm (fun x => absurd hi (Nat.not_lt.2 x))), a.get i hi hm]⟩
theorem Fg.same {m : Nat → Prop} {h h1 h2 : Heap} (a : Fg m h h1) (b : Fg m h1 h2) : Fg m h h2 := a.trans b (fun _ g => .inl g)
theorem Fg.quiet {m : Nat → Prop} {h h1 h2 : Heap} (a : Fg m h h1) (b : Fg no h1 h2) : Fg m h h2 := a.trans b (fun _ g => g.elim)
theorem Fg.close {m : Nat → Prop} {h h' : Heap} {lw : Nat} (f : Fg m h h') (w : ∀ l, l ≤ h.low → l ≤ h.next → (∀ i, m i → l ≤ i) → l ≤ lw) : Fr m h (h'.lo lw) := ⟨f.next, f.get, w⟩
theorem Fr.from {m : Nat → Prop} {h h' : Heap} (f : Fr m (h.lo h.next) h') {l : Nat} (hl : l ≤ h.next) (hm : ∀ i, m i → l ≤ i) : l ≤ h'.low := f.low l hl hl hm
theorem Fr.quietB {h h' : Heap} (f : Fr no (h.lo h.next) h') : Nat.ble h.next h'.low = true := Nat.ble_eq_true_of_le (f.low h.next (Nat.le_refl _) (Nat.le_refl _) (fun _ g => g.elim))
end
end Go.Am
namespace Go.Am
theorem eresults_cell {P : Program} {E : Env} {h : Heap} {a : Tmp} {t : TypeId} {ad : Addr} {v w : Value} {b : Tmp} (h1 : E a = some (.pointer (some ad))) (h2 : aload P h t ad = some v) (h3 : E b = some w) :
    eresults P [.cell a t, .tmp b] E h = some (.tuple #[v, w]) := by
  simp only [eresults, eres, h1, h2, h3]
end Go.Am
namespace Go.Am
end Go.Am
end
section
set_option linter.unusedVariables false
namespace Go.Am
open Go.RowKit
variable {P : Program}
def noRoutine (P : Program) : Bool := P.funcs.toList.all (fun fn => !(fn.name == "runtime.NumGoroutine"))
theorem noRoutine_iff (h : noRoutine P = true) (f : FuncId) (fn : Func) (e : P.funcs[f]? = some fn) : (fn.name == "runtime.NumGoroutine") = false := by
  unfold noRoutine at h
  rw [List.all_eq_true] at h
  have hm : fn ∈ P.funcs.toList := by
    rw [← Array.getElem?_toList] at e
    exact List.mem_of_getElem? e
  have := h fn hm
  simpa using this
/-- A call with arguments without addresses that tells true by the calculus: so tells the world. -/
theorem RunF.calls (hm : P.follows .mixedOrders = true) (hn : noRoutine P = true) {f : FuncId} {args : List Value} (hc : args.all closedV = true) (r : RunF P f args ⟨.leaf, 0, 0⟩ (fun v _ => v = .bool true)) (w : World) :
    Calls P f ⟨args⟩ w fun e w' => e = .returned (.bool true) ∧ Below w.heap.size w w' := by
  obtain ⟨v, h', rfl, N, hN⟩ := r
  have e := hN N (Nat.le_refl _) N (Nat.le_refl _)
  obtain ⟨_, _, h3⟩ := acall_sound hm (noRoutine_iff hn) (sp := fun _ => none) (fun f s args h v h' e => by cases e) N N f args _ _ h' e
  have hv : ∀ (μ : Mu) (l : List Value), l.all closedV = true → VRels μ l l := by
    intro μ l
    induction l with
    | nil => intro _; exact .nil
    | cons x t ih =>
      intro hl
      rw [List.all_cons, Bool.and_eq_true] at hl
      exact .cons (closedV_rel μ hl.1) (ih hl.2)
  refine (h3 (fun _ => none) w ⟨args⟩ ⟨fun i o p _ g => (by cases g), fun i j o o' p p' off _ _ _ g => (by cases g), fun i o g => (by cases g)⟩ (fun _ _ _ => rfl) (hv _ _ hc)).mono ?_
  rintro e w' ⟨v', ν, rfl, h1, h2⟩
  have hvv := closedV_eq (show closedV (.bool true) = true from rfl) h1
  have hown : ∀ b off, ¬ Own ⟨.leaf, 0, 0⟩ (fun _ => none) (fun i => h'.low ≤ i) b off := by
    rintro b off ⟨i, o, p, _, g, _⟩
    cases g
  refine ⟨by rw [hvv], h2.keep.os, h2.keep.tape, h2.keep.output, h2.keep.size, fun k hk => h2.keep.block k hk (fun off => hown k off)⟩
end Go.Am
end
section
set_option linter.unusedVariables false
namespace Go.Am
open Go.RowKit
section
variable {P : Program} {n : Nat} {ops rest : List Oper} {E E1 : Env} {h h1 : Heap} {Q : Env → Heap → Prop}
/-- Something appended to a row that has no room left: a new block. -/
theorem append_full {t e : TypeId} {i : TypeInfo} {z : Value} {s k m c c' : Nat} {olds news : List Value} {a b : Addr}
    (hu : P.underlying t = some (.slice e)) (hi : P.info? e = some i) (hz : zeroOf P e = some z) (hlz : lenIs (cellsOf z) i.size = true) (hs : i.size = s) (hs1 : 1 ≤ s)
    (ro : Rd h b olds) (hk : olds.length = k * s) (hc : isUnk c = false) (hc2 : half c < k + m)
    (rd : Rd h a news) (hn : news.length = m * s) (hm : 1 ≤ m) (hb : 2 * (k + m) * i.bytes ≤ 281474976710656) (hb2 : k + m ≤ 9223372036854775807) :
    aappend P h t t (.slice (some b) k c) (.slice (some a) m c') = some (.slice (some ⟨h.next, 0, none⟩) (k + m) (unkc s), h.push ⟨olds ++ news, true⟩) := by
  subst hs
  obtain ⟨m, rfl⟩ : ∃ j, m = j + 1 := ⟨m - 1, by omega⟩
  have hr : asrc h i.size (.slice (some a) (m + 1) c') = some (m + 1, news) := by
    have hq : aread h a (Nat.mul (m + 1) i.size) = some (news.take ((m + 1) * i.size)) := rd.read0 (m := (m + 1) * i.size) (by omega)
    simp only [asrc, hq]
    rw [List.take_of_length_le (by omega)]
  have e1 : Nat.ble (Nat.mul (Nat.mul 2 (Nat.add k (Nat.succ m))) i.bytes) 281474976710656 = true := Nat.ble_eq_true_of_le hb
  have e2 : Nat.ble (Nat.add k (Nat.succ m)) 9223372036854775807 = true := Nat.ble_eq_true_of_le hb2
  have e3 : aread h b (Nat.mul k i.size) = some olds := by
    have := ro.read0 (m := k * i.size) (by omega)
    rw [List.take_of_length_le (by omega)] at this
    exact this
  have e4 : Nat.ble (Nat.add k (Nat.succ m)) (half c) = false := by
    cases hbb : Nat.ble (Nat.add k (Nat.succ m)) (half c) with
    | false => rfl
    | true => exact absurd (Nat.le_of_ble_eq_true hbb) (by show ¬ k + (m + 1) ≤ half c; omega)
  simp only [aappend, hu, Nat.beq_refl, cond_true, hi, hz, hlz, Nat.ble_eq_true_of_le hs1, hr, e1, e2, e3, hc, cond_false, e4]
  rfl
end
end Go.Am
end
section
set_option linter.unusedVariables false
namespace Go.Am
open Go.RowKit
/-- Shapes of values that are laid open. -/
inductive Sh where
  | int (k : IntKind)
  | bool
  | str
  | slice (s : Sh)
  | unit
  | pair (a b : Sh)
def Sh.T : Sh → Type
  | .int _ => Int
  | .bool => Bool
  | .str => ByteArray
  | .slice s => List s.T
  | .unit => Unit
  | .pair a b => a.T × b.T
def Sh.sz : Sh → Nat
  | .unit => 0
  | .pair a b => a.sz + b.sz
  | _ => 1
/-- A slice of cells that stand side by side, in any memory. -/
def Sl (h : Heap) (v : Value) (s n : Nat) (cells : List Value) : Prop :=
  cells.length = n * s ∧ n ≤ 9223372036854775807 ∧ ((v = .slice none 0 0 ∧ n = 0) ∨ ∃ b o c, v = .slice (some ⟨b, o, none⟩) n c ∧ Cp s n c ∧ Rd h ⟨b, o, none⟩ cells)
def Sh.K : (s : Sh) → Heap → s.T → List Value → Prop
  | .int k, _, n, cs => cs = [.int k n] ∧ (Lit.int k n).wf = true
  | .bool, _, b, cs => cs = [.bool b]
  | .str, _, b, cs => cs = [.string b]
  | .slice s, h, l, cs => ∃ v acs, cs = [v] ∧ Sl h v s.sz (List.length (α := s.T) l) acs ∧ ∀ (j : Nat) (x : s.T), nth (α := s.T) l j = some x → s.K h x ((acs.drop (j * s.sz)).take s.sz)
  | .unit, _, _, cs => cs = []
  | .pair a b, h, p, cs => ∃ c1 c2, cs = c1 ++ c2 ∧ c1.length = a.sz ∧ c2.length = b.sz ∧ a.K h p.1 c1 ∧ b.K h p.2 c2
structure Ex (h h' : Heap) : Prop where
  next : h.next ≤ h'.next
  get : ∀ i, i < h.next → h'.get i = h.get i
theorem Ex.refl (h : Heap) : Ex h h := ⟨Nat.le_refl _, fun _ _ => rfl⟩
theorem Ex.trans {a b c : Heap} (x : Ex a b) (y : Ex b c) : Ex a c := ⟨Nat.le_trans x.next y.next, fun i hi => (y.get i (Nat.lt_of_lt_of_le hi x.next)).trans (x.get i hi)⟩
theorem Rd.ex {h h' : Heap} {a : Addr} {cs : List Value} (r : Rd h a cs) (x : Ex h h') : Rd h' a cs := ⟨r.1, Nat.lt_of_lt_of_le r.2.1 x.next, by rw [x.get _ r.2.1]; exact r.2.2⟩
theorem Sl.ex {h h' : Heap} {v : Value} {s n : Nat} {cs : List Value} (r : Sl h v s n cs) (x : Ex h h') : Sl h' v s n cs := by
  refine ⟨r.1, r.2.1, r.2.2.imp (fun y => y) ?_⟩
  rintro ⟨b, o, c, h1, h2, h3⟩
  exact ⟨b, o, c, h1, h2, h3.ex x⟩
theorem Fr.ex {h h' : Heap} (f : Fr no h h') : Ex h h' := ⟨f.next, fun i hi => f.get i hi (fun g => g)⟩
theorem Sh.K_ex : ∀ (s : Sh) {h h' : Heap} {x : s.T} {cs : List Value}, Ex h h' → s.K h x cs → s.K h' x cs
  | .int k, _, _, _, _, _, g => g
  | .bool, _, _, _, _, _, g => g
  | .str, _, _, _, _, _, g => g
  | .slice s, h, h', l, cs, e, ⟨v, acs, g1, g2, g3⟩ => ⟨v, acs, g1, g2.ex e, fun j x hx => Sh.K_ex s e (g3 j x hx)⟩
  | .unit, _, _, _, _, _, g => g
  | .pair a b, h, h', p, cs, e, ⟨c1, c2, g1, g2, g3, g4, g5⟩ => ⟨c1, c2, g1, g2, g3, Sh.K_ex a e g4, Sh.K_ex b e g5⟩
theorem Sh.K_len : ∀ (s : Sh) {h : Heap} {x : s.T} {cs : List Value}, s.K h x cs → cs.length = s.sz
  | .int k, _, _, _, g => by rw [g.1]; rfl
  | .bool, _, _, _, g => by rw [show _ = _ from g]; rfl
  | .str, _, _, _, g => by rw [show _ = _ from g]; rfl
  | .slice s, h, l, cs, ⟨v, acs, g1, g2, g3⟩ => by rw [g1]; rfl
  | .unit, _, _, _, g => by rw [show _ = _ from g]; rfl
  | .pair a b, h, p, cs, ⟨c1, c2, g1, g2, g3, g4, g5⟩ => by rw [g1, List.length_append, g2, g3]; rfl

def Sh.rep (s : Sh) : Nat → Sh
  | 0 => .unit
  | n + 1 => .pair s (s.rep n)
def Sh.fields (g : TypeId → Option Sh) (P : Program) : List Field → Nat → Nat → Option Sh
  | [], off, all => cond (Nat.beq off all) (some .unit) none
  | fd :: l, off, all => match g fd.type with
    | some s => cond (Nat.beq fd.offset off) (cond (Nat.beq (P.cellsOf fd.type) s.sz) (match Sh.fields g P l (off + s.sz) all with
      | some r => some (.pair s r)
      | none => none) none) none
    | none => none
def Sh.of (P : Program) : Nat → TypeId → Option Sh
  | 0, _ => none
  | f + 1, t => match P.underlying t with
    | some (.int k) => some (.int k)
    | some .bool => some .bool
    | some .string => some .str
    | some (.slice e) => (match Sh.of P f e with
      | some s => cond (Nat.beq (P.cellsOf e) s.sz) (cond (Nat.ble 1 s.sz) (some (.slice s)) none) none
      | none => none)
    | some (.struct fs) => Sh.fields (Sh.of P f) P fs.toList 0 (P.cellsOf t)
    | some (.array n e) => (match Sh.of P f e with
      | some s => cond (Nat.beq (P.cellsOf e) s.sz) (cond (Nat.beq (P.cellsOf t) (n * s.sz)) (some (s.rep n)) none) none
      | none => none)
    | _ => none
theorem condS {α : Type} {b : Bool} {x : Option α} {y : α} (h : cond b x none = some y) : b = true ∧ x = some y := by
  cases b with
  | true => exact ⟨rfl, h⟩
  | false => cases h

/-- A memory of rows that are not one's own, beside a world. -/
structure Ini (h : Heap) (μ : Mu) (w : World) : Prop where
  rel : Rel (fun _ => True) μ h w
  fresh : ∀ i, h.next ≤ i → μ i = none
  old : ∀ i o, h.get i = some o → o.own = false
theorem Ini.nil (w : World) : Ini ⟨.leaf, 0, 0⟩ (fun _ => none) w :=
  ⟨⟨fun i o p _ g => (by cases g), fun i j o o' p p' off _ _ _ g => (by cases g), fun i o g => (by cases g)⟩, fun _ _ => rfl, fun i o g => by cases g⟩
def Mu.put (μ : Mu) (i : Nat) (p : Place) : Mu := fun j => if j = i then some p else μ j
theorem Ini.push {h : Heap} {μ : Mu} {w : World} (I : Ini h μ w) {acs : List Value} {b off : Nat} (hc : ∀ j v, acs[j]? = some v → ∃ v', w.cell? ⟨b, off + j, none⟩ = some v' ∧ VRel μ v v') :
    Ini (h.push ⟨acs, false⟩) (μ.put h.next ⟨b, off, 0⟩) w ∧ μ.le (μ.put h.next ⟨b, off, 0⟩) ∧ Ex h (h.push ⟨acs, false⟩) ∧ (μ.put h.next ⟨b, off, 0⟩) h.next = some ⟨b, off, 0⟩ := by
  have hle : μ.le (μ.put h.next ⟨b, off, 0⟩) := by
    intro i p hp
    unfold Mu.put
    rw [if_neg]; exact hp
    intro e; subst e; rw [I.fresh _ (Nat.le_refl _)] at hp; cases hp
  have hex : Ex h (h.push ⟨acs, false⟩) := ⟨Nat.le_succ _, fun i hi => by rw [get_push, if_neg (by omega)]⟩
  have hold : ∀ i o, (h.push ⟨acs, false⟩).get i = some o → o.own = false := by
    intro i o g
    rw [get_push] at g
    split at g
    · cases g; rfl
    · exact I.old i o g
  refine ⟨⟨⟨?_, ?_, ?_⟩, ?_, hold⟩, hle, hex, by unfold Mu.put; rw [if_pos rfl]⟩
  · intro i o p _ g m
    rw [get_push] at g
    unfold Mu.put at m
    split at g
    · rename_i hi
      rw [if_pos hi] at m
      cases g; cases m
      exact ⟨fun j v hj => by obtain ⟨v', h1, h2⟩ := hc j v hj; exact ⟨v', h1, h2.mono hle⟩, fun ho => (by cases ho), fun ho => (by cases ho)⟩
    · rename_i hi
      rw [if_neg hi] at m
      have := I.rel.cells i o p trivial g m
      exact ⟨fun j v hj => by obtain ⟨v', h1, h2⟩ := this.cells j v hj; exact ⟨v', h1, h2.mono hle⟩, this.ext, this.own⟩
  · intro i j o o' p p' off' _ _ hij g g' ho
    rw [hold i o g] at ho; cases ho
  · intro i o g
    rw [get_push] at g
    split at g
    · rename_i hi; rw [hi]; exact Nat.lt_succ_self _
    · exact Nat.lt_succ_of_lt (I.rel.live i o g)
  · intro i hi
    have hi : h.next + 1 ≤ i := hi
    unfold Mu.put
    rw [if_neg (by omega)]
    exact I.fresh i (by omega)
section
open Go.ChangeShapes Go.Deep
variable {H : Type} {enc : TypeId × Value → H} {P : Program} {w : World} {base : Nat} {held : Bool}
/-- What a type's reading gives beside a memory. -/
def Opens (enc : TypeId × Value → H) (P : Program) (w : World) (base : Nat) (held : Bool) (t : TypeId) (s : Sh) : Prop :=
  ∀ n cs x, DataW.trod enc P w base (fun _ => true) held n t cs = some x → ∀ h μ, Ini h μ w → ∃ h' μ' acs p, Ini h' μ' w ∧ μ.le μ' ∧ Ex h h' ∧ VRels μ' acs cs ∧ s.K h' p acs
theorem opens_slice {t e : TypeId} {s : Sh} (ht : P.underlying t = some (.slice e)) (hz : P.cellsOf e = s.sz) (h1 : 1 ≤ s.sz) (hel : Opens enc P w base held e s) : Opens enc P w base held t (.slice s) := by
  intro n cs x hx h μ I
  rcases open_slice ht hx with ⟨rfl, _⟩ | ⟨a, len, cap, m, n', D, Pl, rfl, hb, hl, hm, hmm, _, hi⟩
  · exact ⟨h, μ, [.slice none 0 0], ([] : List s.T), I, Mu.le_refl _, Ex.refl _, .cons (.sliceNil 0 0) .nil, .slice none 0 0, [], rfl, ⟨by simp, Nat.zero_le _, .inl ⟨rfl, rfl⟩⟩, fun j x hx => by rw [nth_eq] at hx; simp at hx⟩
  rw [if_pos rfl] at hmm
  subst hmm
  have hmx : m ≤ 9223372036854775807 := by unfold maxLen at hm; omega
  have key : ∀ k, k ≤ len → ∃ (h' : Heap) (μ' : Mu) (acs : List Value) (l : List s.T), Ini h' μ' w ∧ μ.le μ' ∧ Ex h h' ∧ acs.length = k * s.sz ∧ l.length = k ∧ (∀ j v, acs[j]? = some v → ∃ v', w.cell? (a.add j) = some v' ∧ VRel μ' v v') ∧
      ∀ j x, l[j]? = some x → s.K h' x ((acs.drop (j * s.sz)).take s.sz) := by
    intro k
    induction k with
    | zero => intro _; exact ⟨h, μ, [], [], I, Mu.le_refl _, Ex.refl _, by simp, rfl, fun j v hj => by simp at hj, fun j x hj => by simp at hj⟩
    | succ k ih =>
      intro hk
      obtain ⟨h1, μ1, acs, l, I1, le1, ex1, hla, hll, hcs, hK⟩ := ih (by omega)
      obtain ⟨cs', hc', ht'⟩ := hi k (by omega)
      obtain ⟨h2, μ2, ac2, p, I2, le2, ex2, hv, hk2⟩ := hel n' cs' _ ht' h1 μ1 I1
      obtain ⟨_, hcl, hat⟩ := World.cells?_some hc'
      have hl2 := s.K_len hk2
      refine ⟨h2, μ2, acs ++ ac2, l ++ [p], I2, Mu.le_trans le1 le2, ex1.trans ex2, by rw [List.length_append, hla, hl2, Nat.succ_mul], by simp [hll], ?_, ?_⟩
      · intro j v hj
        by_cases c : j < acs.length
        · rw [List.getElem?_append_left c] at hj
          obtain ⟨v', e1, e2⟩ := hcs j v hj
          exact ⟨v', e1, e2.mono le2⟩
        · rw [List.getElem?_append_right (by omega)] at hj
          obtain ⟨v', e1, e2⟩ := hv.nth _ v hj
          have hjl : j - acs.length < P.cellsOf e := by
            have := (List.getElem?_eq_some_iff.1 e1).1; omega
          have e3 := hat _ hjl
          rw [add_add, e1, hz, ← hla, show acs.length + (j - acs.length) = j by omega] at e3
          exact ⟨v', e3, e2⟩
      · intro j x hj
        by_cases c : j < l.length
        · rw [List.getElem?_append_left c] at hj
          have := s.K_ex ex2 (hK j x hj)
          have hb : j * s.sz + s.sz ≤ acs.length := by
            rw [hla, ← Nat.succ_mul]; exact Nat.mul_le_mul_right _ (by omega)
          rw [List.drop_append_of_le_length (by omega), List.take_append_of_le_length (by rw [List.length_drop]; omega)]
          exact this
        · rw [List.getElem?_append_right (by omega)] at hj
          have : j - l.length = 0 := by
            have := (List.getElem?_eq_some_iff.1 hj).1
            simp at this; omega
          rw [this] at hj
          have e : p = x := by simpa using hj
          subst e
          have ej : j * s.sz = acs.length := by rw [hla, show j = k by omega]
          rw [ej, List.drop_left, ← hl2, List.take_length]
          exact hk2
  obtain ⟨h1, μ1, acs, l, I1, le1, ex1, hla, hll, hcs, hK⟩ := key len (Nat.le_refl _)
  obtain ⟨b, off, spot⟩ := a
  by_cases h0 : m = 0
  · subst h0
    have hl0 : len = 0 := by omega
    subst hl0
    obtain ⟨I2, le2, ex2, hp⟩ := I1.push (acs := []) (b := b) (off := off) (fun j v hj => by simp at hj)
    have hacs : acs = [] := List.length_eq_zero_iff.1 (by omega)
    subst hacs
    refine ⟨_, _, [.slice (some ⟨h1.next, 0, none⟩) 0 (unkc s.sz)], l, I2, Mu.le_trans le1 le2, ex1.trans ex2, .cons (.sliceUn hp (Nat.le_refl _) (.inr ⟨rfl, rfl⟩)) .nil, _, [], rfl, ⟨by simp [hll], by omega, .inr ⟨h1.next, 0, unkc s.sz, by rw [hll], by rw [hll]; exact Cp.unkc _ _, rfl, Nat.lt_succ_self _, ⟨[], false⟩, by rw [get_push, if_pos rfl], by simp⟩⟩, fun j x hj => by
      rw [nth_eq] at hj
      have := (List.getElem?_eq_some_iff.1 hj).1
      exact absurd this (by omega)⟩
  · obtain ⟨cs0, hc0, _⟩ := hi 0 (by omega)
    obtain ⟨_, hcl0, hat0⟩ := World.cells?_some hc0
    have hs : spot = none := by
      have := hat0 0 (by omega)
      rw [add_add, Nat.zero_mul, Nat.zero_add] at this
      rw [List.getElem?_eq_getElem (by omega)] at this
      unfold World.cell? Addr.add at this
      simp only [if_true] at this
      split at this
      · cases spot with
        | none => rfl
        | some q => simp at this
      · cases this
    subst hs
    have hadd : ∀ j, (⟨b, off, none⟩ : Addr).add j = ⟨b, off + j, none⟩ := by
      intro j; unfold Addr.add
      split
      · rename_i e; rw [e]; rfl
      · rfl
    obtain ⟨I2, le2, ex2, hp⟩ := I1.push (acs := acs) (b := b) (off := off) (fun j v hj => by rw [← hadd]; exact hcs j v hj)
    refine ⟨_, _, [.slice (some ⟨h1.next, 0, none⟩) len (exc m)], l, I2, Mu.le_trans le1 le2, ex1.trans ex2, .cons (.sliceEx hp hl) .nil, _, acs, rfl, ⟨by rw [hla, hll], by omega, .inr ⟨h1.next, 0, exc m, by rw [hll], Cp.exc (by omega), rfl, Nat.lt_succ_self _, ⟨acs, false⟩, by rw [get_push, if_pos rfl], by simp⟩⟩, fun j x hj => s.K_ex ex2 (hK j x (by rw [nth_eq] at hj; exact hj))⟩
theorem opens_fields {g : TypeId → Option Sh} (hg : ∀ t s, g t = some s → Opens enc P w base held t s) {n : Nat} {cs : List Value} : ∀ (l : List Field) (off all : Nat) (s : Sh), Sh.fields g P l off all = some s → cs.length = all →
    (∀ f ∈ l, ∃ x, DataW.trod enc P w base (fun _ => true) held n f.type ((cs.drop f.offset).take (P.cellsOf f.type)) = some x) →
    ∀ h μ, Ini h μ w → ∃ h' μ' acs p, Ini h' μ' w ∧ μ.le μ' ∧ Ex h h' ∧ VRels μ' acs (cs.drop off) ∧ s.K h' p acs
  | [], off, all, s, e, hl, _, h, μ, I => by
    unfold Sh.fields at e
    obtain ⟨e1, e2⟩ := condS e
    cases e2
    have := Nat.eq_of_beq_eq_true e1
    refine ⟨h, μ, [], (), I, Mu.le_refl _, Ex.refl _, ?_, rfl⟩
    rw [List.drop_of_length_le (by omega)]
    exact .nil
  | fd :: l, off, all, s, e, hl, hx, h, μ, I => by
    unfold Sh.fields at e
    split at e
    · rename_i s1 hs1
      obtain ⟨e1, e⟩ := condS e
      obtain ⟨e2, e⟩ := condS e
      split at e
      · rename_i r hr
        cases e
        have e1 := Nat.eq_of_beq_eq_true e1
        have e2 := Nat.eq_of_beq_eq_true e2
        obtain ⟨x, hx1⟩ := hx fd (List.mem_cons_self ..)
        rw [e1, e2] at hx1
        obtain ⟨h1, μ1, ac1, p1, I1, le1, ex1, v1, k1⟩ := hg _ _ hs1 _ _ _ hx1 h μ I
        obtain ⟨h2, μ2, ac2, p2, I2, le2, ex2, v2, k2⟩ := opens_fields hg l (off + s1.sz) all r hr hl (fun f hf => hx f (List.mem_cons_of_mem _ hf)) h1 μ1 I1
        refine ⟨h2, μ2, ac1 ++ ac2, (p1, p2), I2, Mu.le_trans le1 le2, ex1.trans ex2, ?_, ac1, ac2, rfl, s1.K_len k1, r.K_len k2, s1.K_ex ex2 k1, k2⟩
        have := (v1.mono le2).append v2
        rw [← List.drop_drop, List.take_append_drop] at this
        exact this
      · cases e
    · cases e
theorem opens_rep {e : TypeId} {s : Sh} (hel : Opens enc P w base held e s) {n : Nat} {cs : List Value} {N : Nat} (hl : cs.length = N * s.sz)
    (hx : ∀ i, i < N → ∃ x, DataW.trod enc P w base (fun _ => true) held n e ((cs.drop (i * s.sz)).take s.sz) = some x) :
    ∀ k, k ≤ N → ∀ h μ, Ini h μ w → ∃ h' μ' acs p, Ini h' μ' w ∧ μ.le μ' ∧ Ex h h' ∧ VRels μ' acs (cs.drop ((N - k) * s.sz)) ∧ (s.rep k).K h' p acs
  | 0, _, h, μ, I => by
    refine ⟨h, μ, [], (), I, Mu.le_refl _, Ex.refl _, ?_, rfl⟩
    rw [List.drop_of_length_le (by rw [hl]; exact Nat.le_refl _)]
    exact .nil
  | k + 1, hk, h, μ, I => by
    obtain ⟨x, hx1⟩ := hx (N - (k + 1)) (by omega)
    obtain ⟨h1, μ1, ac1, p1, I1, le1, ex1, v1, k1⟩ := hel _ _ _ hx1 h μ I
    obtain ⟨h2, μ2, ac2, p2, I2, le2, ex2, v2, k2⟩ := opens_rep hel hl hx k (by omega) h1 μ1 I1
    refine ⟨h2, μ2, ac1 ++ ac2, (p1, p2), I2, Mu.le_trans le1 le2, ex1.trans ex2, ?_, ac1, ac2, rfl, s.K_len k1, (s.rep k).K_len k2, s.K_ex ex2 k1, k2⟩
    have := (v1.mono le2).append v2
    rw [show (N - k) * s.sz = (N - (k + 1)) * s.sz + s.sz by rw [← Nat.succ_mul]; congr 1; omega, ← List.drop_drop, List.take_append_drop] at this
    exact this
theorem opens_of : ∀ (f : Nat) (t : TypeId) (s : Sh), Sh.of P f t = some s → Opens enc P w base held t s
  | 0, t, s, e => by cases e
  | f + 1, t, s, e => by
    unfold Sh.of at e
    split at e
    · rename_i k hu
      cases e
      intro n cs x hx h μ I
      obtain ⟨v, rfl, _, hw⟩ := DataW.trod_int hu hx
      exact ⟨h, μ, [.int k v], v, I, Mu.le_refl _, Ex.refl _, .cons (.int k v) .nil, rfl, hw⟩
    · rename_i hu
      cases e
      intro n cs x hx h μ I
      obtain ⟨v, rfl, _⟩ := DataW.trod_bool hu hx
      exact ⟨h, μ, [.bool v], v, I, Mu.le_refl _, Ex.refl _, .cons (.bool v) .nil, rfl⟩
    · rename_i hu
      cases e
      intro n cs x hx h μ I
      obtain ⟨v, rfl, _⟩ := DataW.trod_string hu hx
      exact ⟨h, μ, [.string v], v, I, Mu.le_refl _, Ex.refl _, .cons (.string v) .nil, rfl⟩
    · rename_i el hu
      split at e
      · rename_i s1 hs1
        obtain ⟨e1, e⟩ := condS e
        obtain ⟨e2, e⟩ := condS e
        cases e
        exact opens_slice hu (Nat.eq_of_beq_eq_true e1) (Nat.le_of_ble_eq_true e2) (opens_of f _ _ hs1)
      · cases e
    · rename_i fs hu
      intro n cs x hx h μ I
      obtain ⟨xs, m, _, _, hlen, hxl, hf⟩ := DataW.trod_struct hu hx
      obtain ⟨h', μ', acs, p, g⟩ := opens_fields (opens_of f) (n := m) fs.toList 0 _ s e hlen (fun fd hfd => by
        obtain ⟨i, hi⟩ := List.getElem?_of_mem hfd
        have hi2 : fs[i]? = some fd := by rw [← Array.getElem?_toList]; exact hi
        have := hf i fd hi2
        have hil : i < xs.length := by rw [hxl]; exact (Array.getElem?_eq_some_iff.1 hi2).1
        rw [List.getElem?_eq_getElem hil] at this
        exact ⟨_, this⟩) h μ I
      rw [List.drop_zero] at g
      exact ⟨h', μ', acs, p, g⟩
    · rename_i N el hu
      split at e
      · rename_i s1 hs1
        obtain ⟨e1, e⟩ := condS e
        obtain ⟨e2, e⟩ := condS e
        cases e
        have e1 := Nat.eq_of_beq_eq_true e1
        have e2 := Nat.eq_of_beq_eq_true e2
        intro n cs x hx h μ I
        obtain ⟨xs, m, _, _, hlen, hxl, hf⟩ := DataW.trod_array hu hx
        obtain ⟨h', μ', acs, p, g⟩ := opens_rep (opens_of f _ _ hs1) (n := m) (cs := cs) (N := N) (hlen.trans e2) (fun i hi => by
          have := hf i hi
          rw [e1, List.getElem?_eq_getElem (by omega)] at this
          exact ⟨_, this⟩) N (Nat.le_refl _) h μ I
        rw [Nat.sub_self, Nat.zero_mul, List.drop_zero] at g
        exact ⟨h', μ', acs, p, g⟩
      · cases e
    · cases e
def Sh.flat : Sh → Bool
  | .unit | .pair _ _ => false
  | _ => true
/-- A value of a shape. -/
def Sh.V (s : Sh) (h : Heap) (x : s.T) (v : Value) : Prop := cond s.flat (s.K h x [v]) (∃ acs, v = .agg ⟨acs⟩ ∧ s.K h x acs)
def ArgsT : List Sh → Type
  | [] => Unit
  | s :: l => s.T × ArgsT l
def ArgsK : (l : List Sh) → Heap → ArgsT l → List Value → Prop
  | [], _, _, vs => vs = []
  | s :: l, h, x, vs => ∃ v vr, vs = v :: vr ∧ s.V h x.1 v ∧ ArgsK l h x.2 vr
theorem Sh.V_ex {s : Sh} {h h' : Heap} {x : s.T} {v : Value} (e : Ex h h') (k : s.V h x v) : s.V h' x v := by
  unfold Sh.V at k ⊢
  cases hf : s.flat with
  | true => rw [hf] at k; exact s.K_ex e k
  | false =>
    rw [hf] at k
    obtain ⟨acs, h1, h2⟩ := k
    exact ⟨acs, h1, s.K_ex e h2⟩
end
theorem rep_flat (s : Sh) (n : Nat) : (s.rep n).flat = false := by cases n <;> rfl
theorem fields_flat {g : TypeId → Option Sh} {P : Program} : ∀ {l : List Field} {off all : Nat} {s : Sh}, Sh.fields g P l off all = some s → s.flat = false
  | [], off, all, s, e => by
    unfold Sh.fields at e
    obtain ⟨_, e2⟩ := condS e
    cases e2; rfl
  | fd :: l, off, all, s, e => by
    unfold Sh.fields at e
    split at e
    · obtain ⟨e1, e⟩ := condS e
      obtain ⟨e2, e⟩ := condS e
      split at e
      · cases e; rfl
      · cases e
    · cases e
section
open Go.ChangeShapes Go.WideShapes Go.Deep
variable {H : Type} {enc : TypeId × Value → H} {P : Program} {w : World} {base : Nat} {held : Bool} {r : Reach} {b0 : Nat}
theorem VRels.of_cells {μ : Mu} {v : Value} (hc : v.cells = #[v]) {acs : List Value} (hv : VRels μ acs v.cells.toList) : ∃ a, acs = [a] ∧ VRel μ a v := by
  rw [hc] at hv
  cases hv with
  | cons h1 h2 => cases h2; exact ⟨_, rfl, h1⟩
theorem VRels.of_agg {μ : Mu} {cs : Array Value} {acs : List Value} (hv : VRels μ acs (Value.agg cs).cells.toList) : VRel μ (.agg ⟨acs⟩) (.agg cs) := by
  have hv : VRels μ acs cs.toList := hv
  have e : cs = ⟨cs.toList⟩ := by simp
  rw [e]
  exact .agg hv
theorem opens_arg {f : Nat} {t : TypeId} {s : Sh} (e : Sh.of P f t = some s) {v : Value} (hval : Value.okWide P w r b0 t v) {d : DataW H} {ps : List MemPlace} (hd : DataW.Trod enc P w base (fun _ => true) held t v d ps) :
    ∀ h μ, Ini h μ w → ∃ h' μ' av p, Ini h' μ' w ∧ μ.le μ' ∧ Ex h h' ∧ VRel μ' av v ∧ s.V h' p av := by
  intro h μ I
  obtain ⟨fuel, hf⟩ := hd
  obtain ⟨h', μ', acs, p, I', le, ex, hv, k⟩ := opens_of f t s e _ _ _ hf h μ I
  have one : v.cells = #[v] → s.flat = true → ∃ h' μ' av p, Ini h' μ' w ∧ μ.le μ' ∧ Ex h h' ∧ VRel μ' av v ∧ s.V h' p av := by
    intro hc hfl
    obtain ⟨a, rfl, ha⟩ := VRels.of_cells hc hv
    exact ⟨h', μ', a, p, I', le, ex, ha, by unfold Sh.V; rw [hfl]; exact k⟩
  have many : (∃ cs, v = .agg cs) → s.flat = false → ∃ h' μ' av p, Ini h' μ' w ∧ μ.le μ' ∧ Ex h h' ∧ VRel μ' av v ∧ s.V h' p av := by
    rintro ⟨cs, rfl⟩ hfl
    exact ⟨h', μ', .agg ⟨acs⟩, p, I', le, ex, VRels.of_agg hv, by unfold Sh.V; rw [hfl]; exact ⟨acs, rfl, k⟩⟩
  cases f with
  | zero => cases e
  | succ f =>
  unfold Sh.of at e
  split at e
  · rename_i k' hu
    cases e
    obtain ⟨n, rfl⟩ := okWide_int hu hval
    exact one rfl rfl
  · rename_i hu
    cases e
    obtain ⟨n, rfl⟩ := okWide_bool hu hval
    exact one rfl rfl
  · rename_i hu
    cases e
    obtain ⟨n, rfl⟩ := okWide_string hu hval
    exact one rfl rfl
  · rename_i el hu
    split at e
    · rename_i s1 hs1
      obtain ⟨e1, e⟩ := condS e
      obtain ⟨e2, e⟩ := condS e
      cases e
      obtain ⟨a, n, c, rfl⟩ := okWide_slice hu hval
      exact one rfl rfl
    · cases e
  · rename_i fs hu
    refine many ?_ (fields_flat e)
    unfold Value.okWide at hval
    rw [hu] at hval
    obtain ⟨cs, hc, _⟩ := hval
    exact ⟨cs, hc⟩
  · rename_i N el hu
    split at e
    · rename_i s1 hs1
      obtain ⟨e1, e⟩ := condS e
      obtain ⟨e2, e⟩ := condS e
      cases e
      refine many ?_ (rep_flat _ _)
      unfold Value.okWide at hval
      rw [hu] at hval
      obtain ⟨cs, hc, _⟩ := hval
      exact ⟨cs, hc⟩
    · cases e
  · cases e
theorem opens_args {f : Nat} : ∀ (ts : List TypeId) (ss : List Sh) (vs : List Value) (ds : List (DataW H)) (ps : List MemPlace), ts.map (Sh.of P f) = ss.map some → DataW.TrodAll enc P w base (fun _ => true) held ts vs ds ps →
    (∀ (j : Nat) t v, ts[j]? = some t → vs[j]? = some v → Value.okWide P w r b0 t v) → ∀ h μ, Ini h μ w → ∃ h' μ' avs xs, Ini h' μ' w ∧ μ.le μ' ∧ Ex h h' ∧ VRels μ' avs vs ∧ ArgsK ss h' xs avs
  | [], [], vs, ds, ps, _, hA, _, h, μ, I => by
    cases vs with
    | nil => exact ⟨h, μ, [], (), I, Mu.le_refl _, Ex.refl _, .nil, rfl⟩
    | cons v vs => cases ds <;> exact hA.elim
  | [], s :: ss, vs, ds, ps, e, hA, _, h, μ, I => by cases e
  | t :: ts, [], vs, ds, ps, e, hA, _, h, μ, I => by cases e
  | t :: ts, s :: ss, vs, ds, ps, e, hA, hok, h, μ, I => by
    rw [List.map_cons, List.map_cons] at e
    injection e with e1 e2
    cases vs with
    | nil => cases ds <;> exact hA.elim
    | cons v vs =>
      cases ds with
      | nil => exact hA.elim
      | cons d ds =>
        obtain ⟨p, q, h1, h2, _⟩ := hA
        obtain ⟨h', μ', av, x, I1, le1, ex1, v1, k1⟩ := opens_arg e1 (hok 0 t v rfl rfl) h1 h μ I
        obtain ⟨h'', μ'', avs, xs, I2, le2, ex2, v2, k2⟩ := opens_args ts ss vs ds q e2 h2 (fun j t' v' a b => hok (j + 1) t' v' (by simpa using a) (by simpa using b)) h' μ' I1
        exact ⟨h'', μ'', av :: avs, (x, xs), I2, Mu.le_trans le1 le2, ex1.trans ex2, .cons (v1.mono le2) v2, av, avs, rfl, Sh.V_ex ex2 k1, k2⟩
/-- A call that tells true by the calculus, of any arguments of these shapes: so tells the world. -/
theorem RunF.callsA (hm : P.follows .mixedOrders = true) (hn : noRoutine P = true) {f : FuncId} {F : Nat} {ts : List TypeId} {ss : List Sh} {vs : List Value} {ds : List (DataW H)} {ps : List MemPlace}
    (run : ∀ h xs avs, ArgsK ss h xs avs → RunF P f avs h (fun v _ => v = .bool true))
    (hts : ts.map (Sh.of P F) = ss.map some) (hA : DataW.TrodAll enc P w base (fun _ => true) held ts vs ds ps) (hok : ∀ (j : Nat) t v, ts[j]? = some t → vs[j]? = some v → Value.okWide P w r b0 t v) :
    Calls P f ⟨vs⟩ w fun e w' => e = .returned (.bool true) ∧ Below w.heap.size w w' := by
  obtain ⟨h, μ, avs, xs, I, _, _, hv, hk⟩ := opens_args ts ss vs ds ps hts hA hok _ _ (Ini.nil w)
  obtain ⟨v, h', rfl, N, hN⟩ := run h xs avs hk
  have e := hN N (Nat.le_refl _) N (Nat.le_refl _)
  obtain ⟨_, _, h3⟩ := acall_sound hm (noRoutine_iff hn) (sp := fun _ => none) (fun f s args h v h' e => by cases e) N N f avs _ _ h' e
  refine (h3 μ w ⟨vs⟩ I.rel (fun i hi _ => I.fresh i hi) hv).mono ?_
  rintro e w' ⟨v', ν, rfl, h1, h2⟩
  have hvv := closedV_eq (show closedV (.bool true) = true from rfl) h1
  have hown : ∀ b off, ¬ Own h μ (fun i => h'.low ≤ i) b off := by
    rintro b off ⟨i, o, p, _, g, ho, _⟩
    rw [I.old i o g] at ho; cases ho
  exact ⟨by rw [hvv], h2.keep.os, h2.keep.tape, h2.keep.output, h2.keep.size, fun k hk => h2.keep.block k hk (fun off => hown k off)⟩
end
theorem argInt {k : IntKind} {l : List Sh} {h : Heap} {x : ArgsT (.int k :: l)} {vs : List Value} (a : ArgsK (.int k :: l) h x vs) :
    ∃ (n : Int) (r : ArgsT l) (vr : List Value), vs = .int k n :: vr ∧ (Lit.int k n).wf = true ∧ ArgsK l h r vr := by
  obtain ⟨v, vr, rfl, h1, h2⟩ := a
  obtain ⟨h3, h4⟩ : [v] = [.int k x.1] ∧ (Lit.int k x.1).wf = true := h1
  injection h3 with h3
  subst h3
  exact ⟨x.1, x.2, vr, rfl, h4, h2⟩
theorem map_of_ones {k : IntKind} : ∀ (l : List Int) (acs : List Value), acs.length = l.length → (∀ (j : Nat) (x : Int), l[j]? = some x → (acs.drop j).take 1 = [.int k x]) → acs = l.map (Value.int k)
  | [], [], _, _ => rfl
  | [], _ :: _, h, _ => by cases h
  | _ :: _, [], h, _ => by cases h
  | x :: l, v :: acs, h, H => by
    have h0 := H 0 x rfl
    have e : v = .int k x := by simpa using h0
    rw [List.map_cons, e, map_of_ones l acs (by simpa using h) (fun j y hy => by simpa using H (j + 1) y (by simpa using hy))]
/-- A slice of whole numbers. -/
theorem slInts {k : IntKind} {h : Heap} {l : List Int} {cs : List Value} (a : (Sh.slice (.int k)).K h l cs) : ∃ v, cs = [v] ∧ Sl h v 1 l.length (l.map (Value.int k)) ∧ ∀ x ∈ l, (Lit.int k x).wf = true := by
  obtain ⟨v, acs, rfl, hs, H⟩ := a
  have H' : ∀ (j : Nat) (x : Int), l[j]? = some x → (acs.drop (j * 1)).take 1 = [.int k x] ∧ (Lit.int k x).wf = true := fun j x hj => H j x ((nth_eq l j).trans hj)
  have e : acs = l.map (Value.int k) := map_of_ones l acs (by have h1 : acs.length = l.length * 1 := hs.1; omega) (fun j x hj => by have := (H' j x hj).1; rwa [Nat.mul_one] at this)
  refine ⟨v, rfl, e ▸ hs, fun x hx => ?_⟩
  obtain ⟨j, hj⟩ := List.getElem?_of_mem hx
  exact (H' j x hj).2
theorem argInts {k : IntKind} {l : List Sh} {h : Heap} {x : ArgsT (.slice (.int k) :: l)} {vs : List Value} (a : ArgsK (.slice (.int k) :: l) h x vs) :
    ∃ (n : List Int) (r : ArgsT l) (v : Value) (vr : List Value), vs = v :: vr ∧ Sl h v 1 n.length (n.map (Value.int k)) ∧ (∀ x ∈ n, (Lit.int k x).wf = true) ∧ ArgsK l h r vr := by
  obtain ⟨v, vr, rfl, h1, h2⟩ := a
  obtain ⟨v', h3, h4, h5⟩ := slInts (cs := [v]) h1
  injection h3 with h3
  subst h3
  exact ⟨x.1, x.2, v, vr, rfl, h4, h5, h2⟩
theorem argNil {h : Heap} {x : ArgsT []} {vs : List Value} (a : ArgsK [] h x vs) : vs = [] := a
theorem wf_u8 {x : Int} (h : (Lit.int .u8 x).wf = true) : 0 ≤ x ∧ x < 256 := by
  simp [Lit.wf, IntKind.min, IntKind.max, IntKind.signed, IntKind.bits] at h
  omega
end Go.Am
end
section
set_option linter.unusedVariables false
namespace Go.Am
open Go.RowKit
/- Slices in any memory. -/
theorem Sl.form {h : Heap} {v : Value} {s n : Nat} {cells : List Value} (r : Sl h v s n cells) :
    ∃ A c, v = .slice A n c ∧ Cp s n c ∧ (0 < n → ∃ b o, A = some ⟨b, o, none⟩ ∧ Rd h ⟨b, o, none⟩ cells) := by
  obtain ⟨hl, hm, ⟨rfl, rfl⟩ | ⟨b, o, c, rfl, hc, rd⟩⟩ := r
  · exact ⟨none, 0, rfl, .inr ⟨rfl, Nat.zero_le _⟩, fun g => absurd g (Nat.lt_irrefl 0)⟩
  · exact ⟨_, c, rfl, hc, fun _ => ⟨b, o, rfl, rd⟩⟩
theorem Sl.nil (h : Heap) (s : Nat) : Sl h (.slice none 0 0) s 0 [] := ⟨by simp, Nat.zero_le _, .inl ⟨rfl, rfl⟩⟩
theorem Rd.sl {h : Heap} {b o c s n : Nat} {cells : List Value} (rd : Rd h ⟨b, o, none⟩ cells) (hl : cells.length = n * s) (hm : n ≤ 9223372036854775807) (hc : Cp s n c) : Sl h (.slice (some ⟨b, o, none⟩) n c) s n cells :=
  ⟨hl, hm, .inr ⟨b, o, c, rfl, hc, rd⟩⟩
theorem Row.sl {lo : Nat} {h : Heap} {v : Value} {s n : Nat} {cells : List Value} (r : Row lo h v s n cells) (hm : n ≤ 9223372036854775807) : Sl h v s n cells := by
  obtain ⟨h1, ⟨rfl, rfl⟩ | ⟨b, _, rfl, ow⟩⟩ := r
  · exact ⟨h1, hm, .inl ⟨rfl, rfl⟩⟩
  · exact ⟨h1, hm, .inr ⟨b, 0, _, rfl, Cp.unkc _ _, ow.all⟩⟩
/-- A slice of one's own, from a block's front to its end. -/
def Osl (lo : Nat) (h : Heap) (v : Value) (s n : Nat) (cells : List Value) : Prop :=
  cells.length = n * s ∧ n ≤ 9223372036854775807 ∧ ((v = .slice none 0 0 ∧ n = 0) ∨ ∃ b c, lo ≤ b ∧ v = .slice (some ⟨b, 0, none⟩) n c ∧ Cp s n c ∧ Ow h b cells)
theorem Osl.sl {lo : Nat} {h : Heap} {v : Value} {s n : Nat} {cells : List Value} (r : Osl lo h v s n cells) : Sl h v s n cells := by
  obtain ⟨h1, hm, ⟨rfl, rfl⟩ | ⟨b, c, _, rfl, hc, ow⟩⟩ := r
  · exact ⟨h1, hm, .inl ⟨rfl, rfl⟩⟩
  · exact ⟨h1, hm, .inr ⟨b, 0, _, rfl, hc, ow.all⟩⟩
theorem Row.os {lo : Nat} {h : Heap} {v : Value} {s n : Nat} {cells : List Value} (r : Row lo h v s n cells) (hm : n ≤ 9223372036854775807) : Osl lo h v s n cells := by
  obtain ⟨h1, ⟨rfl, rfl⟩ | ⟨b, hb, rfl, ow⟩⟩ := r
  · exact ⟨h1, hm, .inl ⟨rfl, rfl⟩⟩
  · exact ⟨h1, hm, .inr ⟨b, _, hb, rfl, Cp.unkc _ _, ow⟩⟩
theorem Osl.fr {lo : Nat} {h h' : Heap} {v : Value} {s n : Nat} {cells : List Value} {m : Nat → Prop} (r : Osl lo h v s n cells) (f : Fr m h h') (hm : ∀ b, lo ≤ b → b < h.next → ¬ m b) : Osl lo h' v s n cells := by
  refine ⟨r.1, r.2.1, r.2.2.imp (fun x => x) ?_⟩
  rintro ⟨b, c, h1, h2, h3, h4⟩
  exact ⟨b, c, h1, h2, h3, h4.fr f (hm b h1 h4.1)⟩
theorem Osl.lo {lo lo' : Nat} {h : Heap} {v : Value} {s n : Nat} {cells : List Value} (r : Osl lo h v s n cells) (hl : lo' ≤ lo) : Osl lo' h v s n cells := by
  refine ⟨r.1, r.2.1, r.2.2.imp (fun x => x) ?_⟩
  rintro ⟨b, c, h1, h2⟩
  exact ⟨b, c, by omega, h2⟩
theorem Sl.fr0 {h h' : Heap} {v : Value} {s n : Nat} {cs : List Value} (r : Sl h v s n cs) (f : Fr no h h') : Sl h' v s n cs := r.ex f.ex
theorem Sl.nz {h : Heap} {v : Value} {s n : Nat} {cells : List Value} (r : Sl h v s n cells) (hn : 0 < n) : ∃ b o c, v = .slice (some ⟨b, o, none⟩) n c ∧ Cp s n c ∧ Rd h ⟨b, o, none⟩ cells := by
  obtain ⟨h1, hm, ⟨rfl, rfl⟩ | h2⟩ := r
  · exact absurd hn (Nat.lt_irrefl 0)
  · exact h2
/-- An element of a row. -/
def elm (P : Program) (t : TypeId) (cells : List Value) (off : Nat) : Option Value := apart P t cells off
section
variable {P : Program} {n : Nat} {ops rest : List Oper} {E E1 : Env} {h h1 : Heap} {Q : Env → Heap → Prop}
theorem upd2_le {E : Env} {d d2 : Nat} {p u : Value} (he : E d = none) : Le (upd E d2 u) (upd (upd E d p) d2 u) := by
  intro j w hj
  unfold upd at hj ⊢
  cases h2 : Nat.beq j d2 with
  | true => rw [h2] at hj; exact hj
  | false =>
    rw [h2] at hj
    cases h3 : Nat.beq j d with
    | true => rw [Nat.eq_of_beq_eq_true h3] at hj; rw [show E d = some w from hj] at he; cases he
    | false => exact hj
/-- An element looked at: its address, then a load. -/
theorem RunO.at {d d2 : Tmp} {t ty ty2 e : TypeId} {x i : Operand} {pos pos2 : String} {after after2 : Array Edge} {v : Value} {m s k : Nat} {ik : IntKind} {cells : List Value} {u : Value}
    (hx : gE E x = some v) (hi : gE E i = some (.int ik (k : Int))) (sl : Sl h v s m cells) (hu : P.underlying t = some (.slice e)) (hs : sizeOf P e = some s) (hk : k < m) (hv : apart P e cells (k * s) = some u)
    (hd : Nat.ble (Nat.succ d) n = true) (hd2 : Nat.ble (Nat.succ d2) n = true) (hE : E d = none)
    (r : RunO P n ops rest (upd E d2 u) h Q) : RunO P n ops (⟨some d, .indexAddr t x i, ty, pos, after, none⟩ :: ⟨some d2, .load e (.tmp d), ty2, pos2, after2, none⟩ :: rest) E h Q := by
  obtain ⟨b, o, c, rfl, hc, rd⟩ := sl.nz (by omega)
  refine RunO.index hx hi hu hs hk hd ?_
  refine RunO.load (v := u) (a := ⟨b, o + k * s, none⟩) (by show upd E d _ d = _; unfold upd; rw [Nat.beq_refl]; rfl) (rd.part hv) hd2 ?_
  exact r.le (upd2_le hE)
theorem allCells_take : ∀ (k : Nat) (l : List Value), allCells l = true → allCells (l.take k) = true
  | 0, l, _ => rfl
  | k + 1, [], _ => rfl
  | k + 1, x :: l, ha => by
    unfold allCells at ha
    cases hx : isCell x with
    | false => rw [hx] at ha; cases ha
    | true =>
      rw [hx] at ha
      show cond (isCell x) (allCells (l.take k)) false = true
      rw [hx, cond_true]
      exact allCells_take k l ha
theorem copy_zero {t e : TypeId} {A B : Option Addr} {sn dn sc dc : Nat} (hu : P.underlying t = some (.slice e)) (hs : sizeOf P e = some 1) (hm : Nat.min sn dn = 0) :
    acopy P h t (.slice A dn dc) (.slice B sn sc) = some (goInt 0, h) := by
  simp only [acopy, hu, hs, hm]
theorem copy_some {t e : TypeId} {a b : Addr} {sn dn sc dc k : Nat} {cs : List Value} {h1 : Heap} (hu : P.underlying t = some (.slice e)) (hs : sizeOf P e = some 1) (hm : Nat.min sn dn = k + 1) (e1 : aread h b (Nat.succ k) = some cs) (e2 : astoreL h a cs = some h1) :
    acopy P h t (.slice (some a) dn dc) (.slice (some b) sn sc) = some (goInt ((k + 1 : Nat) : Int), h1) := by
  simp only [acopy, hu, hs, hm, e1, e2]
/-- A row copied over a part of one's own. -/
theorem copy_sl {t e : TypeId} {b o dn dc sn k : Nat} {src : Value} {cs news : List Value} (hu : P.underlying t = some (.slice e)) (hs : sizeOf P e = some 1) (ow : Ow h b cs) (sl : Sl h src 1 sn news) (ha : allCells news = true) (hm : min sn dn = k) (hc : o + k ≤ cs.length) :
    ∃ h', acopy P h t (.slice (some ⟨b, o, none⟩) dn dc) src = some (goInt k, h') ∧ Ow h' b (cs.take o ++ news.take k ++ cs.drop (o + k)) ∧ Fr (· = b) h h' ∧ h'.next = h.next := by
  obtain ⟨A, c, rfl, _, hr⟩ := sl.form
  have hl : news.length = sn * 1 := sl.1
  cases k with
  | zero =>
    refine ⟨h, copy_zero hu hs hm, ?_, Fr.refl _ _, rfl⟩
    rw [List.take_zero, List.append_nil, Nat.add_zero, List.take_append_drop]; exact ow
  | succ k =>
    obtain ⟨b2, o2, rfl, rd⟩ := hr (by omega)
    have e1 : aread h ⟨b2, o2, none⟩ (Nat.succ k) = some (news.take (k + 1)) := rd.read0 (m := k + 1) (by omega)
    have e3 : (news.take (k + 1)).length = k + 1 := by rw [List.length_take]; omega
    have e4 := storeL_ow (off := o) ow (allCells_take (k + 1) news ha) (by omega)
    rw [e3] at e4
    exact ⟨_, copy_some hu hs hm e1 e4, Ow.put _ ow.1, Fr.put _ (.inl rfl), rfl⟩
theorem Sl.src0 {v : Value} {s : Nat} {cells : List Value} (sl : Sl h v s 0 cells) : asrc h s v = some (0, []) := by
  obtain ⟨_, _, ⟨rfl, _⟩ | ⟨b, o, c, rfl, _, _, hb, ob, ho, _⟩⟩ := sl
  · rfl
  · have : aread h ⟨b, o, none⟩ (Nat.mul 0 s) = some [] := by
      have hz : Nat.mul 0 s = 0 := Nat.zero_mul s
      have ho : h.get b = some ob := ho
      rw [hz]
      simp only [aread, ho]
      rw [takeN_eq, if_pos (Nat.zero_le _), List.take_zero]
    simp only [asrc, this]
/-- A row that is appended to nothing, or to a row of one's own that is full. -/
theorem RunO.appendOs {d : Tmp} {t ty e : TypeId} {x y : Operand} {pos : String} {after : Array Edge} {i : TypeInfo} {z : Value} {lo s k m : Nat} {xv yv : Value} {cells news : List Value}
    (hx : gE E x = some xv) (hy : gE E y = some yv) (hd : Nat.ble (Nat.succ d) n = true)
    (hu : P.underlying t = some (.slice e)) (hi : P.info? e = some i) (hz : zeroOf P e = some z) (hlz : lenIs (cellsOf z) i.size = true) (hs : i.size = s) (hs1 : 1 ≤ s) (row : Row lo h xv s k cells) (hlo : lo ≤ h.next)
    (sl : Sl h yv s m news) (ha : allCells news = true) (hb : 2 * (k + m) * i.bytes ≤ 281474976710656) (hb2 : k + m ≤ 9223372036854775807)
    (r : ∀ v' h', Row lo h' v' s (k + m) (cells ++ news) → Fr (At xv) h h' → RunO P n ops rest (upd E d v') h' Q) : RunO P n ops (⟨some d, .call ⟨.builtin .append, #[x, y], #[t, t]⟩, ty, pos, after, none⟩ :: rest) E h Q := by
  by_cases hm : 0 < m
  · obtain ⟨b, o, c, rfl, hc, rd⟩ := sl.nz hm
    exact RunO.append hx hy hd hu hi hz hlz hs hs1 row hlo rd sl.1 hm ha hb hb2 r
  · have hm : m = 0 := by omega
    subst hm
    have hn : news = [] := List.eq_nil_of_length_eq_zero (by rw [sl.1, Nat.zero_mul])
    subst hn
    subst hs
    have key : aappend P h t t xv yv = some (xv, h) := by
      have hsrc : asrc h i.size yv = some (0, []) := sl.src0
      rcases row.2 with ⟨rfl, rfl⟩ | ⟨b, _, rfl, ow⟩
      · simp only [aappend, hu, Nat.beq_refl, cond_true, hi, hz, hlz, Nat.ble_eq_true_of_le hs1, hsrc]
      · simp only [aappend, hu, Nat.beq_refl, cond_true, hi, hz, hlz, Nat.ble_eq_true_of_le hs1, hsrc]
    refine RunO.one rfl (v := xv) (h1 := h) ?_ (by simp only [eput, hd, cond_true]) (r xv h (by rw [Nat.add_zero, List.append_nil]; exact row) (Fr.refl _ _))
    simp only [eop, gs, hx, hy, abuiltin, key]
end
theorem allCells_map {α : Type} {f : α → Value} (hf : ∀ x, isCell (f x) = true) : ∀ l : List α, allCells (l.map f) = true
  | [] => rfl
  | x :: l => by show cond (isCell (f x)) (allCells (l.map f)) false = true; rw [hf, cond_true]; exact allCells_map hf l
/-- Is there one of the first n? -/
def anyI (p : Nat → Bool) (n : Nat) : Bool := (List.range n).any p
theorem anyI_true {p : Nat → Bool} {n i : Nat} (hi : i < n) (hp : p i = true) : anyI p n = true := List.any_eq_true.2 ⟨i, List.mem_range.2 hi, hp⟩
theorem anyI_false {p : Nat → Bool} {n : Nat} (hp : ∀ j, j < n → p j = false) : anyI p n = false := by
  unfold anyI
  rw [List.any_eq_false]
  intro x hx
  rw [hp x (List.mem_range.1 hx)]; exact Bool.false_ne_true
theorem anyI_list {α : Type} {p : Nat → Bool} {q : α → Bool} {l : List α} (h : ∀ j x, l[j]? = some x → p j = q x) : anyI p l.length = l.any q := by
  cases e : l.any q with
  | true =>
    obtain ⟨x, hx, hq⟩ := List.any_eq_true.1 e
    obtain ⟨j, hj⟩ := List.getElem?_of_mem hx
    exact anyI_true (List.getElem?_eq_some_iff.1 hj).1 ((h j x hj).trans hq)
  | false =>
    rw [List.any_eq_false] at e
    refine anyI_false (fun j hj => ?_)
    have hx := List.getElem?_eq_getElem hj
    rw [h j _ hx]
    cases hq : q l[j] with
    | false => rfl
    | true => exact absurd hq (e _ (List.getElem_mem hj))
theorem rowOut {lo : Nat} {h : Heap} {v : Value} {s n : Nat} {cells : List Value} (r : Row lo h v s n cells) (hn : 1 ≤ n) : ∃ b, lo ≤ b ∧ v = .slice (some ⟨b, 0, none⟩) n (unkc s) ∧ Ow h b cells := by
  rcases r.2 with ⟨_, e⟩ | h
  · omega
  · exact h
theorem Row.cell {lo : Nat} {h : Heap} {v : Value} {s n : Nat} {cells : List Value} (r : Row lo h v s n cells) : cellsOf v = [v] ∧ isCell v = true := by
  rcases r.2 with ⟨rfl, _⟩ | ⟨_, _, rfl, _⟩ <;> exact ⟨rfl, rfl⟩
end Go.Am
end
section
set_option linter.unusedVariables false
namespace Go.Am
open Go.RowKit
/- Regions that draw their order, where nothing old is written: then any order does. -/
def okFp : Fp → Bool
  | .none | .rd _ => true
  | .all q => q
  | .wr _ => false
theorem fpOk_ok {f g : Fp} (hf : okFp f = true) (hg : okFp g = true) : fpOk f g = true := by
  cases f <;> cases g <;> simp_all [okFp, fpOk]
def idxOk (N : Nat) : List (Nat × Nat) → Bool
  | [] => true
  | (i, j) :: l => cond (Nat.blt i N) (cond (Nat.blt j N) (idxOk N l) false) false
theorem blt_lt {i N : Nat} (h : Nat.blt i N = true) : i < N := Nat.le_of_ble_eq_true h
theorem pairsOk_ok {fs : List Fp} (hf : ∀ f ∈ fs, okFp f = true) : ∀ (ps : List (Nat × Nat)), idxOk fs.length ps = true → pairsOk fs ps = true
  | [], _ => rfl
  | (i, j) :: l, h => by
    unfold idxOk at h
    cases hi : Nat.blt i fs.length with
    | false => rw [hi] at h; cases h
    | true =>
      rw [hi, cond_true] at h
      cases hj : Nat.blt j fs.length with
      | false => rw [hj] at h; cases h
      | true =>
        rw [hj, cond_true] at h
        have h1 := List.getElem?_eq_getElem (blt_lt hi)
        have h2 := List.getElem?_eq_getElem (blt_lt hj)
        unfold pairsOk
        simp only [nth_eq, h1, h2]
        rw [fpOk_ok (hf _ (List.getElem_mem _)) (hf _ (List.getElem_mem _)), cond_true]
        exact pairsOk_ok hf l h
theorem RunD.mono {P : Program} {n l0 : Nat} {ops rest : List Oper} {E : Env} {h : Heap} {Q Q' : Env → Heap → List Fp → Prop} (r : RunD P n ops rest l0 E h Q) (w : ∀ E h fs, Q E h fs → Q' E h fs) : RunD P n ops rest l0 E h Q' := by
  intro lw hlw
  obtain ⟨E', h', fs, lw', q, k⟩ := r lw hlw
  exact ⟨E', h', fs, lw', w _ _ _ q, k⟩
def RunQ (P : Program) (n : Nat) (ops rest : List Oper) (E : Env) (h : Heap) (Q : Env → Heap → Prop) : Prop :=
  ∀ l0, l0 ≤ h.next → RunD P n ops rest l0 E h (fun E' h' fs => fs.length = rest.length ∧ (∀ f ∈ fs, okFp f = true) ∧ Fg no h h' ∧ Q E' h')
section
variable {P : Program} {n : Nat} {ops rest : List Oper} {E E1 : Env} {h h1 : Heap} {Q : Env → Heap → Prop}
theorem RunQ.nil (q : Q E h) : RunQ P n ops [] E h Q := fun l0 hl => RunD.nil ⟨rfl, (fun f hf => (by cases hf)), ⟨Nat.le_refl _, fun _ _ _ => rfl⟩, q⟩
theorem RunQ.lo {x : Nat} (r : RunQ P n ops rest E h Q) : RunQ P n ops rest E (h.lo x) Q := by
  intro l0 hl
  have := r l0 hl
  intro lw hlw
  obtain ⟨E', h', fs, lw', ⟨q1, q2, q3, q4⟩, k⟩ := this lw hlw
  exact ⟨E', h', fs, lw', ⟨q1, q2, ⟨q3.next, q3.get⟩, q4⟩, k⟩
theorem RunQ.le (l : Le E1 E) (r : RunQ P n ops rest E1 h Q) : RunQ P n ops rest E h Q := by
  intro l0 hl lw hlw
  obtain ⟨E', h', fs, lw', q, k, N, hN⟩ := r l0 hl lw hlw
  exact ⟨E', h', fs, lw', q, k, N, fun d hd K hK T hs => hN d hd K hK T (hs.le l)⟩
theorem RunQ.oneG {o : Oper} {v : Value} {f : Fp} (g : ewanted ops E o = some true) (e : eop P E o (h.lo h.next) = some (v, h1)) (hf : ∀ q, fpE E o q = some f) (ok : okFp f = true) (hfr : Fr no (h.lo h.next) h1) (p : eput n E o.dst v = some E1)
    (r : RunQ P n ops rest E1 h1 Q) : RunQ P n ops (o :: rest) E h Q := by
  intro l0 hl
  refine RunD.oneG g e hf (hfr.from hl (fun _ g => g.elim)) p ?_
  refine (r l0 (Nat.le_trans hl hfr.next)).mono ?_
  rintro E' h' fs ⟨q1, q2, q3, q4⟩
  refine ⟨by rw [List.length_cons, List.length_cons, q1], fun f' hf' => ?_, hfr.fg.quiet q3, q4⟩
  rcases List.mem_cons.1 hf' with rfl | hf'
  · exact ok
  · exact q2 f' hf'
theorem RunQ.offG {o : Oper} (g : ewanted ops E o = some false) (p : eput n E o.dst undef = some E1) (r : RunQ P n ops rest E1 h Q) : RunQ P n ops (o :: rest) E h Q := by
  intro l0 hl
  refine RunD.offG g p ((r l0 hl).mono ?_)
  rintro E' h' fs ⟨q1, q2, q3, q4⟩
  refine ⟨by rw [List.length_cons, List.length_cons, q1], fun f' hf' => ?_, q3, q4⟩
  rcases List.mem_cons.1 hf' with rfl | hf'
  · rfl
  · exact q2 f' hf'
/-- Operations that look at no memory. -/
def epur (P : Program) (E : Env) (o : Oper) : Option Value :=
  match o.op with
  | .move x | .assign x => gE E x
  | .pick c a b => (match gE E c with
    | some (.bool t) => gE E (cond t a b)
    | _ => none)
  | .build t ps => (match gps (gE E) ps.toList with
    | some l => abuild P t l
    | none => none)
  | .binOp op t x y _ => (match gE E x, gE E y with
    | some a, some b => abinop P op t a b
    | _, _ => none)
  | .unOp op _ x => (match gE E x with
    | some a => aunop op a
    | none => none)
  | .convert s d x => (match gE E x with
    | some (.int k a) => aconvert P s d (.int k a)
    | _ => none)
  | .makeFunc (.func f) first captured => (match gs (gE E) first.toList, gs (gE E) captured.toList with
    | some a, some b => some (.func (.func f) ⟨a⟩ ⟨b⟩)
    | _, _ => none)
  | .slice t x lo hi mx => (match gE E x, go (gE E) lo, go (gE E) hi, go (gE E) mx with
    | some v, some a, some b, some c => aslice P t v a b c
    | _, _, _, _ => none)
  | .fieldAddr t x f => (match gE E x with
    | some a => afieldAddr P t a f
    | none => none)
  | .field t x f => (match gE E x with
    | some a => afield P t a f
    | none => none)
  | .indexAddr t x i => (match gE E x, gE E i with
    | some a, some b => aindexAddr P t a b
    | _, _ => none)
  | .index t x i => (match gE E x, gE E i with
    | some a, some b => aindex P t a b
    | _, _ => none)
  | .extract x i => (match gE E x with
    | some (.tuple vs) => nth vs.toList i
    | _ => none)
  | .nilCheck x => (match gE E x with
    | some (.pointer (some a)) => some (.pointer (some a))
    | _ => none)
  | .call c => (match c.callee with
    | .builtin .len => (match gs (gE E) c.args.toList, c.argTypes.toList with
      | some [x], t :: _ => alen P t x
      | _, _ => none)
    | _ => none)
  | _ => none
theorem pureR_of {h : Heap} {x : Option Value} {v : Value} (e : x = some v) : pureR h x = some (v, h) := by rw [e]; rfl
theorem epur_eop {o : Oper} {v : Value} (e : epur P E o = some v) (h : Heap) : eop P E o h = some (v, h) ∧ ∀ q, fpE E o q = some .none := by
  obtain ⟨dst, op, type, pos, after, guard⟩ := o
  by_cases hmf : ∃ fn a b, op = .makeFunc fn a b
  · obtain ⟨fn, x, y, rfl⟩ := hmf
    cases fn <;> simp only [epur] at e <;> first | (cases e; done) | skip
    refine ⟨?_, fun _ => rfl⟩
    simp only [eop]
    split at e
    · rename_i h1 h2; cases e; simp only [h1, h2]
    · cases e
  cases op
  case makeFunc fn a b => exact absurd ⟨fn, a, b, rfl⟩ hmf
  case call c =>
    obtain ⟨callee, args, ats⟩ := c
    cases callee with
    | value g => cases e
    | invoke r m => cases e
    | builtin b =>
      cases b
      case len =>
        refine ⟨?_, fun _ => rfl⟩
        simp only [epur] at e
        simp only [eop]
        split at e
        · rename_i x t tl h1 h2
          simp only [h1]
          unfold abuiltin
          simp only [h2, e]
        · cases e
      all_goals cases e
  case convert s d x =>
    simp only [epur] at e
    simp only [eop, fpE]
    split at e
    · rename_i k a h1
      simp only [h1, e]
      exact ⟨trivial, fun _ => trivial⟩
    · cases e
  all_goals simp only [epur] at e
  all_goals first | (cases e; done) | skip
  all_goals refine ⟨?_, fun _ => rfl⟩
  all_goals simp only [eop]
  case move x => exact pureR_of e
  case assign x => exact pureR_of e
  case pick c a b =>
    split at e
    · rename_i h1; simp only [h1]; exact pureR_of e
    · cases e
  case extract x i =>
    split at e
    · rename_i h1; simp only [h1]; exact pureR_of e
    · cases e
  case nilCheck x =>
    split at e
    · rename_i h1; cases e; simp only [h1]; try rfl
    · cases e
  case slice t x lo hi mx =>
    split at e
    · rename_i h1 h2 h3 h4; simp only [h1, h2, h3, h4]; exact pureR_of e
    · cases e
  all_goals
    split at e
    · first
        | (rename_i h1 h2; simp only [h1, h2]; exact pureR_of e)
        | (rename_i h1; simp only [h1]; exact pureR_of e)
    · cases e
def epst (P : Program) (n : Nat) (ops : List Oper) (E : Env) (o : Oper) : Option Env :=
  match ewanted ops E o with
  | none => none
  | some false => eput n E o.dst undef
  | some true => (match epur P E o with
    | some v => eput n E o.dst v
    | none => none)
def epures (P : Program) (n : Nat) (ops : List Oper) : List Oper → Env → Option Env
  | [], E => some E
  | o :: l, E => match epst P n ops E o with
    | some E' => epures P n ops l E'
    | none => none
theorem RunQ.pures : ∀ (l : List Oper) {E : Env}, epures P n ops l E = some E1 → RunQ P n ops rest E1 h Q → RunQ P n ops (l ++ rest) E h Q
  | [], E, e, r => by cases e; exact r
  | o :: l, E, e, r => by
    unfold epures at e
    split at e
    · rename_i E' hst
      have r2 := RunQ.pures l e r
      unfold epst at hst
      split at hst
      · cases hst
      · rename_i hw
        exact RunQ.offG hw hst r2
      · rename_i hw
        split at hst
        · rename_i v hv
          obtain ⟨h1, h2⟩ := epur_eop hv (h.lo h.next)
          exact RunQ.oneG hw h1 h2 rfl (Fr.refl _ _) hst r2.lo
        · cases hst
    · cases e
theorem RunQ.part (k : Nat) (e : epures P n ops (rest.take k) E = some E1) (r : RunQ P n ops (rest.drop k) E1 h Q) : RunQ P n ops rest E h Q := by
  have := RunQ.pures (rest.take k) e r
  rwa [List.take_append_drop] at this
theorem RunQ.all (e : epures P n ops rest E = some E1) (q : Q E1 h) : RunQ P n ops rest E h Q := by
  have := RunQ.pures (rest := []) rest e (RunQ.nil q)
  rwa [List.append_nil] at this
theorem RunQ.load {d : Tmp} {t ty : TypeId} {x : Operand} {pos : String} {after : Array Edge} {gd : Option (Nat × Bool)} {a : Addr} {v : Value}
    (hw : ewanted ops E ⟨some d, .load t x, ty, pos, after, gd⟩ = some true) (hx : gE E x = some (.pointer (some a))) (hl : aload P h t a = some v) (hd : Nat.ble (Nat.succ d) n = true)
    (r : RunQ P n ops rest (upd E d v) h Q) : RunQ P n ops (⟨some d, .load t x, ty, pos, after, gd⟩ :: rest) E h Q := by
  refine RunQ.oneG (v := v) (f := .rd a.block) (h1 := h.lo h.next) (E1 := upd E d v) hw ?_ ?_ rfl (Fr.refl _ _) (by simp only [eput, hd, cond_true]) r.lo
  · have hl : aload P (h.lo h.next) t a = some v := hl
    simp only [eop, hx, hl, pureR]
  · intro q; simp only [fpE, hx]
theorem RunQ.index {d : Tmp} {t ty : TypeId} {x i : Operand} {pos : String} {after : Array Edge} {gd : Option (Nat × Bool)} {b o len c s k : Nat} {ik : IntKind} {e : TypeId}
    (hw : ewanted ops E ⟨some d, .indexAddr t x i, ty, pos, after, gd⟩ = some true) (hx : gE E x = some (.slice (some ⟨b, o, none⟩) len c)) (hi : gE E i = some (.int ik (k : Int))) (hu : P.underlying t = some (.slice e)) (hs : sizeOf P e = some s) (hk : k < len) (hd : Nat.ble (Nat.succ d) n = true)
    (r : RunQ P n ops rest (upd E d (.pointer (some ⟨b, o + k * s, none⟩))) h Q) : RunQ P n ops (⟨some d, .indexAddr t x i, ty, pos, after, gd⟩ :: rest) E h Q := by
  refine RunQ.oneG (v := .pointer (some ⟨b, o + k * s, none⟩)) (f := .none) (h1 := h.lo h.next) hw ?_ (fun _ => rfl) rfl (Fr.refl _ _) (by simp only [eput, hd, cond_true]) r.lo
  have hi : gE E i = some (.int ik (.ofNat k)) := hi
  simp only [eop, hx, hi, aindexAddr, hu, hs, Nat.ble_eq_true_of_le (show Nat.succ k ≤ len from hk), cond_true]
  rfl
/-- An element looked at: its address, then a load. -/
theorem RunQ.at {d d2 : Tmp} {t ty ty2 e : TypeId} {x i : Operand} {pos pos2 : String} {after after2 : Array Edge} {gd gd2 : Option (Nat × Bool)} {v : Value} {m s k : Nat} {ik : IntKind} {cells : List Value} {u : Value}
    (hw : ewanted ops E ⟨some d, .indexAddr t x i, ty, pos, after, gd⟩ = some true) (hw2 : ∀ p, ewanted ops (upd E d (.pointer p)) ⟨some d2, .load e (.tmp d), ty2, pos2, after2, gd2⟩ = some true)
    (hx : gE E x = some v) (hi : gE E i = some (.int ik (k : Int))) (sl : Sl h v s m cells) (hu : P.underlying t = some (.slice e)) (hs : sizeOf P e = some s) (hk : k < m) (hv : apart P e cells (k * s) = some u)
    (hd : Nat.ble (Nat.succ d) n = true) (hd2 : Nat.ble (Nat.succ d2) n = true) (hE : E d = none)
    (r : RunQ P n ops rest (upd E d2 u) h Q) : RunQ P n ops (⟨some d, .indexAddr t x i, ty, pos, after, gd⟩ :: ⟨some d2, .load e (.tmp d), ty2, pos2, after2, gd2⟩ :: rest) E h Q := by
  obtain ⟨b, o, c, rfl, hc, rd⟩ := sl.nz (by omega)
  refine RunQ.index hw hx hi hu hs hk hd ?_
  refine RunQ.load (v := u) (a := ⟨b, o + k * s, none⟩) (hw2 _) (by show upd E d _ d = _; unfold upd; rw [Nat.beq_refl]; rfl) (rd.part hv) hd2 ?_
  exact r.le (upd2_le hE)
theorem RunQ.call {d : Tmp} {f : Operand} {args : Array Operand} {ats : Array TypeId} {t : TypeId} {pos : String} {after : Array Edge} {gd : Option (Nat × Bool)} {g : FuncId} {vs : List Value} {R : Value → Heap → Prop}
    (hw : ewanted ops E ⟨some d, .call ⟨.value f, args, ats⟩, t, pos, after, gd⟩ = some true) (r : RunF P g vs (h.lo h.next) R) (hq : ∀ v h1, R v h1 → Fr no (h.lo h.next) h1) (hf : gE E f = some (.func (.func g) #[] #[])) (hv : gs (gE E) args.toList = some vs) (hd : Nat.ble (Nat.succ d) n = true)
    (k : ∀ v h1, R v h1 → RunQ P n ops rest (upd E d v) h1 Q) : RunQ P n ops (⟨some d, .call ⟨.value f, args, ats⟩, t, pos, after, gd⟩ :: rest) E h Q := by
  intro l0 hl
  refine RunD.callG hw r hf hv (fun v h1 q => ⟨(hq v h1 q).from hl (fun _ g => g.elim), upd E d v, by simp only [eput, hd, cond_true], ?_⟩)
  refine (k v h1 q l0 (Nat.le_trans hl (hq v h1 q).next)).mono ?_
  rintro E' h' fs ⟨q1, q2, q3, q4⟩
  have hbq : okFp (.all (Nat.ble h.next h1.low)) = true := (hq v h1 q).quietB
  refine ⟨by rw [List.length_cons, List.length_cons, q1], fun f' hf' => ?_, (hq v h1 q).fg.quiet q3, q4⟩
  rcases List.mem_cons.1 hf' with rfl | hf'
  · exact hbq
  · exact q2 f' hf'
def drawQOk (ops : Array Oper) : Bool := match drawOk ops with
  | some (p :: ps) => idxOk ops.toList.length (p :: ps)
  | _ => false
theorem RunC.drawQ {i : Nat} {ops : Array Oper} {Qn : Env → Heap → Prop} {Qx : Nat → Env → Heap → Prop} {Qr : Env → Heap → Prop} (hd : drawQOk ops = true)
    (r : RunQ P n ops.toList ops.toList E h (fun E' h' => ∀ lw, Fr no h (h'.lo lw) → Qn E' (h'.lo lw))) : RunC P n (.region i ops true) E h Qn Qx Qr := by
  unfold drawQOk at hd
  split at hd
  · rename_i p ps hps
    refine RunC.draw (l0 := min h.low h.next) (Nat.min_le_left _ _) hps ((r _ (Nat.min_le_right _ _)).mono ?_)
    rintro E' h' fs ⟨q1, q2, q3, q4⟩
    refine ⟨pairsOk_ok q2 _ (by rw [q1]; exact hd), fun lw hlw => q4 lw (q3.close (fun l h1 h2 _ => Nat.le_trans (Nat.le_min.2 ⟨h1, h2⟩) hlw))⟩
  · cases hd
end
end Go.Am
end
section
set_option linter.unusedVariables false
namespace Go.Am
open Go.RowKit
theorem reps_one (z : Value) : ∀ n, reps [z] n = List.replicate n z
  | 0 => rfl
  | n + 1 => by show z :: reps [z] n = _; rw [reps_one z n]; rfl
section
variable {P : Program} {n : Nat} {ops rest : List Oper} {E E1 : Env} {h h1 : Heap} {Q : Env → Heap → Prop}
/-- A row made. -/
theorem make_sl {t e : TypeId} {i : TypeInfo} {z : Value} {m : Nat} {k k' : IntKind} (hu : P.underlying t = some (.slice e)) (hi : P.info? e = some i) (hz : zeroOf P e = some z) (hl : lenIs (cellsOf z) i.size = true) (hb : i.bytes * m ≤ 281474976710656) (hm : m ≤ 9223372036854775807) :
    amakeSlice P h t (.int k (m : Int)) (.int k' (m : Int)) = some (.slice (some ⟨h.next, 0, none⟩) m (exc m), h.push ⟨reps (cellsOf z) m, true⟩) := by
  show (match P.underlying t, Value.int k (.ofNat m), Value.int k' (.ofNat m) with
    | some (.slice e), .int _ (.ofNat n), .int _ (.ofNat m) => _
    | _, _, _ => none) = _
  have e1 : Nat.ble m m = true := Nat.ble_eq_true_of_le (Nat.le_refl _)
  have e2 : Nat.ble (Nat.mul i.bytes m) 281474976710656 = true := Nat.ble_eq_true_of_le hb
  have e3 : Nat.ble m 9223372036854775807 = true := Nat.ble_eq_true_of_le hm
  simp only [hu, hi, hz, hl, cond_true, e1, e2, e3]
theorem RunO.make {d : Tmp} {t ty e : TypeId} {x y : Operand} {pos : String} {after : Array Edge} {i : TypeInfo} {z : Value} {m : Nat} {k k' : IntKind} (hx : gE E x = some (.int k (m : Int))) (hy : gE E y = some (.int k' (m : Int)))
    (hu : P.underlying t = some (.slice e)) (hi : P.info? e = some i) (hz : zeroOf P e = some z) (hl : lenIs (cellsOf z) i.size = true) (hb : i.bytes * m ≤ 281474976710656) (hm : m ≤ 9223372036854775807) (hd : Nat.ble (Nat.succ d) n = true)
    (r : RunO P n ops rest (upd E d (.slice (some ⟨h.next, 0, none⟩) m (exc m))) (h.push ⟨reps (cellsOf z) m, true⟩) Q) : RunO P n ops (⟨some d, .makeSlice t x y, ty, pos, after, none⟩ :: rest) E h Q := by
  refine RunO.one (v := .slice (some ⟨h.next, 0, none⟩) m (exc m)) rfl ?_ (by simp only [eput, hd, cond_true]) r
  simp only [eop, hx, hy]
  exact make_sl hu hi hz hl hb hm
end
end Go.Am
end
section
set_option linter.unusedVariables false
set_option maxRecDepth 100000
open Go Go.Am Go.RowKit
namespace Go.Proofs.Ytdcggjkcbheolaa
open Go.Proofs.Try
def inB (a lo hi : Int) : Bool := decide (a ≥ lo) && decide (a ≤ hi)
theorem inB_iff (a lo hi : Int) : inB a lo hi = true ↔ lo ≤ a ∧ a ≤ hi := by
  unfold inB; rw [Bool.and_eq_true, decide_eq_true_iff, decide_eq_true_iff]
end Go.Proofs.Ytdcggjkcbheolaa
end
section
set_option linter.unusedVariables false
set_option maxRecDepth 100000
open Go Go.Am Go.RowKit
namespace Go.Proofs.Ytdcggjkcbheolaa
open Go.Proofs.Try
def ptrB (n : Int) : Bool := n == 0 || (decide (n ≥ 2) && decide (n < 4096))
theorem nodePointer_ok {h : Heap} {n : Int} : RunF prog 118 [.int .i64 n] h fun v h' => v = .bool (ptrB n) ∧ h = h' := by
  refine RunF.walk func118 rfl rfl ?_
  refine RunC.seq (RunC.region (RunO.all rfl ?_))
  refine RunC.seq (RunC.region (RunO.part 3 rfl ?_))
  unfold ptrB
  cases (n == 0) with
  | true => exact RunO.all rfl (RunC.ret ⟨_, rfl, rfl, rfl⟩)
  | false =>
    refine RunO.part 3 rfl ?_
    cases decide (n ≥ 2) with
    | true => exact RunO.all rfl (RunC.ret ⟨_, rfl, by simp, rfl⟩)
    | false => exact RunO.all rfl (RunC.ret ⟨_, rfl, by simp, rfl⟩)
end Go.Proofs.Ytdcggjkcbheolaa
end
section
set_option linter.unusedVariables false
set_option maxRecDepth 100000
open Go Go.Am Go.RowKit
namespace Go.Proofs.Ytdcggjkcbheolaa
open Go.Proofs.Try
def nodLay : List Nat := [4, 4, 4, 4, 4, 4, 4, 4, 4]
theorem nodLay_ok {h : Heap} : RunF prog 87 [] h fun v h' => Row h.next h' v 2 9 (fcs (layF 4 nodLay)) ∧ Fr no h h' := by
  refine RunF.walk func87 rfl rfl ?_
  refine RunC.seq (RunC.region (RunO.all rfl ?_))
  refine RunC.seq (RunC.region (RunO.part 1 (h1 := h.push ⟨ns nodLay, true⟩) rfl ?_))
  refine RunO.callD (superLayout_ok (ss := nodLay) (c := exc 9) (Ow.push h (ns nodLay)).all (by decide) (by decide)) rfl rfl rfl ?_
  rintro v h' ⟨hr, hf⟩
  refine RunO.all rfl (RunC.ret ⟨_, rfl, ?_, ?_⟩)
  · refine ⟨hr.1, hr.2.imp (fun x => x) ?_⟩
    rintro ⟨b, h1, h2⟩
    exact ⟨b, Nat.le_trans (Nat.le_succ _) h1, h2⟩
  · exact (Fr.push no _ _).same hf
/-- A node's cells: its level, its pointers. -/
def nc (lv : Int) (ps : List Int) : List Value := .int .i64 lv :: is ps
def anyP (ps : List Int) : Bool := ps.any (· != 0)
def nodOk (lv : Int) (ps : List Int) : Bool := ps.all ptrB && (!(decide (lv < 0)) && (!(decide (lv > 2)) && anyP ps))
theorem nodCheck_ok {h : Heap} {lv : Int} {ps : List Int} (hp : ps.length = 8) : RunF prog 85 [.agg ⟨nc lv ps⟩] h fun v h' => v = .int .i64 (if nodOk lv ps then 0 else 1) ∧ Fr no h h' := by
  refine RunF.walk func85 rfl rfl ?_
  refine RunC.seq (RunC.region (RunO.all (h1 := h.push ⟨nc lv ps, true⟩) rfl ?_))
  have ow : Ow (h.push ⟨nc lv ps, true⟩) h.next (nc lv ps) := Ow.push _ _
  have f1 : Fr no h (h.push ⟨nc lv ps, true⟩) := Fr.push _ _ _
  generalize h.push ⟨nc lv ps, true⟩ = h1 at *
  generalize h.next = p at *
  refine RunC.seq (RunC.region (RunO.all rfl ?_))
  refine RunC.seq (RunC.seq (RunC.region (RunO.part 1 rfl ?_)))
  have hload : aload prog h1 105 ⟨p, 1, none⟩ = some (.agg ⟨is ps⟩) := by
    refine ow.all.part (k := 1) ?_
    show (match takeN 8 (dropN 1 (nc lv ps)) with | some l => some (Value.agg ⟨l⟩) | none => none) = _
    rw [takeN_eq, dropN_eq, if_pos (by simp [nc, is_len, hp])]
    simp only [nc, List.drop_succ_cons, List.drop_zero]
    rw [List.take_of_length_le (by rw [is_len]; omega)]
  refine RunO.load rfl hload rfl ?_
  refine RunO.all rfl ?_
  refine RunC.block ?_
  let I : Nat → Env → Heap → Prop := fun k E h' => ∃ i : Nat, i + k = 8 ∧ (ps.take i).all ptrB = true ∧ h1 = h' ∧ Le (upd (upd (upd (upd E0 1 (.pointer (some ⟨p, 0, none⟩))) 3 (.bool (anyP (ps.take i)))) 7 (.agg ⟨is ps⟩)) 8 (.int .i64 i)) E
  refine RunC.loop I ?_ (k := 8) ?_
  · rintro k E h' ⟨i, hi, hall, rfl, hE⟩
    refine RunC.le hE ?_
    clear hE
    refine RunC.seq (RunC.region (RunO.all rfl ?_))
    refine RunC.seq (RunC.cond rfl (fun hlt => ?_) (fun hge => ?_))
    · have hlt := of_decide_eq_true hlt
      have hi2 : i < ps.length := by omega
      have hat : anyP (ps.take (i + 1)) = (anyP (ps.take i) || ps[i] != 0) := by
        unfold anyP; rw [List.take_succ_eq_append_getElem hi2, List.any_append]; simp
      have hal : (ps.take (i + 1)).all ptrB = ptrB ps[i] := by
        rw [List.take_succ_eq_append_getElem hi2, List.all_append, hall]; simp
      have hmem := List.getElem_mem hi2
      have hnth := is_nth hi2
      refine RunC.skip ?_
      refine RunC.seq (RunC.block ?_)
      refine RunC.seq (RunC.region ?_)
      refine RunO.one rfl (v := .int .i64 ps[i]) (E1 := upd _ 10 (.int .i64 ps[i])) (h1 := h1) ?_ rfl ?_
      · show pureR h1 (cond (Nat.ble (Nat.succ i) 8) (nth (is ps) (Nat.mul i 1)) none) = _
        rw [Nat.ble_eq_true_of_le (by omega), cond_true, show Nat.mul i 1 = i from Nat.mul_one i, hnth]; rfl
      refine RunO.all rfl ?_
      generalize ps[i] = x at *
      refine RunC.seq (RunC.seq (RunC.region (RunO.part 1 rfl ?_)))
      refine RunO.callD nodePointer_ok rfl rfl rfl ?_
      rintro _ _ ⟨rfl, rfl⟩
      refine RunO.all rfl ?_
      cases hx : ptrB x with
      | false =>
        refine RunC.cond rfl (fun _ => ?_) (fun g => by cases g)
        have hno : nodOk lv ps = false := by
          unfold nodOk
          have : ps.all ptrB = false := by
            rw [List.all_eq_false]
            exact ⟨x, hmem, by rw [hx]; decide⟩
          rw [this]; rfl
        rw [hno]
        exact RunC.seq (RunC.region (RunO.all rfl (RunC.ret ⟨_, rfl, rfl, f1⟩)))
      | true =>
        rw [hx] at hal
        refine RunC.cond rfl (fun g => by cases g) (fun _ => RunC.skip ?_)
        have hdone : ∀ E', Le (upd (upd (upd (upd E0 1 (.pointer (some ⟨p, 0, none⟩))) 3 (.bool (anyP (ps.take (i + 1))))) 7 (.agg ⟨is ps⟩)) 8 (.int .i64 (i + 1 : Nat))) E' → ∃ k', k' < k ∧ I k' E' h1 := fun E' hE => ⟨k - 1, by omega, i + 1, by omega, hal, rfl, hE⟩
        generalize anyP (ps.take i) = an at *
        cases an with
        | true =>
          refine RunC.region (RunO.all rfl ?_)
          refine RunC.region (RunO.all rfl ?_)
          refine hdone _ ?_
          rw [hat]
          exact Le.cons (inc64 (by omega)) (Le.cons rfl (Le.cons rfl (Le.cons rfl (Le.nil _))))
        | false =>
          refine RunC.region (RunO.all rfl ?_)
          refine RunC.region (RunO.all rfl ?_)
          refine hdone _ ?_
          rw [hat]
          exact Le.cons (inc64 (by omega)) (Le.cons rfl (Le.cons rfl (Le.cons rfl (Le.nil _))))
    · have hge := of_decide_eq_false hge
      refine RunC.exit ?_
      have hi3 : i = 8 := by omega
      subst hi3
      rw [List.take_of_length_le (by omega)] at hall ⊢
      have hok : nodOk lv ps = (!(decide (lv < 0)) && (!(decide (lv > 2)) && anyP ps)) := by unfold nodOk; rw [hall]; rfl
      rw [hok]
      generalize anyP ps = an at *
      refine RunC.seq (RunC.seq (RunC.region (RunO.part 1 rfl ?_)))
      refine RunO.load (v := .int .i64 lv) rfl (ow.all.cell1 (k := 0) rfl rfl) rfl ?_
      refine RunO.part 2 rfl ?_
      cases decide (lv < 0) with
      | true =>
        refine RunO.all rfl (RunC.cond rfl (fun _ => ?_) (fun g => by cases g))
        exact RunC.seq (RunC.region (RunO.all rfl (RunC.ret ⟨_, rfl, rfl, f1⟩)))
      | false =>
      refine RunO.part 1 rfl ?_
      refine RunO.loadG (v := .int .i64 lv) rfl rfl (ow.all.cell1 (k := 0) rfl rfl) rfl ?_
      refine RunO.part 3 rfl ?_
      cases decide (lv > 2) with
      | true =>
        refine RunO.all rfl (RunC.cond rfl (fun _ => ?_) (fun g => by cases g))
        exact RunC.seq (RunC.region (RunO.all rfl (RunC.ret ⟨_, rfl, rfl, f1⟩)))
      | false =>
      cases an with
      | true =>
        refine RunO.all rfl (RunC.cond rfl (fun g => by cases g) (fun _ => RunC.skip ?_))
        exact RunC.seq (RunC.region (RunO.all rfl (RunC.ret ⟨_, rfl, rfl, f1⟩)))
      | false =>
        refine RunO.all rfl (RunC.cond rfl (fun _ => ?_) (fun g => by cases g))
        exact RunC.seq (RunC.region (RunO.all rfl (RunC.ret ⟨_, rfl, rfl, f1⟩)))
  · exact ⟨0, by omega, rfl, rfl, Le.cons rfl (Le.cons rfl (Le.cons rfl (Le.cons rfl (Le.nil _))))⟩
end Go.Proofs.Ytdcggjkcbheolaa
end
section
set_option linter.unusedVariables false
set_option maxRecDepth 100000
open Go Go.Am Go.RowKit
namespace Go.Proofs.Ytdcggjkcbheolaa
open Go.Proofs.Try
def nMag : List Int := [78, 79, 68, 69]
def nLay : List (Nat × Nat) := layF 4 nodLay
/-- A node's block. -/
def nodBlock (lv : Int) (ps : List Int) : List Int := makeB nMag nLay (lv :: ps)
theorem nodBytes_ok {h : Heap} {lv : Int} {ps : List Int} (hp : ps.length = 8) : RunF prog 57 [.agg ⟨nc lv ps⟩] h fun v h' => Fr no h h' ∧ ((nodOk lv ps = true ∧ ∃ b, h.next ≤ b ∧ v = .tuple #[.slice (some ⟨b, 0, none⟩) 64 (exc 64), .int .i64 0] ∧ Ow h' b (us (nodBlock lv ps))) ∨ (nodOk lv ps = false ∧ v = .tuple #[.slice none 0 0, .int .i64 1])) := by
  refine RunF.walk func57 rfl rfl ?_
  refine RunC.seq (RunC.region (RunO.all (h1 := h.push ⟨nc lv ps, true⟩) rfl ?_))
  have ow : Ow (h.push ⟨nc lv ps, true⟩) h.next (nc lv ps) := Ow.push _ _
  have f1 : Fr no h (h.push ⟨nc lv ps, true⟩) := Fr.push _ _ _
  generalize h.push ⟨nc lv ps, true⟩ = h1 at *
  refine RunC.seq (RunC.region ?_)
  have hnl : (nc lv ps).length = 9 := by simp [nc, is_len, hp]
  have hload : aload prog h1 107 ⟨h.next, 0, none⟩ = some (.agg ⟨nc lv ps⟩) := by
    refine ow.all.part (k := 0) ?_
    show (match takeN 9 (dropN 0 (nc lv ps)) with | some l => some (Value.agg ⟨l⟩) | none => none) = _
    rw [takeN_eq, dropN_eq, if_pos (by simp [hnl])]
    simp only [List.drop_zero]
    rw [List.take_of_length_le (by omega)]
  refine RunO.load rfl hload rfl ?_
  refine RunO.callD (nodCheck_ok hp) rfl rfl rfl ?_
  rintro v h2 ⟨rfl, hf2⟩
  have f2 := f1.same hf2
  have ow2 := ow.fr hf2 (fun g => g)
  refine RunO.all rfl ?_
  cases hok : nodOk lv ps with
  | false =>
    refine RunC.seq (RunC.seq (RunC.region (RunO.all rfl (RunC.cond rfl (fun _ => ?_) (fun g => by cases g)))))
    exact RunC.seq (RunC.region (RunO.all rfl (RunC.ret ⟨_, rfl, f2, .inr ⟨rfl, rfl⟩⟩)))
  | true =>
    refine RunC.seq (RunC.seq (RunC.region (RunO.all rfl (RunC.cond rfl (fun g => by cases g) (fun _ => RunC.skip ?_)))))
    refine RunC.seq (RunC.draw (l0 := min h2.low h2.next) (Nat.min_le_left _ _) rfl ?_)
    refine RunD.callD nodLay_ok rfl rfl rfl ?_
    rintro v h3 ⟨hr, hf3⟩
    have hl3 : min h2.low h2.next ≤ h3.low := hf3.from (Nat.min_le_right _ _) (fun _ g => g.elim)
    refine ⟨hl3, ?_⟩
    have ow3 : Ow h3 h.next (nc lv ps) := Ow.fr (h := h2.lo h2.next) ow2 hf3 (fun g => g)
    have hn3 : min h2.low h2.next ≤ h3.next := Nat.le_trans (Nat.min_le_right _ _) hf3.next
    obtain ⟨bf, hbf, rfl, owf⟩ := rowOut hr (by decide)
    rw [hf3.quietB]
    refine RunD.pure hn3 rfl rfl (fun _ => rfl) rfl ?_
    refine RunD.load (v := .int .i64 lv) hn3 rfl (ow3.all.cell1 (k := 0) rfl rfl) rfl ?_
    refine RunD.one (h1 := (h3.lo h3.next).push ⟨is [lv], true⟩) rfl rfl (fun _ => rfl) hn3 rfl ?_
    have ow4 := Ow.push (h3.lo h3.next) (is [lv])
    have f4 : Fr no h3 ((h3.lo h3.next).push ⟨is [lv], true⟩) := ⟨Nat.le_succ _, (Fr.push no (h3.lo h3.next) _).get, fun l a b c => b⟩
    have owf4 := owf.fr f4 (fun g => g)
    have owa4 := ow3.fr f4 (fun g => g)
    generalize (h3.lo h3.next).push ⟨is [lv], true⟩ = h4 at *
    generalize hb4 : (h3.lo h3.next).next = b4 at *
    have hn4 : min h2.low h2.next ≤ h4.next := Nat.le_trans hn3 f4.next
    refine RunD.pure hn4 rfl rfl (fun _ => rfl) rfl ?_
    refine RunD.pure hn4 rfl rfl (fun _ => rfl) rfl ?_
    have rdp : Rd (h4.lo h4.next) ⟨h.next, 1, none⟩ (is ps) := Ow.rd (h := h4) owa4 (by simp only [nc, List.drop_succ_cons, List.drop_zero]; rw [List.take_of_length_le (Nat.le_refl _)])
    have happ := append_full (P := prog) (t := 36) (h := h4.lo h4.next) (c := exc 1) (c' := exc 8) (k := 1) (m := 8) (b := ⟨b4, 0, none⟩) (a := ⟨h.next, 1, none⟩) rfl rfl rfl rfl rfl (by decide) (Ow.all (h := h4) ow4) rfl rfl (by decide) rdp (by rw [is_len, hp]; rfl) (by decide) (by decide) (by decide)
    refine RunD.one (h1 := (h4.lo h4.next).push ⟨is (lv :: ps), true⟩) (v := .slice (some ⟨h4.next, 0, none⟩) 9 (unkc 1)) (E1 := upd _ 16 (.slice (some ⟨h4.next, 0, none⟩) 9 (unkc 1))) rfl (abuiltin_app happ) (fun _ => rfl) hn4 rfl ?_
    have ow5 := Ow.push (h4.lo h4.next) (is (lv :: ps))
    have f5 : Fr no h4 ((h4.lo h4.next).push ⟨is (lv :: ps), true⟩) := ⟨Nat.le_succ _, (Fr.push no (h4.lo h4.next) _).get, fun l a b c => b⟩
    have owf5 := owf4.fr f5 (fun g => g)
    generalize (h4.lo h4.next).push ⟨is (lv :: ps), true⟩ = h5 at *
    have hn5 : min h2.low h2.next ≤ h5.next := Nat.le_trans hn4 f5.next
    refine RunD.callD (superMake_ok (h := h5.lo h5.next) (mb := nMag) (fl := nLay) (nums := lv :: ps) (cn := unkc 1) rfl rfl owf5.all ow5.all (by rw [List.length_cons, hp]; rfl) (by decide) (by decide)) rfl (by rw [List.length_cons, hp]; rfl) rfl ?_
    rintro v h6 ⟨b, hb, rfl, ow6, hf6⟩
    refine ⟨hf6.from hn5 (fun _ g => g.elim), ?_⟩
    rw [hf6.quietB]
    have hn6 : min h2.low h2.next ≤ h6.next := Nat.le_trans hn5 hf6.next
    refine RunD.pure hn6 rfl rfl (fun _ => rfl) rfl ?_
    refine RunD.pure hn6 rfl rfl (fun _ => rfl) rfl ?_
    refine RunD.nil ⟨rfl, fun lw hlw => ?_⟩
    refine RunC.ret ⟨_, rfl, ?_, .inl ⟨rfl, b, ?_, rfl, ow6⟩⟩
    · exact ((f2.fg0.same hf3.fg).same ((f4.fg0.same f5.fg0).same hf6.fg)).close (fun l h1 h2 h3 => Nat.le_trans (Nat.le_min.2 ⟨f2.low l h1 h2 h3, Nat.le_trans h2 f2.next⟩) hlw)
    · exact Nat.le_trans (Nat.le_trans f2.next (Nat.le_trans hf3.next (Nat.le_trans f4.next f5.next))) hb
end Go.Proofs.Ytdcggjkcbheolaa
end
section
set_option linter.unusedVariables false
set_option maxRecDepth 100000
open Go Go.Am Go.RowKit
namespace Go.Proofs.Ytdcggjkcbheolaa
open Go.Proofs.Try
def nLv (l : List Int) : Int := (leGet l 4 4).1
def nPs (l : List Int) : List Int := [(leGet l 8 4).1, (leGet l 12 4).1, (leGet l 16 4).1, (leGet l 20 4).1, (leGet l 24 4).1, (leGet l 28 4).1, (leGet l 32 4).1, (leGet l 36 4).1]
theorem nPs_eq (l : List Int) : numsB nLay l = nLv l :: nPs l := rfl
def nZero : List Int := [0, 0, 0, 0, 0, 0, 0, 0]
def nCode (l : List Int) : Int := if readB nMag nLay l = 0 then (if nodOk (nLv l) (nPs l) then 0 else 1) else readB nMag nLay l
def nCells (l : List Int) : List Value := if nCode l = 0 then nc (nLv l) (nPs l) else nc 0 nZero
theorem nc_load {h : Heap} {b : Nat} {lv : Int} {ps : List Int} (hp : ps.length = 8) (ow : Ow h b (nc lv ps)) : aload prog h 107 ⟨b, 0, none⟩ = some (.agg ⟨nc lv ps⟩) := by
  have hnl : (nc lv ps).length = 9 := by simp [nc, is_len, hp]
  refine ow.all.part (k := 0) ?_
  show (match takeN 9 (dropN 0 (nc lv ps)) with | some l => some (Value.agg ⟨l⟩) | none => none) = _
  rw [takeN_eq, dropN_eq, if_pos (by simp [hnl])]
  simp only [List.drop_zero]
  rw [List.take_of_length_le (by omega)]
theorem nodParse_ok {h : Heap} {A : Option Addr} {c : Nat} {l : List Int} (ra : l.length = 64 → ∃ a, A = some a ∧ Rd h a (us l)) (hb : Byt l) (hc : Cp 1 l.length c) :
    RunF prog 146 [.slice A l.length c] h fun v h' => v = .tuple #[.agg ⟨nCells l⟩, .int .i64 (nCode l)] ∧ Fr no h h' := by
  refine RunF.walk func146 rfl rfl ?_
  refine RunC.seq (RunC.region (RunO.all (h1 := h.push ⟨nc 0 nZero, true⟩) rfl ?_))
  have ow : Ow (h.push ⟨nc 0 nZero, true⟩) h.next (nc 0 nZero) := Ow.push _ _
  have f1 : Fr no h (h.push ⟨nc 0 nZero, true⟩) := Fr.push _ _ _
  generalize h.push ⟨nc 0 nZero, true⟩ = h1 at *
  refine RunC.seq (RunC.region (RunO.part 1 rfl ?_))
  refine RunO.callD nodLay_ok rfl rfl rfl ?_
  rintro v h2 ⟨hr, hf2⟩
  have ow2 := ow.fr hf2 (fun g => g)
  have f2 := f1.same hf2
  obtain ⟨bf, hbf, rfl, owf⟩ := rowOut hr (by decide)
  refine RunO.callD (superRead_ok (mb := nMag) (mg := ⟨#[78, 79, 68, 69]⟩) (fl := nLay) rfl (fun e => (ra e).imp (fun a x => ⟨x.1, x.2.fr f2 (fun g => g)⟩)) hb owf.all (by decide) (by decide) hc) rfl rfl rfl ?_
  rintro v h3 ⟨o, rfl, hk0, hk1, hf3⟩
  have ow3 := ow2.fr hf3 (fun g => g)
  have f3 := f2.same hf3
  refine RunO.all rfl ?_
  by_cases hr : readB nMag nLay l = 0
  case neg =>
    have hcode : nCode l = readB nMag nLay l := if_neg hr
    have hcells : nCells l = nc 0 nZero := if_neg (by rw [hcode]; exact hr)
    rw [hcells, hcode]
    generalize readB nMag nLay l = r at *
    refine RunC.seq (RunC.seq (RunC.region (RunO.all rfl ?_)))
    rw [show (r != 0) = true by simpa using hr]
    refine RunC.cond rfl (fun _ => ?_) (fun g => by cases g)
    refine RunC.seq (RunC.region (RunO.part 2 rfl ?_))
    refine RunO.store rfl rfl (store_ow (s := 9) ow3 rfl rfl rfl (by decide)) ?_
    refine RunO.all rfl ?_
    refine RunC.ret ⟨_, eresults_cell rfl ((Ow.put (cs := nc 0 nZero) ow3.1).all.part (k := 0) rfl) rfl, rfl, ?_⟩
    exact f3.trans (Fr.put (m := (· = h.next)) _ (.inl rfl)) (fun j hj => .inr (by omega))
  rw [hr]
  have hrow := hk0 hr
  obtain ⟨bn, hbn, rfl, own⟩ := rowOut hrow (by decide)
  have hcode : nCode l = if nodOk (nLv l) (nPs l) then 0 else 1 := if_pos hr
  have hcells : nCells l = if nCode l = 0 then nc (nLv l) (nPs l) else nc 0 nZero := rfl
  rw [nPs_eq] at own
  have hp8 : (nPs l).length = 8 := rfl
  change RunC _ _ _ (upd (upd (upd (upd _ 11 (.slice (some ⟨bn, 0, none⟩) 9 (unkc 1))) 12 (.int .i64 0)) 4 (.slice (some ⟨bn, 0, none⟩) 9 (unkc 1))) 5 (.int .i64 0)) _ _ _ _
  refine RunC.seq (RunC.seq (RunC.region (RunO.all rfl ?_)))
  refine RunC.cond rfl (fun g => by cases g) (fun _ => RunC.skip ?_)
  generalize nLv l = lv at *
  generalize nPs l = ps at *
  have hal : ∀ q : List Int, allCells (is q) = true := fun q => by
    induction q with
    | nil => rfl
    | cons x t ih => exact ih
  refine RunC.seq (RunC.region (RunO.part 1 rfl ?_))
  refine RunO.index (s := 1) (k := 0) rfl rfl rfl rfl (by decide) rfl ?_
  refine RunO.load (v := .int .i64 lv) rfl (own.all.cell1 (k := 0) rfl rfl) rfl ?_
  refine RunO.part 2 (h1 := h3.push ⟨nc 0 nZero, true⟩) rfl ?_
  refine RunO.store rfl rfl (store_ow (s := 9) (Ow.push h3 (nc 0 nZero)) rfl rfl rfl (by decide)) (RunO.nil ?_)
  change RunC _ _ _ _ ((h3.push ⟨nc 0 nZero, true⟩).put h3.next (some ⟨nc lv nZero, true⟩)) _ _ _
  have ow4 : Ow ((h3.push ⟨nc 0 nZero, true⟩).put h3.next (some ⟨nc lv nZero, true⟩)) h3.next (nc lv nZero) := Ow.put _ (Nat.lt_succ_self _)
  have f4 : Fr no h3 ((h3.push ⟨nc 0 nZero, true⟩).put h3.next (some ⟨nc lv nZero, true⟩)) := (Fr.push _ _ _).trans (Fr.put (m := (· = h3.next)) _ (.inl rfl)) (fun j hj => .inr (by omega))
  generalize (h3.push ⟨nc 0 nZero, true⟩).put h3.next (some ⟨nc lv nZero, true⟩) = h4 at *
  have own4 := own.fr f4 (fun g => g)
  have ow34 := ow3.fr f4 (fun g => g)
  have hb6 := own.1
  have hb7 := ow3.1
  have hb8 := f3.next
  have f34 := f3.same f4
  generalize h3.next = b6 at *
  have e1 : aread h4 ⟨bn, 1, none⟩ 8 = some (is ps) := by
    have rd : Rd h4 ⟨bn, 1, none⟩ (is ps) := own4.rd (by show ((Value.int .i64 lv :: is ps).drop 1).take _ = _; simp)
    have := rd.read0 (m := 8) (by rw [is_len, hp8]; exact Nat.le_refl _)
    rwa [List.take_of_length_le (by rw [is_len, hp8]; exact Nat.le_refl _)] at this
  have e2 : astoreL h4 ⟨b6, 1, none⟩ (is ps) = some (h4.put b6 (some ⟨nc lv ps, true⟩)) := by
    rw [storeL_ow ow4 (hal ps) (by rw [is_len, hp8]; exact Nat.le_refl 9), is_len, hp8]
    simp [nc, nZero, is]
  refine RunC.seq (RunC.draw0 rfl (RunO.part 4 rfl ?_))
  refine RunO.one rfl (v := goInt 8) (E1 := upd _ 25 (goInt 8)) (h1 := h4.put b6 (some ⟨nc lv ps, true⟩)) ?_ rfl (RunO.nil ?_)
  · show (match aread h4 ⟨bn, 1, none⟩ 8 with | some cs => (match astoreL h4 ⟨b6, 1, none⟩ cs with | some h' => some (goInt 8, h') | none => none) | none => none) = _
    rw [e1]
    simp only [e2]
  have ow5 := Ow.put (nc lv ps) ow4.1
  have f5 : Fr (fun j => j = b6) h4 (h4.put b6 (some ⟨nc lv ps, true⟩)) := Fr.put _ (.inl rfl)
  generalize h4.put b6 (some ⟨nc lv ps, true⟩) = h5 at *
  have ow35 := ow34.fr f5 (by omega)
  have f35 : Fr no h h5 := f34.trans f5 (fun j hj => .inr (by omega))
  refine RunC.seq (RunC.region ?_)
  refine RunO.load rfl (nc_load hp8 ow5) rfl ?_
  refine RunO.callD (nodCheck_ok hp8) rfl rfl rfl ?_
  rintro v h6 ⟨rfl, hf6⟩
  have ow6 := ow35.fr hf6 (fun g => g)
  have owx := ow5.fr hf6 (fun g => g)
  have f6 := f35.same hf6
  refine RunO.all rfl ?_
  rw [hcells, hcode]
  cases nodOk lv ps with
  | false =>
    refine RunC.seq (RunC.seq (RunC.region (RunO.all rfl (RunC.cond rfl (fun _ => ?_) (fun g => by cases g)))))
    refine RunC.seq (RunC.region (RunO.part 2 rfl ?_))
    refine RunO.store rfl rfl (store_ow (s := 9) ow6 rfl rfl rfl (by decide)) ?_
    refine RunO.all rfl ?_
    refine RunC.ret ⟨_, eresults_cell rfl ((Ow.put (cs := nc 0 nZero) ow6.1).all.part (k := 0) rfl) rfl, rfl, ?_⟩
    exact f6.trans (Fr.put (m := (· = h.next)) _ (.inl rfl)) (fun j hj => .inr (by omega))
  | true =>
    refine RunC.seq (RunC.seq (RunC.region (RunO.all rfl (RunC.cond rfl (fun g => by cases g) (fun _ => RunC.skip ?_)))))
    refine RunC.seq (RunC.region ?_)
    refine RunO.load rfl (nc_load hp8 owx) rfl ?_
    have hst : (cellsOf (.agg ⟨nc lv ps⟩)).length = 9 := by show (nc lv ps).length = 9; simp [nc, is_len, hp8]
    refine RunO.store rfl rfl (store_ow (s := 9) ow6 rfl hst (hal (0 :: ps)) (by decide)) ?_
    refine RunO.all rfl ?_
    have hcs : (nc 0 nZero).take 0 ++ cellsOf (.agg ⟨nc lv ps⟩) ++ (nc 0 nZero).drop (0 + 9) = nc lv ps := by simp [cellsOf, nc, nZero, is]
    refine RunC.ret ⟨_, eresults_cell rfl (nc_load hp8 (by rw [hcs]; exact Ow.put (nc lv ps) ow6.1)) rfl, rfl, ?_⟩
    exact f6.trans (Fr.put (m := (· = h.next)) _ (.inl rfl)) (fun j hj => .inr (by omega))
end Go.Proofs.Ytdcggjkcbheolaa
end
section
set_option linter.unusedVariables false
namespace Go.Proofs.Ytdcggjkcbheolaa
open Go Go.Am
/- Blocks of numbers: what is made is read. Nothing here names the program. -/
theorem leN_leB (n : Nat) : ∀ v : Int, leN (leB n v) = v % 256 ^ n := by
  induction n with
  | zero => intro v; simp [leB, leN, Int.emod_one]
  | succ n ih =>
    intro v
    rw [leB, leN, ih, Int.pow_succ, Int.mul_comm (256 ^ n) 256]
    have h1 := Int.emod_add_mul_ediv v 256
    have h2 := Int.emod_add_mul_ediv (v / 256) (256 ^ n)
    have h3 : v / (256 * 256 ^ n) = v / 256 / 256 ^ n := (Int.ediv_ediv_of_nonneg (by omega)).symm
    have h4 := Int.emod_add_mul_ediv v (256 * 256 ^ n)
    rw [h3, Int.mul_assoc] at h4
    have h5 : 256 * (v / 256 % 256 ^ n + 256 ^ n * (v / 256 / 256 ^ n)) = 256 * (v / 256) := by rw [h2]
    rw [Int.mul_add] at h5
    omega
theorem leB_byt (n : Nat) : ∀ v : Int, Byt (leB n v) := by
  induction n with
  | zero => intro v x h; simp [leB] at h
  | succ n ih =>
    intro v x h
    rw [leB, List.mem_cons] at h
    rcases h with rfl | h
    · omega
    · exact ih _ x h
theorem byt_app {a b : List Int} (ha : Byt a) (hb : Byt b) : Byt (a ++ b) := fun x hx => (List.mem_append.1 hx).elim (ha x) (hb x)
theorem byt_rep (n : Nat) : Byt (List.replicate n 0) := fun x hx => by rw [List.eq_of_mem_replicate hx]; omega
def catB : List Nat → List Int → List Int
  | s :: ss, n :: ns => leB s n ++ catB ss ns
  | _, _ => []
theorem catB_byt : ∀ (ss : List Nat) (ns : List Int), Byt (catB ss ns)
  | [], _ => fun x h => by simp [catB] at h
  | _ :: _, [] => fun x h => by simp [catB] at h
  | s :: ss, n :: ns => byt_app (leB_byt s n) (catB_byt ss ns)
theorem catB_len : ∀ (ss : List Nat) (ns : List Int), ns.length = ss.length → (catB ss ns).length = ss.sum
  | [], _, _ => rfl
  | s :: ss, [], h => by simp at h
  | s :: ss, n :: ns, h => by
    rw [catB, List.length_append, leB_len, catB_len ss ns (by simpa using h), List.sum_cons]
theorem put_cat : ∀ (ss : List Nat) (ns : List Int) (p : List Int) (z a : Nat), p.length = a → ns.length = ss.length → ss.sum ≤ z →
    putF (p ++ List.replicate z 0) ((layF a ss).zip ns) = p ++ catB ss ns ++ List.replicate (z - ss.sum) 0
  | [], ns, p, z, a, hp, hn, hz => by simp [layF, putF, catB]
  | s :: ss, [], p, z, a, hp, hn, hz => by simp at hn
  | s :: ss, n :: ns, p, z, a, hp, hn, hz => by
    have hz' : s + ss.sum ≤ z := by simpa using hz
    have e : layI (p ++ List.replicate z 0) a (leB s n) = (p ++ leB s n) ++ List.replicate (z - s) 0 := by
      unfold layI
      rw [leB_len, List.take_left' hp, List.drop_append, List.drop_of_length_le (by omega), List.nil_append, List.drop_replicate]
      congr 2
      omega
    show putF (layI (p ++ List.replicate z 0) a (leB s n)) ((layF (a + s) ss).zip ns) = _
    rw [e, put_cat ss ns (p ++ leB s n) (z - s) (a + s) (by rw [List.length_append, leB_len, hp]) (by simpa using hn) (by omega)]
    simp only [catB, List.sum_cons, List.append_assoc]
    congr 4
    omega
/-- Numbers that fit. -/
def Fits : List Nat → List Int → Prop
  | s :: ss, n :: ns => (0 ≤ n ∧ n < 256 ^ s ∧ n ≤ 4611686018427387903) ∧ Fits ss ns
  | [], [] => True
  | _, _ => False
theorem Fits.len : ∀ {ss : List Nat} {ns : List Int}, Fits ss ns → ns.length = ss.length
  | [], [], _ => rfl
  | s :: ss, n :: ns, h => by simpa using Fits.len h.2
  | [], _ :: _, h => h.elim
  | _ :: _, [], h => h.elim
theorem get_at {p r : List Int} {a s : Nat} {n : Int} (hp : p.length = a) (h : 0 ≤ n ∧ n < 256 ^ s ∧ n ≤ 4611686018427387903) : leGet (p ++ leB s n ++ r) a s = (n, 0) := by
  have e : ((p ++ leB s n ++ r).drop a).take s = leB s n := by
    rw [List.append_assoc, List.drop_left' hp, List.take_left' (leB_len s n)]
  unfold leGet
  rw [e, leN_leB, Int.emod_eq_of_lt h.1 h.2.1, if_neg (by omega)]
theorem read_cat : ∀ (ss : List Nat) (ns : List Int) (p r : List Int) (a : Nat), p.length = a → Fits ss ns →
    (layF a ss).all (okF (p ++ catB ss ns ++ r)) = true ∧ numsB (layF a ss) (p ++ catB ss ns ++ r) = ns
  | [], [], p, r, a, hp, hf => ⟨rfl, rfl⟩
  | [], _ :: _, p, r, a, hp, hf => hf.elim
  | _ :: _, [], p, r, a, hp, hf => hf.elim
  | s :: ss, n :: ns, p, r, a, hp, hf => by
    have ih := read_cat ss ns (p ++ leB s n) r (a + s) (by rw [List.length_append, leB_len, hp]) hf.2
    have e : p ++ catB (s :: ss) (n :: ns) ++ r = p ++ leB s n ++ catB ss ns ++ r := by simp [catB]
    rw [e]
    have g : leGet (p ++ leB s n ++ catB ss ns ++ r) a s = (n, 0) := by
      have := get_at (r := catB ss ns ++ r) hp hf.1
      rwa [← List.append_assoc] at this
    constructor
    · simp only [layF, List.all_cons, ih.1, Bool.and_true]
      unfold okF; rw [g]; rfl
    · show (leGet _ a s).1 :: numsB (layF (a + s) ss) _ = _
      rw [ih.2, g]
theorem endF_lay : ∀ (ss : List Nat) (a : Nat), (layF a ss).foldl (fun _ f => f.1 + f.2) a = a + ss.sum
  | [], a => rfl
  | s :: ss, a => by
    show (layF (a + s) ss).foldl _ (a + s) = _
    rw [endF_lay ss (a + s), List.sum_cons, Nat.add_assoc]
theorem makeB_eq {mb : List Int} {ss : List Nat} {ns : List Int} (hm : mb.length = 4) (hn : ns.length = ss.length) (hs : ss.sum ≤ 56) :
    makeB mb (layF 4 ss) ns = mb ++ catB ss ns ++ List.replicate (56 - ss.sum) 0 ++ leB 4 (Crc.sum 0 (mb ++ catB ss ns ++ List.replicate (56 - ss.sum) 0)) := by
  have hc := catB_len ss ns hn
  have e : (putF (mb ++ List.replicate 60 0) ((layF 4 ss).zip ns)).take 60 = mb ++ catB ss ns ++ List.replicate (56 - ss.sum) 0 := by
    rw [put_cat ss ns mb 60 4 hm hn (by omega)]
    rw [List.take_append, List.take_of_length_le (by simp; omega), List.take_replicate]
    congr 2
    simp; omega
  unfold makeB
  rw [e]
theorem makeB_byt {mb : List Int} {ss : List Nat} {ns : List Int} (hb : Byt mb) (hm : mb.length = 4) (hn : ns.length = ss.length) (hs : ss.sum ≤ 56) : Byt (makeB mb (layF 4 ss) ns) := by
  rw [makeB_eq hm hn hs]
  exact byt_app (byt_app (byt_app hb (catB_byt ss ns)) (byt_rep _)) (leB_byt 4 _)
theorem makeB_len {mb : List Int} {ss : List Nat} {ns : List Int} (hm : mb.length = 4) (hn : ns.length = ss.length) (hs : ss.sum ≤ 56) : (makeB mb (layF 4 ss) ns).length = 64 := by
  rw [makeB_eq hm hn hs]
  have hc := catB_len ss ns hn
  simp [leB_len]; omega
theorem zeros_rep {p r : List Int} {a z b : Nat} (hp : p.length = a) (hb : b = a + z) : zerosN (p ++ List.replicate z 0 ++ r) a b = true := by
  unfold zerosN
  rw [List.append_assoc, List.drop_left' hp, List.take_left' (by simp; omega)]
  rw [List.all_eq_true]
  intro x hx
  rw [List.eq_of_mem_replicate hx]; rfl
/-- What is made is read. -/
theorem read_make {mb : List Int} {ss : List Nat} {ns : List Int} (hm : mb.length = 4) (hf : Fits ss ns) (hs : ss.sum ≤ 56) :
    readB mb (layF 4 ss) (makeB mb (layF 4 ss) ns) = 0 ∧ numsB (layF 4 ss) (makeB mb (layF 4 ss) ns) = ns := by
  have hn := hf.len
  have hlen := makeB_len hm hn hs
  have hc := catB_len ss ns hn
  rw [makeB_eq hm hn hs] at hlen ⊢
  generalize hS : Crc.sum 0 (mb ++ catB ss ns ++ List.replicate (56 - ss.sum) 0) = S at *
  have hS0 : 0 ≤ S := by rw [← hS]; exact Crc.sum0 _ _
  have hS1 : S < 4294967296 := by rw [← hS]; exact Crc.sum1 _ _
  have h60 : (mb ++ catB ss ns ++ List.replicate (56 - ss.sum) 0).length = 60 := by simp; omega
  obtain ⟨h1, h2⟩ := read_cat ss ns mb (List.replicate (56 - ss.sum) 0 ++ leB 4 S) 4 hm hf
  rw [← List.append_assoc] at h1 h2
  refine ⟨?_, h2⟩
  have hgood : goodB (mb ++ catB ss ns ++ List.replicate (56 - ss.sum) 0 ++ leB 4 S) = true := by
    unfold goodB
    rw [hlen]
    have g := get_at (p := mb ++ catB ss ns ++ List.replicate (56 - ss.sum) 0) (r := []) (a := 60) (s := 4) (n := S) h60 ⟨hS0, hS1, by omega⟩
    rw [List.append_nil] at g
    rw [show (64 - 4 : Nat) = 60 from rfl, g, List.take_left' h60, hS]
    exact beq_self_eq_true _
  have hz : zerosN (mb ++ catB ss ns ++ List.replicate (56 - ss.sum) 0 ++ leB 4 S) (endF (layF 4 ss)) 60 = true := by
    have e : endF (layF 4 ss) = 4 + ss.sum := endF_lay ss 4
    rw [e]
    exact zeros_rep (by simp; omega) (by omega)
  unfold readB
  rw [if_neg (by omega), if_neg (by rw [List.append_assoc, List.append_assoc, List.take_left' hm]; simp), if_neg (by rw [hgood]; decide), if_neg (by rw [h1]; decide), if_neg (by rw [hz]; decide)]
end Go.Proofs.Ytdcggjkcbheolaa
end
section
namespace Go.Proofs.Ytdcggjkcbheolaa
open Go Go.Am
def bys (l : List Int) : List Crc.W := l.map (fun x => Crc.by8 x.toNat)
end Go.Proofs.Ytdcggjkcbheolaa
end
section
namespace Go.Proofs.Ytdcggjkcbheolaa
open Go Go.Am
/-- A byte changed. -/
def xb (c x : Int) : Int := IntKind.u8.wrap (BitVec.ofInt IntKind.u8.bits c ^^^ BitVec.ofInt IntKind.u8.bits x).toNat
/-- The list behind so many changes from a place on. -/
def chg (b : List Int) (p : Nat) (x : List Int) : Nat → List Int
  | 0 => b
  | n + 1 => (chg b p x n).set (p + n) (xb ((chg b p x n).getD (p + n) 0) (x.getD n 0))
def bytes (l : List Int) : Prop := ∀ x ∈ l, 0 ≤ x ∧ x < 256
end Go.Proofs.Ytdcggjkcbheolaa
end
section
set_option linter.unusedVariables false
set_option maxRecDepth 100000
open Go Go.Am
namespace Go.Proofs.Ytdcggjkcbheolaa
open Go.Proofs.Try
theorem beq_take {l m : List Int} {i : Nat} (hi : i < l.length) (hm : i < m.length) (h : l.take i = m.take i) (he : l[i] = m[i]) : l.take (i + 1) = m.take (i + 1) := by
  rw [List.take_succ_eq_append_getElem hi, List.take_succ_eq_append_getElem hm, h, he]
theorem inc64x {j : Nat} (h : j < 9223372036854775807) : some (Value.int .i64 (fwrap .i64 ((j : Int) + 1))) = some (.int .i64 ((j + 1 : Nat) : Int)) := by
  rw [fw64 (by omega) (by omega)]; rfl
theorem keepBytesX_ok {h : Heap} {A B : Option Addr} {c d : Nat} {l m : List Int} (ra : 0 < l.length → ∃ a, A = some a ∧ Rd h a (us l)) (rb : 0 < m.length → ∃ a, B = some a ∧ Rd h a (us m)) (hm : l.length ≤ 9223372036854775807) :
    RunF prog 12 [.slice A l.length c, .slice B m.length d] h fun v h' => v = .bool (l == m) ∧ h = h' := by
  refine RunF.walk func12 rfl rfl ?_
  refine RunC.seq (RunC.region (RunO.all rfl ?_))
  refine RunC.seq (RunC.seq (RunC.region (RunO.all rfl ?_)))
  by_cases hl : l.length = m.length
  case neg =>
    have e : (l == m) = false := beq_eq_false_iff_ne.2 (fun g => hl (by rw [g]))
    rw [show ((l.length : Int) != (m.length : Int)) = true by simp; omega, e]
    refine RunC.cond rfl (fun _ => ?_) (fun g => by cases g)
    exact RunC.seq (RunC.region (RunO.all rfl (RunC.ret ⟨_, rfl, rfl, rfl⟩)))
  rw [show ((l.length : Int) != (m.length : Int)) = false by simp; omega]
  refine RunC.cond rfl (fun g => by cases g) (fun _ => RunC.skip ?_)
  refine RunC.seq (RunC.seq (RunC.region (RunO.all rfl ?_)))
  refine RunC.block ?_
  let I : Nat → Env → Heap → Prop := fun k E h' => ∃ i : Nat, i + k = l.length ∧ l.take i = m.take i ∧ h = h' ∧ Le (upd (upd (upd E0 0 (.slice A l.length c)) 1 (.slice B m.length d)) 5 (.int .i64 i)) E
  refine RunC.loop I ?_ (k := l.length) ?_
  · rintro k E h' ⟨i, hi, ht, rfl, hE⟩
    refine RunC.le hE ?_
    clear hE
    refine RunC.seq (RunC.seq (RunC.region (RunO.all rfl ?_)))
    refine RunC.cond rfl (fun hlt => ?_) (fun hge => ?_)
    · have hlt := of_decide_eq_true hlt
      have h1 : i < l.length := by omega
      have h2 : i < m.length := by omega
      obtain ⟨⟨b1, o1, s1⟩, rfl, rd1⟩ := ra (by omega)
      obtain ⟨⟨b2, o2, s2⟩, rfl, rd2⟩ := rb (by omega)
      have hs1 : s1 = none := rd1.1
      have hs2 : s2 = none := rd2.1
      subst hs1
      subst hs2
      refine RunC.skip ?_
      refine RunC.seq (RunC.block ?_)
      refine RunC.seq (RunC.draw0 rfl (RunO.part 2 rfl ?_))
      refine RunO.index (s := 1) rfl rfl rfl rfl h1 rfl ?_
      refine RunO.load (v := .int .u8 l[i]) rfl (rd1.cell1 (k := i * 1) rfl (by rw [Nat.mul_one]; exact us_nth h1)) rfl ?_
      refine RunO.part 2 rfl ?_
      refine RunO.index (s := 1) rfl rfl rfl rfl h2 rfl ?_
      refine RunO.load (v := .int .u8 m[i]) rfl (rd2.cell1 (k := i * 1) rfl (by rw [Nat.mul_one]; exact us_nth h2)) rfl ?_
      refine RunO.all rfl ?_
      refine RunC.cond rfl (fun hne => ?_) (fun heq => ?_)
      · have hne : l[i] ≠ m[i] := by simpa using hne
        have e : (l == m) = false := beq_eq_false_iff_ne.2 (fun g => hne (by subst g; rfl))
        rw [e]
        exact RunC.seq (RunC.region (RunO.all rfl (RunC.ret ⟨_, rfl, rfl, rfl⟩)))
      · have heq : l[i] = m[i] := by simpa using heq
        refine RunC.skip (RunC.region (RunO.all rfl ?_))
        exact ⟨k - 1, by omega, i + 1, by omega, beq_take h1 h2 ht heq, rfl, Le.cons (inc64x (by omega)) (Le.cons rfl (Le.cons rfl (Le.nil _)))⟩
    · have hge := of_decide_eq_false hge
      refine RunC.exit ?_
      have hi2 : i = l.length := by omega
      have e : l = m := by
        rw [hi2, List.take_length] at ht
        rw [ht, hl, List.take_length]
      rw [show (l == m) = true by rw [e]; exact beq_self_eq_true _]
      exact RunC.seq (RunC.region (RunO.all rfl (RunC.ret ⟨_, rfl, rfl, rfl⟩)))
  · exact ⟨0, by omega, rfl, rfl, Le.cons rfl (Le.cons rfl (Le.cons rfl (Le.nil _)))⟩
theorem keepBytes_ok {h : Heap} {A B : Option Addr} {c d : Nat} {l m : List Int} (ra : 0 < l.length → ∃ a, A = some a ∧ Rd h a (us l)) (rb : 0 < m.length → ∃ a, B = some a ∧ Rd h a (us m)) (hm : l.length ≤ 4611686018427387904) :
    RunF prog 12 [.slice A l.length c, .slice B m.length d] h fun v h' => v = .bool (l == m) ∧ h = h' := keepBytesX_ok ra rb (by omega)
end Go.Proofs.Ytdcggjkcbheolaa
end
section
set_option linter.unusedVariables false
set_option maxRecDepth 100000
open Go Go.Am Go.RowKit
namespace Go.Proofs.Ytdcggjkcbheolaa
open Go.Proofs.Try
theorem nod_fits {lv : Int} {ps : List Int} (hp : ps.length = 8) (h : nodOk lv ps = true) : Fits nodLay (lv :: ps) := by
  unfold nodOk at h
  simp only [Bool.and_eq_true, List.all_eq_true] at h
  obtain ⟨ha, hl0, hl1, _⟩ := h
  have e4 : (256 : Int) ^ 4 = 4294967296 := by decide
  have key : ∀ x ∈ ps, 0 ≤ x ∧ x < 256 ^ 4 ∧ x ≤ 4611686018427387903 := by
    intro x hx
    have := ha x hx
    unfold ptrB at this
    simp at this
    rw [e4]; omega
  have hl0 : ¬ lv < 0 := by simpa using hl0
  have hl1 : ¬ lv > 2 := by simpa using hl1
  match ps, hp with
  | [p0, p1, p2, p3, p4, p5, p6, p7], _ =>
    exact ⟨⟨by omega, by rw [e4]; omega, by omega⟩, key _ (by simp), key _ (by simp), key _ (by simp), key _ (by simp), key _ (by simp), key _ (by simp), key _ (by simp), key _ (by simp), trivial⟩
theorem nodBlock_len {lv : Int} {ps : List Int} (hp : ps.length = 8) : (nodBlock lv ps).length = 64 := makeB_len rfl (by rw [List.length_cons, hp]; rfl) (by decide)
theorem nodBlock_byt {lv : Int} {ps : List Int} (hp : ps.length = 8) : Byt (nodBlock lv ps) := makeB_byt (by unfold Byt; decide) rfl (by rw [List.length_cons, hp]; rfl) (by decide)
theorem nod_back {lv : Int} {ps : List Int} (hp : ps.length = 8) (h : nodOk lv ps = true) : nCode (nodBlock lv ps) = 0 ∧ nCells (nodBlock lv ps) = nc lv ps := by
  obtain ⟨h1, h2⟩ := read_make (mb := nMag) rfl (nod_fits hp h) (by decide)
  have h1 : readB nMag nLay (nodBlock lv ps) = 0 := h1
  have h2 : numsB nLay (nodBlock lv ps) = lv :: ps := h2
  rw [nPs_eq] at h2
  simp only [List.cons.injEq] at h2
  have hc : nCode (nodBlock lv ps) = 0 := by
    unfold nCode
    rw [if_pos h1, h2.1, h2.2, h]; rfl
  refine ⟨hc, ?_⟩
  unfold nCells
  rw [if_pos hc, h2.1, h2.2]
end Go.Proofs.Ytdcggjkcbheolaa
end
section
set_option linter.unusedVariables false
set_option maxRecDepth 100000
open Go Go.Am Go.RowKit
namespace Go.Proofs.Ytdcggjkcbheolaa
open Go.Proofs.Try
/-- Is a device one? -/
def devOk (n : Nat) : Bool := n % 64 == 0 && (decide (4 ≤ n / 64) && decide (n / 64 ≤ 4096))
theorem devCheck_ok {h : Heap} {A : Option Addr} {c len : Nat} (hm : len ≤ 4611686018427387904) :
    RunF prog 44 [.slice A len c] h fun v h' => v = .tuple #[.int .i64 (if devOk len then (len / 64 : Nat) else (0 : Nat)), .int .i64 (if devOk len then 0 else 2)] ∧ h = h' := by
  refine RunF.walk func44 rfl rfl ?_
  refine RunC.seq (RunC.region (RunO.all rfl ?_))
  refine RunC.seq (RunC.region (RunO.all rfl ?_))
  have e1 : (len : Int).tdiv 64 = ((len / 64 : Nat) : Int) := by rw [Int.tdiv_eq_ediv_of_nonneg (by omega)]; omega
  have e2 : (len : Int).tmod 64 = ((len % 64 : Nat) : Int) := by rw [Int.tmod_eq_emod_of_nonneg (by omega)]; omega
  rw [e1, fw64 (by omega) (by omega)]
  refine RunC.seq (RunC.seq (RunC.region (RunO.part 3 rfl ?_)))
  rw [e2]
  unfold devOk
  by_cases c1 : len % 64 = 0
  · refine RunO.part 2 rfl ?_
    rw [show (((len % 64 : Nat) : Int) != 0) = false by rw [c1]; rfl]
    by_cases c2 : 4 ≤ len / 64
    · refine RunO.part 4 rfl ?_
      rw [show decide (((len / 64 : Nat) : Int) < 4) = false from decide_eq_false (by omega)]
      refine RunO.all rfl ?_
      by_cases c3 : len / 64 ≤ 4096
      · rw [show decide (((len / 64 : Nat) : Int) > 4096) = false from decide_eq_false (by omega)]
        refine RunC.cond rfl (fun g => by cases g) (fun _ => RunC.skip ?_)
        rw [show (len % 64 == 0 && (decide (4 ≤ len / 64) && decide (len / 64 ≤ 4096))) = true by simp [c1, c2, c3]]
        exact RunC.seq (RunC.region (RunO.all rfl (RunC.ret ⟨_, rfl, rfl, rfl⟩)))
      · rw [show decide (((len / 64 : Nat) : Int) > 4096) = true from decide_eq_true (by omega)]
        refine RunC.cond rfl (fun _ => ?_) (fun g => by cases g)
        rw [show (len % 64 == 0 && (decide (4 ≤ len / 64) && decide (len / 64 ≤ 4096))) = false by simp [c3]]
        exact RunC.seq (RunC.region (RunO.all rfl (RunC.ret ⟨_, rfl, rfl, rfl⟩)))
    · refine RunO.part 4 rfl ?_
      rw [show decide (((len / 64 : Nat) : Int) < 4) = true from decide_eq_true (by omega)]
      refine RunO.all rfl ?_
      refine RunC.cond rfl (fun _ => ?_) (fun g => by cases g)
      rw [show (len % 64 == 0 && (decide (4 ≤ len / 64) && decide (len / 64 ≤ 4096))) = false by simp [c2]]
      exact RunC.seq (RunC.region (RunO.all rfl (RunC.ret ⟨_, rfl, rfl, rfl⟩)))
  · refine RunO.part 2 rfl ?_
    rw [show (((len % 64 : Nat) : Int) != 0) = true by simp; omega]
    refine RunO.all rfl ?_
    refine RunC.cond rfl (fun _ => ?_) (fun g => by cases g)
    rw [show (len % 64 == 0 && (decide (4 ≤ len / 64) && decide (len / 64 ≤ 4096))) = false by simp [c1]]
    exact RunC.seq (RunC.region (RunO.all rfl (RunC.ret ⟨_, rfl, rfl, rfl⟩)))
/-- A block of a device. -/
def blkI (l : List Int) (i : Nat) : List Int := (l.drop (i * 64)).take 64
theorem blkI_len {l : List Int} {i : Nat} (h : (i + 1) * 64 ≤ l.length) : (blkI l i).length = 64 := by unfold blkI; rw [List.length_take, List.length_drop]; omega
theorem rdBlk {h : Heap} {b o : Nat} {l : List Int} {i : Nat} (rd : Rd h ⟨b, o, none⟩ (us l)) (hi : (i + 1) * 64 ≤ l.length) : Rd h ⟨b, o + i * 64, none⟩ (us (blkI l i)) := by
  obtain ⟨h1, h2, ob, ho, he⟩ := rd
  refine ⟨rfl, h2, ob, ho, ?_⟩
  have hl := congrArg List.length he
  rw [List.length_take, List.length_drop, us_len] at hl
  simp only at hl he ⊢
  have e : us (blkI l i) = ((us l).drop (i * 64)).take 64 := by unfold blkI us; rw [List.map_take, List.map_drop]
  rw [us_len, blkI_len hi, e]
  apply List.ext_getElem?
  intro j
  rw [List.getElem?_take, List.getElem?_take]
  split
  · rename_i hj
    rw [List.getElem?_drop, List.getElem?_drop]
    conv => rhs; rw [← he]
    rw [us_len, List.getElem?_take, if_pos (by omega), List.getElem?_drop]
    congr 1; omega
  · rfl
theorem devOf_ok {h : Heap} {b o c i : Nat} {l : List Int} (hi : (i + 1) * 64 ≤ l.length) (hm : l.length ≤ 4611686018427387904) (hc : Cp 1 l.length c) :
    RunF prog 41 [.slice (some ⟨b, o, none⟩) l.length c, .int .i64 i] h fun v h' => (∃ c', Cp 1 64 c' ∧ v = .slice (some ⟨b, o + i * 64, none⟩) 64 c') ∧ h = h' := by
  refine RunF.walk func41 rfl rfl ?_
  refine RunC.seq (RunC.region (RunO.all rfl ?_))
  refine RunC.seq (RunC.region (RunO.part 6 rfl ?_))
  rw [fw64 (x := (i : Int) + 1) (by omega) (by omega), fw64 (x := (i : Int) * 64) (by omega) (by omega), fw64 (x := ((i : Int) + 1) * 64) (by omega) (by omega), show (i : Int) * 64 = ((i * 64 : Nat) : Int) by omega, show ((i : Int) + 1) * 64 = (((i + 1) * 64 : Nat) : Int) by omega]
  refine RunO.sliceMid (s := 1) rfl rfl rfl rfl rfl hc (by omega) hi rfl ?_
  intro c' hc'
  have e : (i + 1) * 64 - i * 64 = 64 := by omega
  rw [e] at hc' ⊢
  refine RunO.all rfl (RunC.ret ⟨_, rfl, ⟨c', hc', ?_⟩, rfl⟩)
  rw [Nat.mul_one]
theorem byt_blk {l : List Int} (h : Byt l) (i : Nat) : Byt (blkI l i) := fun x hx => h x (List.mem_of_mem_drop (List.mem_of_mem_take hx))
end Go.Proofs.Ytdcggjkcbheolaa
end
section
set_option linter.unusedVariables false
set_option maxRecDepth 100000
open Go Go.Am Go.RowKit
namespace Go.Proofs.Ytdcggjkcbheolaa
open Go.Proofs.Try
/-- The node that a block tells; none: no pointers. -/
def nodV (l : List Int) : Int × List Int := if nCode l = 0 then (nLv l, nPs l) else (0, nZero)
theorem nodV_cells (l : List Int) : nCells l = nc (nodV l).1 (nodV l).2 := by unfold nCells nodV; split <;> rfl
theorem nodV_len (l : List Int) : (nodV l).2.length = 8 := by unfold nodV; split <;> rfl
def atIn (B : Nat) (at_ : Int) : Bool := !(decide (at_ < 2) || decide (at_ ≥ (B : Int)))
def atV (L : List Int) (B : Nat) (at_ : Int) : Int × List Int := if atIn B at_ then nodV (blkI L at_.toNat) else (0, nZero)
theorem atV_len (L : List Int) (B : Nat) (at_ : Int) : (atV L B at_).2.length = 8 := by unfold atV; split; exact nodV_len _; rfl
def atIs (L : List Int) (B : Nat) (at_ lv : Int) : Bool := atIn B at_ && (nCode (blkI L at_.toNat) == 0 && (atV L B at_).1 == lv)
theorem atIn_iff {B : Nat} {a : Int} : atIn B a = true ↔ 2 ≤ a ∧ a < B := by
  unfold atIn
  rw [Bool.not_eq_true', Bool.or_eq_false_iff, decide_eq_false_iff_not, decide_eq_false_iff_not]
  omega
/-- A walk through a tree: the map, the nodes, is it none? -/
abbrev TS := List Int × List Int × Bool
def tstep (rec_ : Int → Nat → TS → TS) (B : Nat) (leaf : Bool) (w : TS) (p : Int) (to_ : Nat) : TS :=
  if w.2.2 then w else if decide (p ≥ (B : Int)) then (w.1, w.2.1, true) else if p != 0 && leaf then (w.1.set to_ p, w.2.1, w.2.2) else if p != 0 then rec_ p to_ w else w
def tbody (L : List Int) (B lv : Nat) (rec_ : Int → Nat → TS → TS) (at_ : Int) (from_ : Nat) (w : TS) : TS :=
  if !atIs L B at_ (lv : Int) || w.2.1.contains at_ then (w.1, w.2.1, true)
  else (List.range 8).foldl (fun w i => tstep rec_ B (lv == 0) w ((atV L B at_).2.getD i 0) (from_ + i * 8 ^ lv)) (w.1, w.2.1 ++ [at_], w.2.2)
def tgo (L : List Int) (B : Nat) : Nat → Int → Nat → TS → TS
  | 0 => tbody L B 0 (fun _ _ w => w)
  | k + 1 => tbody L B (k + 1) (tgo L B k)
def trec (L : List Int) (B : Nat) : Nat → Int → Nat → TS → TS
  | 0 => fun _ _ w => w
  | k + 1 => tgo L B k
theorem tgo_eq (L : List Int) (B lv : Nat) (a : Int) (f : Nat) (w : TS) : tgo L B lv a f w = tbody L B lv (trec L B lv) a f w := by cases lv <;> rfl
/-- The map stays as long as it is. -/
theorem tgo_len (L : List Int) (B : Nat) : ∀ (lv : Nat) (a : Int) (f : Nat) (w : TS), (tgo L B lv a f w).1.length = w.1.length := by
  intro lv
  induction lv with
  | zero =>
    intro a f w
    rw [tgo_eq]
    unfold tbody
    split
    · rfl
    · generalize hz : (w.1, w.2.1 ++ [a], w.2.2) = z
      have : w.1 = z.1 := by rw [← hz]
      rw [this]
      clear hz this
      generalize List.range 8 = l
      induction l generalizing z with
      | nil => rfl
      | cons i l ih =>
        rw [List.foldl_cons, ih]
        unfold tstep trec
        split
        · rfl
        · split
          · rfl
          · split
            · exact List.length_set
            · split <;> rfl
  | succ k ihk =>
    intro a f w
    rw [tgo_eq]
    unfold tbody
    split
    · rfl
    · generalize hz : (w.1, w.2.1 ++ [a], w.2.2) = z
      have : w.1 = z.1 := by rw [← hz]
      rw [this]
      clear hz this
      generalize List.range 8 = l
      induction l generalizing z with
      | nil => rfl
      | cons i l ih =>
        rw [List.foldl_cons, ih]
        unfold tstep trec
        split
        · rfl
        · split
          · rfl
          · split
            · exact List.length_set
            · split
              · exact ihk _ _ _
              · rfl
/-- So many nodes at most. -/
def nN : Nat → Nat
  | 0 => 1
  | k + 1 => 1 + 8 * nN k
theorem fold_ns {f : TS → Nat → TS} {M : Nat} (hf : ∀ w i, (f w i).2.1.length ≤ w.2.1.length + M) : ∀ (l : List Nat) (w : TS), (l.foldl f w).2.1.length ≤ w.2.1.length + l.length * M
  | [], w => by simp
  | i :: l, w => by
    rw [List.foldl_cons]
    have h1 := fold_ns hf l (f w i)
    have h2 := hf w i
    rw [List.length_cons, Nat.succ_mul]
    omega
theorem tstep_ns {r : Int → Nat → TS → TS} {M : Nat} (hr : ∀ a f w, (r a f w).2.1.length ≤ w.2.1.length + M) (B : Nat) (leaf : Bool) (w : TS) (p : Int) (t : Nat) : (tstep r B leaf w p t).2.1.length ≤ w.2.1.length + M := by
  unfold tstep
  split
  · omega
  · split
    · simp
    · split
      · simp
      · split
        · exact hr _ _ _
        · omega
def rN : Nat → Nat
  | 0 => 0
  | k + 1 => nN k
theorem nN_eq (lv : Nat) : nN lv = 1 + 8 * rN lv := by cases lv <;> rfl
theorem trec_ns (L : List Int) (B : Nat) : ∀ (lv : Nat) (a : Int) (f : Nat) (w : TS), (trec L B lv a f w).2.1.length ≤ w.2.1.length + rN lv := by
  intro lv
  induction lv with
  | zero => intro a f w; exact Nat.le_refl _
  | succ k ih =>
    intro a f w
    show (tgo L B k a f w).2.1.length ≤ w.2.1.length + nN k
    rw [tgo_eq, nN_eq]
    unfold tbody
    split
    · simp
    · have := fold_ns (f := fun w i => tstep (trec L B k) B (k == 0) w ((atV L B a).2.getD i 0) (f + i * 8 ^ k)) (fun w i => tstep_ns ih B (k == 0) w _ _) (List.range 8) (w.1, w.2.1 ++ [a], w.2.2)
      simp only [List.length_append, List.length_range, List.length_cons, List.length_nil] at this
      omega
theorem trec_len (L : List Int) (B : Nat) (lv : Nat) (a : Int) (f : Nat) (w : TS) : (trec L B lv a f w).1.length = w.1.length := by
  cases lv with
  | zero => rfl
  | succ k => exact tgo_len L B k a f w
end Go.Proofs.Ytdcggjkcbheolaa
end
section
set_option linter.unusedVariables false
set_option maxRecDepth 100000
open Go Go.Am Go.RowKit
namespace Go.Proofs.Ytdcggjkcbheolaa
open Go.Proofs.Try
theorem nodUnder_ok {h : Heap} {k : Nat} (hk : k ≤ 3) : RunF prog 134 [.int .i64 k] h fun v h' => v = .int .i64 (8 ^ k : Nat) ∧ h = h' := by
  refine RunF.walk func134 rfl rfl ?_
  refine RunC.seq (RunC.region (RunO.all rfl ?_))
  refine RunC.seq (RunC.region (RunO.all rfl ?_))
  refine RunC.seq (RunC.seq (RunC.region (RunO.all rfl ?_)))
  refine RunC.block ?_
  let I : Nat → Env → Heap → Prop := fun d E h' => ∃ i : Nat, i + d = k ∧ h = h' ∧ Le (upd (upd (upd E0 3 (.int .i64 (8 ^ i : Nat))) 4 (.int .i64 k)) 5 (.int .i64 i)) E
  refine RunC.loop I ?_ (k := k) ?_
  · rintro d E h' ⟨i, hi, rfl, hE⟩
    refine RunC.le hE ?_
    clear hE
    refine RunC.seq (RunC.region (RunO.all rfl ?_))
    refine RunC.seq (RunC.cond rfl (fun hlt => ?_) (fun hge => ?_))
    · have hlt := of_decide_eq_true hlt
      have h8 : 8 ^ i ≤ 8 ^ 3 := Nat.pow_le_pow_right (by decide) (by omega)
      refine RunC.skip ?_
      refine RunC.seq (RunC.block ?_)
      refine RunC.region (RunO.all rfl ?_)
      refine RunC.region (RunO.all rfl ?_)
      refine ⟨d - 1, by omega, i + 1, by omega, rfl, Le.cons (inc64 (by omega)) (Le.cons rfl (Le.cons ?_ (Le.nil _)))⟩
      show some (Value.int .i64 (fwrap .i64 (((8 ^ i : Nat) : Int) * 8))) = _
      rw [Nat.pow_succ]
      generalize 8 ^ i = q at *
      have h8 : q ≤ 512 := h8
      rw [fw64 (by omega) (by omega)]
      rfl
    · have hge := of_decide_eq_false hge
      have : i = k := by omega
      subst this
      refine RunC.exit ?_
      exact RunC.seq (RunC.region (RunO.all rfl (RunC.ret ⟨_, rfl, rfl, rfl⟩)))
  · exact ⟨0, by omega, rfl, Le.cons rfl (Le.cons rfl (Le.cons rfl (Le.nil _)))⟩
end Go.Proofs.Ytdcggjkcbheolaa
end
section
set_option linter.unusedVariables false
namespace Go.Am
open Go.RowKit
section
variable {P : Program} {n : Nat} {ops rest : List Oper} {E E1 : Env} {h h1 : Heap} {Q : Env → Heap → Prop}
theorem RunO.step {o : Oper} (e : estep P n ops E h o = some (E1, h1)) (r : RunO P n ops rest E1 h1 Q) : RunO P n ops (o :: rest) E h Q := by
  refine RunO.part (E1 := E1) (h1 := h1) 1 ?_ r
  show eops P n ops [o] E h = _
  simp only [eops, e]
/-- An element looked at under a guard. -/
theorem RunO.atG {d d2 : Tmp} {t ty ty2 e : TypeId} {x i : Operand} {pos pos2 : String} {after after2 : Array Edge} {gd gd2 : Option (Nat × Bool)} {v : Value} {m s k : Nat} {ik : IntKind} {cells : List Value} {u : Value}
    (hw : ewanted ops E ⟨some d, .indexAddr t x i, ty, pos, after, gd⟩ = some true) (hw2 : ∀ p, ewanted ops (upd E d (.pointer p)) ⟨some d2, .load e (.tmp d), ty2, pos2, after2, gd2⟩ = some true)
    (hx : gE E x = some v) (hi : gE E i = some (.int ik (k : Int))) (sl : Sl h v s m cells) (hu : P.underlying t = some (.slice e)) (hs : sizeOf P e = some s) (hk : k < m) (hv : apart P e cells (k * s) = some u)
    (hd : Nat.ble (Nat.succ d) n = true) (hd2 : Nat.ble (Nat.succ d2) n = true) (hE : E d = none)
    (r : RunO P n ops rest (upd E d2 u) h Q) : RunO P n ops (⟨some d, .indexAddr t x i, ty, pos, after, gd⟩ :: ⟨some d2, .load e (.tmp d), ty2, pos2, after2, gd2⟩ :: rest) E h Q := by
  obtain ⟨b, o, c, rfl, hc, rd⟩ := sl.nz (by omega)
  have hi' : gE E i = some (.int ik (.ofNat k)) := hi
  refine RunO.oneG (h1 := h) (v := .pointer (some ⟨b, o + k * s, none⟩)) (E1 := upd E d (.pointer (some ⟨b, o + k * s, none⟩))) hw ?_ (by simp only [eput, hd, cond_true]) ?_
  · simp only [eop, hx, hi', aindexAddr, hu, hs, Nat.ble_eq_true_of_le (show Nat.succ k ≤ m from hk), cond_true]
    rfl
  refine RunO.loadG (v := u) (a := ⟨b, o + k * s, none⟩) (hw2 _) (by show upd E d _ d = _; unfold upd; rw [Nat.beq_refl]; rfl) (rd.part hv) hd2 ?_
  exact r.le (upd2_le hE)
theorem Ow.ld {b off : Nat} {cs : List Value} {t : TypeId} {v : Value} (r : Ow h b cs) (e : apart P t cs off = some v) : aload P h t ⟨b, off, none⟩ = some v := by
  have := r.all.part (k := off) e
  rwa [Nat.zero_add] at this
theorem Rd.ld {b o : Nat} {cs : List Value} {t : TypeId} {v : Value} (r : Rd h ⟨b, o, none⟩ cs) (e : apart P t cs 0 = some v) : aload P h t ⟨b, o, none⟩ = some v := r.part (k := 0) e
end
end Go.Am
end
