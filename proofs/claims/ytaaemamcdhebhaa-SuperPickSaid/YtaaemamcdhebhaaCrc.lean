/- Crc: part of a calculus over an abstract machine that stands beside the model, and contracts of functions by it.
Conditions: what each theorem says of its arguments. -/
import Derived.Test.YtaaemamcdhebhaaBurst
import Derived.Test.YtaaemamcdhebhaaLe
set_option linter.unusedVariables false
set_option maxRecDepth 100000
open Go Go.Am
namespace Go.Proofs.Ytaaemamcdhebhaa.Crc
/-- A word's number. -/
def nt (a : W) : Int := a.toNat
theorem nt0 (a : W) : 0 ≤ nt a := by unfold nt; omega
theorem nt1 (a : W) : nt a < 4294967296 := by have := a.isLt; unfold nt; omega
theorem nt_inj {a b : W} (h : nt a = nt b) : a = b := by
  apply BitVec.eq_of_toNat_eq; unfold nt at h; omega
theorem nt_of (a : W) : BitVec.ofInt 32 (nt a) = a := by
  unfold nt; rw [BitVec.ofInt_natCast, BitVec.ofNat_toNat]; rfl
theorem nt_wrap (a : W) : IntKind.u32.wrap (nt a) = nt a := by
  rw [wrap_u32]; exact Int.emod_eq_of_lt (nt0 a) (nt1 a)
theorem nt_ofInt (x : Int) : nt (BitVec.ofInt 32 x) = x % 4294967296 := by
  unfold nt; rw [BitVec.toNat_ofInt]; omega
theorem xor32 (a b : W) : abin .xor .u32 (nt a) .u32 (nt b) = some (.int .u32 (nt (a ^^^ b))) := by
  show some (Value.int .u32 (IntKind.u32.wrap ((BitVec.ofInt 32 (nt a) ^^^ BitVec.ofInt 32 (nt b) : BitVec 32).toNat : Nat))) = _
  rw [nt_of, nt_of]
  exact congrArg (fun x => some (Value.int .u32 x)) (nt_wrap (a ^^^ b))
theorem and32 (a b : W) : abin .and .u32 (nt a) .u32 (nt b) = some (.int .u32 (nt (a &&& b))) := by
  show some (Value.int .u32 (IntKind.u32.wrap ((BitVec.ofInt 32 (nt a) &&& BitVec.ofInt 32 (nt b) : BitVec 32).toNat : Nat))) = _
  rw [nt_of, nt_of]
  exact congrArg (fun x => some (Value.int .u32 x)) (nt_wrap (a &&& b))
theorem not32 (a : W) : aunop .xor (.int .u32 (nt a)) = some (.int .u32 (nt (~~~ a))) := by
  have h := xor32 (BitVec.allOnes 32) a
  rw [BitVec.allOnes_xor] at h
  exact h
theorem half32 (a : W) : abin .shr .u32 (nt a) .u64 1 = some (.int .u32 (nt (a >>> 1))) := by
  show some (Value.int .u32 ((nt a).fdiv (2 ^ 1))) = _
  rw [Int.fdiv_eq_ediv_of_nonneg _ (by decide)]
  congr 2
theorem bit0 (a : W) : (nt (a &&& 1#32) == 1) = a.getLsbD 0 := by
  have h : (a &&& 1#32).toNat = a.toNat % 2 := by
    rw [BitVec.toNat_and]
    exact Nat.and_one_is_mod _
  unfold nt
  rw [h, BitVec.getLsbD, Nat.testBit_zero]
  rcases Nat.mod_two_eq_zero_or_one a.toNat with e | e <;> rw [e] <;> rfl
theorem Zn_succ (n : Nat) (v : W) : Zn (n + 1) v = Z (Zn n v) := Zn_add n 1 v
/-- The state behind bytes. -/
def st (l : List Int) (v : W) : W := l.foldl (fun s x => Zn 8 (s ^^^ BitVec.ofInt 32 x)) v
theorem st_snoc (l : List Int) (x : Int) (v : W) : st (l ++ [x]) v = Zn 8 (st l v ^^^ BitVec.ofInt 32 x) := by
  unfold st; rw [List.foldl_append]; rfl
/-- The sum of bytes, gone on from a sum. -/
def sum (a : Int) (l : List Int) : Int := nt (~~~ st l (~~~ BitVec.ofInt 32 a))
theorem sum0 (a : Int) (l : List Int) : 0 ≤ sum a l := nt0 _
theorem sum1 (a : Int) (l : List Int) : sum a l < 4294967296 := nt1 _
end Go.Proofs.Ytaaemamcdhebhaa.Crc
namespace Go.Proofs.Ytaaemamcdhebhaa
open Go.Proofs.Try Crc
theorem crcMore_ok {h : Heap} {a : Addr} {c : Nat} {s0 : Int} {l : List Int} (rd : Rd h a (us l)) (hm : l.length ≤ 4611686018427387904) :
    RunF prog 85 [.int .i64 s0, .slice (some a) l.length c] h fun v h' => v = .int .i64 (Crc.sum s0 l) ∧ h = h' := by
  obtain ⟨b, o, sp⟩ := a
  have hsp : sp = none := rd.1
  subst hsp
  refine RunF.walk func85 rfl rfl ?_
  refine RunC.seq (RunC.region (RunO.all rfl ?_))
  refine RunC.seq (RunC.region (RunO.part 3 rfl ?_))
  rw [fwu64', fwu32, show s0 % 18446744073709551616 % 4294967296 = nt (BitVec.ofInt 32 s0) by rw [nt_ofInt]; omega]
  unfold Crc.sum
  generalize BitVec.ofInt 32 s0 = v
  refine RunO.un rfl (not32 v) rfl ?_
  refine RunO.all rfl ?_
  refine RunC.seq (RunC.seq (RunC.region (RunO.all rfl ?_)))
  refine RunC.block ?_
  let I : Nat → Env → Heap → Prop := fun m E h' => ∃ i : Nat, i + m = l.length ∧ h = h' ∧ Le (upd (upd (upd (upd E0 5 (.int .u32 (nt (st (l.take i) (~~~ v))))) 13 (.slice (some ⟨b, o, none⟩) l.length c)) 14 (.int .i64 l.length)) 15 (.int .i64 i)) E
  refine RunC.loop I ?_ (k := l.length) ?_
  · rintro m E h' ⟨i, hi, rfl, hE⟩
    refine RunC.le hE ?_
    clear hE
    refine RunC.seq (RunC.region (RunO.all rfl ?_))
    refine RunC.seq (RunC.cond rfl (fun hlt => ?_) (fun hge => ?_))
    · have hlt := of_decide_eq_true hlt
      have hlt2 : i < l.length := by omega
      refine RunC.skip ?_
      refine RunC.seq (RunC.block ?_)
      refine RunC.seq (RunC.region ?_)
      refine RunO.index (s := 1) rfl rfl rfl rfl hlt2 rfl ?_
      refine RunO.load (v := .int .u8 l[i]) rfl (rd.cell1 (k := i * 1) rfl (by rw [Nat.mul_one]; exact us_nth hlt2)) rfl ?_
      refine RunO.all rfl ?_
      have hst : st (l.take (i + 1)) (~~~ v) = Zn 8 (st (l.take i) (~~~ v) ^^^ BitVec.ofInt 32 l[i]) := by rw [List.take_succ_eq_append_getElem hlt2, st_snoc]
      generalize l[i] = x at *
      generalize st (l.take i) (~~~ v) = s at *
      refine RunC.seq (RunC.region (RunO.part 3 rfl ?_))
      rw [fwu32, ← nt_ofInt]
      refine RunO.bin rfl rfl (xor32 _ _) rfl ?_
      refine RunO.all rfl ?_
      generalize s ^^^ BitVec.ofInt 32 x = y at *
      refine RunC.seq (RunC.region (RunO.all rfl ?_))
      refine RunC.block ?_
      let J : Nat → Env → Heap → Prop := fun m E h' => ∃ j : Nat, j + m = 8 ∧ h = h' ∧ Le (upd (upd (upd (upd (upd E0 5 (.int .u32 (nt (Zn j y)))) 13 (.slice (some ⟨b, o, none⟩) l.length c)) 14 (.int .i64 l.length)) 15 (.int .i64 i)) 23 (.int .i64 j)) E
      refine RunC.loop J ?_ (k := 8) ?_
      · rintro m2 E h' ⟨j, hj, rfl, hE⟩
        refine RunC.le hE ?_
        clear hE
        refine RunC.seq (RunC.region (RunO.all rfl ?_))
        refine RunC.seq (RunC.cond rfl (fun hlt => ?_) (fun hge => ?_))
        · have hlt := of_decide_eq_true hlt
          refine RunC.skip ?_
          have hz : Zn (j + 1) y = Z (Zn j y) := Zn_succ j y
          generalize Zn j y = u at *
          refine RunC.seq (RunC.block ?_)
          refine RunC.seq (RunC.region (RunO.part 1 rfl ?_))
          refine RunO.bin rfl rfl (and32 u 1#32) rfl ?_
          refine RunO.all rfl ?_
          refine RunC.seq (RunC.region (RunO.part 1 rfl ?_))
          refine RunO.bin rfl rfl (half32 u) rfl ?_
          refine RunO.all rfl ?_
          refine RunC.seq (RunC.region (RunO.all rfl ?_))
          refine RunC.cond rfl (fun hb => ?_) (fun hb => ?_)
          · rw [bit0] at hb
            refine RunC.region (RunO.part 1 rfl ?_)
            refine RunO.bin rfl rfl (xor32 (u >>> 1) poly) rfl ?_
            refine RunO.all rfl ?_
            refine RunC.region (RunO.all rfl ?_)
            refine ⟨m2 - 1, by omega, j + 1, by omega, rfl, ?_⟩
            have e : Zn (j + 1) y = (u >>> 1) ^^^ poly := by rw [hz]; unfold Z; rw [if_pos hb]
            rw [e]
            exact Le.cons (inc64 (by omega)) (Le.cons rfl (Le.cons rfl (Le.cons rfl (Le.cons rfl (Le.nil _)))))
          · rw [bit0] at hb
            refine RunC.skip ?_
            refine RunC.region (RunO.all rfl ?_)
            refine ⟨m2 - 1, by omega, j + 1, by omega, rfl, ?_⟩
            have e : Zn (j + 1) y = u >>> 1 := by rw [hz]; unfold Z; rw [if_neg (by rw [hb]; decide), BitVec.xor_zero]
            rw [e]
            exact Le.cons (inc64 (by omega)) (Le.cons rfl (Le.cons rfl (Le.cons rfl (Le.cons rfl (Le.nil _)))))
        · have hge := of_decide_eq_false hge
          refine RunC.exit ?_
          have : j = 8 := by omega
          subst this
          refine RunC.region (RunO.all rfl ?_)
          refine ⟨m - 1, by omega, i + 1, by omega, rfl, ?_⟩
          rw [hst]
          exact Le.cons (inc64 (by omega)) (Le.cons rfl (Le.cons rfl (Le.cons rfl (Le.nil _))))
      · exact ⟨0, by omega, rfl, Le.cons rfl (Le.cons rfl (Le.cons rfl (Le.cons rfl (Le.cons rfl (Le.nil _)))))⟩
    · have hge := of_decide_eq_false hge
      refine RunC.exit ?_
      have : i = l.length := by omega
      subst this
      rw [List.take_length]
      refine RunC.seq (RunC.region (RunO.part 1 rfl ?_))
      generalize st l (~~~ v) = s
      refine RunO.un rfl (not32 s) rfl ?_
      refine RunO.all rfl ?_
      refine RunC.ret ⟨_, rfl, ?_, rfl⟩
      show Value.int .i64 (fwrap .i64 (nt (~~~ s))) = _
      have h0 := nt0 (~~~ s)
      have h1 := nt1 (~~~ s)
      rw [fw64 (by omega) (by omega)]
  · exact ⟨0, by omega, rfl, Le.cons rfl (Le.cons rfl (Le.cons rfl (Le.cons rfl (Le.nil _))))⟩
theorem crcSum_ok {h : Heap} {a : Addr} {c : Nat} {l : List Int} (rd : Rd h a (us l)) (hm : l.length ≤ 4611686018427387904) :
    RunF prog 80 [.slice (some a) l.length c] h fun v h' => v = .int .i64 (Crc.sum 0 l) ∧ h = h' := by
  refine RunF.walk func80 rfl rfl ?_
  refine RunC.seq (RunC.region (RunO.all rfl ?_))
  refine RunC.seq (RunC.region (RunO.part 1 rfl ?_))
  refine RunO.callD (crcMore_ok rd hm) rfl rfl rfl ?_
  rintro _ _ ⟨rfl, rfl⟩
  exact RunO.all rfl (RunC.ret ⟨_, rfl, rfl, rfl⟩)
end Go.Proofs.Ytaaemamcdhebhaa
