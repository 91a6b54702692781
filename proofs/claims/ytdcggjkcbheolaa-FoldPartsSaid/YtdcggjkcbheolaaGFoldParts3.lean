/- FoldParts: a calculus over an abstract machine that stands beside the model, and contracts of functions by it (part 3).
Conditions: what each theorem says of its arguments. -/
import Derived.Test.YtdcggjkcbheolaaGFoldParts2
import Derived.KernelRfl
import Derived.ChangeArms
import Derived.OpenShut
import Derived.Deep.Slices
import Derived.WideShapes
import Derived.DataReads
section
set_option linter.unusedVariables false
set_option maxRecDepth 100000
open Go Go.Am
namespace Go.Proofs.Ytdcggjkcbheolaa.Crc
/-- A word's number. -/
def nt (a : W) : Int := a.toNat
theorem nt0 (a : W) : 0 ≤ nt a := by unfold nt; omega
theorem nt1 (a : W) : nt a < 4294967296 := by have := a.isLt; unfold nt; omega
theorem nt_of (a : W) : BitVec.ofInt 32 (nt a) = a := by
  unfold nt; rw [BitVec.ofInt_natCast, BitVec.ofNat_toNat]; rfl
theorem nt_wrap (a : W) : IntKind.u32.wrap (nt a) = nt a := by
  rw [wrap_u32]; exact Int.emod_eq_of_lt (nt0 a) (nt1 a)
theorem nt_ofInt (x : Int) : nt (BitVec.ofInt 32 x) = x % 4294967296 := by
  unfold nt; rw [BitVec.toNat_ofInt]; omega
theorem xor32 (a b : W) : abin .xor .u32 (nt a) .u32 (nt b) = some (.int .u32 (nt (a ^^^ b))) := by
  show some (Value.int .u32 (IntKind.u32.wrap ((BitVec.ofInt 32 (nt a) ^^^ BitVec.ofInt 32 (nt b) : BitVec 32).toNat : Nat))) = _
  rw [nt_of, nt_of]
  exact congrArg (fun x => some (Value.int .u32 x)) (nt_wrap (a ^^^ b))
theorem and32 (a b : W) : abin .and .u32 (nt a) .u32 (nt b) = some (.int .u32 (nt (a &&& b))) := by
  show some (Value.int .u32 (IntKind.u32.wrap ((BitVec.ofInt 32 (nt a) &&& BitVec.ofInt 32 (nt b) : BitVec 32).toNat : Nat))) = _
  rw [nt_of, nt_of]
  exact congrArg (fun x => some (Value.int .u32 x)) (nt_wrap (a &&& b))
theorem not32 (a : W) : aunop .xor (.int .u32 (nt a)) = some (.int .u32 (nt (~~~ a))) := by
  have h := xor32 (BitVec.allOnes 32) a
  rw [BitVec.allOnes_xor] at h
  exact h
theorem half32 (a : W) : abin .shr .u32 (nt a) .u64 1 = some (.int .u32 (nt (a >>> 1))) := by
  show some (Value.int .u32 ((nt a).fdiv (2 ^ 1))) = _
  rw [Int.fdiv_eq_ediv_of_nonneg _ (by decide)]
  congr 2
theorem bit0 (a : W) : (nt (a &&& 1#32) == 1) = a.getLsbD 0 := by
  have h : (a &&& 1#32).toNat = a.toNat % 2 := by
    rw [BitVec.toNat_and]
    exact Nat.and_one_is_mod _
  unfold nt
  rw [h, BitVec.getLsbD, Nat.testBit_zero]
  rcases Nat.mod_two_eq_zero_or_one a.toNat with e | e <;> rw [e] <;> rfl
theorem Zn_succ (n : Nat) (v : W) : Zn (n + 1) v = Z (Zn n v) := Zn_add n 1 v
/-- The state behind bytes. -/
def st (l : List Int) (v : W) : W := l.foldl (fun s x => Zn 8 (s ^^^ BitVec.ofInt 32 x)) v
theorem st_snoc (l : List Int) (x : Int) (v : W) : st (l ++ [x]) v = Zn 8 (st l v ^^^ BitVec.ofInt 32 x) := by
  unfold st; rw [List.foldl_append]; rfl
/-- The sum of bytes, gone on from a sum. -/
def sum (a : Int) (l : List Int) : Int := nt (~~~ st l (~~~ BitVec.ofInt 32 a))
end Go.Proofs.Ytdcggjkcbheolaa.Crc
namespace Go.Proofs.Ytdcggjkcbheolaa
open Go.Proofs.Try Crc
theorem crcMore_ok {h : Heap} {a : Addr} {c : Nat} {s0 : Int} {l : List Int} (rd : Rd h a (us l)) (hm : l.length ≤ 4611686018427387904) :
    RunF prog 96 [.int .i64 s0, .slice (some a) l.length c] h fun v h' => v = .int .i64 (Crc.sum s0 l) ∧ h = h' := by
  obtain ⟨b, o, sp⟩ := a
  have hsp : sp = none := rd.1
  subst hsp
  refine RunF.walk func96 rfl rfl ?_
  refine RunC.seq (RunC.region (RunO.all rfl ?_))
  refine RunC.seq (RunC.region (RunO.part 3 rfl ?_))
  rw [fwu64', fwu32, show s0 % 18446744073709551616 % 4294967296 = nt (BitVec.ofInt 32 s0) by rw [nt_ofInt]; omega]
  unfold Crc.sum
  generalize BitVec.ofInt 32 s0 = v
  refine RunO.un rfl (not32 v) rfl ?_
  refine RunO.all rfl ?_
  refine RunC.seq (RunC.seq (RunC.region (RunO.all rfl ?_)))
  refine RunC.block ?_
  let I : Nat → Env → Heap → Prop := fun m E h' => ∃ i : Nat, i + m = l.length ∧ h = h' ∧ Le (upd (upd (upd (upd E0 5 (.int .u32 (nt (st (l.take i) (~~~ v))))) 13 (.slice (some ⟨b, o, none⟩) l.length c)) 14 (.int .i64 l.length)) 15 (.int .i64 i)) E
  refine RunC.loop I ?_ (k := l.length) ?_
  · rintro m E h' ⟨i, hi, rfl, hE⟩
    refine RunC.le hE ?_
    clear hE
    refine RunC.seq (RunC.region (RunO.all rfl ?_))
    refine RunC.seq (RunC.cond rfl (fun hlt => ?_) (fun hge => ?_))
    · have hlt := of_decide_eq_true hlt
      have hlt2 : i < l.length := by omega
      refine RunC.skip ?_
      refine RunC.seq (RunC.block ?_)
      refine RunC.seq (RunC.region ?_)
      refine RunO.index (s := 1) rfl rfl rfl rfl hlt2 rfl ?_
      refine RunO.load (v := .int .u8 l[i]) rfl (rd.cell1 (k := i * 1) rfl (by rw [Nat.mul_one]; exact us_nth hlt2)) rfl ?_
      refine RunO.all rfl ?_
      have hst : st (l.take (i + 1)) (~~~ v) = Zn 8 (st (l.take i) (~~~ v) ^^^ BitVec.ofInt 32 l[i]) := by rw [List.take_succ_eq_append_getElem hlt2, st_snoc]
      generalize l[i] = x at *
      generalize st (l.take i) (~~~ v) = s at *
      refine RunC.seq (RunC.region (RunO.part 3 rfl ?_))
      rw [fwu32, ← nt_ofInt]
      refine RunO.bin rfl rfl (xor32 _ _) rfl ?_
      refine RunO.all rfl ?_
      generalize s ^^^ BitVec.ofInt 32 x = y at *
      refine RunC.seq (RunC.region (RunO.all rfl ?_))
      refine RunC.block ?_
      let J : Nat → Env → Heap → Prop := fun m E h' => ∃ j : Nat, j + m = 8 ∧ h = h' ∧ Le (upd (upd (upd (upd (upd E0 5 (.int .u32 (nt (Zn j y)))) 13 (.slice (some ⟨b, o, none⟩) l.length c)) 14 (.int .i64 l.length)) 15 (.int .i64 i)) 23 (.int .i64 j)) E
      refine RunC.loop J ?_ (k := 8) ?_
      · rintro m2 E h' ⟨j, hj, rfl, hE⟩
        refine RunC.le hE ?_
        clear hE
        refine RunC.seq (RunC.region (RunO.all rfl ?_))
        refine RunC.seq (RunC.cond rfl (fun hlt => ?_) (fun hge => ?_))
        · have hlt := of_decide_eq_true hlt
          refine RunC.skip ?_
          have hz : Zn (j + 1) y = Z (Zn j y) := Zn_succ j y
          generalize Zn j y = u at *
          refine RunC.seq (RunC.block ?_)
          refine RunC.seq (RunC.region (RunO.part 1 rfl ?_))
          refine RunO.bin rfl rfl (and32 u 1#32) rfl ?_
          refine RunO.all rfl ?_
          refine RunC.seq (RunC.region (RunO.part 1 rfl ?_))
          refine RunO.bin rfl rfl (half32 u) rfl ?_
          refine RunO.all rfl ?_
          refine RunC.seq (RunC.region (RunO.all rfl ?_))
          refine RunC.cond rfl (fun hb => ?_) (fun hb => ?_)
          · rw [bit0] at hb
            refine RunC.region (RunO.part 1 rfl ?_)
            refine RunO.bin rfl rfl (xor32 (u >>> 1) poly) rfl ?_
            refine RunO.all rfl ?_
            refine RunC.region (RunO.all rfl ?_)
            refine ⟨m2 - 1, by omega, j + 1, by omega, rfl, ?_⟩
            have e : Zn (j + 1) y = (u >>> 1) ^^^ poly := by rw [hz]; unfold Z; rw [if_pos hb]
            rw [e]
            exact Le.cons (inc64 (by omega)) (Le.cons rfl (Le.cons rfl (Le.cons rfl (Le.cons rfl (Le.nil _)))))
          · rw [bit0] at hb
            refine RunC.skip ?_
            refine RunC.region (RunO.all rfl ?_)
            refine ⟨m2 - 1, by omega, j + 1, by omega, rfl, ?_⟩
            have e : Zn (j + 1) y = u >>> 1 := by rw [hz]; unfold Z; rw [if_neg (by rw [hb]; decide), BitVec.xor_zero]
            rw [e]
            exact Le.cons (inc64 (by omega)) (Le.cons rfl (Le.cons rfl (Le.cons rfl (Le.cons rfl (Le.nil _)))))
        · have hge := of_decide_eq_false hge
          refine RunC.exit ?_
          have : j = 8 := by omega
          subst this
          refine RunC.region (RunO.all rfl ?_)
          refine ⟨m - 1, by omega, i + 1, by omega, rfl, ?_⟩
          rw [hst]
          exact Le.cons (inc64 (by omega)) (Le.cons rfl (Le.cons rfl (Le.cons rfl (Le.nil _))))
      · exact ⟨0, by omega, rfl, Le.cons rfl (Le.cons rfl (Le.cons rfl (Le.cons rfl (Le.cons rfl (Le.nil _)))))⟩
    · have hge := of_decide_eq_false hge
      refine RunC.exit ?_
      have : i = l.length := by omega
      subst this
      rw [List.take_length]
      refine RunC.seq (RunC.region (RunO.part 1 rfl ?_))
      generalize st l (~~~ v) = s
      refine RunO.un rfl (not32 s) rfl ?_
      refine RunO.all rfl ?_
      refine RunC.ret ⟨_, rfl, ?_, rfl⟩
      show Value.int .i64 (fwrap .i64 (nt (~~~ s))) = _
      have h0 := nt0 (~~~ s)
      have h1 := nt1 (~~~ s)
      rw [fw64 (by omega) (by omega)]
  · exact ⟨0, by omega, rfl, Le.cons rfl (Le.cons rfl (Le.cons rfl (Le.cons rfl (Le.nil _))))⟩
theorem crcSum_ok {h : Heap} {a : Addr} {c : Nat} {l : List Int} (rd : Rd h a (us l)) (hm : l.length ≤ 4611686018427387904) :
    RunF prog 138 [.slice (some a) l.length c] h fun v h' => v = .int .i64 (Crc.sum 0 l) ∧ h = h' := by
  refine RunF.walk func138 rfl rfl ?_
  refine RunC.seq (RunC.region (RunO.all rfl ?_))
  refine RunC.seq (RunC.region (RunO.part 1 rfl ?_))
  refine RunO.callD (crcMore_ok rd hm) rfl rfl rfl ?_
  rintro _ _ ⟨rfl, rfl⟩
  exact RunO.all rfl (RunC.ret ⟨_, rfl, rfl, rfl⟩)
end Go.Proofs.Ytdcggjkcbheolaa
end
section
set_option linter.unusedVariables false
namespace Go.Am
open Go.RowKit
theorem unk_exc (c : Nat) : isUnk (exc c) = false := beqF (show 2 * c % 2 ≠ 1 by omega)
theorem unk_unkc (s : Nat) : isUnk (unkc s) = true := beqT (show (2 * s + 1) % 2 = 1 by omega)
/-- A capacity that fits. -/
def Cp (s len c : Nat) : Prop := (isUnk c = true ∧ half c = s) ∨ (isUnk c = false ∧ len ≤ half c)
theorem Cp.exc {s len c : Nat} (h : len ≤ c) : Cp s len (exc c) := .inr ⟨unk_exc c, by rw [half_exc]; exact h⟩
theorem Cp.unkc (s len : Nat) : Cp s len (unkc s) := .inl ⟨unk_unkc s, half_unkc s⟩
section
variable {P : Program} {n : Nat} {ops rest : List Oper} {E E1 : Env} {h h1 : Heap} {Q : Env → Heap → Prop}
theorem slice_pre {t e : TypeId} {b o len c s k : Nat} {ik : IntKind} (hu : P.underlying t = some (.slice e)) (hs : sizeOf P e = some s) (hc : Cp s len c) (hk : k ≤ len) :
    ∃ c', Cp s k c' ∧ aslice P t (.slice (some ⟨b, o, none⟩) len c) none (some (.int ik (k : Int))) none = some (.slice (some ⟨b, o, none⟩) k c') := by
  rcases hc with ⟨h1, h2⟩ | ⟨h1, h2⟩
  · refine ⟨c, .inl ⟨h1, h2⟩, ?_⟩
    have e2 : abounds len len none (some (.int ik (k : Int))) none = some (0, k, len) := by
      show (match cond (Nat.ble k len) (some k) none with | none => none | some h => some (0, h, len)) = _
      rw [Nat.ble_eq_true_of_le hk]; rfl
    simp only [aslice, hu, hs, h1, cond_true, h2, Nat.beq_refl, e2]
    simp [addrAdd]
  · have e2 : abounds len (half c) none (some (.int ik (k : Int))) none = some (0, k, half c) := by
      show (match cond (Nat.ble k (half c)) (some k) none with | none => none | some h => some (0, h, half c)) = _
      rw [Nat.ble_eq_true_of_le (by omega)]; rfl
    refine ⟨exc (half c), Cp.exc (by omega), ?_⟩
    simp only [aslice, hu, hs, h1, cond_false, e2]
    congr 2
    cases Nat.beq (half c) 0 <;> simp [addrAdd]
theorem RunO.slicePre {d : Tmp} {t ty e : TypeId} {x y : Operand} {pos : String} {after : Array Edge} {b o len c s k : Nat} {ik : IntKind}
    (hx : gE E x = some (.slice (some ⟨b, o, none⟩) len c)) (hy : gE E y = some (.int ik (k : Int))) (hu : P.underlying t = some (.slice e)) (hs : sizeOf P e = some s) (hc : Cp s len c) (hk : k ≤ len) (hd : Nat.ble (Nat.succ d) n = true)
    (r : ∀ c', Cp s k c' → RunO P n ops rest (upd E d (.slice (some ⟨b, o, none⟩) k c')) h Q) : RunO P n ops (⟨some d, .slice t x none (some y) none, ty, pos, after, none⟩ :: rest) E h Q := by
  obtain ⟨c', h1, h2⟩ := slice_pre (b := b) (o := o) (ik := ik) hu hs hc hk
  refine RunO.one rfl (v := .slice (some ⟨b, o, none⟩) k c') ?_ (by simp only [eput, hd, cond_true]) (r c' h1)
  simp only [eop, hx, hy, go, h2, pureR]

theorem slice_mid {t e : TypeId} {b o len c s k m : Nat} {ik jk : IntKind} (hu : P.underlying t = some (.slice e)) (hs : sizeOf P e = some s) (hc : Cp s len c) (hk : k < m) (hm : m ≤ len) :
    ∃ c', Cp s (m - k) c' ∧ aslice P t (.slice (some ⟨b, o, none⟩) len c) (some (.int ik (k : Int))) (some (.int jk (m : Int))) none = some (.slice (some ⟨b, o + k * s, none⟩) (m - k) c') := by
  have hkm : (match cond (Nat.ble k m) (some k) none with | none => none | some l => some (l, m, len)) = some (k, m, len) := by rw [Nat.ble_eq_true_of_le (by omega)]; rfl
  rcases hc with ⟨h1, h2⟩ | ⟨h1, h2⟩
  · refine ⟨c, .inl ⟨h1, h2⟩, ?_⟩
    have e2 : abounds len len (some (.int ik (k : Int))) (some (.int jk (m : Int))) none = some (k, m, len) := by
      show (match cond (Nat.ble m len) (some m) none with | none => none | some h => match cond (Nat.ble k h) (some k) none with | none => none | some l => some (l, h, len)) = _
      rw [Nat.ble_eq_true_of_le hm]; simp only [cond_true]; rw [Nat.ble_eq_true_of_le (by omega)]; rfl
    simp only [aslice, hu, hs, h1, cond_true, h2, Nat.beq_refl, e2]
    rfl
  · have e2 : abounds len (half c) (some (.int ik (k : Int))) (some (.int jk (m : Int))) none = some (k, m, half c) := by
      show (match cond (Nat.ble m (half c)) (some m) none with | none => none | some h => match cond (Nat.ble k h) (some k) none with | none => none | some l => some (l, h, half c)) = _
      rw [Nat.ble_eq_true_of_le (by omega)]; simp only [cond_true]; rw [Nat.ble_eq_true_of_le (by omega)]; rfl
    refine ⟨exc (half c - k), Cp.exc (by omega), ?_⟩
    simp only [aslice, hu, hs, h1, cond_false, e2, beqF (show half c ≠ k by omega)]
    rfl
theorem RunO.sliceMid {d : Tmp} {t ty e : TypeId} {x y z : Operand} {pos : String} {after : Array Edge} {b o len c s k m : Nat} {ik jk : IntKind}
    (hx : gE E x = some (.slice (some ⟨b, o, none⟩) len c)) (hy : gE E y = some (.int ik (k : Int))) (hz : gE E z = some (.int jk (m : Int))) (hu : P.underlying t = some (.slice e)) (hs : sizeOf P e = some s) (hc : Cp s len c) (hk : k < m) (hm : m ≤ len) (hd : Nat.ble (Nat.succ d) n = true)
    (r : ∀ c', Cp s (m - k) c' → RunO P n ops rest (upd E d (.slice (some ⟨b, o + k * s, none⟩) (m - k) c')) h Q) : RunO P n ops (⟨some d, .slice t x (some y) (some z) none, ty, pos, after, none⟩ :: rest) E h Q := by
  obtain ⟨c', h1, h2⟩ := slice_mid (b := b) (o := o) (ik := ik) (jk := jk) hu hs hc hk hm
  refine RunO.one rfl (v := .slice (some ⟨b, o + k * s, none⟩) (m - k) c') ?_ (by simp only [eput, hd, cond_true]) (r c' h1)
  simp only [eop, hx, hy, hz, go, h2, pureR]
/-- A growing row, of its own, in a block from lo on: n elements of s cells. -/
def Row (lo : Nat) (h : Heap) (v : Value) (s n : Nat) (cells : List Value) : Prop :=
  cells.length = n * s ∧ ((v = .slice none 0 0 ∧ n = 0) ∨ ∃ b, lo ≤ b ∧ v = .slice (some ⟨b, 0, none⟩) n (unkc s) ∧ Ow h b cells)
theorem Row.nil (lo : Nat) (h : Heap) (s : Nat) : Row lo h (.slice none 0 0) s 0 [] := ⟨by simp, .inl ⟨rfl, rfl⟩⟩
theorem Row.fr {lo : Nat} {h h' : Heap} {v : Value} {s n : Nat} {cells : List Value} {m : Nat → Prop} (r : Row lo h v s n cells) (f : Fr m h h') (hm : ∀ b, lo ≤ b → b < h.next → ¬ m b) : Row lo h' v s n cells := by
  refine ⟨r.1, r.2.imp (fun x => x) ?_⟩
  rintro ⟨b, h1, h2, h3⟩
  exact ⟨b, h1, h2, h3.fr f (hm b h1 h3.1)⟩
/-- A slice at a block's front. -/
def At (v : Value) (b : Nat) : Prop := ∃ n c, v = .slice (some ⟨b, 0, none⟩) n c
theorem Row.at {lo : Nat} {h : Heap} {v : Value} {s n b : Nat} {cells : List Value} (r : Row lo h v s n cells) (a : At v b) : lo ≤ b ∧ b < h.next := by
  obtain ⟨m, c, rfl⟩ := a
  rcases r.2 with ⟨e, _⟩ | ⟨b', h1, h2, h3⟩
  · cases e
  · cases h2; exact ⟨h1, h3.1⟩
theorem abuiltin_app {P : Program} {h : Heap} {t t2 : TypeId} {x y : Value} {r : Value × Heap} (e : aappend P h t t2 x y = some r) : abuiltin P .append [t, t2] [x, y] h = some r := by
  simp only [abuiltin, e]
theorem append_row {t e : TypeId} {i : TypeInfo} {z : Value} {lo s k m c' : Nat} {xv : Value} {cells news : List Value} {a : Addr}
    (hu : P.underlying t = some (.slice e)) (hi : P.info? e = some i) (hz : zeroOf P e = some z) (hlz : lenIs (cellsOf z) i.size = true) (hs : i.size = s) (hs1 : 1 ≤ s) (row : Row lo h xv s k cells) (hlo : lo ≤ h.next)
    (rd : Rd h a news) (hn : news.length = m * s) (hm : 1 ≤ m) (ha : allCells news = true) (hb : 2 * (k + m) * i.bytes ≤ 281474976710656) (hb2 : k + m ≤ 9223372036854775807) :
    ∃ v' h', aappend P h t t xv (.slice (some a) m c') = some (v', h') ∧ Row lo h' v' s (k + m) (cells ++ news) ∧ Fr (At xv) h h' := by
  subst hs
  obtain ⟨hl, row⟩ := row
  obtain ⟨m, rfl⟩ : ∃ j, m = j + 1 := ⟨m - 1, by omega⟩
  have hr : asrc h i.size (.slice (some a) (m + 1) c') = some (m + 1, news) := by
    have hq : aread h a (Nat.mul (m + 1) i.size) = some (news.take ((m + 1) * i.size)) := rd.read0 (m := (m + 1) * i.size) (by omega)
    simp only [asrc, hq]
    rw [List.take_of_length_le (by omega)]
  rcases row with ⟨rfl, rfl⟩ | ⟨b, hb1, rfl, ow⟩
  · have hc : cells = [] := List.eq_nil_of_length_eq_zero (by omega)
    subst hc
    refine ⟨.slice (some ⟨h.next, 0, none⟩) (m + 1) (unkc i.size), h.push ⟨news, true⟩, ?_, ⟨by simp; omega, .inr ⟨h.next, hlo, by simp, Ow.push _ _⟩⟩, Fr.push _ _ _⟩
    have e1 : Nat.ble (Nat.mul (Nat.mul 2 (Nat.succ m)) i.bytes) 281474976710656 = true := Nat.ble_eq_true_of_le (by simpa using hb)
    have e2 : Nat.ble (Nat.succ m) 9223372036854775807 = true := Nat.ble_eq_true_of_le (by simpa using hb2)
    simp only [aappend, hu, Nat.beq_refl, cond_true, hi, hz, hlz, Nat.ble_eq_true_of_le hs1, hr, e1, e2]
  · refine ⟨.slice (some ⟨h.next, 0, none⟩) (k + (m + 1)) (unkc i.size), (h.put b none).push ⟨cells ++ news, true⟩, ?_, ⟨by rw [List.length_append, hl, hn, ← Nat.add_mul], .inr ⟨h.next, hlo, rfl, Ow.push _ _⟩⟩, (Fr.put none (.inl ⟨_, _, rfl⟩)).same (Fr.push _ _ _)⟩
    have e1 : Nat.ble (Nat.mul (Nat.mul 2 (Nat.add k (Nat.succ m))) i.bytes) 281474976710656 = true := Nat.ble_eq_true_of_le hb
    have e2 : Nat.ble (Nat.add k (Nat.succ m)) 9223372036854775807 = true := Nat.ble_eq_true_of_le hb2
    have e3 : aread h ⟨b, 0, none⟩ (Nat.mul k i.size) = some cells := by
      have := ow.all.read0 (m := k * i.size) (by omega)
      rw [List.take_of_length_le (by omega)] at this
      exact this
    have e4 : lenIs cells (Nat.add 0 (Nat.mul k i.size)) = true := (lenIs_iff _ _).2 (by show _ = 0 + k * i.size; omega)
    simp only [aappend, hu, Nat.beq_refl, cond_true, hi, hz, hlz, Nat.ble_eq_true_of_le hs1, hr, e1, e2, e3, unk_unkc, half_unkc, ow.2, e4, ha]
    rfl
theorem RunO.append {d : Tmp} {t ty e : TypeId} {x y : Operand} {pos : String} {after : Array Edge} {i : TypeInfo} {z : Value} {lo s k m c' : Nat} {xv : Value} {cells news : List Value} {a : Addr}
    (hx : gE E x = some xv) (hy : gE E y = some (.slice (some a) m c')) (hd : Nat.ble (Nat.succ d) n = true)
    (hu : P.underlying t = some (.slice e)) (hi : P.info? e = some i) (hz : zeroOf P e = some z) (hlz : lenIs (cellsOf z) i.size = true) (hs : i.size = s) (hs1 : 1 ≤ s) (row : Row lo h xv s k cells) (hlo : lo ≤ h.next)
    (rd : Rd h a news) (hn : news.length = m * s) (hm : 1 ≤ m) (ha : allCells news = true) (hb : 2 * (k + m) * i.bytes ≤ 281474976710656) (hb2 : k + m ≤ 9223372036854775807)
    (r : ∀ v' h', Row lo h' v' s (k + m) (cells ++ news) → Fr (At xv) h h' → RunO P n ops rest (upd E d v') h' Q) : RunO P n ops (⟨some d, .call ⟨.builtin .append, #[x, y], #[t, t]⟩, ty, pos, after, none⟩ :: rest) E h Q := by
  obtain ⟨v', h', h1, h2, h3⟩ := append_row (c' := c') hu hi hz hlz hs hs1 row hlo rd hn hm ha hb hb2
  refine RunO.one rfl (v := v') (h1 := h') ?_ (by simp only [eput, hd, cond_true]) (r v' h' h2 h3)
  simp only [eop, gs, hx, hy, abuiltin, h1]
/-- A string copied to the front of a row of one's own. -/
theorem copy_str {t e : TypeId} {b len c : Nat} {m : ByteArray} {cs : List Value} (hu : P.underlying t = some (.slice e)) (hs : sizeOf P e = some 1) (ow : Ow h b cs) (hm : 1 ≤ m.data.toList.length) (hl : m.data.toList.length ≤ len) (hc : m.data.toList.length ≤ cs.length) :
    acopy P h t (.slice (some ⟨b, 0, none⟩) len c) (.string m) = some (goInt m.data.toList.length, h.put b (some ⟨strCells m ++ cs.drop m.data.toList.length, true⟩)) := by
  have hk : (strCells m).length = m.data.toList.length := List.length_map _
  obtain ⟨k, hk2⟩ : ∃ k, m.data.toList.length = k + 1 := ⟨m.data.toList.length - 1, by omega⟩
  have e1 : Nat.min m.data.toList.length len = k + 1 := by rw [← hk2]; exact Nat.min_eq_left hl
  have e2 : takeN (Nat.succ k) (strCells m) = some (strCells m) := by
    rw [takeN_eq, if_pos (by omega), List.take_of_length_le (by omega)]
  have e3 : allCells (strCells m) = true := by
    unfold strCells
    generalize m.data.toList = l
    induction l with
    | nil => rfl
    | cons x l ih => exact ih
  have e4 := storeL_ow (off := 0) ow e3 (by omega)
  simp only [acopy, hu, hs, e1, e2, e4]
  rw [hk, hk2]
  simp
end
end Go.Am
end
section
set_option linter.unusedVariables false
set_option maxRecDepth 100000
open Go Go.Am
namespace Go.Proofs.Ytdcggjkcbheolaa
open Go.Proofs.Try
/-- le.Zeros: are all of from .. to 0? -/
def zerosN (l : List Int) (k m : Nat) : Bool := ((l.drop k).take (m - k)).all (· == 0)
theorem frNo {h h' : Heap} (f : Fr (fun b => h.next ≤ b) h h') : Fr no h h' := f.weak (fun _ g => .inr g)
/-- Do bytes end with the sum of those ahead? -/
def goodB (l : List Int) : Bool := (leGet l (l.length - 4) 4).1 == Crc.sum 0 (l.take (l.length - 4))
theorem rdTake {h : Heap} {a : Addr} {l : List Int} (rd : Rd h a (us l)) (k : Nat) : Rd h a (us (l.take k)) := by
  obtain ⟨h1, h2, o, ho, he⟩ := rd
  refine ⟨h1, h2, o, ho, ?_⟩
  have e : us (l.take k) = (us l).take k := List.map_take
  rw [e, List.length_take, ← List.take_take, he]
/-- The sum of all but the last four put there. -/
theorem crcSeal_ok {h : Heap} {b c : Nat} {l : List Int} (ow : Ow h b (us l)) (hl : 4 ≤ l.length) (hm : l.length ≤ 4611686018427387904) (hc : Cp 1 l.length c) :
    RunF prog 120 [.slice (some ⟨b, 0, none⟩) l.length c] h fun v h' => Fr (· = b) h h' ∧ Ow h' b (us (l.take (l.length - 4) ++ leB 4 (Crc.sum 0 (l.take (l.length - 4))))) := by
  refine RunF.walk func120 rfl rfl ?_
  refine RunC.seq (RunC.region (RunO.all rfl ?_))
  rw [fw64 (by omega) (by omega), show (l.length : Int) - 4 = ((l.length - 4 : Nat) : Int) by omega]
  refine RunC.region (RunO.part 4 rfl ?_)
  refine RunO.slicePre (s := 1) rfl rfl rfl rfl hc (by omega) rfl ?_
  intro c' hc'
  have hll : (l.take (l.length - 4)).length = l.length - 4 := by rw [List.length_take]; omega
  have hs := crcSum_ok (c := c') (rdTake ow.all (l.length - 4)) (by omega)
  rw [hll] at hs
  refine RunO.callD hs rfl rfl rfl ?_
  rintro _ _ ⟨rfl, rfl⟩
  have hset := leSet_ok (o := 0) (c := c) (len := l.length) (k := l.length - 4) (s := 4) (v := Crc.sum 0 (l.take (l.length - 4))) ow (by rw [us_len]; omega) (by omega) (by omega) (by rw [us_len]; exact hm)
  refine RunO.callD hset rfl rfl rfl ?_
  rintro v h' ⟨hf, ho⟩
  refine RunO.nil ⟨_, rfl, hf, ?_⟩
  have e : lay (us l) (0 + (l.length - 4)) (us (leB 4 (Crc.sum 0 (l.take (l.length - 4))))) = us (l.take (l.length - 4) ++ leB 4 (Crc.sum 0 (l.take (l.length - 4)))) := by
    unfold lay us
    rw [List.length_map, leB_len, List.map_append, ← List.map_take, List.drop_of_length_le (by simp; omega), List.append_nil, Nat.zero_add]
  rw [← e]; exact ho
end Go.Proofs.Ytdcggjkcbheolaa
end
section
set_option linter.unusedVariables false
set_option maxRecDepth 100000
open Go Go.Am
namespace Go.Proofs.Ytdcggjkcbheolaa
open Go.Proofs.Try
def ns (l : List Nat) : List Value := l.map (fun n => Value.int .i64 (n : Nat))
def is (l : List Int) : List Value := l.map (Value.int .i64)
theorem ns_nth {l : List Nat} {i : Nat} (h : i < l.length) : nth (ns l) i = some (.int .i64 (l[i] : Nat)) := by
  rw [nth_eq, ns, List.getElem?_map, List.getElem?_eq_getElem h]; rfl
theorem is_nth {l : List Int} {i : Nat} (h : i < l.length) : nth (is l) i = some (.int .i64 l[i]) := by
  rw [nth_eq, is, List.getElem?_map, List.getElem?_eq_getElem h]; rfl
/-- Fields side by side from a place on. -/
def layF : Nat → List Nat → List (Nat × Nat)
  | _, [] => []
  | a, s :: t => (a, s) :: layF (a + s) t
theorem layF_snoc : ∀ (l : List Nat) (a x : Nat), layF a (l ++ [x]) = layF a l ++ [(a + l.sum, x)]
  | [], a, x => by simp [layF]
  | s :: t, a, x => by simp only [List.cons_append, layF, layF_snoc t, List.sum_cons, Nat.add_assoc]
def fcs : List (Nat × Nat) → List Value
  | [] => []
  | (a, s) :: t => .int .i64 (a : Nat) :: .int .i64 (s : Nat) :: fcs t
theorem fcs_snoc : ∀ (l : List (Nat × Nat)) (a s : Nat), fcs (l ++ [(a, s)]) = fcs l ++ [.int .i64 (a : Nat), .int .i64 (s : Nat)]
  | [], a, s => rfl
  | (b, t) :: l, a, s => by simp only [List.cons_append, fcs, fcs_snoc l]
theorem fcs_drop : ∀ (l : List (Nat × Nat)) (i : Nat) (h : i < l.length), (fcs l).drop (2 * i) = .int .i64 (l[i].1 : Nat) :: .int .i64 (l[i].2 : Nat) :: fcs (l.drop (i + 1))
  | [], i, h => absurd h (by simp)
  | (a, s) :: t, 0, h => by simp [fcs]
  | (a, s) :: t, i + 1, h => by
    have h' : i < t.length := by simpa using h
    rw [show 2 * (i + 1) = 2 * i + 1 + 1 by omega]
    simp only [fcs, List.drop_succ_cons, fcs_drop t i h', List.getElem_cons_succ]
theorem sum_le {l : List Nat} (h : ∀ x ∈ l, x ≤ 8) : l.sum ≤ 8 * l.length := by
  induction l with
  | nil => simp
  | cons x t ih =>
    have h1 := h x (List.mem_cons_self ..)
    have h2 := ih (fun y hy => h y (List.mem_cons_of_mem _ hy))
    simp only [List.sum_cons, List.length_cons]; omega
theorem superLayout_ok {h : Heap} {a : Addr} {c : Nat} {ss : List Nat} (rd : Rd h a (ns ss)) (hs : ∀ x ∈ ss, x ≤ 8) (hl : ss.length ≤ 1000) :
    RunF prog 121 [.slice (some a) ss.length c] h fun v h' => Row h.next h' v 2 ss.length (fcs (layF 4 ss)) ∧ Fr no h h' := by
  obtain ⟨b, o, sp⟩ := a
  have hsp : sp = none := rd.1
  subst hsp
  refine RunF.walk func121 rfl rfl ?_
  refine RunC.seq (RunC.region (RunO.all rfl ?_))
  refine RunC.seq (RunC.region (RunO.all rfl ?_))
  refine RunC.seq (RunC.region (RunO.all rfl ?_))
  refine RunC.seq (RunC.seq (RunC.region (RunO.all rfl ?_)))
  refine RunC.block ?_
  let I : Nat → Env → Heap → Prop := fun d E h' => ∃ (i : Nat) (v : Value), i + d = ss.length ∧ Row h.next h' v 2 i (fcs (layF 4 (ss.take i))) ∧ Fr (fun b => h.next ≤ b) h h' ∧ Le (upd (upd (upd (upd (upd E0 3 v) 4 (.int .i64 (4 + (ss.take i).sum : Nat))) 7 (.slice (some ⟨b, o, none⟩) ss.length c)) 8 (.int .i64 ss.length)) 9 (.int .i64 i)) E
  refine RunC.loop I ?_ (k := ss.length) ?_
  · rintro d E h' ⟨i, v, hi, hrow, hf, hE⟩
    refine RunC.le hE ?_
    clear hE
    have hsum : (ss.take i).sum ≤ 8 * 1000 := by
      have := sum_le (l := ss.take i) (fun x hx => hs x (List.mem_of_mem_take hx))
      rw [List.length_take] at this; omega
    refine RunC.seq (RunC.region (RunO.all rfl ?_))
    refine RunC.seq (RunC.cond rfl (fun hlt => ?_) (fun hge => ?_))
    · have hlt := of_decide_eq_true hlt
      have hlt2 : i < ss.length := by omega
      refine RunC.skip ?_
      refine RunC.seq (RunC.block ?_)
      refine RunC.seq (RunC.region ?_)
      refine RunO.index (s := 1) rfl rfl rfl rfl hlt2 rfl ?_
      refine RunO.load (v := .int .i64 (ss[i] : Nat)) rfl ((rd.fr hf (by have := rd.2.1; simp only at *; omega)).cell1 (k := i * 1) rfl (by rw [Nat.mul_one]; exact ns_nth hlt2)) rfl ?_
      refine RunO.all rfl ?_
      have hx := hs _ (List.getElem_mem hlt2)
      have htk := List.take_succ_eq_append_getElem hlt2
      generalize ss[i] = x at *
      refine RunC.seq (RunC.region (RunO.part 5 (h1 := h'.push ⟨[.int .i64 (4 + (ss.take i).sum : Nat), .int .i64 (x : Nat)], true⟩) rfl ?_))
      refine RunO.append (s := 2) (lo := h.next) rfl rfl rfl rfl rfl rfl rfl rfl (by decide) (hrow.fr (Fr.push no _ _) (fun _ _ _ g => g)) (Nat.le_trans hf.next (Nat.le_succ _)) (Ow.push _ _).all rfl (by decide) rfl (by show 2 * (i + 1) * 16 ≤ _; omega) (by omega) ?_
      intro v' h2 hrow2 hf2
      refine RunO.all rfl ?_
      refine RunC.region (RunO.all rfl ?_)
      refine RunC.region (RunO.all rfl ?_)
      refine ⟨d - 1, by omega, i + 1, v', by omega, ?_, ?_, ?_⟩
      · rw [htk, layF_snoc, fcs_snoc]; exact hrow2
      · exact (hf.same (Fr.push _ _ _)).trans hf2 (fun b hb => .inl (hrow.at hb).1)
      · refine Le.cons (inc64 (by omega)) (Le.cons rfl (Le.cons rfl (Le.cons ?_ (Le.cons rfl (Le.nil _)))))
        show some (Value.int .i64 (fwrap .i64 (((4 + (ss.take i).sum : Nat) : Int) + (x : Int)))) = _
        rw [fw64 (by omega) (by omega), htk, List.sum_append]
        simp
        omega
    · have hge := of_decide_eq_false hge
      refine RunC.exit ?_
      have : i = ss.length := by omega
      subst this
      rw [List.take_length] at hrow
      exact RunC.seq (RunC.region (RunO.all rfl (RunC.ret ⟨_, rfl, hrow, frNo hf⟩)))
  · exact ⟨0, .slice none 0 0, by omega, Row.nil _ _ _, Fr.refl _ _, Le.cons rfl (Le.cons rfl (Le.cons rfl (Le.cons rfl (Le.cons rfl (Le.nil _)))))⟩
end Go.Proofs.Ytdcggjkcbheolaa
end
section
set_option linter.unusedVariables false
set_option maxRecDepth 100000
open Go Go.Am
namespace Go.Proofs.Ytdcggjkcbheolaa
open Go.Proofs.Try
def layI (l : List Int) (o : Nat) (x : List Int) : List Int := l.take o ++ x ++ l.drop (o + x.length)
theorem layI_us (l : List Int) (o : Nat) (x : List Int) : lay (us l) o (us x) = us (layI l o x) := by
  unfold lay layI us; simp
theorem layI_len {l : List Int} {o : Nat} {x : List Int} (h : o + x.length ≤ l.length) : (layI l o x).length = l.length := by
  unfold layI; simp; omega
def putF (l : List Int) (ps : List ((Nat × Nat) × Int)) : List Int := ps.foldl (fun l p => layI l p.1.1 (leB p.1.2 p.2)) l
theorem putF_snoc (l : List Int) (ps : List ((Nat × Nat) × Int)) (p : (Nat × Nat) × Int) : putF l (ps ++ [p]) = layI (putF l ps) p.1.1 (leB p.1.2 p.2) := by
  unfold putF; rw [List.foldl_append]; rfl
theorem putF_len : ∀ {ps : List ((Nat × Nat) × Int)} {l : List Int}, (∀ p ∈ ps, p.1.1 + p.1.2 ≤ l.length) → (putF l ps).length = l.length
  | [], l, h => rfl
  | p :: ps, l, h => by
    have h2 := h p (List.mem_cons_self ..)
    have h1 : (layI l p.1.1 (leB p.1.2 p.2)).length = l.length := layI_len (by rw [leB_len]; exact h2)
    have h3 := putF_len (ps := ps) (l := layI l p.1.1 (leB p.1.2 p.2)) (fun q hq => by rw [h1]; exact h q (List.mem_cons_of_mem _ hq))
    show (putF (layI l p.1.1 (leB p.1.2 p.2)) ps).length = _
    rw [h3, h1]
/-- The block of a magic and numbers. -/
def makeB (mb : List Int) (fl : List (Nat × Nat)) (nums : List Int) : List Int :=
  (putF (mb ++ List.replicate 60 0) (fl.zip nums)).take 60 ++ leB 4 (Crc.sum 0 ((putF (mb ++ List.replicate 60 0) (fl.zip nums)).take 60))
theorem field_part {fl : List (Nat × Nat)} {i : Nat} (h : i < fl.length) : apart prog 188 (fcs fl) (i * 2) = some (.agg ⟨[.int .i64 (fl[i].1 : Nat), .int .i64 (fl[i].2 : Nat)]⟩) := by
  show (match takeN 2 (dropN (i * 2) (fcs fl)) with | some l => some (Value.agg ⟨l⟩) | none => none) = _
  rw [takeN_eq, dropN_eq, Nat.mul_comm, fcs_drop _ _ h, if_pos (by simp)]
  rfl
theorem superMake_ok {h : Heap} {af an : Addr} {cf cn : Nat} {mg : ByteArray} {mb : List Int} {fl : List (Nat × Nat)} {nums : List Int} (hmg : strCells mg = us mb) (hmb : mb.length = 4)
    (rf : Rd h af (fcs fl)) (rn : Rd h an (is nums)) (hl : nums.length = fl.length) (hfl : ∀ f ∈ fl, f.1 + f.2 ≤ 64 ∧ f.2 ≤ 8) (hlen : fl.length ≤ 1000) :
    RunF prog 86 [.string mg, .slice (some af) fl.length cf, .slice (some an) nums.length cn] h fun v h' => ∃ b, h.next ≤ b ∧ v = .slice (some ⟨b, 0, none⟩) 64 (exc 64) ∧ Ow h' b (us (makeB mb fl nums)) ∧ Fr no h h' := by
  obtain ⟨bf, of, sf⟩ := af
  have hsf : sf = none := rf.1
  subst hsf
  obtain ⟨bn, on, sn⟩ := an
  have hsn : sn = none := rn.1
  subst hsn
  have hbf : bf < h.next := rf.2.1
  have hbn : bn < h.next := rn.2.1
  have hmg2 : mg.data.toList.length = 4 := by
    have := congrArg List.length hmg
    rw [us_len, hmb] at this
    unfold strCells at this
    rw [List.length_map] at this
    exact this
  refine RunF.walk func86 rfl rfl ?_
  refine RunC.seq (RunC.region (RunO.all rfl ?_))
  refine RunC.seq (RunC.region (RunO.all (h1 := h.push ⟨us (List.replicate 64 0), true⟩) rfl ?_))
  refine RunC.seq (RunC.region (RunO.part 2 rfl ?_))
  have ow0 : Ow (h.push ⟨us (List.replicate 64 0), true⟩) h.next (us (List.replicate 64 0)) := Ow.push _ _
  have hcp := copy_str (P := prog) (t := 23) (len := 64) (c := exc 64) (m := mg) rfl rfl ow0 (by omega) (by omega) (by rw [us_len, List.length_replicate]; omega)
  refine RunO.one rfl (v := goInt mg.data.toList.length) (E1 := upd _ 13 (goInt mg.data.toList.length)) (h1 := _) (by show acopy prog _ 23 (.slice (some ⟨h.next, 0, none⟩) 64 (exc 64)) (.string mg) = _; exact hcp) rfl ?_
  refine RunO.nil ?_
  have hz : strCells mg ++ (us (List.replicate 64 0)).drop mg.data.toList.length = us (mb ++ List.replicate 60 0) := by
    rw [hmg2, hmg]; unfold us; rw [← List.map_drop, List.map_append, List.drop_replicate]
  rw [hz]
  have f1 : Fr (fun b => h.next ≤ b) h ((h.push ⟨us (List.replicate 64 0), true⟩).put h.next (some ⟨us (mb ++ List.replicate 60 0), true⟩)) := (Fr.push _ _ _).same (Fr.put _ (.inl (Nat.le_refl _)))
  have ow1 : Ow ((h.push ⟨us (List.replicate 64 0), true⟩).put h.next (some ⟨us (mb ++ List.replicate 60 0), true⟩)) h.next (us (mb ++ List.replicate 60 0)) := Ow.put _ ow0.1
  generalize (h.push ⟨us (List.replicate 64 0), true⟩).put h.next (some ⟨us (mb ++ List.replicate 60 0), true⟩) = h1 at *
  clear ow0 hcp hz
  refine RunC.seq (RunC.seq (RunC.region (RunO.all rfl ?_)))
  refine RunC.block ?_
  have hzl : ∀ i, i ≤ fl.length → (putF (mb ++ List.replicate 60 0) ((fl.zip nums).take i)).length = 64 := fun i hi => by
    rw [putF_len]
    · simp; omega
    · intro p hp
      have h3 := (List.of_mem_zip (List.mem_of_mem_take hp)).1
      have := (hfl _ h3).1
      simp; omega
  let I : Nat → Env → Heap → Prop := fun d E h' => ∃ i : Nat, i + d = fl.length ∧ Ow h' h.next (us (putF (mb ++ List.replicate 60 0) ((fl.zip nums).take i))) ∧ Fr (fun b => h.next ≤ b) h h' ∧ Le (upd (upd (upd (upd (upd E0 2 (.slice (some ⟨bn, on, none⟩) nums.length cn)) 7 (.slice (some ⟨h.next, 0, none⟩) 64 (exc 64))) 14 (.slice (some ⟨bf, of, none⟩) fl.length cf)) 15 (.int .i64 fl.length)) 16 (.int .i64 i)) E
  refine RunC.loop I ?_ (k := fl.length) ?_
  · rintro d E h' ⟨i, hi, ow, hf, hE⟩
    refine RunC.le hE ?_
    clear hE
    refine RunC.seq (RunC.region (RunO.all rfl ?_))
    refine RunC.seq (RunC.cond rfl (fun hlt => ?_) (fun hge => ?_))
    · have hlt := of_decide_eq_true hlt
      have hlt2 : i < fl.length := by omega
      have hlt3 : i < nums.length := by omega
      refine RunC.skip ?_
      refine RunC.seq (RunC.block ?_)
      refine RunC.seq (RunC.region (RunO.part 1 rfl ?_))
      refine RunO.index (s := 2) rfl rfl rfl rfl hlt2 rfl ?_
      refine RunO.load rfl ((rf.fr hf (by show ¬ h.next ≤ bf; omega)).part (field_part hlt2)) rfl ?_
      have hfx := hfl _ (List.getElem_mem hlt2)
      have hzip : (fl.zip nums).take (i + 1) = (fl.zip nums).take i ++ [(fl[i], nums[i])] := by
        rw [List.take_succ_eq_append_getElem (by rw [List.length_zip]; omega), List.getElem_zip]
      have hzi := hzl i (by omega)
      generalize hfi : fl[i] = f at *
      obtain ⟨fa, fs⟩ := f
      refine RunO.part 2 (h1 := h'.push ⟨[.int .i64 0, .int .i64 0], true⟩) rfl ?_
      refine RunO.store rfl rfl (store_ow (s := 2) (Ow.push _ _) rfl rfl rfl (by decide)) (RunO.nil ?_)
      have ow2 : Ow ((h'.push ⟨[.int .i64 0, .int .i64 0], true⟩).put h'.next (some ⟨[.int .i64 (fa : Nat), .int .i64 (fs : Nat)], true⟩)) h'.next [.int .i64 (fa : Nat), .int .i64 (fs : Nat)] := Ow.put _ (Nat.lt_succ_self _)
      have f2 : Fr no h' ((h'.push ⟨[.int .i64 0, .int .i64 0], true⟩).put h'.next (some ⟨[.int .i64 (fa : Nat), .int .i64 (fs : Nat)], true⟩)) := (Fr.push _ _ _).trans (Fr.put (m := (· = h'.next)) _ (.inl rfl)) (fun j hj => .inr (by omega))
      refine RunC.draw0 rfl (RunO.part 2 rfl ?_)
      refine RunO.load (v := .int .i64 (fa : Nat)) rfl (ow2.all.cell1 (k := 0) rfl rfl) rfl ?_
      refine RunO.part 1 rfl ?_
      refine RunO.load (v := .int .i64 (fs : Nat)) rfl (ow2.all.cell1 (k := 1) rfl rfl) rfl ?_
      refine RunO.part 2 rfl ?_
      change RunO _ _ _ _ _ ((h'.push ⟨[.int .i64 0, .int .i64 0], true⟩).put h'.next (some ⟨[.int .i64 (fa : Nat), .int .i64 (fs : Nat)], true⟩)) _
      have owb := ow.fr f2 (fun g => g)
      have hf2 := hf.quiet f2
      generalize (h'.push ⟨[.int .i64 0, .int .i64 0], true⟩).put h'.next (some ⟨[.int .i64 (fa : Nat), .int .i64 (fs : Nat)], true⟩) = h2 at *
      refine RunO.index (s := 1) rfl rfl rfl rfl hlt3 rfl ?_
      refine RunO.load (v := .int .i64 nums[i]) rfl ((rn.fr hf2 (by show ¬ h.next ≤ bn; omega)).cell1 (k := i * 1) rfl (by rw [Nat.mul_one]; exact is_nth hlt3)) rfl ?_
      refine RunO.callD (leSet_ok (o := 0) (len := 64) (c := exc 64) (k := fa) (s := fs) (v := nums[i]) owb (by rw [us_len]; omega) hfx.2 hfx.1 (by rw [us_len]; omega)) rfl rfl rfl ?_
      rintro v h3 ⟨hf3, ow3⟩
      refine RunO.nil ?_
      refine RunC.region (RunO.all rfl ?_)
      refine ⟨d - 1, by omega, i + 1, by omega, ?_, hf2.trans hf3 (fun j hj => .inl (by omega)), ?_⟩
      · rw [hzip, putF_snoc, ← layI_us]
        rw [Nat.zero_add] at ow3
        exact ow3
      · exact Le.cons (inc64 (by omega)) (Le.cons rfl (Le.cons rfl (Le.cons rfl (Le.cons rfl (Le.nil _)))))
    · have hge := of_decide_eq_false hge
      refine RunC.exit ?_
      have hi2 : i = fl.length := by omega
      subst hi2
      have hz2 := hzl fl.length (Nat.le_refl _)
      rw [List.take_of_length_le (by rw [List.length_zip]; omega)] at ow hz2
      refine RunC.seq (RunC.region (RunO.part 1 rfl ?_))
      have hseal := crcSeal_ok (c := exc 64) ow (by omega) (by omega) (Cp.exc (by omega))
      rw [hz2] at hseal
      refine RunO.callD hseal rfl rfl rfl ?_
      rintro v h3 ⟨hf3, ow3⟩
      refine RunO.nil ?_
      refine RunC.seq (RunC.region (RunO.all rfl (RunC.ret ⟨_, rfl, h.next, Nat.le_refl _, rfl, ow3, ?_⟩)))
      exact frNo (hf.trans hf3 (fun j hj => .inl (by omega)))
  · exact ⟨0, by omega, ow1, f1, Le.cons rfl (Le.cons rfl (Le.cons rfl (Le.cons rfl (Le.cons rfl (Le.nil _)))))⟩
end Go.Proofs.Ytdcggjkcbheolaa
end
section
set_option linter.unusedVariables false
set_option maxRecDepth 100000
open Go Go.Am
namespace Go.Proofs.Ytdcggjkcbheolaa
open Go.Proofs.Try
def endF (fl : List (Nat × Nat)) : Nat := fl.foldl (fun _ f => f.1 + f.2) 4
def okF (l : List Int) (f : Nat × Nat) : Bool := (leGet l f.1 f.2).2 == 0
def numsB (fl : List (Nat × Nat)) (l : List Int) : List Int := fl.map (fun f => (leGet l f.1 f.2).1)
/-- Why bytes are no block; 0: they are one. -/
def readB (mb : List Int) (fl : List (Nat × Nat)) (l : List Int) : Int :=
  if l.length ≠ 64 then 2 else if l.take 4 ≠ mb then 4 else if goodB l = false then 5 else if fl.all (okF l) = false then 1 else if zerosN l (endF fl) 60 = false then 1 else 0
end Go.Proofs.Ytdcggjkcbheolaa
end
section
set_option linter.unusedVariables false
namespace Go.Am
open Go.RowKit
section
variable {P : Program} {n : Nat} {ops rest : List Oper} {E E1 : Env} {h h1 : Heap} {Q : Env → Heap → Prop}
theorem RunO.loadG {d : Tmp} {t ty : TypeId} {x : Operand} {pos : String} {after : Array Edge} {gd : Option (Nat × Bool)} {a : Addr} {v : Value}
    (hw : ewanted ops E ⟨some d, .load t x, ty, pos, after, gd⟩ = some true) (hx : gE E x = some (.pointer (some a))) (hl : aload P h t a = some v) (hd : Nat.ble (Nat.succ d) n = true)
    (r : RunO P n ops rest (upd E d v) h Q) : RunO P n ops (⟨some d, .load t x, ty, pos, after, gd⟩ :: rest) E h Q := by
  refine RunO.oneG hw (v := v) ?_ (by simp only [eput, hd, cond_true]) r
  simp only [eop, hx, hl, pureR]
theorem RunO.callDG {d : Tmp} {f : Operand} {args : Array Operand} {ats : Array TypeId} {t : TypeId} {pos : String} {after : Array Edge} {gd : Option (Nat × Bool)} {g : FuncId} {vs : List Value} {R : Value → Heap → Prop}
    (hw : ewanted ops E ⟨some d, .call ⟨.value f, args, ats⟩, t, pos, after, gd⟩ = some true) (r : RunF P g vs h R) (hf : gE E f = some (.func (.func g) #[] #[])) (hv : gs (gE E) args.toList = some vs) (hd : Nat.ble (Nat.succ d) n = true)
    (k : ∀ v h1, R v h1 → RunO P n ops rest (upd E d v) h1 Q) : RunO P n ops (⟨some d, .call ⟨.value f, args, ats⟩, t, pos, after, gd⟩ :: rest) E h Q := by
  refine RunO.callG hw hf hv (RunF.mono ?_ (fun v h1 q => ⟨_, by simp only [eput, hd, cond_true], k v h1 q⟩))
  have e : (#[] : Array Value).toList ++ (vs ++ (#[] : Array Value).toList) = vs := by simp
  rw [e]; exact r
end

/- Regions that draw their order. -/
def fpE (E : Env) (o : Oper) (quiet : Bool) : Option Fp :=
  match o.op with
  | .load _ a => (match gE E a with | some (.pointer (some a)) => some (.rd a.block) | _ => none)
  | .store _ a _ => (match gE E a with | some (.pointer (some a)) => some (.wr [a.block]) | _ => none)
  | .convert s d a => (match gE E a with | some (.slice (some a) _ _) => some (cond (Nat.beq s d) (.wr [a.block]) (.rd a.block)) | some _ => some .none | none => none)
  | .call c => (match c.callee with
    | .builtin .append | .builtin .copy | .builtin .clear => (match gs (gE E) c.args.toList with | some vs => some (.wr (idsOf vs)) | none => none)
    | .builtin _ => some .none
    | _ => some (.all quiet))
  | _ => some .none
theorem fpE_le {E : Env} {T : Tr Value} (hs : Sub E T) {o : Oper} {q : Bool} {f : Fp} (e : fpE E o q = some f) : fpOf T o q = f := by
  obtain ⟨dst, op, type, pos, after, guard⟩ := o
  cases op
  case load t x =>
    simp only [fpE] at e
    split at e
    · rename_i h1; cases e; simp only [fpOf, gE_le hs h1]
    · cases e
  case store t x y =>
    simp only [fpE] at e
    split at e
    · rename_i h1; cases e; simp only [fpOf, gE_le hs h1]
    · cases e
  case convert s t x =>
    simp only [fpE] at e
    split at e
    · rename_i h1; cases e; simp only [fpOf, gE_le hs h1]
    · rename_i v hv h1
      cases e
      simp only [fpOf, gE_le hs h1]
      first
        | rfl
        | (split
           · rename_i h2; cases h2; exact absurd rfl (hv _ _ _)
           · rfl)
    · cases e
  case call c =>
    obtain ⟨callee, args, ats⟩ := c
    cases callee with
    | value g => cases e; rfl
    | invoke r m => cases e; rfl
    | builtin b =>
      cases b
      all_goals simp only [fpE] at e
      all_goals first
        | (cases e; rfl)
        | (split at e
           · rename_i h1; cases e; simp only [fpOf, gs_le hs h1]
           · cases e)
  all_goals first | (cases e; rfl)

def estepC (P : Program) (n : Nat) (ops : List Oper) (E : Env) (h : Heap) (o : Oper) : Option (Env × Heap × Fp) :=
  match ewanted ops E o with
  | none => none
  | some false => (match eput n E o.dst undef with | some E' => some (E', h, .none) | none => none)
  | some true => (match eop P E o h, fpE E o true with
    | some (v, h'), some f => (match eput n E o.dst v with | some E' => some (E', h', f) | none => none)
    | _, _ => none)
/-- Operations of a drawing region that are no calls and write nothing old. -/
def eopsC (P : Program) (n : Nat) (ops : List Oper) : List Oper → Env → Heap → Option (Env × Heap × List Fp)
  | [], E, h => some (E, h, [])
  | o :: l, E, h => match estepC P n ops E h o with
    | some (E', h', f) => (match eopsC P n ops l E' h' with
      | some (E'', h'', fs) => some (E'', h'', f :: fs)
      | none => none)
    | none => none
/-- The memory with another mark. -/
def Heap.lo (h : Heap) (l : Nat) : Heap := ⟨h.objs, h.next, l⟩
def RunD (P : Program) (n : Nat) (ops rest : List Oper) (l0 : Nat) (E : Env) (h : Heap) (Q : Env → Heap → List Fp → Prop) : Prop :=
  ∀ lw, l0 ≤ lw → ∃ E' h' fs lw', Q E' h' fs ∧ l0 ≤ lw' ∧ ∃ N, ∀ d, N ≤ d → ∀ K, N ≤ K → ∀ T, Sub E T → ∃ T', Sub E' T' ∧ aopsC P (cfl P K d) n ops rest T (h.lo lw) = some (T', h'.lo lw', fs)
section
variable {P : Program} {n l0 : Nat} {ops rest : List Oper} {E E1 : Env} {h h1 : Heap} {Q : Env → Heap → List Fp → Prop}
theorem RunD.nil (q : Q E h []) : RunD P n ops [] l0 E h Q := fun lw hl => ⟨E, h, [], lw, q, hl, 0, fun d _ K _ T hs => ⟨T, hs, rfl⟩⟩
theorem low_mix {l a b : Nat} (h1 : l ≤ a) (h2 : l ≤ b) : l ≤ cond (Nat.ble a b) a b := by
  cases Nat.ble a b
  · exact h2
  · exact h1
theorem RunD.oneG {o : Oper} {v : Value} {f : Fp} (g : ewanted ops E o = some true) (e : eop P E o (h.lo h.next) = some (v, h1)) (hf : ∀ q, fpE E o q = some f) (hl : l0 ≤ h1.low) (p : eput n E o.dst v = some E1)
    (r : RunD P n ops rest l0 E1 h1 fun E' h' fs => Q E' h' (f :: fs)) : RunD P n ops (o :: rest) l0 E h Q := by
  intro lw hlw
  obtain ⟨E2, h2, fs, lw2, q, hl2, N, hN⟩ := r (cond (Nat.ble lw h1.low) lw h1.low) (low_mix hlw hl)
  refine ⟨E2, h2, f :: fs, lw2, q, hl2, N, fun d hd K hK T hs => ?_⟩
  obtain ⟨T1, ha, hs1⟩ := eput_le hs p
  obtain ⟨T2, hs2, hb⟩ := hN d hd K hK T1 hs1
  refine ⟨T2, hs2, ?_⟩
  have e2 : aop P (cfl P K d) T o ⟨(h.lo lw).objs, (h.lo lw).next, (h.lo lw).next⟩ = some (v, h1) := eop_le hs e
  unfold aopsC astepC
  simp only [ewanted_le hs g, e2, ha, fpE_le hs (hf _)]
  have hb : aopsC P (cfl P K d) n ops rest T1 ⟨h1.objs, h1.next, cond (Nat.ble (h.lo lw).low h1.low) (h.lo lw).low h1.low⟩ = some (T2, h2.lo lw2, fs) := hb
  rw [hb]
theorem RunD.one {o : Oper} {v : Value} {f : Fp} (g : o.guard = none) (e : eop P E o (h.lo h.next) = some (v, h1)) (hf : ∀ q, fpE E o q = some f) (hl : l0 ≤ h1.low) (p : eput n E o.dst v = some E1)
    (r : RunD P n ops rest l0 E1 h1 fun E' h' fs => Q E' h' (f :: fs)) : RunD P n ops (o :: rest) l0 E h Q :=
  RunD.oneG (by simp only [ewanted, g]) e hf hl p r
theorem RunD.offG {o : Oper} (g : ewanted ops E o = some false) (p : eput n E o.dst undef = some E1) (r : RunD P n ops rest l0 E1 h fun E' h' fs => Q E' h' (.none :: fs)) : RunD P n ops (o :: rest) l0 E h Q := by
  intro lw hlw
  obtain ⟨E2, h2, fs, lw2, q, hl2, N, hN⟩ := r lw hlw
  refine ⟨E2, h2, .none :: fs, lw2, q, hl2, N, fun d hd K hK T hs => ?_⟩
  obtain ⟨T1, ha, hs1⟩ := eput_le hs p
  obtain ⟨T2, hs2, hb⟩ := hN d hd K hK T1 hs1
  refine ⟨T2, hs2, ?_⟩
  unfold aopsC astepC
  simp only [ewanted_le hs g, ha]
  rw [hb]
/-- An operation that leaves memory alone. -/
theorem RunD.pure {o : Oper} {v : Value} (hn : l0 ≤ h.next) (g : o.guard = none) (e : eop P E o (h.lo h.next) = some (v, h.lo h.next)) (hf : ∀ q, fpE E o q = some .none) (p : eput n E o.dst v = some E1)
    (r : RunD P n ops rest l0 E1 h fun E' h' fs => Q E' h' (.none :: fs)) : RunD P n ops (o :: rest) l0 E h Q := by
  exact RunD.one g e hf hn p r
theorem RunD.load {d : Tmp} {t ty : TypeId} {x : Operand} {pos : String} {after : Array Edge} {a : Addr} {v : Value} (hn : l0 ≤ h.next)
    (hx : gE E x = some (.pointer (some a))) (hl : aload P h t a = some v) (hd : Nat.ble (Nat.succ d) n = true)
    (r : RunD P n ops rest l0 (upd E d v) h fun E' h' fs => Q E' h' (.rd a.block :: fs)) : RunD P n ops (⟨some d, .load t x, ty, pos, after, none⟩ :: rest) l0 E h Q := by
  refine RunD.one (v := v) (f := .rd a.block) (h1 := h.lo h.next) (E1 := upd E d v) rfl ?_ ?_ hn (by simp only [eput, hd, cond_true]) ?_
  · have hl : aload P (h.lo h.next) t a = some v := hl
    simp only [eop, hx, hl, pureR]
  · intro q; simp only [fpE, hx]
  · exact r
theorem RunD.callG {dst : Option Tmp} {f : Operand} {args : Array Operand} {ats : Array TypeId} {t : TypeId} {pos : String} {after : Array Edge} {gd : Option (Nat × Bool)} {g : FuncId} {vs : List Value} {R : Value → Heap → Prop}
    (hw : ewanted ops E ⟨dst, .call ⟨.value f, args, ats⟩, t, pos, after, gd⟩ = some true) (r : RunF P g vs (h.lo h.next) R) (hf : gE E f = some (.func (.func g) #[] #[])) (hv : gs (gE E) args.toList = some vs)
    (k : ∀ v h1, R v h1 → l0 ≤ h1.low ∧ ∃ E1, eput n E dst v = some E1 ∧ RunD P n ops rest l0 E1 h1 fun E' h' fs => Q E' h' (.all (Nat.ble h.next h1.low) :: fs)) : RunD P n ops (⟨dst, .call ⟨.value f, args, ats⟩, t, pos, after, gd⟩ :: rest) l0 E h Q := by
  intro lw hlw
  obtain ⟨v, h1, q, N1, hN1⟩ := r
  obtain ⟨hl, E1, hp, r2⟩ := k v h1 q
  obtain ⟨E2, h2, fs, lw2, q2, hl2, N2, hN2⟩ := r2 (cond (Nat.ble lw h1.low) lw h1.low) (low_mix hlw hl)
  refine ⟨E2, h2, _, lw2, q2, hl2, Nat.max N1 N2, fun d hd K hK T hs => ?_⟩
  obtain ⟨T1, ha, hs1⟩ := eput_le hs hp
  obtain ⟨T2, hs2, hb⟩ := hN2 d (Nat.le_trans (Nat.le_max_right _ _) hd) K (Nat.le_trans (Nat.le_max_right _ _) hK) T1 hs1
  refine ⟨T2, hs2, ?_⟩
  have e : (#[] : Array Value).toList ++ (vs ++ (#[] : Array Value).toList) = vs := by simp
  have hc := hN1 d (Nat.le_trans (Nat.le_max_left _ _) hd) K (Nat.le_trans (Nat.le_max_left _ _) hK)
  have hc : cfl P K d g vs ⟨(h.lo lw).objs, (h.lo lw).next, (h.lo lw).next⟩ = some (v, h1) := hc
  unfold aopsC astepC
  simp only [ewanted_le hs hw, aop, acallv, gE_le hs hf, gs_le hs hv, e, hc, ha, fpOf]
  have hb : aopsC P (cfl P K d) n ops rest T1 ⟨h1.objs, h1.next, cond (Nat.ble (h.lo lw).low h1.low) (h.lo lw).low h1.low⟩ = some (T2, h2.lo lw2, fs) := hb
  rw [hb]
  rfl
theorem RunD.callD {d : Tmp} {f : Operand} {args : Array Operand} {ats : Array TypeId} {t : TypeId} {pos : String} {after : Array Edge} {g : FuncId} {vs : List Value} {R : Value → Heap → Prop}
    (r : RunF P g vs (h.lo h.next) R) (hf : gE E f = some (.func (.func g) #[] #[])) (hv : gs (gE E) args.toList = some vs) (hd : Nat.ble (Nat.succ d) n = true)
    (k : ∀ v h1, R v h1 → l0 ≤ h1.low ∧ RunD P n ops rest l0 (upd E d v) h1 fun E' h' fs => Q E' h' (.all (Nat.ble h.next h1.low) :: fs)) : RunD P n ops (⟨some d, .call ⟨.value f, args, ats⟩, t, pos, after, none⟩ :: rest) l0 E h Q :=
  RunD.callG rfl r hf hv (fun v h1 q => ⟨(k v h1 q).1, _, by simp only [eput, hd, cond_true], (k v h1 q).2⟩)
theorem RunC.draw {i : Nat} {ops : Array Oper} {p : Nat × Nat} {ps : List (Nat × Nat)} {Qn : Env → Heap → Prop} {Qx : Nat → Env → Heap → Prop} {Qr : Env → Heap → Prop} (hl : l0 ≤ h.low) (hd : drawOk ops = some (p :: ps))
    (r : RunD P n ops.toList ops.toList l0 E h (fun E' h' fs => pairsOk fs (p :: ps) = true ∧ ∀ lw, l0 ≤ lw → Qn E' (h'.lo lw))) : RunC P n (.region i ops true) E h Qn Qx Qr := by
  obtain ⟨E', h', fs, lw', ⟨hp, q⟩, hl', N, hN⟩ := r h.low hl
  refine ⟨.normal, E', h'.lo lw', q lw' hl', N, fun d hdd K hK T hs => ?_⟩
  obtain ⟨T', hs', e⟩ := hN d hdd K hK T hs
  have e : aopsC P (cfl P K d) n ops.toList ops.toList T h = some (T', h'.lo lw', fs) := e
  exact ⟨T', hs', by simp only [acode, aregion, hd, e, hp, cond_true]⟩
/-- As Fr, without the mark. -/
structure Fg (m : Nat → Prop) (h h' : Heap) : Prop where
  next : h.next ≤ h'.next
  get : ∀ i, i < h.next → ¬ m i → h'.get i = h.get i
theorem Fr.fg {m : Nat → Prop} {h h' : Heap} {x : Nat} (f : Fr m (h.lo x) h') : Fg m h h' := ⟨f.next, f.get⟩
theorem Fr.fg0 {m : Nat → Prop} {h h' : Heap} (f : Fr m h h') : Fg m h h' := ⟨f.next, f.get⟩
theorem Fg.trans {m m1 : Nat → Prop} {h h1 h2 : Heap} (a : Fg m h h1) (b : Fg m1 h1 h2) (w : ∀ i, m1 i → m i ∨ h.next ≤ i) : Fg m h h2 :=
  ⟨Nat.le_trans a.next b.next, fun i hi hm => by rw [b.get i (Nat.lt_of_lt_of_le hi a.next) (fun g => (w i g).elim hm (fun x => absurd hi (Nat.not_lt.2 x))), a.get i hi hm]⟩
theorem Fg.same {m : Nat → Prop} {h h1 h2 : Heap} (a : Fg m h h1) (b : Fg m h1 h2) : Fg m h h2 := a.trans b (fun _ g => .inl g)
theorem Fg.quiet {m : Nat → Prop} {h h1 h2 : Heap} (a : Fg m h h1) (b : Fg no h1 h2) : Fg m h h2 := a.trans b (fun _ g => g.elim)
theorem Fg.close {m : Nat → Prop} {h h' : Heap} {lw : Nat} (f : Fg m h h') (w : ∀ l, l ≤ h.low → l ≤ h.next → (∀ i, m i → l ≤ i) → l ≤ lw) : Fr m h (h'.lo lw) := ⟨f.next, f.get, w⟩
theorem Fr.from {m : Nat → Prop} {h h' : Heap} (f : Fr m (h.lo h.next) h') {l : Nat} (hl : l ≤ h.next) (hm : ∀ i, m i → l ≤ i) : l ≤ h'.low := f.low l hl hl hm
theorem Fr.quietB {h h' : Heap} (f : Fr no (h.lo h.next) h') : Nat.ble h.next h'.low = true := Nat.ble_eq_true_of_le (f.low h.next (Nat.le_refl _) (Nat.le_refl _) (fun _ g => g.elim))
end
end Go.Am
namespace Go.Am
theorem eresults_cell {P : Program} {E : Env} {h : Heap} {a : Tmp} {t : TypeId} {ad : Addr} {v w : Value} {b : Tmp} (h1 : E a = some (.pointer (some ad))) (h2 : aload P h t ad = some v) (h3 : E b = some w) :
    eresults P [.cell a t, .tmp b] E h = some (.tuple #[v, w]) := by
  simp only [eresults, eres, h1, h2, h3]
end Go.Am
namespace Go.Am
end Go.Am
end
section
set_option linter.unusedVariables false
namespace Go.Am
open Go.RowKit
variable {P : Program}
def noRoutine (P : Program) : Bool := P.funcs.toList.all (fun fn => !(fn.name == "runtime.NumGoroutine"))
theorem noRoutine_iff (h : noRoutine P = true) (f : FuncId) (fn : Func) (e : P.funcs[f]? = some fn) : (fn.name == "runtime.NumGoroutine") = false := by
  unfold noRoutine at h
  rw [List.all_eq_true] at h
  have hm : fn ∈ P.funcs.toList := by
    rw [← Array.getElem?_toList] at e
    exact List.mem_of_getElem? e
  have := h fn hm
  simpa using this
/-- A call with arguments without addresses that tells true by the calculus: so tells the world. -/
theorem RunF.calls (hm : P.follows .mixedOrders = true) (hn : noRoutine P = true) {f : FuncId} {args : List Value} (hc : args.all closedV = true) (r : RunF P f args ⟨.leaf, 0, 0⟩ (fun v _ => v = .bool true)) (w : World) :
    Calls P f ⟨args⟩ w fun e w' => e = .returned (.bool true) ∧ Below w.heap.size w w' := by
  obtain ⟨v, h', rfl, N, hN⟩ := r
  have e := hN N (Nat.le_refl _) N (Nat.le_refl _)
  obtain ⟨_, _, h3⟩ := acall_sound hm (noRoutine_iff hn) (sp := fun _ => none) (fun f s args h v h' e => by cases e) N N f args _ _ h' e
  have hv : ∀ (μ : Mu) (l : List Value), l.all closedV = true → VRels μ l l := by
    intro μ l
    induction l with
    | nil => intro _; exact .nil
    | cons x t ih =>
      intro hl
      rw [List.all_cons, Bool.and_eq_true] at hl
      exact .cons (closedV_rel μ hl.1) (ih hl.2)
  refine (h3 (fun _ => none) w ⟨args⟩ ⟨fun i o p _ g => (by cases g), fun i j o o' p p' off _ _ _ g => (by cases g), fun i o g => (by cases g)⟩ (fun _ _ _ => rfl) (hv _ _ hc)).mono ?_
  rintro e w' ⟨v', ν, rfl, h1, h2⟩
  have hvv := closedV_eq (show closedV (.bool true) = true from rfl) h1
  have hown : ∀ b off, ¬ Own ⟨.leaf, 0, 0⟩ (fun _ => none) (fun i => h'.low ≤ i) b off := by
    rintro b off ⟨i, o, p, _, g, _⟩
    cases g
  refine ⟨by rw [hvv], h2.keep.os, h2.keep.tape, h2.keep.output, h2.keep.size, fun k hk => h2.keep.block k hk (fun off => hown k off)⟩
end Go.Am
end
section
set_option linter.unusedVariables false
namespace Go.Am
open Go.RowKit
section
variable {P : Program} {n : Nat} {ops rest : List Oper} {E E1 : Env} {h h1 : Heap} {Q : Env → Heap → Prop}
/-- Something appended to a row that has no room left: a new block. -/
theorem append_full {t e : TypeId} {i : TypeInfo} {z : Value} {s k m c c' : Nat} {olds news : List Value} {a b : Addr}
    (hu : P.underlying t = some (.slice e)) (hi : P.info? e = some i) (hz : zeroOf P e = some z) (hlz : lenIs (cellsOf z) i.size = true) (hs : i.size = s) (hs1 : 1 ≤ s)
    (ro : Rd h b olds) (hk : olds.length = k * s) (hc : isUnk c = false) (hc2 : half c < k + m)
    (rd : Rd h a news) (hn : news.length = m * s) (hm : 1 ≤ m) (hb : 2 * (k + m) * i.bytes ≤ 281474976710656) (hb2 : k + m ≤ 9223372036854775807) :
    aappend P h t t (.slice (some b) k c) (.slice (some a) m c') = some (.slice (some ⟨h.next, 0, none⟩) (k + m) (unkc s), h.push ⟨olds ++ news, true⟩) := by
  subst hs
  obtain ⟨m, rfl⟩ : ∃ j, m = j + 1 := ⟨m - 1, by omega⟩
  have hr : asrc h i.size (.slice (some a) (m + 1) c') = some (m + 1, news) := by
    have hq : aread h a (Nat.mul (m + 1) i.size) = some (news.take ((m + 1) * i.size)) := rd.read0 (m := (m + 1) * i.size) (by omega)
    simp only [asrc, hq]
    rw [List.take_of_length_le (by omega)]
  have e1 : Nat.ble (Nat.mul (Nat.mul 2 (Nat.add k (Nat.succ m))) i.bytes) 281474976710656 = true := Nat.ble_eq_true_of_le hb
  have e2 : Nat.ble (Nat.add k (Nat.succ m)) 9223372036854775807 = true := Nat.ble_eq_true_of_le hb2
  have e3 : aread h b (Nat.mul k i.size) = some olds := by
    have := ro.read0 (m := k * i.size) (by omega)
    rw [List.take_of_length_le (by omega)] at this
    exact this
  have e4 : Nat.ble (Nat.add k (Nat.succ m)) (half c) = false := by
    cases hbb : Nat.ble (Nat.add k (Nat.succ m)) (half c) with
    | false => rfl
    | true => exact absurd (Nat.le_of_ble_eq_true hbb) (by show ¬ k + (m + 1) ≤ half c; omega)
  simp only [aappend, hu, Nat.beq_refl, cond_true, hi, hz, hlz, Nat.ble_eq_true_of_le hs1, hr, e1, e2, e3, hc, cond_false, e4]
  rfl
end
end Go.Am
end
section
set_option linter.unusedVariables false
namespace Go.Am
open Go.RowKit
/-- Shapes of values that are laid open. -/
inductive Sh where
  | int (k : IntKind)
  | bool
  | str
  | slice (s : Sh)
  | unit
  | pair (a b : Sh)
def Sh.T : Sh → Type
  | .int _ => Int
  | .bool => Bool
  | .str => ByteArray
  | .slice s => List s.T
  | .unit => Unit
  | .pair a b => a.T × b.T
def Sh.sz : Sh → Nat
  | .unit => 0
  | .pair a b => a.sz + b.sz
  | _ => 1
/-- A slice of cells that stand side by side, in any memory. -/
def Sl (h : Heap) (v : Value) (s n : Nat) (cells : List Value) : Prop :=
  cells.length = n * s ∧ n ≤ 9223372036854775807 ∧ ((v = .slice none 0 0 ∧ n = 0) ∨ ∃ b o c, v = .slice (some ⟨b, o, none⟩) n c ∧ Cp s n c ∧ Rd h ⟨b, o, none⟩ cells)
def Sh.K : (s : Sh) → Heap → s.T → List Value → Prop
  | .int k, _, n, cs => cs = [.int k n] ∧ (Lit.int k n).wf = true
  | .bool, _, b, cs => cs = [.bool b]
  | .str, _, b, cs => cs = [.string b]
  | .slice s, h, l, cs => ∃ v acs, cs = [v] ∧ Sl h v s.sz (List.length (α := s.T) l) acs ∧ ∀ (j : Nat) (x : s.T), nth (α := s.T) l j = some x → s.K h x ((acs.drop (j * s.sz)).take s.sz)
  | .unit, _, _, cs => cs = []
  | .pair a b, h, p, cs => ∃ c1 c2, cs = c1 ++ c2 ∧ c1.length = a.sz ∧ c2.length = b.sz ∧ a.K h p.1 c1 ∧ b.K h p.2 c2
structure Ex (h h' : Heap) : Prop where
  next : h.next ≤ h'.next
  get : ∀ i, i < h.next → h'.get i = h.get i
theorem Ex.refl (h : Heap) : Ex h h := ⟨Nat.le_refl _, fun _ _ => rfl⟩
theorem Ex.trans {a b c : Heap} (x : Ex a b) (y : Ex b c) : Ex a c := ⟨Nat.le_trans x.next y.next, fun i hi => (y.get i (Nat.lt_of_lt_of_le hi x.next)).trans (x.get i hi)⟩
theorem Rd.ex {h h' : Heap} {a : Addr} {cs : List Value} (r : Rd h a cs) (x : Ex h h') : Rd h' a cs := ⟨r.1, Nat.lt_of_lt_of_le r.2.1 x.next, by rw [x.get _ r.2.1]; exact r.2.2⟩
theorem Sl.ex {h h' : Heap} {v : Value} {s n : Nat} {cs : List Value} (r : Sl h v s n cs) (x : Ex h h') : Sl h' v s n cs := by
  refine ⟨r.1, r.2.1, r.2.2.imp (fun y => y) ?_⟩
  rintro ⟨b, o, c, h1, h2, h3⟩
  exact ⟨b, o, c, h1, h2, h3.ex x⟩
theorem Fr.ex {h h' : Heap} (f : Fr no h h') : Ex h h' := ⟨f.next, fun i hi => f.get i hi (fun g => g)⟩
theorem Sh.K_ex : ∀ (s : Sh) {h h' : Heap} {x : s.T} {cs : List Value}, Ex h h' → s.K h x cs → s.K h' x cs
  | .int k, _, _, _, _, _, g => g
  | .bool, _, _, _, _, _, g => g
  | .str, _, _, _, _, _, g => g
  | .slice s, h, h', l, cs, e, ⟨v, acs, g1, g2, g3⟩ => ⟨v, acs, g1, g2.ex e, fun j x hx => Sh.K_ex s e (g3 j x hx)⟩
  | .unit, _, _, _, _, _, g => g
  | .pair a b, h, h', p, cs, e, ⟨c1, c2, g1, g2, g3, g4, g5⟩ => ⟨c1, c2, g1, g2, g3, Sh.K_ex a e g4, Sh.K_ex b e g5⟩
theorem Sh.K_len : ∀ (s : Sh) {h : Heap} {x : s.T} {cs : List Value}, s.K h x cs → cs.length = s.sz
  | .int k, _, _, _, g => by rw [g.1]; rfl
  | .bool, _, _, _, g => by rw [show _ = _ from g]; rfl
  | .str, _, _, _, g => by rw [show _ = _ from g]; rfl
  | .slice s, h, l, cs, ⟨v, acs, g1, g2, g3⟩ => by rw [g1]; rfl
  | .unit, _, _, _, g => by rw [show _ = _ from g]; rfl
  | .pair a b, h, p, cs, ⟨c1, c2, g1, g2, g3, g4, g5⟩ => by rw [g1, List.length_append, g2, g3]; rfl

def Sh.rep (s : Sh) : Nat → Sh
  | 0 => .unit
  | n + 1 => .pair s (s.rep n)
def Sh.fields (g : TypeId → Option Sh) (P : Program) : List Field → Nat → Nat → Option Sh
  | [], off, all => cond (Nat.beq off all) (some .unit) none
  | fd :: l, off, all => match g fd.type with
    | some s => cond (Nat.beq fd.offset off) (cond (Nat.beq (P.cellsOf fd.type) s.sz) (match Sh.fields g P l (off + s.sz) all with
      | some r => some (.pair s r)
      | none => none) none) none
    | none => none
def Sh.of (P : Program) : Nat → TypeId → Option Sh
  | 0, _ => none
  | f + 1, t => match P.underlying t with
    | some (.int k) => some (.int k)
    | some .bool => some .bool
    | some .string => some .str
    | some (.slice e) => (match Sh.of P f e with
      | some s => cond (Nat.beq (P.cellsOf e) s.sz) (cond (Nat.ble 1 s.sz) (some (.slice s)) none) none
      | none => none)
    | some (.struct fs) => Sh.fields (Sh.of P f) P fs.toList 0 (P.cellsOf t)
    | some (.array n e) => (match Sh.of P f e with
      | some s => cond (Nat.beq (P.cellsOf e) s.sz) (cond (Nat.beq (P.cellsOf t) (n * s.sz)) (some (s.rep n)) none) none
      | none => none)
    | _ => none
theorem condS {α : Type} {b : Bool} {x : Option α} {y : α} (h : cond b x none = some y) : b = true ∧ x = some y := by
  cases b with
  | true => exact ⟨rfl, h⟩
  | false => cases h

/-- A memory of rows that are not one's own, beside a world. -/
structure Ini (h : Heap) (μ : Mu) (w : World) : Prop where
  rel : Rel (fun _ => True) μ h w
  fresh : ∀ i, h.next ≤ i → μ i = none
  old : ∀ i o, h.get i = some o → o.own = false
theorem Ini.nil (w : World) : Ini ⟨.leaf, 0, 0⟩ (fun _ => none) w :=
  ⟨⟨fun i o p _ g => (by cases g), fun i j o o' p p' off _ _ _ g => (by cases g), fun i o g => (by cases g)⟩, fun _ _ => rfl, fun i o g => by cases g⟩
def Mu.put (μ : Mu) (i : Nat) (p : Place) : Mu := fun j => if j = i then some p else μ j
theorem Ini.push {h : Heap} {μ : Mu} {w : World} (I : Ini h μ w) {acs : List Value} {b off : Nat} (hc : ∀ j v, acs[j]? = some v → ∃ v', w.cell? ⟨b, off + j, none⟩ = some v' ∧ VRel μ v v') :
    Ini (h.push ⟨acs, false⟩) (μ.put h.next ⟨b, off, 0⟩) w ∧ μ.le (μ.put h.next ⟨b, off, 0⟩) ∧ Ex h (h.push ⟨acs, false⟩) ∧ (μ.put h.next ⟨b, off, 0⟩) h.next = some ⟨b, off, 0⟩ := by
  have hle : μ.le (μ.put h.next ⟨b, off, 0⟩) := by
    intro i p hp
    unfold Mu.put
    rw [if_neg]; exact hp
    intro e; subst e; rw [I.fresh _ (Nat.le_refl _)] at hp; cases hp
  have hex : Ex h (h.push ⟨acs, false⟩) := ⟨Nat.le_succ _, fun i hi => by rw [get_push, if_neg (by omega)]⟩
  have hold : ∀ i o, (h.push ⟨acs, false⟩).get i = some o → o.own = false := by
    intro i o g
    rw [get_push] at g
    split at g
    · cases g; rfl
    · exact I.old i o g
  refine ⟨⟨⟨?_, ?_, ?_⟩, ?_, hold⟩, hle, hex, by unfold Mu.put; rw [if_pos rfl]⟩
  · intro i o p _ g m
    rw [get_push] at g
    unfold Mu.put at m
    split at g
    · rename_i hi
      rw [if_pos hi] at m
      cases g; cases m
      exact ⟨fun j v hj => by obtain ⟨v', h1, h2⟩ := hc j v hj; exact ⟨v', h1, h2.mono hle⟩, fun ho => (by cases ho), fun ho => (by cases ho)⟩
    · rename_i hi
      rw [if_neg hi] at m
      have := I.rel.cells i o p trivial g m
      exact ⟨fun j v hj => by obtain ⟨v', h1, h2⟩ := this.cells j v hj; exact ⟨v', h1, h2.mono hle⟩, this.ext, this.own⟩
  · intro i j o o' p p' off' _ _ hij g g' ho
    rw [hold i o g] at ho; cases ho
  · intro i o g
    rw [get_push] at g
    split at g
    · rename_i hi; rw [hi]; exact Nat.lt_succ_self _
    · exact Nat.lt_succ_of_lt (I.rel.live i o g)
  · intro i hi
    have hi : h.next + 1 ≤ i := hi
    unfold Mu.put
    rw [if_neg (by omega)]
    exact I.fresh i (by omega)
section
open Go.ChangeShapes Go.Deep
variable {H : Type} {enc : TypeId × Value → H} {P : Program} {w : World} {base : Nat} {held : Bool}
/-- What a type's reading gives beside a memory. -/
def Opens (enc : TypeId × Value → H) (P : Program) (w : World) (base : Nat) (held : Bool) (t : TypeId) (s : Sh) : Prop :=
  ∀ n cs x, DataW.trod enc P w base (fun _ => true) held n t cs = some x → ∀ h μ, Ini h μ w → ∃ h' μ' acs p, Ini h' μ' w ∧ μ.le μ' ∧ Ex h h' ∧ VRels μ' acs cs ∧ s.K h' p acs
theorem opens_slice {t e : TypeId} {s : Sh} (ht : P.underlying t = some (.slice e)) (hz : P.cellsOf e = s.sz) (h1 : 1 ≤ s.sz) (hel : Opens enc P w base held e s) : Opens enc P w base held t (.slice s) := by
  intro n cs x hx h μ I
  rcases open_slice ht hx with ⟨rfl, _⟩ | ⟨a, len, cap, m, n', D, Pl, rfl, hb, hl, hm, hmm, _, hi⟩
  · exact ⟨h, μ, [.slice none 0 0], ([] : List s.T), I, Mu.le_refl _, Ex.refl _, .cons (.sliceNil 0 0) .nil, .slice none 0 0, [], rfl, ⟨by simp, Nat.zero_le _, .inl ⟨rfl, rfl⟩⟩, fun j x hx => by rw [nth_eq] at hx; simp at hx⟩
  rw [if_pos rfl] at hmm
  subst hmm
  have hmx : m ≤ 9223372036854775807 := by unfold maxLen at hm; omega
  have key : ∀ k, k ≤ len → ∃ (h' : Heap) (μ' : Mu) (acs : List Value) (l : List s.T), Ini h' μ' w ∧ μ.le μ' ∧ Ex h h' ∧ acs.length = k * s.sz ∧ l.length = k ∧ (∀ j v, acs[j]? = some v → ∃ v', w.cell? (a.add j) = some v' ∧ VRel μ' v v') ∧
      ∀ j x, l[j]? = some x → s.K h' x ((acs.drop (j * s.sz)).take s.sz) := by
    intro k
    induction k with
    | zero => intro _; exact ⟨h, μ, [], [], I, Mu.le_refl _, Ex.refl _, by simp, rfl, fun j v hj => by simp at hj, fun j x hj => by simp at hj⟩
    | succ k ih =>
      intro hk
      obtain ⟨h1, μ1, acs, l, I1, le1, ex1, hla, hll, hcs, hK⟩ := ih (by omega)
      obtain ⟨cs', hc', ht'⟩ := hi k (by omega)
      obtain ⟨h2, μ2, ac2, p, I2, le2, ex2, hv, hk2⟩ := hel n' cs' _ ht' h1 μ1 I1
      obtain ⟨_, hcl, hat⟩ := World.cells?_some hc'
      have hl2 := s.K_len hk2
      refine ⟨h2, μ2, acs ++ ac2, l ++ [p], I2, Mu.le_trans le1 le2, ex1.trans ex2, by rw [List.length_append, hla, hl2, Nat.succ_mul], by simp [hll], ?_, ?_⟩
      · intro j v hj
        by_cases c : j < acs.length
        · rw [List.getElem?_append_left c] at hj
          obtain ⟨v', e1, e2⟩ := hcs j v hj
          exact ⟨v', e1, e2.mono le2⟩
        · rw [List.getElem?_append_right (by omega)] at hj
          obtain ⟨v', e1, e2⟩ := hv.nth _ v hj
          have hjl : j - acs.length < P.cellsOf e := by
            have := (List.getElem?_eq_some_iff.1 e1).1; omega
          have e3 := hat _ hjl
          rw [add_add, e1, hz, ← hla, show acs.length + (j - acs.length) = j by omega] at e3
          exact ⟨v', e3, e2⟩
      · intro j x hj
        by_cases c : j < l.length
        · rw [List.getElem?_append_left c] at hj
          have := s.K_ex ex2 (hK j x hj)
          have hb : j * s.sz + s.sz ≤ acs.length := by
            rw [hla, ← Nat.succ_mul]; exact Nat.mul_le_mul_right _ (by omega)
          rw [List.drop_append_of_le_length (by omega), List.take_append_of_le_length (by rw [List.length_drop]; omega)]
          exact this
        · rw [List.getElem?_append_right (by omega)] at hj
          have : j - l.length = 0 := by
            have := (List.getElem?_eq_some_iff.1 hj).1
            simp at this; omega
          rw [this] at hj
          have e : p = x := by simpa using hj
          subst e
          have ej : j * s.sz = acs.length := by rw [hla, show j = k by omega]
          rw [ej, List.drop_left, ← hl2, List.take_length]
          exact hk2
  obtain ⟨h1, μ1, acs, l, I1, le1, ex1, hla, hll, hcs, hK⟩ := key len (Nat.le_refl _)
  obtain ⟨b, off, spot⟩ := a
  by_cases h0 : m = 0
  · subst h0
    have hl0 : len = 0 := by omega
    subst hl0
    obtain ⟨I2, le2, ex2, hp⟩ := I1.push (acs := []) (b := b) (off := off) (fun j v hj => by simp at hj)
    have hacs : acs = [] := List.length_eq_zero_iff.1 (by omega)
    subst hacs
    refine ⟨_, _, [.slice (some ⟨h1.next, 0, none⟩) 0 (unkc s.sz)], l, I2, Mu.le_trans le1 le2, ex1.trans ex2, .cons (.sliceUn hp (Nat.le_refl _) (.inr ⟨rfl, rfl⟩)) .nil, _, [], rfl, ⟨by simp [hll], by omega, .inr ⟨h1.next, 0, unkc s.sz, by rw [hll], by rw [hll]; exact Cp.unkc _ _, rfl, Nat.lt_succ_self _, ⟨[], false⟩, by rw [get_push, if_pos rfl], by simp⟩⟩, fun j x hj => by
      rw [nth_eq] at hj
      have := (List.getElem?_eq_some_iff.1 hj).1
      exact absurd this (by omega)⟩
  · obtain ⟨cs0, hc0, _⟩ := hi 0 (by omega)
    obtain ⟨_, hcl0, hat0⟩ := World.cells?_some hc0
    have hs : spot = none := by
      have := hat0 0 (by omega)
      rw [add_add, Nat.zero_mul, Nat.zero_add] at this
      rw [List.getElem?_eq_getElem (by omega)] at this
      unfold World.cell? Addr.add at this
      simp only [if_true] at this
      split at this
      · cases spot with
        | none => rfl
        | some q => simp at this
      · cases this
    subst hs
    have hadd : ∀ j, (⟨b, off, none⟩ : Addr).add j = ⟨b, off + j, none⟩ := by
      intro j; unfold Addr.add
      split
      · rename_i e; rw [e]; rfl
      · rfl
    obtain ⟨I2, le2, ex2, hp⟩ := I1.push (acs := acs) (b := b) (off := off) (fun j v hj => by rw [← hadd]; exact hcs j v hj)
    refine ⟨_, _, [.slice (some ⟨h1.next, 0, none⟩) len (exc m)], l, I2, Mu.le_trans le1 le2, ex1.trans ex2, .cons (.sliceEx hp hl) .nil, _, acs, rfl, ⟨by rw [hla, hll], by omega, .inr ⟨h1.next, 0, exc m, by rw [hll], Cp.exc (by omega), rfl, Nat.lt_succ_self _, ⟨acs, false⟩, by rw [get_push, if_pos rfl], by simp⟩⟩, fun j x hj => s.K_ex ex2 (hK j x (by rw [nth_eq] at hj; exact hj))⟩
theorem opens_fields {g : TypeId → Option Sh} (hg : ∀ t s, g t = some s → Opens enc P w base held t s) {n : Nat} {cs : List Value} : ∀ (l : List Field) (off all : Nat) (s : Sh), Sh.fields g P l off all = some s → cs.length = all →
    (∀ f ∈ l, ∃ x, DataW.trod enc P w base (fun _ => true) held n f.type ((cs.drop f.offset).take (P.cellsOf f.type)) = some x) →
    ∀ h μ, Ini h μ w → ∃ h' μ' acs p, Ini h' μ' w ∧ μ.le μ' ∧ Ex h h' ∧ VRels μ' acs (cs.drop off) ∧ s.K h' p acs
  | [], off, all, s, e, hl, _, h, μ, I => by
    unfold Sh.fields at e
    obtain ⟨e1, e2⟩ := condS e
    cases e2
    have := Nat.eq_of_beq_eq_true e1
    refine ⟨h, μ, [], (), I, Mu.le_refl _, Ex.refl _, ?_, rfl⟩
    rw [List.drop_of_length_le (by omega)]
    exact .nil
  | fd :: l, off, all, s, e, hl, hx, h, μ, I => by
    unfold Sh.fields at e
    split at e
    · rename_i s1 hs1
      obtain ⟨e1, e⟩ := condS e
      obtain ⟨e2, e⟩ := condS e
      split at e
      · rename_i r hr
        cases e
        have e1 := Nat.eq_of_beq_eq_true e1
        have e2 := Nat.eq_of_beq_eq_true e2
        obtain ⟨x, hx1⟩ := hx fd (List.mem_cons_self ..)
        rw [e1, e2] at hx1
        obtain ⟨h1, μ1, ac1, p1, I1, le1, ex1, v1, k1⟩ := hg _ _ hs1 _ _ _ hx1 h μ I
        obtain ⟨h2, μ2, ac2, p2, I2, le2, ex2, v2, k2⟩ := opens_fields hg l (off + s1.sz) all r hr hl (fun f hf => hx f (List.mem_cons_of_mem _ hf)) h1 μ1 I1
        refine ⟨h2, μ2, ac1 ++ ac2, (p1, p2), I2, Mu.le_trans le1 le2, ex1.trans ex2, ?_, ac1, ac2, rfl, s1.K_len k1, r.K_len k2, s1.K_ex ex2 k1, k2⟩
        have := (v1.mono le2).append v2
        rw [← List.drop_drop, List.take_append_drop] at this
        exact this
      · cases e
    · cases e
theorem opens_rep {e : TypeId} {s : Sh} (hel : Opens enc P w base held e s) {n : Nat} {cs : List Value} {N : Nat} (hl : cs.length = N * s.sz)
    (hx : ∀ i, i < N → ∃ x, DataW.trod enc P w base (fun _ => true) held n e ((cs.drop (i * s.sz)).take s.sz) = some x) :
    ∀ k, k ≤ N → ∀ h μ, Ini h μ w → ∃ h' μ' acs p, Ini h' μ' w ∧ μ.le μ' ∧ Ex h h' ∧ VRels μ' acs (cs.drop ((N - k) * s.sz)) ∧ (s.rep k).K h' p acs
  | 0, _, h, μ, I => by
    refine ⟨h, μ, [], (), I, Mu.le_refl _, Ex.refl _, ?_, rfl⟩
    rw [List.drop_of_length_le (by rw [hl]; exact Nat.le_refl _)]
    exact .nil
  | k + 1, hk, h, μ, I => by
    obtain ⟨x, hx1⟩ := hx (N - (k + 1)) (by omega)
    obtain ⟨h1, μ1, ac1, p1, I1, le1, ex1, v1, k1⟩ := hel _ _ _ hx1 h μ I
    obtain ⟨h2, μ2, ac2, p2, I2, le2, ex2, v2, k2⟩ := opens_rep hel hl hx k (by omega) h1 μ1 I1
    refine ⟨h2, μ2, ac1 ++ ac2, (p1, p2), I2, Mu.le_trans le1 le2, ex1.trans ex2, ?_, ac1, ac2, rfl, s.K_len k1, (s.rep k).K_len k2, s.K_ex ex2 k1, k2⟩
    have := (v1.mono le2).append v2
    rw [show (N - k) * s.sz = (N - (k + 1)) * s.sz + s.sz by rw [← Nat.succ_mul]; congr 1; omega, ← List.drop_drop, List.take_append_drop] at this
    exact this
theorem opens_of : ∀ (f : Nat) (t : TypeId) (s : Sh), Sh.of P f t = some s → Opens enc P w base held t s
  | 0, t, s, e => by cases e
  | f + 1, t, s, e => by
    unfold Sh.of at e
    split at e
    · rename_i k hu
      cases e
      intro n cs x hx h μ I
      obtain ⟨v, rfl, _, hw⟩ := DataW.trod_int hu hx
      exact ⟨h, μ, [.int k v], v, I, Mu.le_refl _, Ex.refl _, .cons (.int k v) .nil, rfl, hw⟩
    · rename_i hu
      cases e
      intro n cs x hx h μ I
      obtain ⟨v, rfl, _⟩ := DataW.trod_bool hu hx
      exact ⟨h, μ, [.bool v], v, I, Mu.le_refl _, Ex.refl _, .cons (.bool v) .nil, rfl⟩
    · rename_i hu
      cases e
      intro n cs x hx h μ I
      obtain ⟨v, rfl, _⟩ := DataW.trod_string hu hx
      exact ⟨h, μ, [.string v], v, I, Mu.le_refl _, Ex.refl _, .cons (.string v) .nil, rfl⟩
    · rename_i el hu
      split at e
      · rename_i s1 hs1
        obtain ⟨e1, e⟩ := condS e
        obtain ⟨e2, e⟩ := condS e
        cases e
        exact opens_slice hu (Nat.eq_of_beq_eq_true e1) (Nat.le_of_ble_eq_true e2) (opens_of f _ _ hs1)
      · cases e
    · rename_i fs hu
      intro n cs x hx h μ I
      obtain ⟨xs, m, _, _, hlen, hxl, hf⟩ := DataW.trod_struct hu hx
      obtain ⟨h', μ', acs, p, g⟩ := opens_fields (opens_of f) (n := m) fs.toList 0 _ s e hlen (fun fd hfd => by
        obtain ⟨i, hi⟩ := List.getElem?_of_mem hfd
        have hi2 : fs[i]? = some fd := by rw [← Array.getElem?_toList]; exact hi
        have := hf i fd hi2
        have hil : i < xs.length := by rw [hxl]; exact (Array.getElem?_eq_some_iff.1 hi2).1
        rw [List.getElem?_eq_getElem hil] at this
        exact ⟨_, this⟩) h μ I
      rw [List.drop_zero] at g
      exact ⟨h', μ', acs, p, g⟩
    · rename_i N el hu
      split at e
      · rename_i s1 hs1
        obtain ⟨e1, e⟩ := condS e
        obtain ⟨e2, e⟩ := condS e
        cases e
        have e1 := Nat.eq_of_beq_eq_true e1
        have e2 := Nat.eq_of_beq_eq_true e2
        intro n cs x hx h μ I
        obtain ⟨xs, m, _, _, hlen, hxl, hf⟩ := DataW.trod_array hu hx
        obtain ⟨h', μ', acs, p, g⟩ := opens_rep (opens_of f _ _ hs1) (n := m) (cs := cs) (N := N) (hlen.trans e2) (fun i hi => by
          have := hf i hi
          rw [e1, List.getElem?_eq_getElem (by omega)] at this
          exact ⟨_, this⟩) N (Nat.le_refl _) h μ I
        rw [Nat.sub_self, Nat.zero_mul, List.drop_zero] at g
        exact ⟨h', μ', acs, p, g⟩
      · cases e
    · cases e
def Sh.flat : Sh → Bool
  | .unit | .pair _ _ => false
  | _ => true
/-- A value of a shape. -/
def Sh.V (s : Sh) (h : Heap) (x : s.T) (v : Value) : Prop := cond s.flat (s.K h x [v]) (∃ acs, v = .agg ⟨acs⟩ ∧ s.K h x acs)
def ArgsT : List Sh → Type
  | [] => Unit
  | s :: l => s.T × ArgsT l
def ArgsK : (l : List Sh) → Heap → ArgsT l → List Value → Prop
  | [], _, _, vs => vs = []
  | s :: l, h, x, vs => ∃ v vr, vs = v :: vr ∧ s.V h x.1 v ∧ ArgsK l h x.2 vr
theorem Sh.V_ex {s : Sh} {h h' : Heap} {x : s.T} {v : Value} (e : Ex h h') (k : s.V h x v) : s.V h' x v := by
  unfold Sh.V at k ⊢
  cases hf : s.flat with
  | true => rw [hf] at k; exact s.K_ex e k
  | false =>
    rw [hf] at k
    obtain ⟨acs, h1, h2⟩ := k
    exact ⟨acs, h1, s.K_ex e h2⟩
end
theorem rep_flat (s : Sh) (n : Nat) : (s.rep n).flat = false := by cases n <;> rfl
theorem fields_flat {g : TypeId → Option Sh} {P : Program} : ∀ {l : List Field} {off all : Nat} {s : Sh}, Sh.fields g P l off all = some s → s.flat = false
  | [], off, all, s, e => by
    unfold Sh.fields at e
    obtain ⟨_, e2⟩ := condS e
    cases e2; rfl
  | fd :: l, off, all, s, e => by
    unfold Sh.fields at e
    split at e
    · obtain ⟨e1, e⟩ := condS e
      obtain ⟨e2, e⟩ := condS e
      split at e
      · cases e; rfl
      · cases e
    · cases e
section
open Go.ChangeShapes Go.WideShapes Go.Deep
variable {H : Type} {enc : TypeId × Value → H} {P : Program} {w : World} {base : Nat} {held : Bool} {r : Reach} {b0 : Nat}
theorem VRels.of_cells {μ : Mu} {v : Value} (hc : v.cells = #[v]) {acs : List Value} (hv : VRels μ acs v.cells.toList) : ∃ a, acs = [a] ∧ VRel μ a v := by
  rw [hc] at hv
  cases hv with
  | cons h1 h2 => cases h2; exact ⟨_, rfl, h1⟩
theorem VRels.of_agg {μ : Mu} {cs : Array Value} {acs : List Value} (hv : VRels μ acs (Value.agg cs).cells.toList) : VRel μ (.agg ⟨acs⟩) (.agg cs) := by
  have hv : VRels μ acs cs.toList := hv
  have e : cs = ⟨cs.toList⟩ := by simp
  rw [e]
  exact .agg hv
theorem opens_arg {f : Nat} {t : TypeId} {s : Sh} (e : Sh.of P f t = some s) {v : Value} (hval : Value.okWide P w r b0 t v) {d : DataW H} {ps : List MemPlace} (hd : DataW.Trod enc P w base (fun _ => true) held t v d ps) :
    ∀ h μ, Ini h μ w → ∃ h' μ' av p, Ini h' μ' w ∧ μ.le μ' ∧ Ex h h' ∧ VRel μ' av v ∧ s.V h' p av := by
  intro h μ I
  obtain ⟨fuel, hf⟩ := hd
  obtain ⟨h', μ', acs, p, I', le, ex, hv, k⟩ := opens_of f t s e _ _ _ hf h μ I
  have one : v.cells = #[v] → s.flat = true → ∃ h' μ' av p, Ini h' μ' w ∧ μ.le μ' ∧ Ex h h' ∧ VRel μ' av v ∧ s.V h' p av := by
    intro hc hfl
    obtain ⟨a, rfl, ha⟩ := VRels.of_cells hc hv
    exact ⟨h', μ', a, p, I', le, ex, ha, by unfold Sh.V; rw [hfl]; exact k⟩
  have many : (∃ cs, v = .agg cs) → s.flat = false → ∃ h' μ' av p, Ini h' μ' w ∧ μ.le μ' ∧ Ex h h' ∧ VRel μ' av v ∧ s.V h' p av := by
    rintro ⟨cs, rfl⟩ hfl
    exact ⟨h', μ', .agg ⟨acs⟩, p, I', le, ex, VRels.of_agg hv, by unfold Sh.V; rw [hfl]; exact ⟨acs, rfl, k⟩⟩
  cases f with
  | zero => cases e
  | succ f =>
  unfold Sh.of at e
  split at e
  · rename_i k' hu
    cases e
    obtain ⟨n, rfl⟩ := okWide_int hu hval
    exact one rfl rfl
  · rename_i hu
    cases e
    obtain ⟨n, rfl⟩ := okWide_bool hu hval
    exact one rfl rfl
  · rename_i hu
    cases e
    obtain ⟨n, rfl⟩ := okWide_string hu hval
    exact one rfl rfl
  · rename_i el hu
    split at e
    · rename_i s1 hs1
      obtain ⟨e1, e⟩ := condS e
      obtain ⟨e2, e⟩ := condS e
      cases e
      obtain ⟨a, n, c, rfl⟩ := okWide_slice hu hval
      exact one rfl rfl
    · cases e
  · rename_i fs hu
    refine many ?_ (fields_flat e)
    unfold Value.okWide at hval
    rw [hu] at hval
    obtain ⟨cs, hc, _⟩ := hval
    exact ⟨cs, hc⟩
  · rename_i N el hu
    split at e
    · rename_i s1 hs1
      obtain ⟨e1, e⟩ := condS e
      obtain ⟨e2, e⟩ := condS e
      cases e
      refine many ?_ (rep_flat _ _)
      unfold Value.okWide at hval
      rw [hu] at hval
      obtain ⟨cs, hc, _⟩ := hval
      exact ⟨cs, hc⟩
    · cases e
  · cases e
theorem opens_args {f : Nat} : ∀ (ts : List TypeId) (ss : List Sh) (vs : List Value) (ds : List (DataW H)) (ps : List MemPlace), ts.map (Sh.of P f) = ss.map some → DataW.TrodAll enc P w base (fun _ => true) held ts vs ds ps →
    (∀ (j : Nat) t v, ts[j]? = some t → vs[j]? = some v → Value.okWide P w r b0 t v) → ∀ h μ, Ini h μ w → ∃ h' μ' avs xs, Ini h' μ' w ∧ μ.le μ' ∧ Ex h h' ∧ VRels μ' avs vs ∧ ArgsK ss h' xs avs
  | [], [], vs, ds, ps, _, hA, _, h, μ, I => by
    cases vs with
    | nil => exact ⟨h, μ, [], (), I, Mu.le_refl _, Ex.refl _, .nil, rfl⟩
    | cons v vs => cases ds <;> exact hA.elim
  | [], s :: ss, vs, ds, ps, e, hA, _, h, μ, I => by cases e
  | t :: ts, [], vs, ds, ps, e, hA, _, h, μ, I => by cases e
  | t :: ts, s :: ss, vs, ds, ps, e, hA, hok, h, μ, I => by
    rw [List.map_cons, List.map_cons] at e
    injection e with e1 e2
    cases vs with
    | nil => cases ds <;> exact hA.elim
    | cons v vs =>
      cases ds with
      | nil => exact hA.elim
      | cons d ds =>
        obtain ⟨p, q, h1, h2, _⟩ := hA
        obtain ⟨h', μ', av, x, I1, le1, ex1, v1, k1⟩ := opens_arg e1 (hok 0 t v rfl rfl) h1 h μ I
        obtain ⟨h'', μ'', avs, xs, I2, le2, ex2, v2, k2⟩ := opens_args ts ss vs ds q e2 h2 (fun j t' v' a b => hok (j + 1) t' v' (by simpa using a) (by simpa using b)) h' μ' I1
        exact ⟨h'', μ'', av :: avs, (x, xs), I2, Mu.le_trans le1 le2, ex1.trans ex2, .cons (v1.mono le2) v2, av, avs, rfl, Sh.V_ex ex2 k1, k2⟩
/-- A call that tells true by the calculus, of any arguments of these shapes: so tells the world. -/
theorem RunF.callsA (hm : P.follows .mixedOrders = true) (hn : noRoutine P = true) {f : FuncId} {F : Nat} {ts : List TypeId} {ss : List Sh} {vs : List Value} {ds : List (DataW H)} {ps : List MemPlace}
    (run : ∀ h xs avs, ArgsK ss h xs avs → RunF P f avs h (fun v _ => v = .bool true))
    (hts : ts.map (Sh.of P F) = ss.map some) (hA : DataW.TrodAll enc P w base (fun _ => true) held ts vs ds ps) (hok : ∀ (j : Nat) t v, ts[j]? = some t → vs[j]? = some v → Value.okWide P w r b0 t v) :
    Calls P f ⟨vs⟩ w fun e w' => e = .returned (.bool true) ∧ Below w.heap.size w w' := by
  obtain ⟨h, μ, avs, xs, I, _, _, hv, hk⟩ := opens_args ts ss vs ds ps hts hA hok _ _ (Ini.nil w)
  obtain ⟨v, h', rfl, N, hN⟩ := run h xs avs hk
  have e := hN N (Nat.le_refl _) N (Nat.le_refl _)
  obtain ⟨_, _, h3⟩ := acall_sound hm (noRoutine_iff hn) (sp := fun _ => none) (fun f s args h v h' e => by cases e) N N f avs _ _ h' e
  refine (h3 μ w ⟨vs⟩ I.rel (fun i hi _ => I.fresh i hi) hv).mono ?_
  rintro e w' ⟨v', ν, rfl, h1, h2⟩
  have hvv := closedV_eq (show closedV (.bool true) = true from rfl) h1
  have hown : ∀ b off, ¬ Own h μ (fun i => h'.low ≤ i) b off := by
    rintro b off ⟨i, o, p, _, g, ho, _⟩
    rw [I.old i o g] at ho; cases ho
  exact ⟨by rw [hvv], h2.keep.os, h2.keep.tape, h2.keep.output, h2.keep.size, fun k hk => h2.keep.block k hk (fun off => hown k off)⟩
end
theorem map_of_ones {k : IntKind} : ∀ (l : List Int) (acs : List Value), acs.length = l.length → (∀ (j : Nat) (x : Int), l[j]? = some x → (acs.drop j).take 1 = [.int k x]) → acs = l.map (Value.int k)
  | [], [], _, _ => rfl
  | [], _ :: _, h, _ => by cases h
  | _ :: _, [], h, _ => by cases h
  | x :: l, v :: acs, h, H => by
    have h0 := H 0 x rfl
    have e : v = .int k x := by simpa using h0
    rw [List.map_cons, e, map_of_ones l acs (by simpa using h) (fun j y hy => by simpa using H (j + 1) y (by simpa using hy))]
/-- A slice of whole numbers. -/
theorem slInts {k : IntKind} {h : Heap} {l : List Int} {cs : List Value} (a : (Sh.slice (.int k)).K h l cs) : ∃ v, cs = [v] ∧ Sl h v 1 l.length (l.map (Value.int k)) ∧ ∀ x ∈ l, (Lit.int k x).wf = true := by
  obtain ⟨v, acs, rfl, hs, H⟩ := a
  have H' : ∀ (j : Nat) (x : Int), l[j]? = some x → (acs.drop (j * 1)).take 1 = [.int k x] ∧ (Lit.int k x).wf = true := fun j x hj => H j x ((nth_eq l j).trans hj)
  have e : acs = l.map (Value.int k) := map_of_ones l acs (by have h1 : acs.length = l.length * 1 := hs.1; omega) (fun j x hj => by have := (H' j x hj).1; rwa [Nat.mul_one] at this)
  refine ⟨v, rfl, e ▸ hs, fun x hx => ?_⟩
  obtain ⟨j, hj⟩ := List.getElem?_of_mem hx
  exact (H' j x hj).2
theorem argNil {h : Heap} {x : ArgsT []} {vs : List Value} (a : ArgsK [] h x vs) : vs = [] := a
theorem wf_i64 {x : Int} (h : (Lit.int .i64 x).wf = true) : -9223372036854775808 ≤ x ∧ x ≤ 9223372036854775807 := by
  simp [Lit.wf, IntKind.min, IntKind.max, IntKind.signed, IntKind.bits] at h
  omega
theorem wf_u8 {x : Int} (h : (Lit.int .u8 x).wf = true) : 0 ≤ x ∧ x < 256 := by
  simp [Lit.wf, IntKind.min, IntKind.max, IntKind.signed, IntKind.bits] at h
  omega
end Go.Am
end
section
set_option linter.unusedVariables false
namespace Go.Am
open Go.RowKit
/- Slices in any memory. -/
theorem Sl.form {h : Heap} {v : Value} {s n : Nat} {cells : List Value} (r : Sl h v s n cells) :
    ∃ A c, v = .slice A n c ∧ Cp s n c ∧ (0 < n → ∃ b o, A = some ⟨b, o, none⟩ ∧ Rd h ⟨b, o, none⟩ cells) := by
  obtain ⟨hl, hm, ⟨rfl, rfl⟩ | ⟨b, o, c, rfl, hc, rd⟩⟩ := r
  · exact ⟨none, 0, rfl, .inr ⟨rfl, Nat.zero_le _⟩, fun g => absurd g (Nat.lt_irrefl 0)⟩
  · exact ⟨_, c, rfl, hc, fun _ => ⟨b, o, rfl, rd⟩⟩
theorem Sl.nil (h : Heap) (s : Nat) : Sl h (.slice none 0 0) s 0 [] := ⟨by simp, Nat.zero_le _, .inl ⟨rfl, rfl⟩⟩
theorem Rd.sl {h : Heap} {b o c s n : Nat} {cells : List Value} (rd : Rd h ⟨b, o, none⟩ cells) (hl : cells.length = n * s) (hm : n ≤ 9223372036854775807) (hc : Cp s n c) : Sl h (.slice (some ⟨b, o, none⟩) n c) s n cells :=
  ⟨hl, hm, .inr ⟨b, o, c, rfl, hc, rd⟩⟩
theorem Row.sl {lo : Nat} {h : Heap} {v : Value} {s n : Nat} {cells : List Value} (r : Row lo h v s n cells) (hm : n ≤ 9223372036854775807) : Sl h v s n cells := by
  obtain ⟨h1, ⟨rfl, rfl⟩ | ⟨b, _, rfl, ow⟩⟩ := r
  · exact ⟨h1, hm, .inl ⟨rfl, rfl⟩⟩
  · exact ⟨h1, hm, .inr ⟨b, 0, _, rfl, Cp.unkc _ _, ow.all⟩⟩
/-- A slice of one's own, from a block's front to its end. -/
def Osl (lo : Nat) (h : Heap) (v : Value) (s n : Nat) (cells : List Value) : Prop :=
  cells.length = n * s ∧ n ≤ 9223372036854775807 ∧ ((v = .slice none 0 0 ∧ n = 0) ∨ ∃ b c, lo ≤ b ∧ v = .slice (some ⟨b, 0, none⟩) n c ∧ Cp s n c ∧ Ow h b cells)
theorem Sl.fr0 {h h' : Heap} {v : Value} {s n : Nat} {cs : List Value} (r : Sl h v s n cs) (f : Fr no h h') : Sl h' v s n cs := r.ex f.ex
theorem Sl.nz {h : Heap} {v : Value} {s n : Nat} {cells : List Value} (r : Sl h v s n cells) (hn : 0 < n) : ∃ b o c, v = .slice (some ⟨b, o, none⟩) n c ∧ Cp s n c ∧ Rd h ⟨b, o, none⟩ cells := by
  obtain ⟨h1, hm, ⟨rfl, rfl⟩ | h2⟩ := r
  · exact absurd hn (Nat.lt_irrefl 0)
  · exact h2
/-- An element of a row. -/
def elm (P : Program) (t : TypeId) (cells : List Value) (off : Nat) : Option Value := apart P t cells off
section
variable {P : Program} {n : Nat} {ops rest : List Oper} {E E1 : Env} {h h1 : Heap} {Q : Env → Heap → Prop}
theorem upd2_le {E : Env} {d d2 : Nat} {p u : Value} (he : E d = none) : Le (upd E d2 u) (upd (upd E d p) d2 u) := by
  intro j w hj
  unfold upd at hj ⊢
  cases h2 : Nat.beq j d2 with
  | true => rw [h2] at hj; exact hj
  | false =>
    rw [h2] at hj
    cases h3 : Nat.beq j d with
    | true => rw [Nat.eq_of_beq_eq_true h3] at hj; rw [show E d = some w from hj] at he; cases he
    | false => exact hj
/-- An element looked at: its address, then a load. -/
theorem RunO.at {d d2 : Tmp} {t ty ty2 e : TypeId} {x i : Operand} {pos pos2 : String} {after after2 : Array Edge} {v : Value} {m s k : Nat} {ik : IntKind} {cells : List Value} {u : Value}
    (hx : gE E x = some v) (hi : gE E i = some (.int ik (k : Int))) (sl : Sl h v s m cells) (hu : P.underlying t = some (.slice e)) (hs : sizeOf P e = some s) (hk : k < m) (hv : apart P e cells (k * s) = some u)
    (hd : Nat.ble (Nat.succ d) n = true) (hd2 : Nat.ble (Nat.succ d2) n = true) (hE : E d = none)
    (r : RunO P n ops rest (upd E d2 u) h Q) : RunO P n ops (⟨some d, .indexAddr t x i, ty, pos, after, none⟩ :: ⟨some d2, .load e (.tmp d), ty2, pos2, after2, none⟩ :: rest) E h Q := by
  obtain ⟨b, o, c, rfl, hc, rd⟩ := sl.nz (by omega)
  refine RunO.index hx hi hu hs hk hd ?_
  refine RunO.load (v := u) (a := ⟨b, o + k * s, none⟩) (by show upd E d _ d = _; unfold upd; rw [Nat.beq_refl]; rfl) (rd.part hv) hd2 ?_
  exact r.le (upd2_le hE)
theorem allCells_take : ∀ (k : Nat) (l : List Value), allCells l = true → allCells (l.take k) = true
  | 0, l, _ => rfl
  | k + 1, [], _ => rfl
  | k + 1, x :: l, ha => by
    unfold allCells at ha
    cases hx : isCell x with
    | false => rw [hx] at ha; cases ha
    | true =>
      rw [hx] at ha
      show cond (isCell x) (allCells (l.take k)) false = true
      rw [hx, cond_true]
      exact allCells_take k l ha
theorem copy_zero {t e : TypeId} {A B : Option Addr} {sn dn sc dc : Nat} (hu : P.underlying t = some (.slice e)) (hs : sizeOf P e = some 1) (hm : Nat.min sn dn = 0) :
    acopy P h t (.slice A dn dc) (.slice B sn sc) = some (goInt 0, h) := by
  simp only [acopy, hu, hs, hm]
theorem copy_some {t e : TypeId} {a b : Addr} {sn dn sc dc k : Nat} {cs : List Value} {h1 : Heap} (hu : P.underlying t = some (.slice e)) (hs : sizeOf P e = some 1) (hm : Nat.min sn dn = k + 1) (e1 : aread h b (Nat.succ k) = some cs) (e2 : astoreL h a cs = some h1) :
    acopy P h t (.slice (some a) dn dc) (.slice (some b) sn sc) = some (goInt ((k + 1 : Nat) : Int), h1) := by
  simp only [acopy, hu, hs, hm, e1, e2]
/-- A row copied over a part of one's own. -/
theorem copy_sl {t e : TypeId} {b o dn dc sn k : Nat} {src : Value} {cs news : List Value} (hu : P.underlying t = some (.slice e)) (hs : sizeOf P e = some 1) (ow : Ow h b cs) (sl : Sl h src 1 sn news) (ha : allCells news = true) (hm : min sn dn = k) (hc : o + k ≤ cs.length) :
    ∃ h', acopy P h t (.slice (some ⟨b, o, none⟩) dn dc) src = some (goInt k, h') ∧ Ow h' b (cs.take o ++ news.take k ++ cs.drop (o + k)) ∧ Fr (· = b) h h' ∧ h'.next = h.next := by
  obtain ⟨A, c, rfl, _, hr⟩ := sl.form
  have hl : news.length = sn * 1 := sl.1
  cases k with
  | zero =>
    refine ⟨h, copy_zero hu hs hm, ?_, Fr.refl _ _, rfl⟩
    rw [List.take_zero, List.append_nil, Nat.add_zero, List.take_append_drop]; exact ow
  | succ k =>
    obtain ⟨b2, o2, rfl, rd⟩ := hr (by omega)
    have e1 : aread h ⟨b2, o2, none⟩ (Nat.succ k) = some (news.take (k + 1)) := rd.read0 (m := k + 1) (by omega)
    have e3 : (news.take (k + 1)).length = k + 1 := by rw [List.length_take]; omega
    have e4 := storeL_ow (off := o) ow (allCells_take (k + 1) news ha) (by omega)
    rw [e3] at e4
    exact ⟨_, copy_some hu hs hm e1 e4, Ow.put _ ow.1, Fr.put _ (.inl rfl), rfl⟩
theorem Sl.src0 {v : Value} {s : Nat} {cells : List Value} (sl : Sl h v s 0 cells) : asrc h s v = some (0, []) := by
  obtain ⟨_, _, ⟨rfl, _⟩ | ⟨b, o, c, rfl, _, _, hb, ob, ho, _⟩⟩ := sl
  · rfl
  · have : aread h ⟨b, o, none⟩ (Nat.mul 0 s) = some [] := by
      have hz : Nat.mul 0 s = 0 := Nat.zero_mul s
      have ho : h.get b = some ob := ho
      rw [hz]
      simp only [aread, ho]
      rw [takeN_eq, if_pos (Nat.zero_le _), List.take_zero]
    simp only [asrc, this]
end
theorem allCells_map {α : Type} {f : α → Value} (hf : ∀ x, isCell (f x) = true) : ∀ l : List α, allCells (l.map f) = true
  | [] => rfl
  | x :: l => by show cond (isCell (f x)) (allCells (l.map f)) false = true; rw [hf, cond_true]; exact allCells_map hf l
/-- Is there one of the first n? -/
def anyI (p : Nat → Bool) (n : Nat) : Bool := (List.range n).any p
theorem anyI_true {p : Nat → Bool} {n i : Nat} (hi : i < n) (hp : p i = true) : anyI p n = true := List.any_eq_true.2 ⟨i, List.mem_range.2 hi, hp⟩
theorem anyI_false {p : Nat → Bool} {n : Nat} (hp : ∀ j, j < n → p j = false) : anyI p n = false := by
  unfold anyI
  rw [List.any_eq_false]
  intro x hx
  rw [hp x (List.mem_range.1 hx)]; exact Bool.false_ne_true
theorem rowOut {lo : Nat} {h : Heap} {v : Value} {s n : Nat} {cells : List Value} (r : Row lo h v s n cells) (hn : 1 ≤ n) : ∃ b, lo ≤ b ∧ v = .slice (some ⟨b, 0, none⟩) n (unkc s) ∧ Ow h b cells := by
  rcases r.2 with ⟨_, e⟩ | h
  · omega
  · exact h
end Go.Am
end
section
set_option linter.unusedVariables false
namespace Go.Am
open Go.RowKit
/- Regions that draw their order, where nothing old is written: then any order does. -/
def okFp : Fp → Bool
  | .none | .rd _ => true
  | .all q => q
  | .wr _ => false
theorem fpOk_ok {f g : Fp} (hf : okFp f = true) (hg : okFp g = true) : fpOk f g = true := by
  cases f <;> cases g <;> simp_all [okFp, fpOk]
def idxOk (N : Nat) : List (Nat × Nat) → Bool
  | [] => true
  | (i, j) :: l => cond (Nat.blt i N) (cond (Nat.blt j N) (idxOk N l) false) false
theorem blt_lt {i N : Nat} (h : Nat.blt i N = true) : i < N := Nat.le_of_ble_eq_true h
theorem pairsOk_ok {fs : List Fp} (hf : ∀ f ∈ fs, okFp f = true) : ∀ (ps : List (Nat × Nat)), idxOk fs.length ps = true → pairsOk fs ps = true
  | [], _ => rfl
  | (i, j) :: l, h => by
    unfold idxOk at h
    cases hi : Nat.blt i fs.length with
    | false => rw [hi] at h; cases h
    | true =>
      rw [hi, cond_true] at h
      cases hj : Nat.blt j fs.length with
      | false => rw [hj] at h; cases h
      | true =>
        rw [hj, cond_true] at h
        have h1 := List.getElem?_eq_getElem (blt_lt hi)
        have h2 := List.getElem?_eq_getElem (blt_lt hj)
        unfold pairsOk
        simp only [nth_eq, h1, h2]
        rw [fpOk_ok (hf _ (List.getElem_mem _)) (hf _ (List.getElem_mem _)), cond_true]
        exact pairsOk_ok hf l h
theorem RunD.mono {P : Program} {n l0 : Nat} {ops rest : List Oper} {E : Env} {h : Heap} {Q Q' : Env → Heap → List Fp → Prop} (r : RunD P n ops rest l0 E h Q) (w : ∀ E h fs, Q E h fs → Q' E h fs) : RunD P n ops rest l0 E h Q' := by
  intro lw hlw
  obtain ⟨E', h', fs, lw', q, k⟩ := r lw hlw
  exact ⟨E', h', fs, lw', w _ _ _ q, k⟩
def RunQ (P : Program) (n : Nat) (ops rest : List Oper) (E : Env) (h : Heap) (Q : Env → Heap → Prop) : Prop :=
  ∀ l0, l0 ≤ h.next → RunD P n ops rest l0 E h (fun E' h' fs => fs.length = rest.length ∧ (∀ f ∈ fs, okFp f = true) ∧ Fg no h h' ∧ Q E' h')
section
variable {P : Program} {n : Nat} {ops rest : List Oper} {E E1 : Env} {h h1 : Heap} {Q : Env → Heap → Prop}
theorem RunQ.nil (q : Q E h) : RunQ P n ops [] E h Q := fun l0 hl => RunD.nil ⟨rfl, (fun f hf => (by cases hf)), ⟨Nat.le_refl _, fun _ _ _ => rfl⟩, q⟩
theorem RunQ.lo {x : Nat} (r : RunQ P n ops rest E h Q) : RunQ P n ops rest E (h.lo x) Q := by
  intro l0 hl
  have := r l0 hl
  intro lw hlw
  obtain ⟨E', h', fs, lw', ⟨q1, q2, q3, q4⟩, k⟩ := this lw hlw
  exact ⟨E', h', fs, lw', ⟨q1, q2, ⟨q3.next, q3.get⟩, q4⟩, k⟩
theorem RunQ.le (l : Le E1 E) (r : RunQ P n ops rest E1 h Q) : RunQ P n ops rest E h Q := by
  intro l0 hl lw hlw
  obtain ⟨E', h', fs, lw', q, k, N, hN⟩ := r l0 hl lw hlw
  exact ⟨E', h', fs, lw', q, k, N, fun d hd K hK T hs => hN d hd K hK T (hs.le l)⟩
theorem RunQ.oneG {o : Oper} {v : Value} {f : Fp} (g : ewanted ops E o = some true) (e : eop P E o (h.lo h.next) = some (v, h1)) (hf : ∀ q, fpE E o q = some f) (ok : okFp f = true) (hfr : Fr no (h.lo h.next) h1) (p : eput n E o.dst v = some E1)
    (r : RunQ P n ops rest E1 h1 Q) : RunQ P n ops (o :: rest) E h Q := by
  intro l0 hl
  refine RunD.oneG g e hf (hfr.from hl (fun _ g => g.elim)) p ?_
  refine (r l0 (Nat.le_trans hl hfr.next)).mono ?_
  rintro E' h' fs ⟨q1, q2, q3, q4⟩
  refine ⟨by rw [List.length_cons, List.length_cons, q1], fun f' hf' => ?_, hfr.fg.quiet q3, q4⟩
  rcases List.mem_cons.1 hf' with rfl | hf'
  · exact ok
  · exact q2 f' hf'
theorem RunQ.offG {o : Oper} (g : ewanted ops E o = some false) (p : eput n E o.dst undef = some E1) (r : RunQ P n ops rest E1 h Q) : RunQ P n ops (o :: rest) E h Q := by
  intro l0 hl
  refine RunD.offG g p ((r l0 hl).mono ?_)
  rintro E' h' fs ⟨q1, q2, q3, q4⟩
  refine ⟨by rw [List.length_cons, List.length_cons, q1], fun f' hf' => ?_, q3, q4⟩
  rcases List.mem_cons.1 hf' with rfl | hf'
  · rfl
  · exact q2 f' hf'
/-- Operations that look at no memory. -/
def epur (P : Program) (E : Env) (o : Oper) : Option Value :=
  match o.op with
  | .move x | .assign x => gE E x
  | .pick c a b => (match gE E c with
    | some (.bool t) => gE E (cond t a b)
    | _ => none)
  | .build t ps => (match gps (gE E) ps.toList with
    | some l => abuild P t l
    | none => none)
  | .binOp op t x y _ => (match gE E x, gE E y with
    | some a, some b => abinop P op t a b
    | _, _ => none)
  | .unOp op _ x => (match gE E x with
    | some a => aunop op a
    | none => none)
  | .convert s d x => (match gE E x with
    | some (.int k a) => aconvert P s d (.int k a)
    | _ => none)
  | .makeFunc (.func f) first captured => (match gs (gE E) first.toList, gs (gE E) captured.toList with
    | some a, some b => some (.func (.func f) ⟨a⟩ ⟨b⟩)
    | _, _ => none)
  | .slice t x lo hi mx => (match gE E x, go (gE E) lo, go (gE E) hi, go (gE E) mx with
    | some v, some a, some b, some c => aslice P t v a b c
    | _, _, _, _ => none)
  | .fieldAddr t x f => (match gE E x with
    | some a => afieldAddr P t a f
    | none => none)
  | .field t x f => (match gE E x with
    | some a => afield P t a f
    | none => none)
  | .indexAddr t x i => (match gE E x, gE E i with
    | some a, some b => aindexAddr P t a b
    | _, _ => none)
  | .index t x i => (match gE E x, gE E i with
    | some a, some b => aindex P t a b
    | _, _ => none)
  | .extract x i => (match gE E x with
    | some (.tuple vs) => nth vs.toList i
    | _ => none)
  | .nilCheck x => (match gE E x with
    | some (.pointer (some a)) => some (.pointer (some a))
    | _ => none)
  | .call c => (match c.callee with
    | .builtin .len => (match gs (gE E) c.args.toList, c.argTypes.toList with
      | some [x], t :: _ => alen P t x
      | _, _ => none)
    | _ => none)
  | _ => none
theorem pureR_of {h : Heap} {x : Option Value} {v : Value} (e : x = some v) : pureR h x = some (v, h) := by rw [e]; rfl
theorem epur_eop {o : Oper} {v : Value} (e : epur P E o = some v) (h : Heap) : eop P E o h = some (v, h) ∧ ∀ q, fpE E o q = some .none := by
  obtain ⟨dst, op, type, pos, after, guard⟩ := o
  by_cases hmf : ∃ fn a b, op = .makeFunc fn a b
  · obtain ⟨fn, x, y, rfl⟩ := hmf
    cases fn <;> simp only [epur] at e <;> first | (cases e; done) | skip
    refine ⟨?_, fun _ => rfl⟩
    simp only [eop]
    split at e
    · rename_i h1 h2; cases e; simp only [h1, h2]
    · cases e
  cases op
  case makeFunc fn a b => exact absurd ⟨fn, a, b, rfl⟩ hmf
  case call c =>
    obtain ⟨callee, args, ats⟩ := c
    cases callee with
    | value g => cases e
    | invoke r m => cases e
    | builtin b =>
      cases b
      case len =>
        refine ⟨?_, fun _ => rfl⟩
        simp only [epur] at e
        simp only [eop]
        split at e
        · rename_i x t tl h1 h2
          simp only [h1]
          unfold abuiltin
          simp only [h2, e]
        · cases e
      all_goals cases e
  case convert s d x =>
    simp only [epur] at e
    simp only [eop, fpE]
    split at e
    · rename_i k a h1
      simp only [h1, e]
      exact ⟨trivial, fun _ => trivial⟩
    · cases e
  all_goals simp only [epur] at e
  all_goals first | (cases e; done) | skip
  all_goals refine ⟨?_, fun _ => rfl⟩
  all_goals simp only [eop]
  case move x => exact pureR_of e
  case assign x => exact pureR_of e
  case pick c a b =>
    split at e
    · rename_i h1; simp only [h1]; exact pureR_of e
    · cases e
  case extract x i =>
    split at e
    · rename_i h1; simp only [h1]; exact pureR_of e
    · cases e
  case nilCheck x =>
    split at e
    · rename_i h1; cases e; simp only [h1]; try rfl
    · cases e
  case slice t x lo hi mx =>
    split at e
    · rename_i h1 h2 h3 h4; simp only [h1, h2, h3, h4]; exact pureR_of e
    · cases e
  all_goals
    split at e
    · first
        | (rename_i h1 h2; simp only [h1, h2]; exact pureR_of e)
        | (rename_i h1; simp only [h1]; exact pureR_of e)
    · cases e
def epst (P : Program) (n : Nat) (ops : List Oper) (E : Env) (o : Oper) : Option Env :=
  match ewanted ops E o with
  | none => none
  | some false => eput n E o.dst undef
  | some true => (match epur P E o with
    | some v => eput n E o.dst v
    | none => none)
def epures (P : Program) (n : Nat) (ops : List Oper) : List Oper → Env → Option Env
  | [], E => some E
  | o :: l, E => match epst P n ops E o with
    | some E' => epures P n ops l E'
    | none => none
theorem RunQ.pures : ∀ (l : List Oper) {E : Env}, epures P n ops l E = some E1 → RunQ P n ops rest E1 h Q → RunQ P n ops (l ++ rest) E h Q
  | [], E, e, r => by cases e; exact r
  | o :: l, E, e, r => by
    unfold epures at e
    split at e
    · rename_i E' hst
      have r2 := RunQ.pures l e r
      unfold epst at hst
      split at hst
      · cases hst
      · rename_i hw
        exact RunQ.offG hw hst r2
      · rename_i hw
        split at hst
        · rename_i v hv
          obtain ⟨h1, h2⟩ := epur_eop hv (h.lo h.next)
          exact RunQ.oneG hw h1 h2 rfl (Fr.refl _ _) hst r2.lo
        · cases hst
    · cases e
theorem RunQ.part (k : Nat) (e : epures P n ops (rest.take k) E = some E1) (r : RunQ P n ops (rest.drop k) E1 h Q) : RunQ P n ops rest E h Q := by
  have := RunQ.pures (rest.take k) e r
  rwa [List.take_append_drop] at this
theorem RunQ.all (e : epures P n ops rest E = some E1) (q : Q E1 h) : RunQ P n ops rest E h Q := by
  have := RunQ.pures (rest := []) rest e (RunQ.nil q)
  rwa [List.append_nil] at this
theorem RunQ.load {d : Tmp} {t ty : TypeId} {x : Operand} {pos : String} {after : Array Edge} {gd : Option (Nat × Bool)} {a : Addr} {v : Value}
    (hw : ewanted ops E ⟨some d, .load t x, ty, pos, after, gd⟩ = some true) (hx : gE E x = some (.pointer (some a))) (hl : aload P h t a = some v) (hd : Nat.ble (Nat.succ d) n = true)
    (r : RunQ P n ops rest (upd E d v) h Q) : RunQ P n ops (⟨some d, .load t x, ty, pos, after, gd⟩ :: rest) E h Q := by
  refine RunQ.oneG (v := v) (f := .rd a.block) (h1 := h.lo h.next) (E1 := upd E d v) hw ?_ ?_ rfl (Fr.refl _ _) (by simp only [eput, hd, cond_true]) r.lo
  · have hl : aload P (h.lo h.next) t a = some v := hl
    simp only [eop, hx, hl, pureR]
  · intro q; simp only [fpE, hx]
theorem RunQ.index {d : Tmp} {t ty : TypeId} {x i : Operand} {pos : String} {after : Array Edge} {gd : Option (Nat × Bool)} {b o len c s k : Nat} {ik : IntKind} {e : TypeId}
    (hw : ewanted ops E ⟨some d, .indexAddr t x i, ty, pos, after, gd⟩ = some true) (hx : gE E x = some (.slice (some ⟨b, o, none⟩) len c)) (hi : gE E i = some (.int ik (k : Int))) (hu : P.underlying t = some (.slice e)) (hs : sizeOf P e = some s) (hk : k < len) (hd : Nat.ble (Nat.succ d) n = true)
    (r : RunQ P n ops rest (upd E d (.pointer (some ⟨b, o + k * s, none⟩))) h Q) : RunQ P n ops (⟨some d, .indexAddr t x i, ty, pos, after, gd⟩ :: rest) E h Q := by
  refine RunQ.oneG (v := .pointer (some ⟨b, o + k * s, none⟩)) (f := .none) (h1 := h.lo h.next) hw ?_ (fun _ => rfl) rfl (Fr.refl _ _) (by simp only [eput, hd, cond_true]) r.lo
  have hi : gE E i = some (.int ik (.ofNat k)) := hi
  simp only [eop, hx, hi, aindexAddr, hu, hs, Nat.ble_eq_true_of_le (show Nat.succ k ≤ len from hk), cond_true]
  rfl
/-- An element looked at: its address, then a load. -/
theorem RunQ.at {d d2 : Tmp} {t ty ty2 e : TypeId} {x i : Operand} {pos pos2 : String} {after after2 : Array Edge} {gd gd2 : Option (Nat × Bool)} {v : Value} {m s k : Nat} {ik : IntKind} {cells : List Value} {u : Value}
    (hw : ewanted ops E ⟨some d, .indexAddr t x i, ty, pos, after, gd⟩ = some true) (hw2 : ∀ p, ewanted ops (upd E d (.pointer p)) ⟨some d2, .load e (.tmp d), ty2, pos2, after2, gd2⟩ = some true)
    (hx : gE E x = some v) (hi : gE E i = some (.int ik (k : Int))) (sl : Sl h v s m cells) (hu : P.underlying t = some (.slice e)) (hs : sizeOf P e = some s) (hk : k < m) (hv : apart P e cells (k * s) = some u)
    (hd : Nat.ble (Nat.succ d) n = true) (hd2 : Nat.ble (Nat.succ d2) n = true) (hE : E d = none)
    (r : RunQ P n ops rest (upd E d2 u) h Q) : RunQ P n ops (⟨some d, .indexAddr t x i, ty, pos, after, gd⟩ :: ⟨some d2, .load e (.tmp d), ty2, pos2, after2, gd2⟩ :: rest) E h Q := by
  obtain ⟨b, o, c, rfl, hc, rd⟩ := sl.nz (by omega)
  refine RunQ.index hw hx hi hu hs hk hd ?_
  refine RunQ.load (v := u) (a := ⟨b, o + k * s, none⟩) (hw2 _) (by show upd E d _ d = _; unfold upd; rw [Nat.beq_refl]; rfl) (rd.part hv) hd2 ?_
  exact r.le (upd2_le hE)
theorem RunQ.call {d : Tmp} {f : Operand} {args : Array Operand} {ats : Array TypeId} {t : TypeId} {pos : String} {after : Array Edge} {gd : Option (Nat × Bool)} {g : FuncId} {vs : List Value} {R : Value → Heap → Prop}
    (hw : ewanted ops E ⟨some d, .call ⟨.value f, args, ats⟩, t, pos, after, gd⟩ = some true) (r : RunF P g vs (h.lo h.next) R) (hq : ∀ v h1, R v h1 → Fr no (h.lo h.next) h1) (hf : gE E f = some (.func (.func g) #[] #[])) (hv : gs (gE E) args.toList = some vs) (hd : Nat.ble (Nat.succ d) n = true)
    (k : ∀ v h1, R v h1 → RunQ P n ops rest (upd E d v) h1 Q) : RunQ P n ops (⟨some d, .call ⟨.value f, args, ats⟩, t, pos, after, gd⟩ :: rest) E h Q := by
  intro l0 hl
  refine RunD.callG hw r hf hv (fun v h1 q => ⟨(hq v h1 q).from hl (fun _ g => g.elim), upd E d v, by simp only [eput, hd, cond_true], ?_⟩)
  refine (k v h1 q l0 (Nat.le_trans hl (hq v h1 q).next)).mono ?_
  rintro E' h' fs ⟨q1, q2, q3, q4⟩
  have hbq : okFp (.all (Nat.ble h.next h1.low)) = true := (hq v h1 q).quietB
  refine ⟨by rw [List.length_cons, List.length_cons, q1], fun f' hf' => ?_, (hq v h1 q).fg.quiet q3, q4⟩
  rcases List.mem_cons.1 hf' with rfl | hf'
  · exact hbq
  · exact q2 f' hf'
def drawQOk (ops : Array Oper) : Bool := match drawOk ops with
  | some (p :: ps) => idxOk ops.toList.length (p :: ps)
  | _ => false
theorem RunC.drawQ {i : Nat} {ops : Array Oper} {Qn : Env → Heap → Prop} {Qx : Nat → Env → Heap → Prop} {Qr : Env → Heap → Prop} (hd : drawQOk ops = true)
    (r : RunQ P n ops.toList ops.toList E h (fun E' h' => ∀ lw, Fr no h (h'.lo lw) → Qn E' (h'.lo lw))) : RunC P n (.region i ops true) E h Qn Qx Qr := by
  unfold drawQOk at hd
  split at hd
  · rename_i p ps hps
    refine RunC.draw (l0 := min h.low h.next) (Nat.min_le_left _ _) hps ((r _ (Nat.min_le_right _ _)).mono ?_)
    rintro E' h' fs ⟨q1, q2, q3, q4⟩
    refine ⟨pairsOk_ok q2 _ (by rw [q1]; exact hd), fun lw hlw => q4 lw (q3.close (fun l h1 h2 _ => Nat.le_trans (Nat.le_min.2 ⟨h1, h2⟩) hlw))⟩
  · cases hd
end
end Go.Am
end
section
set_option linter.unusedVariables false
namespace Go.Am
open Go.RowKit
theorem reps_one (z : Value) : ∀ n, reps [z] n = List.replicate n z
  | 0 => rfl
  | n + 1 => by show z :: reps [z] n = _; rw [reps_one z n]; rfl
section
variable {P : Program} {n : Nat} {ops rest : List Oper} {E E1 : Env} {h h1 : Heap} {Q : Env → Heap → Prop}
/-- A row made. -/
theorem make_sl {t e : TypeId} {i : TypeInfo} {z : Value} {m : Nat} {k k' : IntKind} (hu : P.underlying t = some (.slice e)) (hi : P.info? e = some i) (hz : zeroOf P e = some z) (hl : lenIs (cellsOf z) i.size = true) (hb : i.bytes * m ≤ 281474976710656) (hm : m ≤ 9223372036854775807) :
    amakeSlice P h t (.int k (m : Int)) (.int k' (m : Int)) = some (.slice (some ⟨h.next, 0, none⟩) m (exc m), h.push ⟨reps (cellsOf z) m, true⟩) := by
  show (match P.underlying t, Value.int k (.ofNat m), Value.int k' (.ofNat m) with
    | some (.slice e), .int _ (.ofNat n), .int _ (.ofNat m) => _
    | _, _, _ => none) = _
  have e1 : Nat.ble m m = true := Nat.ble_eq_true_of_le (Nat.le_refl _)
  have e2 : Nat.ble (Nat.mul i.bytes m) 281474976710656 = true := Nat.ble_eq_true_of_le hb
  have e3 : Nat.ble m 9223372036854775807 = true := Nat.ble_eq_true_of_le hm
  simp only [hu, hi, hz, hl, cond_true, e1, e2, e3]
theorem RunO.make {d : Tmp} {t ty e : TypeId} {x y : Operand} {pos : String} {after : Array Edge} {i : TypeInfo} {z : Value} {m : Nat} {k k' : IntKind} (hx : gE E x = some (.int k (m : Int))) (hy : gE E y = some (.int k' (m : Int)))
    (hu : P.underlying t = some (.slice e)) (hi : P.info? e = some i) (hz : zeroOf P e = some z) (hl : lenIs (cellsOf z) i.size = true) (hb : i.bytes * m ≤ 281474976710656) (hm : m ≤ 9223372036854775807) (hd : Nat.ble (Nat.succ d) n = true)
    (r : RunO P n ops rest (upd E d (.slice (some ⟨h.next, 0, none⟩) m (exc m))) (h.push ⟨reps (cellsOf z) m, true⟩) Q) : RunO P n ops (⟨some d, .makeSlice t x y, ty, pos, after, none⟩ :: rest) E h Q := by
  refine RunO.one (v := .slice (some ⟨h.next, 0, none⟩) m (exc m)) rfl ?_ (by simp only [eput, hd, cond_true]) r
  simp only [eop, hx, hy]
  exact make_sl hu hi hz hl hb hm
end
end Go.Am
end
section
set_option linter.unusedVariables false
set_option maxRecDepth 100000
open Go Go.Am Go.RowKit
namespace Go.Proofs.Ytdcggjkcbheolaa
open Go.Proofs.Try
def inB (a lo hi : Int) : Bool := decide (a ≥ lo) && decide (a ≤ hi)
theorem inB_iff (a lo hi : Int) : inB a lo hi = true ↔ lo ≤ a ∧ a ≤ hi := by
  unfold inB; rw [Bool.and_eq_true, decide_eq_true_iff, decide_eq_true_iff]
theorem if_eq0 (b : Bool) : ((if b = true then (0 : Int) else 1) == 0) = b := by cases b <;> rfl
end Go.Proofs.Ytdcggjkcbheolaa
end
section
set_option linter.unusedVariables false
set_option maxRecDepth 100000
open Go Go.Am Go.RowKit
namespace Go.Proofs.Ytdcggjkcbheolaa
open Go.Proofs.Try
def ptrB (n : Int) : Bool := n == 0 || (decide (n ≥ 2) && decide (n < 4096))
end Go.Proofs.Ytdcggjkcbheolaa
end
section
set_option linter.unusedVariables false
set_option maxRecDepth 100000
open Go Go.Am Go.RowKit
namespace Go.Proofs.Ytdcggjkcbheolaa
open Go.Proofs.Try
def nodLay : List Nat := [4, 4, 4, 4, 4, 4, 4, 4, 4]
/-- A node's cells: its level, its pointers. -/
def nc (lv : Int) (ps : List Int) : List Value := .int .i64 lv :: is ps
def anyP (ps : List Int) : Bool := ps.any (· != 0)
def nodOk (lv : Int) (ps : List Int) : Bool := ps.all ptrB && (!(decide (lv < 0)) && (!(decide (lv > 2)) && anyP ps))
end Go.Proofs.Ytdcggjkcbheolaa
end
section
set_option linter.unusedVariables false
set_option maxRecDepth 100000
open Go Go.Am Go.RowKit
namespace Go.Proofs.Ytdcggjkcbheolaa
open Go.Proofs.Try
def nMag : List Int := [78, 79, 68, 69]
def nLay : List (Nat × Nat) := layF 4 nodLay
/-- A node's block. -/
def nodBlock (lv : Int) (ps : List Int) : List Int := makeB nMag nLay (lv :: ps)
end Go.Proofs.Ytdcggjkcbheolaa
end
section
set_option linter.unusedVariables false
set_option maxRecDepth 100000
open Go Go.Am Go.RowKit
namespace Go.Proofs.Ytdcggjkcbheolaa
open Go.Proofs.Try
def nLv (l : List Int) : Int := (leGet l 4 4).1
def nPs (l : List Int) : List Int := [(leGet l 8 4).1, (leGet l 12 4).1, (leGet l 16 4).1, (leGet l 20 4).1, (leGet l 24 4).1, (leGet l 28 4).1, (leGet l 32 4).1, (leGet l 36 4).1]
def nZero : List Int := [0, 0, 0, 0, 0, 0, 0, 0]
def nCode (l : List Int) : Int := if readB nMag nLay l = 0 then (if nodOk (nLv l) (nPs l) then 0 else 1) else readB nMag nLay l
def nCells (l : List Int) : List Value := if nCode l = 0 then nc (nLv l) (nPs l) else nc 0 nZero
end Go.Proofs.Ytdcggjkcbheolaa
end
section
set_option linter.unusedVariables false
namespace Go.Proofs.Ytdcggjkcbheolaa
open Go Go.Am
/- Blocks of numbers: what is made is read. Nothing here names the program. -/
def catB : List Nat → List Int → List Int
  | s :: ss, n :: ns => leB s n ++ catB ss ns
  | _, _ => []
theorem catB_len : ∀ (ss : List Nat) (ns : List Int), ns.length = ss.length → (catB ss ns).length = ss.sum
  | [], _, _ => rfl
  | s :: ss, [], h => by simp at h
  | s :: ss, n :: ns, h => by
    rw [catB, List.length_append, leB_len, catB_len ss ns (by simpa using h), List.sum_cons]
theorem put_cat : ∀ (ss : List Nat) (ns : List Int) (p : List Int) (z a : Nat), p.length = a → ns.length = ss.length → ss.sum ≤ z →
    putF (p ++ List.replicate z 0) ((layF a ss).zip ns) = p ++ catB ss ns ++ List.replicate (z - ss.sum) 0
  | [], ns, p, z, a, hp, hn, hz => by simp [layF, putF, catB]
  | s :: ss, [], p, z, a, hp, hn, hz => by simp at hn
  | s :: ss, n :: ns, p, z, a, hp, hn, hz => by
    have hz' : s + ss.sum ≤ z := by simpa using hz
    have e : layI (p ++ List.replicate z 0) a (leB s n) = (p ++ leB s n) ++ List.replicate (z - s) 0 := by
      unfold layI
      rw [leB_len, List.take_left' hp, List.drop_append, List.drop_of_length_le (by omega), List.nil_append, List.drop_replicate]
      congr 2
      omega
    show putF (layI (p ++ List.replicate z 0) a (leB s n)) ((layF (a + s) ss).zip ns) = _
    rw [e, put_cat ss ns (p ++ leB s n) (z - s) (a + s) (by rw [List.length_append, leB_len, hp]) (by simpa using hn) (by omega)]
    simp only [catB, List.sum_cons, List.append_assoc]
    congr 4
    omega
/-- Numbers that fit. -/
def Fits : List Nat → List Int → Prop
  | s :: ss, n :: ns => (0 ≤ n ∧ n < 256 ^ s ∧ n ≤ 4611686018427387903) ∧ Fits ss ns
  | [], [] => True
  | _, _ => False
theorem makeB_eq {mb : List Int} {ss : List Nat} {ns : List Int} (hm : mb.length = 4) (hn : ns.length = ss.length) (hs : ss.sum ≤ 56) :
    makeB mb (layF 4 ss) ns = mb ++ catB ss ns ++ List.replicate (56 - ss.sum) 0 ++ leB 4 (Crc.sum 0 (mb ++ catB ss ns ++ List.replicate (56 - ss.sum) 0)) := by
  have hc := catB_len ss ns hn
  have e : (putF (mb ++ List.replicate 60 0) ((layF 4 ss).zip ns)).take 60 = mb ++ catB ss ns ++ List.replicate (56 - ss.sum) 0 := by
    rw [put_cat ss ns mb 60 4 hm hn (by omega)]
    rw [List.take_append, List.take_of_length_le (by simp; omega), List.take_replicate]
    congr 2
    simp; omega
  unfold makeB
  rw [e]
theorem makeB_len {mb : List Int} {ss : List Nat} {ns : List Int} (hm : mb.length = 4) (hn : ns.length = ss.length) (hs : ss.sum ≤ 56) : (makeB mb (layF 4 ss) ns).length = 64 := by
  rw [makeB_eq hm hn hs]
  have hc := catB_len ss ns hn
  simp [leB_len]; omega
end Go.Proofs.Ytdcggjkcbheolaa
end
section
namespace Go.Proofs.Ytdcggjkcbheolaa
open Go Go.Am
def bys (l : List Int) : List Crc.W := l.map (fun x => Crc.by8 x.toNat)
end Go.Proofs.Ytdcggjkcbheolaa
end
section
namespace Go.Proofs.Ytdcggjkcbheolaa
open Go Go.Am
/-- A byte changed. -/
def xb (c x : Int) : Int := IntKind.u8.wrap (BitVec.ofInt IntKind.u8.bits c ^^^ BitVec.ofInt IntKind.u8.bits x).toNat
/-- The list behind so many changes from a place on. -/
def chg (b : List Int) (p : Nat) (x : List Int) : Nat → List Int
  | 0 => b
  | n + 1 => (chg b p x n).set (p + n) (xb ((chg b p x n).getD (p + n) 0) (x.getD n 0))
def bytes (l : List Int) : Prop := ∀ x ∈ l, 0 ≤ x ∧ x < 256
end Go.Proofs.Ytdcggjkcbheolaa
end
section
set_option linter.unusedVariables false
set_option maxRecDepth 100000
open Go Go.Am
namespace Go.Proofs.Ytdcggjkcbheolaa
open Go.Proofs.Try
theorem beq_take {l m : List Int} {i : Nat} (hi : i < l.length) (hm : i < m.length) (h : l.take i = m.take i) (he : l[i] = m[i]) : l.take (i + 1) = m.take (i + 1) := by
  rw [List.take_succ_eq_append_getElem hi, List.take_succ_eq_append_getElem hm, h, he]
theorem inc64x {j : Nat} (h : j < 9223372036854775807) : some (Value.int .i64 (fwrap .i64 ((j : Int) + 1))) = some (.int .i64 ((j + 1 : Nat) : Int)) := by
  rw [fw64 (by omega) (by omega)]; rfl
theorem keepBytesX_ok {h : Heap} {A B : Option Addr} {c d : Nat} {l m : List Int} (ra : 0 < l.length → ∃ a, A = some a ∧ Rd h a (us l)) (rb : 0 < m.length → ∃ a, B = some a ∧ Rd h a (us m)) (hm : l.length ≤ 9223372036854775807) :
    RunF prog 12 [.slice A l.length c, .slice B m.length d] h fun v h' => v = .bool (l == m) ∧ h = h' := by
  refine RunF.walk func12 rfl rfl ?_
  refine RunC.seq (RunC.region (RunO.all rfl ?_))
  refine RunC.seq (RunC.seq (RunC.region (RunO.all rfl ?_)))
  by_cases hl : l.length = m.length
  case neg =>
    have e : (l == m) = false := beq_eq_false_iff_ne.2 (fun g => hl (by rw [g]))
    rw [show ((l.length : Int) != (m.length : Int)) = true by simp; omega, e]
    refine RunC.cond rfl (fun _ => ?_) (fun g => by cases g)
    exact RunC.seq (RunC.region (RunO.all rfl (RunC.ret ⟨_, rfl, rfl, rfl⟩)))
  rw [show ((l.length : Int) != (m.length : Int)) = false by simp; omega]
  refine RunC.cond rfl (fun g => by cases g) (fun _ => RunC.skip ?_)
  refine RunC.seq (RunC.seq (RunC.region (RunO.all rfl ?_)))
  refine RunC.block ?_
  let I : Nat → Env → Heap → Prop := fun k E h' => ∃ i : Nat, i + k = l.length ∧ l.take i = m.take i ∧ h = h' ∧ Le (upd (upd (upd E0 0 (.slice A l.length c)) 1 (.slice B m.length d)) 5 (.int .i64 i)) E
  refine RunC.loop I ?_ (k := l.length) ?_
  · rintro k E h' ⟨i, hi, ht, rfl, hE⟩
    refine RunC.le hE ?_
    clear hE
    refine RunC.seq (RunC.seq (RunC.region (RunO.all rfl ?_)))
    refine RunC.cond rfl (fun hlt => ?_) (fun hge => ?_)
    · have hlt := of_decide_eq_true hlt
      have h1 : i < l.length := by omega
      have h2 : i < m.length := by omega
      obtain ⟨⟨b1, o1, s1⟩, rfl, rd1⟩ := ra (by omega)
      obtain ⟨⟨b2, o2, s2⟩, rfl, rd2⟩ := rb (by omega)
      have hs1 : s1 = none := rd1.1
      have hs2 : s2 = none := rd2.1
      subst hs1
      subst hs2
      refine RunC.skip ?_
      refine RunC.seq (RunC.block ?_)
      refine RunC.seq (RunC.draw0 rfl (RunO.part 2 rfl ?_))
      refine RunO.index (s := 1) rfl rfl rfl rfl h1 rfl ?_
      refine RunO.load (v := .int .u8 l[i]) rfl (rd1.cell1 (k := i * 1) rfl (by rw [Nat.mul_one]; exact us_nth h1)) rfl ?_
      refine RunO.part 2 rfl ?_
      refine RunO.index (s := 1) rfl rfl rfl rfl h2 rfl ?_
      refine RunO.load (v := .int .u8 m[i]) rfl (rd2.cell1 (k := i * 1) rfl (by rw [Nat.mul_one]; exact us_nth h2)) rfl ?_
      refine RunO.all rfl ?_
      refine RunC.cond rfl (fun hne => ?_) (fun heq => ?_)
      · have hne : l[i] ≠ m[i] := by simpa using hne
        have e : (l == m) = false := beq_eq_false_iff_ne.2 (fun g => hne (by subst g; rfl))
        rw [e]
        exact RunC.seq (RunC.region (RunO.all rfl (RunC.ret ⟨_, rfl, rfl, rfl⟩)))
      · have heq : l[i] = m[i] := by simpa using heq
        refine RunC.skip (RunC.region (RunO.all rfl ?_))
        exact ⟨k - 1, by omega, i + 1, by omega, beq_take h1 h2 ht heq, rfl, Le.cons (inc64x (by omega)) (Le.cons rfl (Le.cons rfl (Le.nil _)))⟩
    · have hge := of_decide_eq_false hge
      refine RunC.exit ?_
      have hi2 : i = l.length := by omega
      have e : l = m := by
        rw [hi2, List.take_length] at ht
        rw [ht, hl, List.take_length]
      rw [show (l == m) = true by rw [e]; exact beq_self_eq_true _]
      exact RunC.seq (RunC.region (RunO.all rfl (RunC.ret ⟨_, rfl, rfl, rfl⟩)))
  · exact ⟨0, by omega, rfl, rfl, Le.cons rfl (Le.cons rfl (Le.cons rfl (Le.nil _)))⟩
end Go.Proofs.Ytdcggjkcbheolaa
end
section
set_option linter.unusedVariables false
set_option maxRecDepth 100000
open Go Go.Am Go.RowKit
namespace Go.Proofs.Ytdcggjkcbheolaa
open Go.Proofs.Try
end Go.Proofs.Ytdcggjkcbheolaa
end
section
set_option linter.unusedVariables false
set_option maxRecDepth 100000
open Go Go.Am Go.RowKit
namespace Go.Proofs.Ytdcggjkcbheolaa
open Go.Proofs.Try
/-- Is a device one? -/
def devOk (n : Nat) : Bool := n % 64 == 0 && (decide (4 ≤ n / 64) && decide (n / 64 ≤ 4096))
theorem devCheck_ok {h : Heap} {A : Option Addr} {c len : Nat} (hm : len ≤ 4611686018427387904) :
    RunF prog 44 [.slice A len c] h fun v h' => v = .tuple #[.int .i64 (if devOk len then (len / 64 : Nat) else (0 : Nat)), .int .i64 (if devOk len then 0 else 2)] ∧ h = h' := by
  refine RunF.walk func44 rfl rfl ?_
  refine RunC.seq (RunC.region (RunO.all rfl ?_))
  refine RunC.seq (RunC.region (RunO.all rfl ?_))
  have e1 : (len : Int).tdiv 64 = ((len / 64 : Nat) : Int) := by rw [Int.tdiv_eq_ediv_of_nonneg (by omega)]; omega
  have e2 : (len : Int).tmod 64 = ((len % 64 : Nat) : Int) := by rw [Int.tmod_eq_emod_of_nonneg (by omega)]; omega
  rw [e1, fw64 (by omega) (by omega)]
  refine RunC.seq (RunC.seq (RunC.region (RunO.part 3 rfl ?_)))
  rw [e2]
  unfold devOk
  by_cases c1 : len % 64 = 0
  · refine RunO.part 2 rfl ?_
    rw [show (((len % 64 : Nat) : Int) != 0) = false by rw [c1]; rfl]
    by_cases c2 : 4 ≤ len / 64
    · refine RunO.part 4 rfl ?_
      rw [show decide (((len / 64 : Nat) : Int) < 4) = false from decide_eq_false (by omega)]
      refine RunO.all rfl ?_
      by_cases c3 : len / 64 ≤ 4096
      · rw [show decide (((len / 64 : Nat) : Int) > 4096) = false from decide_eq_false (by omega)]
        refine RunC.cond rfl (fun g => by cases g) (fun _ => RunC.skip ?_)
        rw [show (len % 64 == 0 && (decide (4 ≤ len / 64) && decide (len / 64 ≤ 4096))) = true by simp [c1, c2, c3]]
        exact RunC.seq (RunC.region (RunO.all rfl (RunC.ret ⟨_, rfl, rfl, rfl⟩)))
      · rw [show decide (((len / 64 : Nat) : Int) > 4096) = true from decide_eq_true (by omega)]
        refine RunC.cond rfl (fun _ => ?_) (fun g => by cases g)
        rw [show (len % 64 == 0 && (decide (4 ≤ len / 64) && decide (len / 64 ≤ 4096))) = false by simp [c3]]
        exact RunC.seq (RunC.region (RunO.all rfl (RunC.ret ⟨_, rfl, rfl, rfl⟩)))
    · refine RunO.part 4 rfl ?_
      rw [show decide (((len / 64 : Nat) : Int) < 4) = true from decide_eq_true (by omega)]
      refine RunO.all rfl ?_
      refine RunC.cond rfl (fun _ => ?_) (fun g => by cases g)
      rw [show (len % 64 == 0 && (decide (4 ≤ len / 64) && decide (len / 64 ≤ 4096))) = false by simp [c2]]
      exact RunC.seq (RunC.region (RunO.all rfl (RunC.ret ⟨_, rfl, rfl, rfl⟩)))
  · refine RunO.part 2 rfl ?_
    rw [show (((len % 64 : Nat) : Int) != 0) = true by simp; omega]
    refine RunO.all rfl ?_
    refine RunC.cond rfl (fun _ => ?_) (fun g => by cases g)
    rw [show (len % 64 == 0 && (decide (4 ≤ len / 64) && decide (len / 64 ≤ 4096))) = false by simp [c1]]
    exact RunC.seq (RunC.region (RunO.all rfl (RunC.ret ⟨_, rfl, rfl, rfl⟩)))
/-- A block of a device. -/
def blkI (l : List Int) (i : Nat) : List Int := (l.drop (i * 64)).take 64
theorem blkI_len {l : List Int} {i : Nat} (h : (i + 1) * 64 ≤ l.length) : (blkI l i).length = 64 := by unfold blkI; rw [List.length_take, List.length_drop]; omega
theorem rdBlk {h : Heap} {b o : Nat} {l : List Int} {i : Nat} (rd : Rd h ⟨b, o, none⟩ (us l)) (hi : (i + 1) * 64 ≤ l.length) : Rd h ⟨b, o + i * 64, none⟩ (us (blkI l i)) := by
  obtain ⟨h1, h2, ob, ho, he⟩ := rd
  refine ⟨rfl, h2, ob, ho, ?_⟩
  have hl := congrArg List.length he
  rw [List.length_take, List.length_drop, us_len] at hl
  simp only at hl he ⊢
  have e : us (blkI l i) = ((us l).drop (i * 64)).take 64 := by unfold blkI us; rw [List.map_take, List.map_drop]
  rw [us_len, blkI_len hi, e]
  apply List.ext_getElem?
  intro j
  rw [List.getElem?_take, List.getElem?_take]
  split
  · rename_i hj
    rw [List.getElem?_drop, List.getElem?_drop]
    conv => rhs; rw [← he]
    rw [us_len, List.getElem?_take, if_pos (by omega), List.getElem?_drop]
    congr 1; omega
  · rfl
theorem devOf_ok {h : Heap} {b o c i : Nat} {l : List Int} (hi : (i + 1) * 64 ≤ l.length) (hm : l.length ≤ 4611686018427387904) (hc : Cp 1 l.length c) :
    RunF prog 41 [.slice (some ⟨b, o, none⟩) l.length c, .int .i64 i] h fun v h' => (∃ c', Cp 1 64 c' ∧ v = .slice (some ⟨b, o + i * 64, none⟩) 64 c') ∧ h = h' := by
  refine RunF.walk func41 rfl rfl ?_
  refine RunC.seq (RunC.region (RunO.all rfl ?_))
  refine RunC.seq (RunC.region (RunO.part 6 rfl ?_))
  rw [fw64 (x := (i : Int) + 1) (by omega) (by omega), fw64 (x := (i : Int) * 64) (by omega) (by omega), fw64 (x := ((i : Int) + 1) * 64) (by omega) (by omega), show (i : Int) * 64 = ((i * 64 : Nat) : Int) by omega, show ((i : Int) + 1) * 64 = (((i + 1) * 64 : Nat) : Int) by omega]
  refine RunO.sliceMid (s := 1) rfl rfl rfl rfl rfl hc (by omega) hi rfl ?_
  intro c' hc'
  have e : (i + 1) * 64 - i * 64 = 64 := by omega
  rw [e] at hc' ⊢
  refine RunO.all rfl (RunC.ret ⟨_, rfl, ⟨c', hc', ?_⟩, rfl⟩)
  rw [Nat.mul_one]
end Go.Proofs.Ytdcggjkcbheolaa
end
section
set_option linter.unusedVariables false
set_option maxRecDepth 100000
open Go Go.Am Go.RowKit
namespace Go.Proofs.Ytdcggjkcbheolaa
open Go.Proofs.Try
/-- The node that a block tells; none: no pointers. -/
def nodV (l : List Int) : Int × List Int := if nCode l = 0 then (nLv l, nPs l) else (0, nZero)
def atIn (B : Nat) (at_ : Int) : Bool := !(decide (at_ < 2) || decide (at_ ≥ (B : Int)))
def atV (L : List Int) (B : Nat) (at_ : Int) : Int × List Int := if atIn B at_ then nodV (blkI L at_.toNat) else (0, nZero)
def atIs (L : List Int) (B : Nat) (at_ lv : Int) : Bool := atIn B at_ && (nCode (blkI L at_.toNat) == 0 && (atV L B at_).1 == lv)
/-- A walk through a tree: the map, the nodes, is it none? -/
abbrev TS := List Int × List Int × Bool
def tstep (rec_ : Int → Nat → TS → TS) (B : Nat) (leaf : Bool) (w : TS) (p : Int) (to_ : Nat) : TS :=
  if w.2.2 then w else if decide (p ≥ (B : Int)) then (w.1, w.2.1, true) else if p != 0 && leaf then (w.1.set to_ p, w.2.1, w.2.2) else if p != 0 then rec_ p to_ w else w
def tbody (L : List Int) (B lv : Nat) (rec_ : Int → Nat → TS → TS) (at_ : Int) (from_ : Nat) (w : TS) : TS :=
  if !atIs L B at_ (lv : Int) || w.2.1.contains at_ then (w.1, w.2.1, true)
  else (List.range 8).foldl (fun w i => tstep rec_ B (lv == 0) w ((atV L B at_).2.getD i 0) (from_ + i * 8 ^ lv)) (w.1, w.2.1 ++ [at_], w.2.2)
def tgo (L : List Int) (B : Nat) : Nat → Int → Nat → TS → TS
  | 0 => tbody L B 0 (fun _ _ w => w)
  | k + 1 => tbody L B (k + 1) (tgo L B k)
def trec (L : List Int) (B : Nat) : Nat → Int → Nat → TS → TS
  | 0 => fun _ _ w => w
  | k + 1 => tgo L B k
/-- So many nodes at most. -/
def nN : Nat → Nat
  | 0 => 1
  | k + 1 => 1 + 8 * nN k
def rN : Nat → Nat
  | 0 => 0
  | k + 1 => nN k
end Go.Proofs.Ytdcggjkcbheolaa
end
section
set_option linter.unusedVariables false
set_option maxRecDepth 100000
open Go Go.Am Go.RowKit
namespace Go.Proofs.Ytdcggjkcbheolaa
open Go.Proofs.Try
end Go.Proofs.Ytdcggjkcbheolaa
end
section
set_option linter.unusedVariables false
namespace Go.Am
open Go.RowKit
section
variable {P : Program} {n : Nat} {ops rest : List Oper} {E E1 : Env} {h h1 : Heap} {Q : Env → Heap → Prop}
theorem RunO.step {o : Oper} (e : estep P n ops E h o = some (E1, h1)) (r : RunO P n ops rest E1 h1 Q) : RunO P n ops (o :: rest) E h Q := by
  refine RunO.part (E1 := E1) (h1 := h1) 1 ?_ r
  show eops P n ops [o] E h = _
  simp only [eops, e]
theorem RunQ.step {o : Oper} (e : epst P n ops E o = some E1) (r : RunQ P n ops rest E1 h Q) : RunQ P n ops (o :: rest) E h Q := by
  refine RunQ.part (E1 := E1) 1 ?_ r
  show epures P n ops [o] E = _
  simp only [epures, e]
/-- An element looked at under a guard. -/
theorem RunO.atG {d d2 : Tmp} {t ty ty2 e : TypeId} {x i : Operand} {pos pos2 : String} {after after2 : Array Edge} {gd gd2 : Option (Nat × Bool)} {v : Value} {m s k : Nat} {ik : IntKind} {cells : List Value} {u : Value}
    (hw : ewanted ops E ⟨some d, .indexAddr t x i, ty, pos, after, gd⟩ = some true) (hw2 : ∀ p, ewanted ops (upd E d (.pointer p)) ⟨some d2, .load e (.tmp d), ty2, pos2, after2, gd2⟩ = some true)
    (hx : gE E x = some v) (hi : gE E i = some (.int ik (k : Int))) (sl : Sl h v s m cells) (hu : P.underlying t = some (.slice e)) (hs : sizeOf P e = some s) (hk : k < m) (hv : apart P e cells (k * s) = some u)
    (hd : Nat.ble (Nat.succ d) n = true) (hd2 : Nat.ble (Nat.succ d2) n = true) (hE : E d = none)
    (r : RunO P n ops rest (upd E d2 u) h Q) : RunO P n ops (⟨some d, .indexAddr t x i, ty, pos, after, gd⟩ :: ⟨some d2, .load e (.tmp d), ty2, pos2, after2, gd2⟩ :: rest) E h Q := by
  obtain ⟨b, o, c, rfl, hc, rd⟩ := sl.nz (by omega)
  have hi' : gE E i = some (.int ik (.ofNat k)) := hi
  refine RunO.oneG (h1 := h) (v := .pointer (some ⟨b, o + k * s, none⟩)) (E1 := upd E d (.pointer (some ⟨b, o + k * s, none⟩))) hw ?_ (by simp only [eput, hd, cond_true]) ?_
  · simp only [eop, hx, hi', aindexAddr, hu, hs, Nat.ble_eq_true_of_le (show Nat.succ k ≤ m from hk), cond_true]
    rfl
  refine RunO.loadG (v := u) (a := ⟨b, o + k * s, none⟩) (hw2 _) (by show upd E d _ d = _; unfold upd; rw [Nat.beq_refl]; rfl) (rd.part hv) hd2 ?_
  exact r.le (upd2_le hE)
theorem Ow.ld {b off : Nat} {cs : List Value} {t : TypeId} {v : Value} (r : Ow h b cs) (e : apart P t cs off = some v) : aload P h t ⟨b, off, none⟩ = some v := by
  have := r.all.part (k := off) e
  rwa [Nat.zero_add] at this
end
end Go.Am
end
section
set_option linter.unusedVariables false
set_option maxRecDepth 100000
open Go Go.Am Go.RowKit
namespace Go.Proofs.Ytdcggjkcbheolaa
open Go.Proofs.Try
end Go.Proofs.Ytdcggjkcbheolaa
end
section
set_option linter.unusedVariables false
set_option maxRecDepth 100000
open Go Go.Am Go.RowKit
namespace Go.Proofs.Ytdcggjkcbheolaa
open Go.Proofs.Try
end Go.Proofs.Ytdcggjkcbheolaa
end
section
set_option linter.unusedVariables false
set_option maxRecDepth 100000
open Go Go.Am Go.RowKit
namespace Go.Proofs.Ytdcggjkcbheolaa
open Go.Proofs.Try
/-- The cells of a walk. -/
def wc (iv : Value) (B : Nat) (mv nv : Value) (bad : Bool) : List Value := [iv, .int .i64 (B : Int), mv, nv, .bool bad]
/-- A walk through a tree, in memory: its own block, the map's, the nodes' row. -/
structure TW (lo : Nat) (h : Heap) (iv : Value) (B wb mb : Nat) (nv : Value) (w : TS) : Prop where
  ow : Ow h wb (wc iv B (.slice (some ⟨mb, 0, none⟩) 512 (exc 512)) nv w.2.2)
  om : Ow h mb (is w.1)
  row : Row lo h nv 1 w.2.1.length (is w.2.1)
  len : w.1.length = 512
  ne : wb ≠ mb
  lw : wb < lo
  lm : mb < lo
  ln : lo ≤ h.next
/-- What a walk writes. -/
def TM (lo wb mb : Nat) : Nat → Prop := fun b => b = wb ∨ b = mb ∨ lo ≤ b
def GoesOk (L : List Int) (B lo wb mb : Nat) (iv : Value) (lv : Nat) : Prop := ∀ {h : Heap} {nv : Value} {w : TS} {at_ : Int} {from_ : Nat},
    Sl h iv 1 L.length (us L) → TW lo h iv B wb mb nv w → w.2.1.length + nN lv ≤ 100000 → from_ + 8 ^ (lv + 1) ≤ 512 → w.2.2 = false →
    RunF prog 107 [.pointer (some ⟨wb, 0, none⟩), .int .i64 at_, .int .i64 (lv : Int), .int .i64 (from_ : Int)] h fun v h' => v = .tuple #[] ∧ ∃ nv', TW lo h' iv B wb mb nv' (tgo L B lv at_ from_ w) ∧ Fr (TM lo wb mb) h h'
end Go.Proofs.Ytdcggjkcbheolaa
end
section
set_option linter.unusedVariables false
set_option maxRecDepth 100000
open Go Go.Am
namespace Go.Proofs.Ytdcggjkcbheolaa
open Go.Proofs.Try
end Go.Proofs.Ytdcggjkcbheolaa
end
section
set_option linter.unusedVariables false
set_option maxRecDepth 100000
open Go Go.Am Go.RowKit
namespace Go.Proofs.Ytdcggjkcbheolaa
open Go.Proofs.Try
def treeW (L : List Int) (root : Int) : TS := tgo L (L.length / 64) 2 root 0 (List.replicate 512 0, [], false)
/-- Is there a tree at a root of a right device? -/
def treeOk (L : List Int) (root : Int) : Bool := root == 0 || (!(treeW L root).2.2 && !((treeW L root).1.any fun b => (treeW L root).2.1.contains b))
def treeM (L : List Int) (root : Int) : List Int := if root == 0 then List.replicate 512 0 else (treeW L root).1
def treeN (L : List Int) (root : Int) : List Int := if root == 0 then [] else (treeW L root).2.1
/-- A walk that is told. -/
def WK (lo : Nat) (h : Heap) (wb : Nat) (iv : Value) (B : Nat) (m ns : List Int) : Prop :=
  ∃ mb nv, lo ≤ wb ∧ lo ≤ mb ∧ Ow h wb (wc iv B (.slice (some ⟨mb, 0, none⟩) 512 (exc 512)) nv false) ∧ Ow h mb (is m) ∧ Row lo h nv 1 ns.length (is ns) ∧ m.length = 512 ∧ ns.length ≤ 73
end Go.Proofs.Ytdcggjkcbheolaa
end
section
set_option linter.unusedVariables false
set_option maxRecDepth 100000
open Go Go.Am Go.RowKit
namespace Go.Proofs.Ytdcggjkcbheolaa
open Go.Proofs.Try
/-- Why there is no tree. -/
def treeE (L : List Int) (root : Int) : Int := if devOk L.length then (if treeOk L root then 0 else 6) else 2
def secOk (s : Int) : Bool := !(decide (s < 0) || decide (s ≥ 512))
/-- Why a sector has no block. -/
def sectorE (L : List Int) (root s : Int) : Int := if treeE L root = 0 then (if secOk s then 0 else 3) else treeE L root
def sectorV (L : List Int) (root s : Int) : Int := if treeE L root = 0 then (if secOk s then (treeM L root).getD s.toNat 0 else 0) else 0
def offMap (B b : Int) : Bool := b != 0 && (decide (b < 2) || decide (b ≥ B))
/-- Why a map is none. -/
def mapE (m : List Int) (B : Int) : Int := if m.length = 512 then (if m.any (offMap B) then 1 else 0) else 2
end Go.Proofs.Ytdcggjkcbheolaa
end
section
set_option linter.unusedVariables false
set_option maxRecDepth 100000
open Go Go.Am
namespace Go.Proofs.Ytdcggjkcbheolaa
open Go.Proofs.Try
end Go.Proofs.Ytdcggjkcbheolaa
end
section
set_option linter.unusedVariables false
set_option maxRecDepth 100000
open Go Go.Am
namespace Go.Proofs.Ytdcggjkcbheolaa
open Go.Proofs.Try
abbrev IoT := Int × Int × List Int × Unit
/-- A device step's cells. -/
def IoK (h : Heap) (x : IoT) (cs : List Value) : Prop := ∃ dv, cs = [.int .i64 x.1, .int .i64 x.2.1, dv] ∧ Sl h dv 1 x.2.2.1.length (us x.2.2.1) ∧ Byt x.2.2.1
/-- A slice of device steps. -/
def Ios (h : Heap) (v : Value) (l : List IoT) : Prop := ∃ acs, Sl h v 3 l.length acs ∧ ∀ (j : Nat) (x : IoT), l[j]? = some x → IoK h x ((acs.drop (j * 3)).take 3)
theorem clone8_ok {h : Heap} {v : Value} {l : List Int} (sl : Sl h v 1 l.length (us l)) (hb : 2 * l.length ≤ 281474976710656) :
    RunF prog 56 [v] h fun r h' => Osl h.next h' r 1 l.length (us l) ∧ Fr no h h' ∧ (l.length = 0 → h.next ≤ h'.next) := by
  refine RunF.walk func56 rfl rfl ?_
  refine RunC.seq (RunC.region (RunO.all rfl ?_))
  obtain ⟨hl, hm, ⟨rfl, h0⟩ | ⟨b, o, c, rfl, hc, rd⟩⟩ := sl
  · refine RunC.seq (RunC.seq (RunC.region (RunO.all rfl ?_)))
    refine RunC.cond rfl (fun _ => ?_) (fun g => by cases g)
    exact RunC.seq (RunC.region (RunO.all rfl (RunC.ret ⟨_, rfl, ⟨hl, hm, .inl ⟨rfl, h0⟩⟩, Fr.refl _ _, fun _ => Nat.le_refl _⟩)))
  · refine RunC.seq (RunC.seq (RunC.region (RunO.all rfl ?_)))
    refine RunC.cond rfl (fun g => by cases g) (fun _ => RunC.skip ?_)
    refine RunC.seq (RunC.region (RunO.part 2 (h1 := h.push ⟨[], true⟩) rfl ?_))
    have f1 : Fr no h (h.push ⟨[], true⟩) := Fr.push _ _ _
    have ow : Ow (h.push ⟨[], true⟩) h.next [] := Ow.push _ _
    by_cases hz : l.length = 0
    · have hn : l = [] := List.eq_nil_of_length_eq_zero hz
      subst hn
      have key : aappend prog (h.push ⟨[], true⟩) 23 23 (.slice (some ⟨h.next, 0, none⟩) 0 (exc 0)) (.slice (some ⟨b, o, none⟩) 0 c) = some (.slice (some ⟨h.next, 0, none⟩) 0 (exc 0), h.push ⟨[], true⟩) := by
        have hs : asrc (h.push ⟨[], true⟩) 1 (.slice (some ⟨b, o, none⟩) 0 c) = some (0, []) := ((rd.fr f1 (fun g => g)).sl (s := 1) (n := 0) rfl (Nat.zero_le _) hc).src0
        show (match asrc (h.push ⟨[], true⟩) 1 (.slice (some ⟨b, o, none⟩) 0 c) with
          | some (0, _) => some (Value.slice (some ⟨h.next, 0, none⟩) 0 (exc 0), h.push ⟨[], true⟩)
          | some (m + 1, news) => _
          | none => none) = _
        rw [hs]
      refine RunO.one rfl (v := .slice (some ⟨h.next, 0, none⟩) 0 (exc 0)) (h1 := h.push ⟨[], true⟩) (abuiltin_app key) rfl ?_
      exact RunO.all rfl (RunC.ret ⟨_, rfl, ⟨rfl, hm, .inr ⟨h.next, exc 0, Nat.le_refl _, rfl, Cp.exc (Nat.le_refl _), ow⟩⟩, f1, fun _ => Nat.le_succ _⟩)
    · have key := append_full (P := prog) (t := 23) (e := 5) (s := 1) (k := 0) (m := l.length) (c := exc 0) (c' := c) (olds := []) (news := us l) (b := ⟨h.next, 0, none⟩) (a := ⟨b, o, none⟩) rfl rfl rfl rfl rfl (Nat.le_refl 1) ow.all rfl rfl (by show 0 < 0 + l.length; omega) (rd.fr f1 (fun g => g)) (by rw [us_len, Nat.mul_one]) (by omega)
        (by show 2 * (0 + l.length) * 1 ≤ _; omega) (by omega)
      rw [Nat.zero_add, List.nil_append] at key
      refine RunO.one rfl (abuiltin_app key) rfl ?_
      refine RunO.all rfl (RunC.ret ⟨_, rfl, ⟨hl, hm, .inr ⟨_, _, Nat.le_succ _, rfl, Cp.unkc _ _, Ow.push _ _⟩⟩, f1.same (Fr.push _ _ _), fun _ => Nat.le_succ_of_le (Nat.le_succ _)⟩)
/-- Is a step right? -/
def ioR (k a : Int) (n : Nat) (b : Int) : Bool := if (k == 1) = true then decide (a ≥ 0) && (decide (a < b) && ((n : Int) == 64)) else if (k == 2) = true then a == 0 && ((n : Int) == 0) else false
/-- Why steps are not a device's. -/
def stepsE (n : Nat) (l : List IoT) : Int := if devOk n then (if decide ((l.length : Int) > 1048576) then 2 else if l.any (fun x => !ioR x.1 x.2.1 x.2.2.1.length (n / 64 : Nat)) then 1 else 0) else 2
end Go.Proofs.Ytdcggjkcbheolaa
end
section
set_option linter.unusedVariables false
set_option maxRecDepth 100000
open Go Go.Am
namespace Go.Proofs.Ytdcggjkcbheolaa
open Go.Proofs.Try
/-- A block written over. -/
def setBlk (o : List Int) (i : Nat) (d : List Int) : List Int := o.take (i * 64) ++ d ++ o.drop (i * 64 + 64)
def applyStep (o : List Int) (x : IoT) : List Int := if (x.1 == 1) = true then setBlk o x.2.1.toNat x.2.2.1 else o
def applyL (o : List Int) (l : List IoT) : List Int := l.foldl applyStep o
/-- A step that is right. -/
def ioOk (n : Nat) (x : IoT) : Prop := x.1 = 1 ∧ (∃ a : Nat, x.2.1 = (a : Int) ∧ a < n / 64) ∧ x.2.2.1.length = 64 ∨ x.1 = 2 ∧ x.2.1 = 0 ∧ x.2.2.1 = []
end Go.Proofs.Ytdcggjkcbheolaa
end
section
set_option linter.unusedVariables false
set_option maxRecDepth 100000
open Go Go.Am Go.RowKit
namespace Go.Proofs.Ytdcggjkcbheolaa
open Go.Proofs.Try
/-- A node of one pointer. -/
def oneP (k : Nat) (p : Int) : List Int := nZero.set k p
/-- A device with a tree of one sector, so many nodes of it written: its bytes, what the next one leads to. -/
def chainI (B at_ sec : Nat) (data : Int) : Nat → List Int × Int
  | 0 => (List.replicate (B * 64) 0, data)
  | i + 1 => (setBlk (chainI B at_ sec data i).1 (at_ + i) (nodBlock i (oneP (sec / 8 ^ i % 8) (chainI B at_ sec data i).2)), ((at_ + i : Nat) : Int))
def chain (B at_ sec : Nat) (data : Int) : List Int := (chainI B at_ sec data 3).1
end Go.Proofs.Ytdcggjkcbheolaa
end
section
set_option linter.unusedVariables false
set_option maxRecDepth 100000
open Go Go.Am Go.RowKit
namespace Go.Proofs.Ytdcggjkcbheolaa
open Go.Proofs.Try
theorem us_zeros (n : Nat) : us (List.replicate n 0) = List.replicate n (Value.int .u8 0) := by unfold us; rw [List.map_replicate]
theorem reps_us (n : Nat) : reps (cellsOf (Value.int .u8 0)) n = us (List.replicate n 0) := by rw [us_zeros]; exact reps_one _ _
end Go.Proofs.Ytdcggjkcbheolaa
end
section
open Go Go.Am Go.RowKit
namespace Go.Proofs.Ytdcggjkcbheolaa
open Go.Proofs.Try
theorem mixed : prog.follows .mixedOrders = true := by kernel_rfl
theorem routines : noRoutine prog = true := by kernel_rfl
end Go.Proofs.Ytdcggjkcbheolaa
end
section
set_option linter.unusedVariables false
set_option maxRecDepth 100000
open Go Go.Am Go.RowKit
namespace Go.Proofs.Ytdcggjkcbheolaa
open Go.Proofs.Try
theorem sl_own {h : Heap} {b c n : Nat} {l : List Int} (ow : Ow h b (us l)) (hl : l.length = n) (hc : Cp 1 n c) (hn : n ≤ 9223372036854775807) : Sl h (.slice (some ⟨b, 0, none⟩) n c) 1 l.length (us l) := by
  subst hl
  exact ow.all.sl (by rw [us_len, Nat.mul_one]) hn hc
end Go.Proofs.Ytdcggjkcbheolaa
end
section
set_option linter.unusedVariables false
set_option maxRecDepth 100000
open Go Go.Am Go.RowKit
namespace Go.Proofs.Ytdcggjkcbheolaa
open Go.Proofs.Try
/-- What a pointer of a level leads to, for a place under it; level 0: a sector's block. -/
def look (L : List Int) (B : Nat) : Nat → Int → Nat → Int
  | 0, p, _ => p
  | k + 1, p, s => if p = 0 then 0 else look L B k ((atV L B p).2.getD (s / 8 ^ k) 0) (s % 8 ^ k)
/-- Along the way to a place each node is one, of its level. -/
def pathOk (L : List Int) (B : Nat) : Nat → Int → Nat → Prop
  | 0, _, _ => True
  | k + 1, p, s => p ≠ 0 → atIs L B p (k : Int) = true ∧ pathOk L B k ((atV L B p).2.getD (s / 8 ^ k) 0) (s % 8 ^ k)
/-- The fold of a node's pointers, as it goes. -/
def tst (L : List Int) (B lv : Nat) (ps : List Int) (f : Nat) (w : TS) (i : Nat) : TS := tstep (trec L B lv) B (lv == 0) w (ps.getD i 0) (f + i * 8 ^ lv)
/-- What a walk that ends well has done. -/
structure TSpec (L : List Int) (B lv : Nat) (a : Int) (f : Nat) (w r : TS) : Prop where
  is_ : atIs L B a (lv : Int) = true
  new : w.2.1.contains a = false
  ns : ∃ t, r.2.1 = w.2.1 ++ a :: t
  nd : w.2.1.Nodup → r.2.1.Nodup
  m : ∀ s, s < 512 → r.1.getD s 0 = if f ≤ s ∧ s < f + 8 ^ (lv + 1) then look L B (lv + 1) a (s - f) else w.1.getD s 0
  path : ∀ s, s < 8 ^ (lv + 1) → pathOk L B (lv + 1) a s
  all : ∀ x ∈ r.2.1, x ∈ w.2.1 ∨ ∃ k, k ≤ lv ∧ atIs L B x (k : Int) = true
  bnd : ∀ x ∈ r.1, x ∈ w.1 ∨ x = 0 ∨ x < B
def SpecAt (L : List Int) (B lv : Nat) : Prop := ∀ (a : Int) (f : Nat) (w : TS), f + 8 ^ (lv + 1) ≤ 512 → w.1.length = 512 → w.2.2 = false → (∀ s, f ≤ s → s < f + 8 ^ (lv + 1) → w.1.getD s 0 = 0) → (tgo L B lv a f w).2.2 = false → TSpec L B lv a f w (tgo L B lv a f w)
structure FSpec (L : List Int) (B lv : Nat) (ps : List Int) (f : Nat) (m ns : List Int) (i : Nat) (r : TS) : Prop where
  len : r.1.length = 512
  tail : ∃ t, r.2.1 = ns ++ t
  nd : ns.Nodup → r.2.1.Nodup
  map : ∀ s, s < 512 → r.1.getD s 0 = if f ≤ s ∧ s < f + i * 8 ^ lv then look L B lv (ps.getD ((s - f) / 8 ^ lv) 0) ((s - f) % 8 ^ lv) else m.getD s 0
  path : ∀ j, j < i → ∀ s, s < 8 ^ lv → pathOk L B lv (ps.getD j 0) s
  all : ∀ x ∈ r.2.1, x ∈ ns ∨ ∃ k, k ≤ lv ∧ atIs L B x (k : Int) = true
  bnd : ∀ x ∈ r.1, x ∈ m ∨ x = 0 ∨ x < B
end Go.Proofs.Ytdcggjkcbheolaa
end
section
set_option linter.unusedVariables false
set_option maxRecDepth 100000
open Go Go.Am
namespace Go.Proofs.Ytdcggjkcbheolaa
open Go.Proofs.Try
def leNum (l : List Int) : Int × Bool := if leN l > 4611686018427387903 then (0, false) else (leN l, true)
end Go.Proofs.Ytdcggjkcbheolaa
end
section
set_option linter.unusedVariables false
set_option maxRecDepth 100000
open Go Go.Am Go.RowKit
namespace Go.Proofs.Ytdcggjkcbheolaa
open Go.Proofs.Try
end Go.Proofs.Ytdcggjkcbheolaa
end
section
set_option linter.unusedVariables false
set_option maxRecDepth 100000
open Go Go.Am Go.RowKit
namespace Go.Proofs.Ytdcggjkcbheolaa
open Go.Proofs.Try
end Go.Proofs.Ytdcggjkcbheolaa
end
section
set_option linter.unusedVariables false
set_option maxRecDepth 100000
open Go Go.Am Go.RowKit
namespace Go.Proofs.Ytdcggjkcbheolaa
open Go.Proofs.Try
end Go.Proofs.Ytdcggjkcbheolaa
end
section
set_option linter.unusedVariables false
set_option maxRecDepth 100000
open Go Go.Am Go.RowKit
namespace Go.Proofs.Ytdcggjkcbheolaa
open Go.Proofs.Try
theorem keepBytesSX_ok {h : Heap} {v w : Value} {l m : List Int} (sl : Sl h v 1 l.length (us l)) (sm : Sl h w 1 m.length (us m)) :
    RunF prog 12 [v, w] h fun v h' => v = .bool (l == m) ∧ h = h' := by
  have hm := sl.2.1
  obtain ⟨A, c, rfl, _, hA⟩ := sl.form
  obtain ⟨B, d, rfl, _, hB⟩ := sm.form
  exact keepBytesX_ok (fun hl => by obtain ⟨b, o, rfl, rd⟩ := hA hl; exact ⟨_, rfl, rd⟩) (fun hl => by obtain ⟨b, o, rfl, rd⟩ := hB hl; exact ⟨_, rfl, rd⟩) hm
def mapG (L : List Int) (root : Int) : List Int := if treeE L root = 0 then treeM L root else []
def nodG (L : List Int) (root : Int) : List Int := if treeE L root = 0 then treeN L root else []
end Go.Proofs.Ytdcggjkcbheolaa
end
section
set_option linter.unusedVariables false
namespace Go.Am
open Go.RowKit
variable {P : Program}
/-- A row appended to lies in a new block. -/
theorem append_row2 {h : Heap} {t e : TypeId} {i : TypeInfo} {z : Value} {lo s k m c' : Nat} {xv : Value} {cells news : List Value} {a : Addr}
    (hu : P.underlying t = some (.slice e)) (hi : P.info? e = some i) (hz : zeroOf P e = some z) (hlz : lenIs (cellsOf z) i.size = true) (hs : i.size = s) (hs1 : 1 ≤ s) (row : Row lo h xv s k cells)
    (rd : Rd h a news) (hn : news.length = m * s) (hm : 1 ≤ m) (ha : allCells news = true) (hb : 2 * (k + m) * i.bytes ≤ 281474976710656) (hb2 : k + m ≤ 9223372036854775807) :
    ∃ v' h', aappend P h t t xv (.slice (some a) m c') = some (v', h') ∧ Row h.next h' v' s (k + m) (cells ++ news) ∧ Fr (At xv) h h' := by
  have row2 : Row 0 h xv s k cells := ⟨row.1, row.2.imp (fun x => x) (fun ⟨b, _, h2⟩ => ⟨b, Nat.zero_le _, h2⟩)⟩
  have hgen : ∀ lo', Row lo' h xv s k cells → lo' ≤ h.next → ∃ v' h', aappend P h t t xv (.slice (some a) m c') = some (v', h') ∧ Row lo' h' v' s (k + m) (cells ++ news) ∧ Fr (At xv) h h' :=
    fun lo' r hl => append_row hu hi hz hlz hs hs1 r hl rd hn hm ha hb hb2
  rcases row.2 with ⟨rfl, hk⟩ | ⟨b, hb1, rfl, ow⟩
  · exact hgen h.next ⟨row.1, .inl ⟨rfl, hk⟩⟩ (Nat.le_refl _)
  · obtain ⟨v', h', e1, r1, f1⟩ := hgen 0 row2 (Nat.zero_le _)
    refine ⟨v', h', e1, ⟨r1.1, .inr ?_⟩, f1⟩
    obtain ⟨hl, _⟩ := row
    subst hs
    obtain ⟨m, rfl⟩ : ∃ j, m = j + 1 := ⟨m - 1, by omega⟩
    have hr : asrc h i.size (.slice (some a) (m + 1) c') = some (m + 1, news) := by
      have hq : aread h a (Nat.mul (m + 1) i.size) = some (news.take ((m + 1) * i.size)) := rd.read0 (m := (m + 1) * i.size) (by omega)
      simp only [asrc, hq]
      rw [List.take_of_length_le (by omega)]
    have e1' : Nat.ble (Nat.mul (Nat.mul 2 (Nat.add k (Nat.succ m))) i.bytes) 281474976710656 = true := Nat.ble_eq_true_of_le hb
    have e2 : Nat.ble (Nat.add k (Nat.succ m)) 9223372036854775807 = true := Nat.ble_eq_true_of_le hb2
    have e3 : aread h ⟨b, 0, none⟩ (Nat.mul k i.size) = some cells := by
      have := ow.all.read0 (m := k * i.size) (by omega)
      rw [List.take_of_length_le (by omega)] at this
      exact this
    have e4 : lenIs cells (Nat.add 0 (Nat.mul k i.size)) = true := (lenIs_iff _ _).2 (by show _ = 0 + k * i.size; omega)
    have key : aappend P h t t (.slice (some ⟨b, 0, none⟩) k (unkc i.size)) (.slice (some a) (m + 1) c') = some (.slice (some ⟨h.next, 0, none⟩) (k + (m + 1)) (unkc i.size), (h.put b none).push ⟨cells ++ news, true⟩) := by
      simp only [aappend, hu, Nat.beq_refl, cond_true, hi, hz, hlz, Nat.ble_eq_true_of_le hs1, hr, e1', e2, e3, unk_unkc, half_unkc, ow.2, e4, ha]
      rfl
    rw [key] at e1
    cases e1
    exact ⟨h.next, Nat.le_refl _, rfl, Ow.push _ _⟩
section
variable {n : Nat} {ops rest : List Oper} {E E1 : Env} {h h1 : Heap} {Q : Env → Heap → Prop}
end
end Go.Am
end
section
set_option linter.unusedVariables false
namespace Go.Am
open Go.RowKit
/- A region that draws its order: its first operations write nothing old, and only these are drawn; what comes behind may write. -/
theorem aopsC_append {P : Program} {cf : CallF} {n : Nat} {ops : List Oper} : ∀ (pre post : List Oper) {T T1 T2 : Tr Value} {h h1 h2 : Heap} {f1 f2 : List Fp}, aopsC P cf n ops pre T h = some (T1, h1, f1) → aopsC P cf n ops post T1 h1 = some (T2, h2, f2) → aopsC P cf n ops (pre ++ post) T h = some (T2, h2, f1 ++ f2)
  | [], post, T, T1, T2, h, h1, h2, f1, f2, a, b => by
    cases a; exact b
  | o :: l, post, T, T1, T2, h, h1, h2, f1, f2, a, b => by
    rw [List.cons_append]
    unfold aopsC at a ⊢
    split at a
    · rename_i T' h' f hs
      split at a
      · rename_i T'' h'' fs hr
        cases a
        simp only [aopsC_append l post hr b, List.cons_append]
      · cases a
    · cases a
theorem RunD.append {P : Program} {n l0 : Nat} {ops pre post : List Oper} {E : Env} {h : Heap} {Q : Env → Heap → List Fp → Prop}
    (r : RunD P n ops pre l0 E h fun E1 h1 f1 => RunD P n ops post l0 E1 h1 fun E2 h2 f2 => Q E2 h2 (f1 ++ f2)) : RunD P n ops (pre ++ post) l0 E h Q := by
  intro lw hlw
  obtain ⟨E1, h1, f1, lw1, r2, hl1, N1, hN1⟩ := r lw hlw
  obtain ⟨E2, h2, f2, lw2, q, hl2, N2, hN2⟩ := r2 lw1 hl1
  refine ⟨E2, h2, f1 ++ f2, lw2, q, hl2, Nat.max N1 N2, fun d hd K hK T hs => ?_⟩
  obtain ⟨T1, hs1, e1⟩ := hN1 d (Nat.le_trans (Nat.le_max_left _ _) hd) K (Nat.le_trans (Nat.le_max_left _ _) hK) T hs
  obtain ⟨T2, hs2, e2⟩ := hN2 d (Nat.le_trans (Nat.le_max_right _ _) hd) K (Nat.le_trans (Nat.le_max_right _ _) hK) T1 hs1
  exact ⟨T2, hs2, aopsC_append pre post e1 e2⟩
/-- What comes behind: it may write m. -/
def RunT (P : Program) (n : Nat) (ops rest : List Oper) (m : Nat → Prop) (E : Env) (h : Heap) (Q : Env → Heap → Prop) : Prop :=
  ∀ l0, l0 ≤ h.next → (∀ j, m j → l0 ≤ j) → RunD P n ops rest l0 E h (fun E' h' _ => Fg m h h' ∧ Q E' h')
section
variable {P : Program} {n : Nat} {ops rest : List Oper} {m : Nat → Prop} {E E1 : Env} {h h1 : Heap} {Q : Env → Heap → Prop}
theorem RunT.nil (q : Q E h) : RunT P n ops [] m E h Q := fun l0 hl _ => RunD.nil ⟨⟨Nat.le_refl _, fun _ _ _ => rfl⟩, q⟩
theorem RunT.oneG {o : Oper} {v : Value} {f : Fp} (g : ewanted ops E o = some true) (e : eop P E o (h.lo h.next) = some (v, h1)) (hf : ∀ q, fpE E o q = some f) (hfr : Fr m (h.lo h.next) h1) (p : eput n E o.dst v = some E1)
    (r : RunT P n ops rest m E1 h1 Q) : RunT P n ops (o :: rest) m E h Q := by
  intro l0 hl hm
  refine RunD.oneG g e hf (hfr.from hl hm) p ?_
  refine (r l0 (Nat.le_trans hl hfr.next) hm).mono ?_
  rintro E' h' fs ⟨q3, q4⟩
  exact ⟨hfr.fg.same q3, q4⟩
theorem low_max (m : Nat → Prop) : ∀ A : Nat, ∃ l0, l0 ≤ A ∧ (∀ j, m j → l0 ≤ j) ∧ ∀ l, l ≤ A → (∀ j, m j → l ≤ j) → l ≤ l0
  | 0 => ⟨0, Nat.le_refl _, fun _ _ => Nat.zero_le _, fun l h _ => h⟩
  | A + 1 => by
    by_cases c : ∀ j, m j → A + 1 ≤ j
    · exact ⟨A + 1, Nat.le_refl _, c, fun l h _ => h⟩
    · obtain ⟨l0, h1, h2, h3⟩ := low_max m A
      refine ⟨l0, Nat.le_succ_of_le h1, h2, fun l hl hm => ?_⟩
      by_cases e : l = A + 1
      · subst e; exact absurd hm c
      · exact h3 l (by omega) hm
theorem nth_append_lt {α : Type} : ∀ (l l2 : List α) (i : Nat), i < l.length → nth (l ++ l2) i = nth l i := by
  intro l l2 i hi
  rw [nth_eq, nth_eq, List.getElem?_append_left hi]
theorem pairsOk_append {fs gs : List Fp} : ∀ (ps : List (Nat × Nat)), idxOk fs.length ps = true → pairsOk fs ps = true → pairsOk (fs ++ gs) ps = true
  | [], _, _ => rfl
  | (i, j) :: l, h, e => by
    unfold idxOk at h
    cases hi : Nat.blt i fs.length with
    | false => rw [hi] at h; cases h
    | true =>
      rw [hi, cond_true] at h
      cases hj : Nat.blt j fs.length with
      | false => rw [hj] at h; cases h
      | true =>
        rw [hj, cond_true] at h
        unfold pairsOk at e ⊢
        rw [nth_append_lt _ _ _ (blt_lt hi), nth_append_lt _ _ _ (blt_lt hj)]
        split at e
        · rename_i a b ha hb
          cases hc : fpOk a b with
          | false => rw [hc] at e; cases e
          | true =>
            rw [hc, cond_true] at e
            rw [cond_true]
            exact pairsOk_append l h e
        · cases e
def drawTOk (k : Nat) (ops : Array Oper) : Bool := match drawOk ops with
  | some (p :: ps) => idxOk (ops.toList.take k).length (p :: ps)
  | _ => false
theorem RunC.drawT (k : Nat) (m : Nat → Prop) {i : Nat} {ops : Array Oper} {Qn : Env → Heap → Prop} {Qx : Nat → Env → Heap → Prop} {Qr : Env → Heap → Prop} (hd : drawTOk k ops = true)
    (r : RunQ P n ops.toList (ops.toList.take k) E h (fun E1 h1 => RunT P n ops.toList (ops.toList.drop k) m E1 h1 fun E' h' => ∀ lw, Fr m h (h'.lo lw) → Qn E' (h'.lo lw))) : RunC P n (.region i ops true) E h Qn Qx Qr := by
  unfold drawTOk at hd
  split at hd
  · rename_i p ps hps
    obtain ⟨l0, z1, z2, z3⟩ := low_max m (min h.low h.next)
    refine RunC.draw (l0 := l0) (Nat.le_trans z1 (Nat.min_le_left _ _)) hps ?_
    have hsp : ops.toList = ops.toList.take k ++ ops.toList.drop k := (List.take_append_drop _ _).symm
    have key : RunD P n ops.toList (ops.toList.take k ++ ops.toList.drop k) l0 E h (fun E' h' fs => pairsOk fs (p :: ps) = true ∧ ∀ lw, l0 ≤ lw → Qn E' (h'.lo lw)) := by
      refine RunD.append ((r l0 (Nat.le_trans z1 (Nat.min_le_right _ _))).mono ?_)
      rintro E1 h1 f1 ⟨q1, q2, q3, q4⟩
      refine (q4 l0 (Nat.le_trans (Nat.le_trans z1 (Nat.min_le_right _ _)) q3.next) z2).mono ?_
      rintro E' h' f2 ⟨g3, g4⟩
      refine ⟨pairsOk_append _ (by rw [q1]; exact hd) (pairsOk_ok q2 _ (by rw [q1]; exact hd)), fun lw hlw => g4 lw ?_⟩
      have fg : Fg m h h' := ⟨Nat.le_trans q3.next g3.next, fun i hi hm => by rw [g3.get i (Nat.lt_of_lt_of_le hi q3.next) hm, q3.get i hi (fun g => g)]⟩
      exact fg.close (fun l x y z => Nat.le_trans (z3 l (Nat.le_min.2 ⟨x, y⟩) z) hlw)
    rwa [← hsp] at key
  · cases hd
end
end Go.Am
end
section
set_option linter.unusedVariables false
namespace Go.Am
open Go.RowKit
section
variable {P : Program} {n : Nat} {ops rest : List Oper} {E E1 : Env} {h h1 : Heap} {Q : Env → Heap → Prop}
/-- A row copied into one's own. -/
theorem RunO.copy {d : Tmp} {t t2 ty e : TypeId} {x y : Operand} {pos : String} {after : Array Edge} {b dn dc sn k : Nat} {src : Value} {cs news : List Value}
    (hx : gE E x = some (.slice (some ⟨b, 0, none⟩) dn dc)) (hy : gE E y = some src) (hu : P.underlying t = some (.slice e)) (hs : sizeOf P e = some 1) (ow : Ow h b cs) (sl : Sl h src 1 sn news) (ha : allCells news = true) (hm : min sn dn = k) (hc : k ≤ cs.length) (hd : Nat.ble (Nat.succ d) n = true)
    (r : ∀ h', Ow h' b (news.take k ++ cs.drop k) → Fr (· = b) h h' → h'.next = h.next → RunO P n ops rest (upd E d (goInt k)) h' Q) : RunO P n ops (⟨some d, .call ⟨.builtin .copy, #[x, y], #[t, t2]⟩, ty, pos, after, none⟩ :: rest) E h Q := by
  obtain ⟨h', e1, e2, e3, e4⟩ := copy_sl (P := P) (t := t) (dc := dc) hu hs ow sl ha hm (by omega : 0 + k ≤ cs.length)
  rw [Nat.zero_add, List.take_zero, List.nil_append] at e2
  refine RunO.one rfl (v := goInt k) (h1 := h') ?_ (by simp only [eput, hd, cond_true]) (r h' e2 e3 e4)
  simp only [eop, gs, hx, hy, abuiltin, e1]
end
end Go.Am
end
section
set_option linter.unusedVariables false
namespace Go.Am
open Go.RowKit
section
variable {P : Program} {n : Nat} {ops rest : List Oper} {E E1 : Env} {h h1 : Heap} {Q : Env → Heap → Prop}
theorem Rd.sub {b o : Nat} {cs : List Value} (r : Rd h ⟨b, o, none⟩ cs) {k j : Nat} (hk : k + j ≤ cs.length) : Rd h ⟨b, o + k, none⟩ ((cs.drop k).take j) := by
  obtain ⟨h1, h2, ob, ho, he⟩ := r
  refine ⟨rfl, h2, ob, ho, ?_⟩
  simp only at he ⊢
  have hl : ((cs.drop k).take j).length = j := by rw [List.length_take, List.length_drop]; omega
  rw [hl]
  conv => rhs; rw [← he]
  rw [List.drop_take, List.drop_drop, List.take_take]
  congr 1
  omega
/-- A bound of a slice. -/
inductive Bd : Option Value → Nat → Nat → Prop where
  | none (d : Nat) : Bd none d d
  | some (k : IntKind) (d m : Nat) : Bd (some (.int k (m : Int))) d m
theorem slice_gen {t e : TypeId} {v : Value} {s len k m : Nat} {cells : List Value} {lo hi : Option Value} (hu : P.underlying t = some (.slice e)) (hs : sizeOf P e = some s) (sl : Sl h v s len cells) (hlo : Bd lo 0 k) (hhi : Bd hi len m) (hk : k ≤ m) (hm : m ≤ len) :
    ∃ v', aslice P t v lo hi none = some v' ∧ Sl h v' s (m - k) ((cells.drop (k * s)).take ((m - k) * s)) := by
  have key : ∀ cap, len ≤ cap → abounds len cap lo hi none = some (k, m, cap) := by
    intro cap hc
    have a1 : ∀ (j : IntKind) (x c : Nat), x ≤ c → abound (.int j (x : Int)) c = some x := fun j x c hx => by
      show cond (Nat.ble x c) (some x) none = _
      rw [Nat.ble_eq_true_of_le hx]; rfl
    unfold abounds
    cases hhi with
    | none =>
      cases hlo with
      | none => rfl
      | some j _ _ => simp only [a1 j k _ hk]
    | some j2 _ _ =>
      cases hlo with
      | none => simp only [a1 j2 m cap (by omega)]
      | some j _ _ => simp only [a1 j2 m cap (by omega), a1 j k m hk]
  obtain ⟨hl, hn, ⟨rfl, rfl⟩ | ⟨b, o, c, rfl, hc, rd⟩⟩ := sl
  · obtain rfl : m = 0 := by omega
    obtain rfl : k = 0 := by omega
    refine ⟨.slice none 0 0, ?_, by simp, by omega, .inl ⟨rfl, rfl⟩⟩
    simp only [aslice, hu, hs, key 0 (Nat.le_refl _)]
  · have hms : (m - k) * s + k * s ≤ len * s := by rw [← Nat.add_mul]; exact Nat.mul_le_mul_right _ (by omega)
    have hsub : Rd h ⟨b, o + k * s, none⟩ ((cells.drop (k * s)).take ((m - k) * s)) := rd.sub (by rw [hl]; omega)
    have hlen : ((cells.drop (k * s)).take ((m - k) * s)).length = (m - k) * s := by rw [List.length_take, List.length_drop, hl]; omega
    have hmn : m - k ≤ 9223372036854775807 := by omega
    rcases hc with ⟨h1, h2⟩ | ⟨h1, h2⟩
    · refine ⟨.slice (some ⟨b, o + k * s, none⟩) (m - k) c, ?_, hlen, hmn, .inr ⟨b, o + k * s, c, rfl, .inl ⟨h1, h2⟩, hsub⟩⟩
      simp only [aslice, hu, hs, h1, cond_true, h2, Nat.beq_refl, key len (Nat.le_refl _)]
      rfl
    · by_cases hck : half c = k
      · refine ⟨.slice (some ⟨b, o, none⟩) (m - k) (exc (half c - k)), ?_, hlen, hmn, .inr ⟨b, o, _, rfl, Cp.exc (by omega), ?_⟩⟩
        · simp only [aslice, hu, hs, h1, cond_false, key (half c) h2, beqT hck, cond_true]
          rfl
        · have : (m - k) * s = 0 := by rw [show m - k = 0 by omega, Nat.zero_mul]
          rw [this, List.take_zero]
          obtain ⟨r1, r2, ob, ho, he⟩ := rd
          exact ⟨rfl, r2, ob, ho, rfl⟩
      · refine ⟨.slice (some ⟨b, o + k * s, none⟩) (m - k) (exc (half c - k)), ?_, hlen, hmn, .inr ⟨b, o + k * s, _, rfl, Cp.exc (by omega), hsub⟩⟩
        simp only [aslice, hu, hs, h1, cond_false, key (half c) h2, beqF hck]
        rfl
theorem RunO.sliceSlG {d : Tmp} {t ty e : TypeId} {x : Operand} {y z : Option Operand} {pos : String} {after : Array Edge} {gd : Option (Nat × Bool)} {v : Value} {lo hi : Option Value} {s len k m : Nat} {cells : List Value}
    (hw : ewanted ops E ⟨some d, .slice t x y z none, ty, pos, after, gd⟩ = some true) (hx : gE E x = some v) (hy : go (gE E) y = some lo) (hz : go (gE E) z = some hi) (hu : P.underlying t = some (.slice e)) (hs : sizeOf P e = some s) (sl : Sl h v s len cells) (hlo : Bd lo 0 k) (hhi : Bd hi len m) (hk : k ≤ m) (hm : m ≤ len) (hd : Nat.ble (Nat.succ d) n = true)
    (r : ∀ v', Sl h v' s (m - k) ((cells.drop (k * s)).take ((m - k) * s)) → RunO P n ops rest (upd E d v') h Q) : RunO P n ops (⟨some d, .slice t x y z none, ty, pos, after, gd⟩ :: rest) E h Q := by
  obtain ⟨v', e1, e2⟩ := slice_gen (P := P) hu hs sl hlo hhi hk hm
  refine RunO.oneG hw (v := v') (h1 := h) ?_ (by simp only [eput, hd, cond_true]) (r v' e2)
  have hg : go (gE E) none = some none := rfl
  simp only [eop, hx, hy, hz, hg, e1, pureR]
end
theorem Row.frm {lo : Nat} {h h' : Heap} {v : Value} {s n : Nat} {cells : List Value} {M : Nat → Prop} (r : Row lo h v s n cells) (f : Fr M h h') (hm : ∀ b, At v b → ¬ M b) : Row lo h' v s n cells := by
  refine ⟨r.1, r.2.imp (fun x => x) ?_⟩
  rintro ⟨b, h1, h2, h3⟩
  exact ⟨b, h1, h2, h3.fr f (hm b ⟨n, _, h2⟩)⟩
end Go.Am
end
section
set_option linter.unusedVariables false
namespace Go.Am
open Go.RowKit
/- A region that draws its order and writes m: each operation with its footprint. -/
def RunW (P : Program) (n : Nat) (ops rest : List Oper) (m : Nat → Prop) (E : Env) (h : Heap) (Q : Env → Heap → List Fp → Prop) : Prop :=
  ∀ l0, l0 ≤ h.next → (∀ j, m j → l0 ≤ j) → RunD P n ops rest l0 E h (fun E' h' fs => Fg m h h' ∧ Q E' h' fs)
section
variable {P : Program} {n : Nat} {ops rest : List Oper} {m : Nat → Prop} {E E1 : Env} {h h1 : Heap} {Q : Env → Heap → List Fp → Prop}
end
end Go.Am
end
section
set_option linter.unusedVariables false
namespace Go.Am
open Go.RowKit
/-- A slice that grows by append: a row, or one that is full. -/
def Gr (lo : Nat) (h : Heap) (v : Value) (s n : Nat) (cells : List Value) : Prop :=
  cells.length = n * s ∧ ((v = .slice none 0 0 ∧ n = 0) ∨ ∃ b c, lo ≤ b ∧ v = .slice (some ⟨b, 0, none⟩) n c ∧ (c = unkc s ∨ c = exc n) ∧ Ow h b cells)
theorem Row.gr {lo : Nat} {h : Heap} {v : Value} {s n : Nat} {cells : List Value} (r : Row lo h v s n cells) : Gr lo h v s n cells :=
  ⟨r.1, r.2.imp (fun x => x) (fun ⟨b, h1, h2, h3⟩ => ⟨b, _, h1, h2, .inl rfl, h3⟩)⟩
section
variable {P : Program} {n : Nat} {ops rest : List Oper} {m : Nat → Prop} {E E1 : Env} {h h1 : Heap}
theorem append_gr {t e : TypeId} {i : TypeInfo} {z : Value} {lo s k j c' : Nat} {xv : Value} {cells news : List Value} {a : Addr}
    (hu : P.underlying t = some (.slice e)) (hi : P.info? e = some i) (hz : zeroOf P e = some z) (hlz : lenIs (cellsOf z) i.size = true) (hs : i.size = s) (hs1 : 1 ≤ s) (row : Gr lo h xv s k cells)
    (rd : Rd h a news) (hn : news.length = j * s) (hm : 1 ≤ j) (ha : allCells news = true) (hb : 2 * (k + j) * i.bytes ≤ 281474976710656) (hb2 : k + j ≤ 9223372036854775807) :
    ∃ v' h', aappend P h t t xv (.slice (some a) j c') = some (v', h') ∧ Row h.next h' v' s (k + j) (cells ++ news) ∧ Fr (At xv) h h' := by
  rcases row.2 with ⟨rfl, hk⟩ | ⟨b, c, hb1, rfl, hc, ow⟩
  · exact append_row2 (lo := lo) hu hi hz hlz hs hs1 ⟨row.1, .inl ⟨rfl, hk⟩⟩ rd hn hm ha hb hb2
  · rcases hc with rfl | rfl
    · exact append_row2 (lo := lo) hu hi hz hlz hs hs1 ⟨row.1, .inr ⟨b, hb1, rfl, ow⟩⟩ rd hn hm ha hb hb2
    · refine ⟨_, _, append_full hu hi hz hlz hs hs1 ow.all row.1 ?_ ?_ rd hn hm hb hb2, ⟨by rw [List.length_append, row.1, hn, Nat.add_mul], .inr ⟨_, Nat.le_refl _, rfl, Ow.push _ _⟩⟩, Fr.push _ _ _⟩
      · unfold isUnk exc
        show Nat.beq (2 * k % 2) 1 = false
        rw [show 2 * k % 2 = 0 by omega]; rfl
      · unfold half exc
        show 2 * k / 2 < k + j
        omega
end
end Go.Am
end
section
set_option linter.unusedVariables false
namespace Go.Am
open Go.RowKit
section
variable {P : Program} {n : Nat} {ops rest : List Oper} {E E1 : Env} {h h1 : Heap} {Q : Env → Heap → Prop}
theorem RunO.appendG {d : Tmp} {t ty e : TypeId} {x y : Operand} {pos : String} {after : Array Edge} {i : TypeInfo} {z : Value} {lo s k j c' : Nat} {xv : Value} {cells news : List Value} {a : Addr}
    (hx : gE E x = some xv) (hy : gE E y = some (.slice (some a) j c')) (hd : Nat.ble (Nat.succ d) n = true)
    (hu : P.underlying t = some (.slice e)) (hi : P.info? e = some i) (hz : zeroOf P e = some z) (hlz : lenIs (cellsOf z) i.size = true) (hs : i.size = s) (hs1 : 1 ≤ s) (row : Gr lo h xv s k cells)
    (rd : Rd h a news) (hn : news.length = j * s) (hm : 1 ≤ j) (ha : allCells news = true) (hb : 2 * (k + j) * i.bytes ≤ 281474976710656) (hb2 : k + j ≤ 9223372036854775807)
    (r : ∀ v' h', Row h.next h' v' s (k + j) (cells ++ news) → Fr (At xv) h h' → RunO P n ops rest (upd E d v') h' Q) : RunO P n ops (⟨some d, .call ⟨.builtin .append, #[x, y], #[t, t]⟩, ty, pos, after, none⟩ :: rest) E h Q := by
  obtain ⟨v', h', h1, h2, h3⟩ := append_gr (c' := c') hu hi hz hlz hs hs1 row rd hn hm ha hb hb2
  refine RunO.one rfl (v := v') (h1 := h') ?_ (by simp only [eput, hd, cond_true]) (r v' h' h2 h3)
  simp only [eop, gs, hx, hy, abuiltin, h1]
end
end Go.Am
end
section
set_option linter.unusedVariables false
namespace Go.Am
open Go.RowKit
section
variable {P : Program} {n : Nat} {ops rest : List Oper} {E E1 : Env} {h h1 : Heap} {Q : Env → Heap → Prop}
end
end Go.Am
end
section
set_option linter.unusedVariables false
set_option linter.unusedSectionVars false
set_option maxRecDepth 100000
open Go Go.Am Go.RowKit
namespace Go.Proofs.Ytdcggjkcbheolaa
open Go.Proofs.Try

/- Rows of bytes. -/
def Rws (h : Heap) (v : Value) (rows : List (List Int)) : Prop :=
  ∃ cs, Sl h v 1 rows.length cs ∧ ∀ (j : Nat) (x : List Int), rows[j]? = some x → ∃ w, cs[j]? = some w ∧ Sl h w 1 x.length (us x)
theorem Rws.fr0 {h h' : Heap} {v : Value} {rows : List (List Int)} (r : Rws h v rows) (f : Fr no h h') : Rws h' v rows := by
  obtain ⟨cs, h1, h2⟩ := r
  refine ⟨cs, h1.fr0 f, fun j x hx => ?_⟩
  obtain ⟨w, e, sw⟩ := h2 j x hx
  exact ⟨w, e, sw.fr0 f⟩
theorem Rws.nil (h : Heap) : Rws h (.slice none 0 0) [] := ⟨[], Sl.nil h 1, fun j x hx => by cases hx⟩
/-- A row in a block of its own. -/
def OwR (h : Heap) (w : Value) (x : List Int) : Prop := ∃ b, w = .slice (some ⟨b, 0, none⟩) x.length (exc x.length) ∧ Ow h b (us x)
/-- Rows of bytes in a growing slice. -/
def RwG (lo : Nat) (h : Heap) (v : Value) (rows : List (List Int)) : Prop :=
  ∃ cs, Row lo h v 1 rows.length cs ∧ ∀ (j : Nat) (x : List Int), rows[j]? = some x → ∃ w, cs[j]? = some w ∧ Sl h w 1 x.length (us x) ∧ OwR h w x ∧ ∀ b o c, w = .slice (some ⟨b, o, none⟩) x.length c → lo ≤ b ∧ ¬ At v b
theorem row_part {cs : List Value} {j : Nat} {w : Value} (h : cs[j]? = some w) : apart prog 23 cs (j * 1) = some w := by
  show nth cs (j * 1) = _
  rw [Nat.mul_one, nth_eq]; exact h
theorem keepRows_ok {h : Heap} {v w : Value} {l m : List (List Int)} (sl : Rws h v l) (sm : Rws h w m) (hl : l.length ≤ 9223372036854775807) (hl2 : ∀ x ∈ l, x.length ≤ 9223372036854775807) :
    RunF prog 13 [v, w] h fun v h' => v = .bool (l == m) ∧ h = h' := by
  refine RunF.walk func13 rfl rfl ?_
  obtain ⟨cs, s1, k1⟩ := sl
  obtain ⟨ds, s2, k2⟩ := sm
  have s10 := s1
  have s20 := s2
  obtain ⟨A, c, rfl, hc, _⟩ := s1.form
  obtain ⟨B, d, rfl, hd, _⟩ := s2.form
  refine RunC.seq (RunC.region (RunO.all rfl ?_))
  refine RunC.seq (RunC.seq (RunC.region (RunO.all rfl ?_)))
  by_cases hn : l.length = m.length
  case neg =>
    rw [show ((l.length : Int) != (m.length : Int)) = true from bne_iff_ne.2 (by omega)]
    refine RunC.cond rfl (fun _ => ?_) (fun g => by cases g)
    rw [show (l == m) = false from beq_eq_false_iff_ne.2 (fun e => hn (by rw [e]))]
    exact RunC.seq (RunC.region (RunO.all rfl (RunC.ret ⟨_, rfl, rfl, rfl⟩)))
  rw [show ((l.length : Int) != (m.length : Int)) = false from by rw [hn]; exact bne_self_eq_false _]
  refine RunC.cond rfl (fun g => by cases g) (fun _ => RunC.skip ?_)
  refine RunC.seq (RunC.seq (RunC.region (RunO.all rfl ?_)))
  refine RunC.block ?_
  refine RunC.loop (fun k E h' => ∃ i : Nat, i + k = l.length ∧ l.take i = m.take i ∧ h = h' ∧ Le ((upd (upd (upd E0 0 (.slice A l.length c)) 1 (.slice B m.length d)) 5 (.int .i64 (i : Int)))) E) ?st (k := l.length) ?ini
  case ini => exact ⟨0, by omega, rfl, rfl, Le.cons rfl (Le.cons rfl (Le.cons rfl (Le.nil _)))⟩
  rintro k E _ ⟨i, hi, ht, rfl, hE⟩
  refine RunC.le hE ?_
  clear hE
  refine RunC.seq (RunC.seq (RunC.region (RunO.all rfl ?_)))
  refine RunC.cond rfl (fun hlt => RunC.skip ?go) (fun hge => RunC.exit ?ex)
  case go =>
    have hlt := of_decide_eq_true hlt
    have h1 : i < l.length := by omega
    have h2 : i < m.length := by omega
    obtain ⟨w1, e1, sw1⟩ := k1 i l[i] (List.getElem?_eq_getElem h1)
    obtain ⟨w2, e2, sw2⟩ := k2 i m[i] (List.getElem?_eq_getElem h2)
    have hb1 := hl2 l[i] (List.getElem_mem h1)
    refine RunC.seq (RunC.block ?_)
    refine RunC.seq (RunC.draw0 rfl (RunO.part 2 rfl ?_))
    refine RunO.at (s := 1) (k := i) rfl rfl s10 rfl rfl h1 (row_part e1) rfl rfl rfl ?_
    refine RunO.part 2 rfl ?_
    refine RunO.at (s := 1) (k := i) rfl rfl s20 rfl rfl h2 (row_part e2) rfl rfl rfl ?_
    refine RunO.callD (keepBytesSX_ok sw1 sw2) rfl rfl rfl ?_
    rintro _ _ ⟨rfl, rfl⟩
    by_cases he : l[i] = m[i]
    · rw [show (l[i] == m[i]) = true from beq_iff_eq.2 he]
      refine RunO.all rfl (RunC.cond rfl (fun g => by cases g) (fun _ => RunC.skip ?_))
      refine RunC.region (RunO.all rfl ?_)
      refine ⟨k - 1, by omega, i + 1, by omega, ?_, rfl, Le.cons (inc64x (by omega)) (Le.cons rfl (Le.cons rfl (Le.nil _)))⟩
      rw [List.take_succ_eq_append_getElem h1, List.take_succ_eq_append_getElem h2, ht, he]
    · rw [show (l[i] == m[i]) = false from beq_eq_false_iff_ne.2 he]
      refine RunO.all rfl (RunC.cond rfl (fun _ => ?_) (fun g => by cases g))
      have hlm : (l == m) = false := beq_eq_false_iff_ne.2 (fun e => he (by simp [e]))
      rw [hlm]
      exact RunC.seq (RunC.region (RunO.all rfl (RunC.ret ⟨_, rfl, rfl, rfl⟩)))
  have hge := of_decide_eq_false hge
  have hi2 : i = l.length := by omega
  rw [hi2, List.take_length, hn, List.take_length] at ht
  have hlm : (l == m) = true := beq_iff_eq.2 ht
  rw [hlm]
  exact RunC.seq (RunC.region (RunO.all rfl (RunC.ret ⟨_, rfl, rfl, rfl⟩)))
/- A tree's sectors. -/
def secB (L : List Int) (a : Int) : List Int := if a = 0 then List.replicate 64 0 else blkI L a.toNat
def secsL (L m : List Int) (n : Nat) : List (List Int) := (m.take n).map (secB L)
end Go.Proofs.Ytdcggjkcbheolaa
end
section
set_option linter.unusedVariables false
set_option maxRecDepth 100000
open Go Go.Am
namespace Go.Proofs.Ytdcggjkcbheolaa
open Go.Proofs.Try
theorem indexRow_ok {h : Heap} {v : Value} {n : Nat} {acs : List Value} (sl : Sl h v 1 n acs) {u : Nat → Value} (hu : ∀ j, j < n → apart prog 23 acs (j * 1) = some (u j)) {g : FuncId} {cap : List Value} {p : Nat → Bool}
    (hg : ∀ j, j < n → ∀ h1, Fr no h h1 → RunF prog g (u j :: cap) h1 (fun v h2 => v = .bool (p j) ∧ Fr no h1 h2)) (hm : n ≤ 4611686018427387904) :
    RunF prog 98 [v, .func (.func g) #[] ⟨cap⟩] h fun r h' => Fr no h h' ∧ ((∃ i : Nat, i < n ∧ r = .int .i64 (i : Int) ∧ p i = true ∧ ∀ j, j < i → p j = false) ∨ (r = .int .i64 (-1) ∧ ∀ j, j < n → p j = false)) := by
  refine RunF.walk func98 rfl rfl ?_
  obtain ⟨A, c, rfl, hc, _⟩ := sl.form
  refine RunC.seq (RunC.region (RunO.all rfl ?_))
  refine RunC.seq (RunC.seq (RunC.region (RunO.all rfl ?_)))
  refine RunC.block ?_
  let I : Nat → Env → Heap → Prop := fun k E h' => ∃ i : Nat, i + k = n ∧ (∀ j, j < i → p j = false) ∧ Fr no h h' ∧ Le (upd (upd (upd (upd E0 0 (.slice A n c)) 1 (.func (.func g) #[] ⟨cap⟩)) 7 (.int .i64 n)) 8 (.int .i64 i)) E
  refine RunC.loop I ?_ (k := n) ?_
  · rintro k E h' ⟨i, hi, hp, hf, hE⟩
    refine RunC.le hE ?_
    clear hE
    refine RunC.seq (RunC.region (RunO.all rfl ?_))
    refine RunC.seq (RunC.cond rfl (fun hlt => ?_) (fun hge => ?_))
    · have hlt := of_decide_eq_true hlt
      have h1 : i < n := by omega
      refine RunC.skip ?_
      refine RunC.seq (RunC.block ?_)
      refine RunC.seq (RunC.region (RunO.all rfl ?_))
      refine RunC.seq (RunC.region (RunO.part 3 rfl ?_))
      refine RunO.at (s := 1) rfl rfl (sl.fr0 hf) rfl rfl h1 (hu i h1) rfl rfl rfl ?_
      refine RunO.call rfl rfl ?_
      refine RunF.mono (hg i h1 _ hf) ?_
      rintro _ h2 ⟨rfl, f2⟩
      refine ⟨_, rfl, RunO.all rfl ?_⟩
      refine RunC.cond rfl (fun ht => ?_) (fun hn => ?_)
      · refine RunC.seq (RunC.region (RunO.all rfl (RunC.ret ⟨_, rfl, hf.quiet f2, .inl ⟨i, h1, rfl, ht, hp⟩⟩)))
      · refine RunC.skip (RunC.region (RunO.all rfl ?_))
        refine ⟨k - 1, by omega, i + 1, by omega, fun j hj => ?_, hf.quiet f2, Le.cons (inc64 (by omega)) (Le.cons rfl (Le.cons rfl (Le.cons rfl (Le.nil _))))⟩
        rcases Nat.lt_or_ge j i with q | q
        · exact hp j q
        · rw [show j = i by omega]; exact hn
    · have hge := of_decide_eq_false hge
      refine RunC.exit ?_
      exact RunC.seq (RunC.region (RunO.all rfl (RunC.ret ⟨_, rfl, hf, .inr ⟨rfl, fun j hj => hp j (by omega)⟩⟩)))
  · exact ⟨0, by omega, fun j hj => absurd hj (Nat.not_lt_zero _), Fr.refl _ _, Le.cons rfl (Le.cons rfl (Le.cons rfl (Le.cons rfl (Le.nil _))))⟩
theorem containsRow_ok {h : Heap} {v : Value} {n : Nat} {acs : List Value} (sl : Sl h v 1 n acs) {u : Nat → Value} (hu : ∀ j, j < n → apart prog 23 acs (j * 1) = some (u j)) {g : FuncId} {cap : List Value} {p : Nat → Bool}
    (hg : ∀ j, j < n → ∀ h1, Fr no h h1 → RunF prog g (u j :: cap) h1 (fun v h2 => v = .bool (p j) ∧ Fr no h1 h2)) (hm : n ≤ 4611686018427387904) :
    RunF prog 65 [v, .func (.func g) #[] ⟨cap⟩] h fun r h' => r = .bool (anyI p n) ∧ Fr no h h' := by
  refine RunF.walk func65 rfl rfl ?_
  refine RunC.seq (RunC.region (RunO.all rfl ?_))
  refine RunC.seq (RunC.region (RunO.part 2 rfl ?_))
  refine RunO.callD (indexRow_ok sl hu hg hm) rfl rfl rfl ?_
  rintro _ h2 ⟨f2, ⟨i, hi, rfl, hp, _⟩ | ⟨rfl, hp⟩⟩
  · refine RunO.all rfl (RunC.ret ⟨_, rfl, ?_, f2⟩)
    rw [anyI_true hi hp]
    exact congrArg Value.bool (decide_eq_true (Int.natCast_nonneg i))
  · refine RunO.all rfl (RunC.ret ⟨_, rfl, ?_, f2⟩)
    rw [anyI_false hp]; rfl
end Go.Proofs.Ytdcggjkcbheolaa
end
section
set_option linter.unusedVariables false
namespace Go.Am
open Go.RowKit
section
variable {P : Program} {n : Nat} {ops rest : List Oper} {E E1 : Env} {h h1 : Heap} {Q : Env → Heap → Prop}
end
theorem Row.lo2 {lo lo2 : Nat} {h : Heap} {v : Value} {s n : Nat} {cells : List Value} (r : Row lo h v s n cells) (hl : lo2 ≤ lo) : Row lo2 h v s n cells :=
  ⟨r.1, r.2.imp (fun x => x) (fun ⟨b, h1, h2⟩ => ⟨b, Nat.le_trans hl h1, h2⟩)⟩
end Go.Am
namespace Go.Am
open Go.RowKit
section
variable {P : Program} {n : Nat} {ops rest : List Oper} {E E1 : Env} {h h1 : Heap} {Q : Env → Heap → Prop}
end
end Go.Am
end
section
set_option linter.unusedVariables false
set_option linter.unusedSectionVars false
set_option maxRecDepth 100000
open Go Go.Am Go.RowKit
namespace Go.Proofs.Ytdcggjkcbheolaa
open Go.Proofs.Try

/- Rows of 64 bytes, each in a block of its own. -/
def rowC (p : Nat × Nat) : Value := .slice (some ⟨p.1, 0, none⟩) 64 p.2
def RwO (lo : Nat) (h : Heap) (v : Value) (rows : List (List Int)) : Prop :=
  ∃ bs : List (Nat × Nat), Row lo h v 1 rows.length (bs.map rowC) ∧ (∀ (i j : Nat) (p q : Nat × Nat), bs[i]? = some p → bs[j]? = some q → p.1 = q.1 → i = j) ∧
    ∀ (j : Nat) (p : Nat × Nat) (x : List Int), bs[j]? = some p → rows[j]? = some x → x.length = 64 ∧ Cp 1 64 p.2 ∧ Ow h p.1 (us x) ∧ lo ≤ p.1 ∧ ¬ At v p.1
theorem RwO.len {lo : Nat} {h : Heap} {v : Value} {rows : List (List Int)} {bs : List (Nat × Nat)} (r : Row lo h v 1 rows.length (bs.map rowC)) : bs.length = rows.length := by
  have := r.1
  rw [List.length_map] at this
  omega
theorem RwO.rws {lo : Nat} {h : Heap} {v : Value} {rows : List (List Int)} (r : RwO lo h v rows) (hm : rows.length ≤ 9223372036854775807) : Rws h v rows := by
  obtain ⟨bs, h1, _, h2⟩ := r
  have hl := RwO.len h1
  refine ⟨_, h1.sl hm, fun j x hx => ?_⟩
  have hj := (List.getElem?_eq_some_iff.1 hx).1
  have hp : bs[j]? = some bs[j] := List.getElem?_eq_getElem (by omega)
  obtain ⟨e1, e2, e3, _⟩ := h2 j _ x hp hx
  refine ⟨rowC bs[j], by rw [List.getElem?_map, hp]; rfl, ?_⟩
  rw [e1]
  exact e3.all.sl (by rw [us_len, e1]) (by decide) e2
theorem RwO.nil (lo : Nat) (h : Heap) : RwO lo h (.slice none 0 0) [] := ⟨[], Row.nil lo h 1, fun i j p q a => by simp at a, fun j p x a => by simp at a⟩
theorem RwO.at {lo : Nat} {h : Heap} {v : Value} {rows : List (List Int)} (r : RwO lo h v rows) {b : Nat} (g : At v b) : lo ≤ b ∧ b < h.next := by
  obtain ⟨bs, h1, _⟩ := r
  exact h1.at g
theorem RwO.fr0 {lo : Nat} {h h' : Heap} {v : Value} {rows : List (List Int)} (r : RwO lo h v rows) (f : Fr no h h') : RwO lo h' v rows := by
  obtain ⟨bs, h1, h2, h3⟩ := r
  refine ⟨bs, h1.fr f (fun _ _ _ g => g), h2, fun j p x a b => ?_⟩
  obtain ⟨e1, e2, e3, e4⟩ := h3 j p x a b
  exact ⟨e1, e2, e3.fr f (fun g => g), e4⟩
/-- One of them gets other bytes. -/
theorem RwO.set {lo : Nat} {h h' : Heap} {v : Value} {rows : List (List Int)} {bs : List (Nat × Nat)} (h1 : Row lo h v 1 rows.length (bs.map rowC)) (h2 : ∀ (i j : Nat) (p q : Nat × Nat), bs[i]? = some p → bs[j]? = some q → p.1 = q.1 → i = j)
    (h3 : ∀ (j : Nat) (p : Nat × Nat) (x : List Int), bs[j]? = some p → rows[j]? = some x → x.length = 64 ∧ Cp 1 64 p.2 ∧ Ow h p.1 (us x) ∧ lo ≤ p.1 ∧ ¬ At v p.1)
    {i : Nat} {q : Nat × Nat} {y : List Int} (hq : bs[i]? = some q) (hy : y.length = 64) (ow : Ow h' q.1 (us y)) (f : Fr (· = q.1) h h') : RwO lo h' v (rows.set i y) := by
  have hl := RwO.len h1
  have hi := (List.getElem?_eq_some_iff.1 hq).1
  have hx : rows[i]? = some rows[i] := List.getElem?_eq_getElem (by omega)
  obtain ⟨a1, a2, a3, a4, a5⟩ := h3 i q _ hq hx
  refine ⟨bs, ?_, h2, fun j p x a b => ?_⟩
  · rw [List.length_set]
    exact h1.frm f (fun b g e => a5 (by have e : b = q.1 := e; rw [← e]; exact g))
  · by_cases hj : i = j
    · subst hj
      rw [hq] at a
      cases a
      rw [List.getElem?_set_self (by omega)] at b
      cases b
      exact ⟨hy, a2, ow, a4, a5⟩
    · rw [List.getElem?_set_ne hj] at b
      obtain ⟨e1, e2, e3, e4, e5⟩ := h3 j p x a b
      exact ⟨e1, e2, e3.fr f (fun e => hj (h2 j i p q a hq e).symm), e4, e5⟩
theorem RwO.snoc {lo : Nat} {h h' : Heap} {v v' : Value} {rows : List (List Int)} {x : List Int} {bs : List (Nat × Nat)} {q : Nat × Nat} (row : Row lo h v 1 rows.length (bs.map rowC))
    (k2 : ∀ (i j : Nat) (p q : Nat × Nat), bs[i]? = some p → bs[j]? = some q → p.1 = q.1 → i = j)
    (k3 : ∀ (j : Nat) (p : Nat × Nat) (x : List Int), bs[j]? = some p → rows[j]? = some x → x.length = 64 ∧ Cp 1 64 p.2 ∧ Ow h p.1 (us x) ∧ lo ≤ p.1 ∧ ¬ At v p.1)
    (hx : x.length = 64) (hc : Cp 1 64 q.2) (so : Ow h q.1 (us x)) (hlq : lo ≤ q.1) (hw : ¬ At v q.1) (hnew : ∀ p ∈ bs, p.1 ≠ q.1)
    (row' : Row h.next h' v' 1 (rows.length + 1) (bs.map rowC ++ [rowC q])) (f : Fr (At v) h h') (hlo : lo ≤ h.next) : RwO lo h' v' (rows ++ [x]) := by
  have hl := RwO.len row
  have hat : ∀ b, At v' b → h.next ≤ b := fun b g => (row'.at g).1
  refine ⟨bs ++ [q], by rw [List.length_append, List.map_append]; exact Row.lo2 row' hlo, ?_, ?_⟩
  · intro i j a b ha hb hab
    by_cases hi : i < bs.length <;> by_cases hj : j < bs.length
    · rw [List.getElem?_append_left hi] at ha
      rw [List.getElem?_append_left hj] at hb
      exact k2 i j a b ha hb hab
    · rw [List.getElem?_append_left hi] at ha
      rw [List.getElem?_append_right (by omega)] at hb
      have hb' : b = q := by
        cases h0 : j - bs.length with
        | zero => rw [h0] at hb; exact (Option.some.inj hb).symm
        | succ n => rw [h0] at hb; cases hb
      subst hb'
      exact absurd hab (hnew a (List.mem_of_getElem? ha))
    · rw [List.getElem?_append_right (by omega)] at ha
      rw [List.getElem?_append_left hj] at hb
      have ha' : a = q := by
        cases h0 : i - bs.length with
        | zero => rw [h0] at ha; exact (Option.some.inj ha).symm
        | succ n => rw [h0] at ha; cases ha
      subst ha'
      exact absurd hab.symm (hnew b (List.mem_of_getElem? hb))
    · have h1 := (List.getElem?_eq_some_iff.1 ha).1
      have h2 := (List.getElem?_eq_some_iff.1 hb).1
      rw [List.length_append, List.length_singleton] at h1 h2
      omega
  · intro j p y hp hy
    by_cases hj : j < bs.length
    · rw [List.getElem?_append_left hj] at hp
      rw [List.getElem?_append_left (by omega)] at hy
      obtain ⟨e1, e2, e3, e4, e5⟩ := k3 j p y hp hy
      have := e3.1
      exact ⟨e1, e2, e3.fr f e5, e4, fun g => by have := hat _ g; omega⟩
    · have hj2 : j = bs.length := by
        have h1 := (List.getElem?_eq_some_iff.1 hp).1
        rw [List.length_append, List.length_singleton] at h1
        omega
      subst hj2
      rw [List.getElem?_append_right (Nat.le_refl _), Nat.sub_self] at hp
      rw [hl, List.getElem?_append_right (Nat.le_refl _), Nat.sub_self] at hy
      have hp : some q = some p := hp
      have hy : some x = some y := hy
      cases hp
      cases hy
      have := so.1
      exact ⟨hx, hc, so.fr f hw, hlq, fun g => by have := hat _ g; omega⟩

/- Are rows right? -/
def rgt (l : List (List Int)) : Bool := decide (l.length ≤ 512) && l.all (fun x => x.length == 64)
theorem rgt_of {l : List (List Int)} (h : rgt l = true) : l.length ≤ 512 ∧ ∀ x ∈ l, x.length = 64 := by
  unfold rgt at h
  rw [Bool.and_eq_true, List.all_eq_true] at h
  exact ⟨of_decide_eq_true h.1, fun x hx => beq_iff_eq.1 (h.2 x hx)⟩
theorem anyI_not {α : Type} (l : List α) (p : α → Bool) (n : Nat) (hn : n = l.length) (q : Nat → Bool) (hq : ∀ (j : Nat) (hj : j < l.length), q j = !p l[j]) : anyI q n = !l.all p := by
  subst hn
  by_cases h : ∃ j, ∃ hj : j < l.length, p l[j] = false
  · obtain ⟨j, hj, hp⟩ := h
    rw [anyI_true hj (by rw [hq j hj, hp]; rfl)]
    have : l.all p = false := by
      rw [← Bool.not_eq_true, List.all_eq_true]
      intro a
      rw [a _ (List.getElem_mem hj)] at hp
      cases hp
    rw [this]; rfl
  · rw [anyI_false (fun j hj => by
      rw [hq j hj]
      cases hp : p l[j] with
      | true => rfl
      | false => exact absurd ⟨j, hj, hp⟩ h)]
    have : l.all p = true := List.all_eq_true.2 (fun x hx => by
      obtain ⟨j, hj, rfl⟩ := List.mem_iff_getElem.1 hx
      cases hp : p l[j] with
      | true => rfl
      | false => exact absurd ⟨j, hj, hp⟩ h)
    rw [this]; rfl
theorem foldRight_ok {h : Heap} {v : Value} {l : List (List Int)} (r : Rws h v l) (hl : l.length ≤ 100000) : RunF prog 36 [v] h fun v h' => v = .bool (rgt l) ∧ Fr no h h' := by
  refine RunF.walk func36 rfl rfl ?_
  obtain ⟨cs, sl, kk⟩ := r
  have sl0 := sl
  obtain ⟨A, c, rfl, hc, _⟩ := sl.form
  refine RunC.seq (RunC.region (RunO.all rfl ?_))
  refine RunC.seq (RunC.region (RunO.part 4 rfl ?_))
  unfold rgt
  by_cases hn : l.length ≤ 512
  case neg =>
    rw [show decide ((l.length : Int) ≤ 512) = false from decide_eq_false (by omega), show decide (l.length ≤ 512) = false from decide_eq_false hn]
    exact RunO.all rfl (RunC.ret ⟨_, rfl, rfl, Fr.refl _ _⟩)
  rw [show decide ((l.length : Int) ≤ 512) = true from decide_eq_true (by omega), show decide (l.length ≤ 512) = true from decide_eq_true hn]
  refine RunO.part 1 rfl ?_
  have hcf := containsRow_ok sl0 (u := fun j => cs.getD j undef) (fun j hj => by
    obtain ⟨w, e, _⟩ := kk j l[j] (List.getElem?_eq_getElem hj)
    show _ = some (cs.getD j undef)
    rw [List.getD_eq_getElem?_getD, e]
    exact row_part e) (g := 66) (cap := []) (p := fun j => !((l.getD j []).length == 64)) (fun j hj h5 f5 => by
    obtain ⟨w, e, sw⟩ := kk j l[j] (List.getElem?_eq_getElem hj)
    have e2 : cs.getD j undef = w := by rw [List.getD_eq_getElem?_getD, e]; rfl
    have e3 : l.getD j [] = l[j] := by rw [List.getD_eq_getElem?_getD, List.getElem?_eq_getElem hj]; rfl
    rw [e2, e3]
    obtain ⟨B, d, rfl, _, _⟩ := sw.form
    refine RunF.walk func66 rfl rfl ?_
    refine RunC.seq (RunC.region (RunO.all rfl ?_))
    refine RunC.seq (RunC.region (RunO.all rfl ?_))
    refine RunC.ret ⟨_, rfl, ?_, Fr.refl _ _⟩
    by_cases hx : l[j].length = 64
    · rw [show ((l[j].length : Int) != 64) = false from by rw [hx]; rfl, hx]; rfl
    · rw [show ((l[j].length : Int) != 64) = true from bne_iff_ne.2 (by omega), show (l[j].length == 64) = false from beq_eq_false_iff_ne.2 hx]; rfl) (by omega)
  refine RunO.callDG rfl hcf rfl rfl rfl ?_
  rintro _ g1 ⟨rfl, f1⟩
  rw [anyI_not l (fun x => x.length == 64) l.length rfl _ (fun j hj => by rw [List.getD_eq_getElem?_getD, List.getElem?_eq_getElem hj]; rfl)]
  refine RunO.all rfl (RunC.ret ⟨_, rfl, ?_, f1⟩)
  rw [Bool.not_not]; rfl
set_option maxHeartbeats 4000000 in
/-- Rows in memory of their own. -/
theorem foldTwin_ok {h : Heap} {v : Value} {l : List (List Int)} (r : Rws h v l) (hl : l.length ≤ 512) (h64 : ∀ x ∈ l, x.length = 64) : RunF prog 39 [v] h fun v h' => RwO h.next h' v l ∧ (l = [] → v = .slice none 0 0) ∧ Fr no h h' := by
  refine RunF.walk func39 rfl rfl ?_
  obtain ⟨cs, sl, kk⟩ := r
  have sl0 := sl
  obtain ⟨A, c, rfl, hc, _⟩ := sl.form
  refine RunC.seq (RunC.region (RunO.all rfl ?_))
  refine RunC.seq (RunC.region (RunO.all rfl ?_))
  refine RunC.seq (RunC.seq (RunC.region (RunO.all rfl ?_)))
  refine RunC.block ?_
  refine RunC.loop (fun d E h' => ∃ (i : Nat) (ov : Value), i + d = l.length ∧ Fr no h h' ∧ RwO h.next h' ov (l.take i) ∧ (i = 0 → ov = .slice none 0 0) ∧ Le ((upd (upd (upd (upd E0 3 (ov)) 6 (.slice A l.length c)) 7 (.int .i64 (l.length : Int))) 8 (.int .i64 (i : Int)))) E) ?st (k := l.length) ?ini
  case ini => exact ⟨0, .slice none 0 0, by omega, Fr.refl _ _, RwO.nil _ _, fun _ => rfl, Le.cons rfl (Le.cons rfl (Le.cons rfl (Le.cons rfl (Le.nil _))))⟩
  rintro d E g1 ⟨i, ov, hi, fg, ro, hz, hE⟩
  refine RunC.le hE ?_
  clear hE
  refine RunC.seq (RunC.region (RunO.all rfl ?_))
  refine RunC.seq (RunC.cond rfl (fun hlt => RunC.skip ?go) (fun hge => RunC.exit ?ex))
  case ex =>
    have hge := of_decide_eq_false hge
    obtain rfl : i = l.length := by omega
    rw [List.take_length] at ro
    refine RunC.seq (RunC.region (RunO.all rfl ?_))
    exact RunC.ret ⟨_, rfl, ro, fun e => hz (by rw [e]; rfl), fg⟩
  have hlt := of_decide_eq_true hlt
  have hlt : i < l.length := by omega
  obtain ⟨w, e, sw⟩ := kk i l[i] (List.getElem?_eq_getElem hlt)
  have hx := h64 l[i] (List.getElem_mem hlt)
  have htk : l.take (i + 1) = l.take i ++ [l[i]] := List.take_succ_eq_append_getElem hlt
  have htl : (l.take i).length = i := by rw [List.length_take]; omega
  have hov : ∀ b, At ov b → h.next ≤ b := fun b g => (ro.at g).1
  have hov1 : ∀ b, At ov b → b < g1.next := fun b g => (ro.at g).2
  have hng := fg.next
  have sw1 := sw.fr0 fg
  have sa := sl0.fr0 fg
  refine RunC.seq (RunC.block ?_)
  refine RunC.seq (RunC.region ?_)
  refine RunO.at (s := 1) (k := i) rfl rfl sa rfl rfl hlt (row_part e) rfl rfl rfl (RunO.all rfl ?_)
  refine RunC.region (RunO.part 2 rfl ?_)
  refine RunO.callD (clone8_ok sw1 (by omega)) rfl rfl rfl ?_
  rintro cv g2 ⟨oc, f2, _⟩
  obtain ⟨hcl, _, ⟨_, h0⟩ | ⟨cb, cc, hcb, rfl, hcc, owc⟩⟩ := oc
  · omega
  have hcc : Cp 1 64 cc := by rw [← hx]; exact hcc
  rw [hx]
  refine RunO.part 1 (h1 := g2.push ⟨[rowC (cb, cc)], true⟩) rfl ?_
  have ot := Ow.push g2 [rowC (cb, cc)]
  have f3 : Fr no g2 (g2.push ⟨[rowC (cb, cc)], true⟩) := Fr.push _ _ _
  have fg3 := (fg.same f2).same f3
  have ro3 := (ro.fr0 f2).fr0 f3
  have owc3 := owc.fr f3 (fun g => g)
  obtain ⟨bs, row, k2, k3⟩ := ro
  have hbl := RwO.len row
  have f23 := f2.same f3
  have hnew : ∀ p ∈ bs, p.1 ≠ cb := fun p hp => by
    obtain ⟨j, hj, e⟩ := List.mem_iff_getElem.1 hp
    have h1 : bs[j]? = some p := by rw [List.getElem?_eq_getElem hj, e]
    have h2 := k3 j p _ h1 (List.getElem?_eq_getElem (by omega))
    have := h2.2.2.1.1
    omega
  generalize g2.push ⟨[rowC (cb, cc)], true⟩ = g3 at *
  refine RunO.appendG (s := 1) (j := 1) rfl rfl rfl rfl rfl rfl rfl rfl (by decide) (row.fr f23 (fun _ _ _ g => g)).gr ot.all rfl (Nat.le_refl 1) rfl (by show 2 * (_ + 1) * 24 ≤ _; omega) (by omega) ?_
  intro ov2 g4 row2 f4
  have ro4 := RwO.snoc (q := (cb, cc)) (x := l[i]) (lo := h.next) (row.fr f23 (fun _ _ _ g => g)) k2 (fun j p x a b => by
    obtain ⟨e1, e2, e3, e4, e5⟩ := k3 j p x a b
    exact ⟨e1, e2, e3.fr f23 (fun g => g), e4, e5⟩) hx hcc owc3 (by show h.next ≤ cb; omega) (fun g => by have := hov1 _ g; have : g1.next ≤ cb := hcb; show False; omega) hnew row2 f4 fg3.next
  refine RunO.all rfl ?_
  refine RunC.region (RunO.all rfl ?_)
  exact ⟨d - 1, by omega, i + 1, ov2, by omega, fg3.trans f4 (fun b g => .inr (hov b g)), by rw [htk]; exact ro4, fun e => by omega, Le.cons (inc64 (by omega)) (Le.cons rfl (Le.cons rfl (Le.cons rfl (Le.nil _))))⟩
theorem rdCut {h : Heap} {a : Addr} {l : List Value} (rd : Rd h a l) (k : Nat) : Rd h a (l.take k) := by
  obtain ⟨h1, h2, o, ho, he⟩ := rd
  exact ⟨h1, h2, o, ho, by rw [List.length_take, ← List.take_take, he]⟩
theorem slice3 {t e : TypeId} {b m n : Nat} (hu : prog.underlying t = some (.slice e)) (hs : Am.sizeOf prog e = some 1) (hm : 1 ≤ m) (hn : n ≤ m) :
    aslice prog t (.slice (some ⟨b, 0, none⟩) m (unkc 1)) none (some (.int .i64 (n : Int))) (some (.int .i64 (n : Int))) = some (.slice (some ⟨b, 0, none⟩) n (exc n)) := by
  have e1 : abound (.int .i64 (n : Int)) m = some n := by
    show cond (Nat.ble n m) (some n) none = _
    rw [Nat.ble_eq_true_of_le hn]; rfl
  have e2 : abound (.int .i64 (n : Int)) n = some n := by
    show cond (Nat.ble n n) (some n) none = _
    rw [Nat.ble_eq_true_of_le (Nat.le_refl n)]; rfl
  have e3 : abounds m m none (some (.int .i64 (n : Int))) (some (.int .i64 (n : Int))) = some (0, n, n) := by simp only [abounds, e1, e2]
  have e4 : Nat.ble 1 m = true := Nat.ble_eq_true_of_le hm
  have e5 : isUnk (unkc 1) = true := rfl
  have e6 : Nat.beq (half (unkc 1)) 1 = true := rfl
  simp only [aslice, hu, hs, e5, e6, cond_true, e4, e3]
  cases n <;> rfl
def szR (l : List (List Int)) (n : Nat) : List (List Int) := (l ++ List.replicate (n - l.length) (List.replicate 64 0)).take n
set_option maxHeartbeats 4000000 in
/-- Rows get another number. -/
theorem foldSize_ok {h : Heap} {v : Value} {l : List (List Int)} {n lo : Nat} (r : RwO lo h v l) (hlo : lo ≤ h.next) (hl : l.length ≤ 512) (hn : n ≤ 512) (hz : l = [] → v = .slice none 0 0) : RunF prog 42 [v, .int .i64 (n : Int)] h fun w h' => Rws h' w (szR l n) ∧ Fr (fun b => lo ≤ b) h h' := by
  refine RunF.walk func42 rfl rfl ?_
  refine RunC.seq (RunC.region (RunO.all rfl ?_))
  refine RunC.seq (RunC.block ?_)
  refine RunC.loop (fun d E h' => ∃ (k : Nat) (ov : Value), (k = 0 ∨ l.length + k ≤ n) ∧ d + l.length + k = l.length + n ∧ Fr (fun b => lo ≤ b) h h' ∧ RwO lo h' ov (l ++ List.replicate k (List.replicate 64 0)) ∧ (l.length + k = 0 → ov = .slice none 0 0) ∧ Le ((upd (upd E0 0 ov) 1 (.int .i64 (n : Int)))) E) ?st (k := n) ?ini
  case ini => exact ⟨0, v, .inl rfl, by omega, Fr.refl _ _, by rw [List.replicate_zero, List.append_nil]; exact r, fun e => hz (List.eq_nil_of_length_eq_zero (by omega)), Le.cons rfl (Le.cons rfl (Le.nil _))⟩
  rintro d E g1 ⟨k, ov, hk, hd, fg, ro, hzk, hE⟩
  refine RunC.le hE ?_
  clear hE
  have hln : (l ++ List.replicate k (List.replicate 64 (0:Int))).length = l.length + k := by rw [List.length_append, List.length_replicate]
  have ro0 := ro
  obtain ⟨bs, row, k2, k3⟩ := ro
  have sl := row.sl (by omega)
  have sl0 := sl
  obtain ⟨A, c, rfl, hc, _⟩ := sl.form
  refine RunC.seq (RunC.seq (RunC.region (RunO.all rfl ?_)))
  refine RunC.cond rfl (fun hlt => RunC.skip ?go) (fun hge => RunC.exit ?ex)
  case ex =>
    have hge := of_decide_eq_false hge
    refine RunC.seq (RunC.region (RunO.part 3 rfl ?_))
    have hsz : szR l n = (l ++ List.replicate k (List.replicate 64 0)).take n := by
      unfold szR
      rcases hk with h0 | h0
      · rw [h0, show n - l.length = 0 by omega]
      · rw [show n - l.length = k by omega]
    have hb : ∃ w, aslice prog 22 (.slice A (l ++ List.replicate k (List.replicate 64 0)).length c) none (some (.int .i64 (n : Int))) (some (.int .i64 (n : Int))) = some w ∧ Rws g1 w (szR l n) := by
      rw [hsz]
      rcases row.2 with ⟨e1, e2⟩ | ⟨b, e1, e2, e3⟩
      · injection e1 with h1 h2 h3
        subst h1 h3
        have e4 : n = 0 := by omega
        refine ⟨.slice none 0 0, ?_, ?_⟩
        · rw [e2, e4]; rfl
        · rw [e4, List.take_zero]; exact Rws.nil _
      · injection e2 with h1 h2 h3
        subst h1 h3
        have hrw := ro0.rws (by omega)
        have hm1 : 1 ≤ l.length + k := by
          rcases Nat.eq_zero_or_pos (l.length + k) with h0 | h0
          · have := hzk h0
            injection this with h1
            cases h1
          · exact h0
        refine ⟨_, slice3 rfl rfl (by omega) (by omega), ?_⟩
        obtain ⟨cs, s1, k1⟩ := hrw
        have hl2 : ((l ++ List.replicate k (List.replicate 64 (0:Int))).take n).length = n := by rw [List.length_take]; omega
        refine ⟨(bs.map rowC).take n, ⟨by rw [List.length_take, row.1, hl2]; omega, by omega, .inr ⟨b, 0, _, by rw [hl2], ?_, rdCut e3.all n⟩⟩, fun j x hx => ?_⟩
        · rw [hl2]; exact Cp.exc (Nat.le_refl _)
        · have hj := (List.getElem?_eq_some_iff.1 hx).1
          rw [hl2] at hj
          have hjb : j < bs.length := by have := RwO.len row; omega
          rw [List.getElem?_take_of_lt hj] at hx
          obtain ⟨hx1, hx2, hx3, _⟩ := k3 j bs[j] x (List.getElem?_eq_getElem hjb) hx
          refine ⟨rowC bs[j], ?_, ?_⟩
          · rw [List.getElem?_take_of_lt hj, List.getElem?_map, List.getElem?_eq_getElem hjb]; rfl
          · rw [hx1]; exact hx3.all.sl (by rw [us_len, hx1]) (by decide) hx2
    obtain ⟨w, e1, e2⟩ := hb
    refine RunO.one rfl (v := w) (h1 := g1) ?_ rfl ?_
    · show pureR g1 (aslice prog 22 (.slice A (l ++ List.replicate k (List.replicate 64 0)).length c) none (some (.int .i64 (n : Int))) (some (.int .i64 (n : Int)))) = _
      rw [e1]; rfl
    refine RunO.all rfl (RunC.ret ⟨_, rfl, e2, fg⟩)
  have hlt := of_decide_eq_true hlt
  refine RunC.block ?_
  refine RunC.region (RunO.part 1 rfl ?_)
  refine RunO.make (m := 64) rfl rfl rfl rfl rfl rfl (Nat.le_of_ble_eq_true rfl) (by decide) rfl ?_
  rw [reps_us]
  have od := Ow.push g1 (us (List.replicate 64 0))
  have f3 : Fr no g1 (g1.push ⟨us (List.replicate 64 0), true⟩) := Fr.push _ _ _
  have hov : ∀ b, At (.slice A (l ++ List.replicate k (List.replicate 64 0)).length c) b → lo ≤ b ∧ b < g1.next := fun b g => row.at g
  have hng := fg.next
  generalize g1.push ⟨us (List.replicate 64 0), true⟩ = g2 at *
  obtain ⟨db, hdb⟩ : ∃ q, q = g1.next := ⟨_, rfl⟩
  rw [← hdb] at od ⊢
  have hx64 : (List.replicate 64 (0:Int)).length = 64 := rfl
  have hnew : ∀ p ∈ bs, p.1 ≠ db := fun p hp => by
    obtain ⟨j, hj, e⟩ := List.mem_iff_getElem.1 hp
    have h1 : bs[j]? = some p := by rw [List.getElem?_eq_getElem hj, e]
    have h2 := k3 j p _ h1 (List.getElem?_eq_getElem (by have := RwO.len row; omega))
    have := h2.2.2.1.1
    omega
  generalize hR : l ++ List.replicate k (List.replicate 64 (0:Int)) = R at *
  refine RunO.part 1 (h1 := g2.push ⟨[rowC (db, exc 64)], true⟩) rfl ?_
  have ot := Ow.push g2 [rowC (db, exc 64)]
  have f4 : Fr no g2 (g2.push ⟨[rowC (db, exc 64)], true⟩) := Fr.push _ _ _
  have f34 := f3.same f4
  have fg3 := fg.trans (f34.weak (m1 := fun b => lo ≤ b) (fun _ g => by cases g)) (fun b g => .inl g)
  have od3 := od.fr f4 (fun g => g)
  generalize g2.push ⟨[rowC (db, exc 64)], true⟩ = g3 at *
  refine RunO.appendG (s := 1) (j := 1) rfl rfl rfl rfl rfl rfl rfl rfl (by decide) (row.fr f34 (fun _ _ _ g => g)).gr ot.all rfl (Nat.le_refl 1) rfl (by show 2 * (_ + 1) * 24 ≤ _; omega) (by omega) ?_
  intro ov2 g4 row2 f5
  have ro4 := RwO.snoc (q := (db, exc 64)) (x := List.replicate 64 0) (lo := lo) (row.fr f34 (fun _ _ _ g => g)) k2 (fun j p x a b => by
    obtain ⟨e1, e2, e3, e4, e5⟩ := k3 j p x a b
    exact ⟨e1, e2, e3.fr f34 (fun g => g), e4, e5⟩) hx64 (Cp.exc (Nat.le_refl _)) od3 (by show lo ≤ db; omega) (fun g => by have h1 := (hov _ g).2; have h2 : db = g1.next := hdb; have h1 : db < g1.next := h1; omega) hnew row2 f5 (by have := fg3.next; omega)
  refine RunO.all rfl ?_
  refine ⟨d - 1, by omega, k + 1, ov2, .inr (by omega), by omega, fg3.trans f5 (fun b g => .inl (hov b g).1), ?_, fun e => by omega, Le.cons rfl (Le.cons rfl (Le.nil _))⟩
  rw [List.replicate_succ', ← List.append_assoc, hR]
  exact ro4
end Go.Proofs.Ytdcggjkcbheolaa
end
