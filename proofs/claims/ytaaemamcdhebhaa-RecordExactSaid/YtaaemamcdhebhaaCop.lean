/- Copies onto a row of one's own: what a row of whole numbers reads behind 'copy'. Nothing here names the program. -/
import Derived.Test.YtaaemamcdhebhaaWWords
import Derived.Test.YtaaemamcdhebhaaWMore
import Derived.Laws.CopyOwn
import Derived.Lib.BufferWrite
import Derived.ArgAppend
import Derived.Lib.SmallJoins
import Derived.WalkSpells
import Derived.Deep.Slices
import Derived.StillTailTactics
namespace Go.Proofs.Ytaaemamcdhebhaa.Cop
open Go.RowKit Go.Proofs.YtaaemamcdhebhaaW.PrintWords
theorem splice_take {α : Type} (L cs : List α) (off n : Nat) (h : off + cs.length ≤ n) (h2 : off ≤ L.length) : (splice L off cs).take n = splice (L.take n) off cs := by
  unfold splice
  rw [List.take_append, List.take_append, List.length_take, Nat.min_eq_left h2, List.take_take, List.take_take, List.drop_take]
  congr 1
  · congr 1; omega
  · congr 1
    · exact List.take_of_length_le (by omega)
    · congr 1; omega
theorem nums_splice (k : IntKind) (xs ys : List Int) (off : Nat) : nums k (splice xs off ys) = splice (nums k xs) off (nums k ys) := by
  unfold splice nums; simp
theorem R_splice {k : IntKind} {w w' : World} {base e g n cap : Nat} {ok : Nat → Prop} {xs ys : List Int} {cur : List Value} {off : Nat} (h : Kd.R (Kd.int k) e w base ok (.slice (some ⟨g, 0, none⟩) n cap) xs) (hg : w.heap[g]? = some (.cells cur.toArray e (0, 0)))
    (hg' : w'.heap[g]? = some (.cells (splice cur off (nums k ys)).toArray e (0, 0))) (hfit : off + ys.length ≤ xs.length) : Kd.R (Kd.int k) e w' base ok (.slice (some ⟨g, 0, none⟩) n cap) (splice xs off ys) ∧ off + ys.length ≤ cur.length := by
  obtain ⟨hok, inner, ho, hr⟩ := h
  have hown := Kd.own_of_R (h1 := fun _ => rfl) ⟨hok, inner, ho, hr⟩
  obtain ⟨hl, hh⟩ := hown
  rcases hh with ⟨h1, _⟩ | ⟨g', cap', cur', hv, hb, hheap, hcap, hmax, hsz, htake⟩
  · cases h1
  · injection hv with e1 e2 e3
    injection e1 with e1
    injection e1 with e1
    subst e1; subst e3
    rw [hg] at hheap
    injection hheap with hheap
    injection hheap with hc
    have hc' : cur'.toList = cur := by rw [← hc]
    rw [hc'] at htake
    have hcl : cur.length = cap * 1 := by rw [← hc', ← hsz, Array.length_toList]
    have hxl : xs.length = n := e2.symm
    have hle : off + ys.length ≤ cur.length := by omega
    refine ⟨Kd.R_of_own ?_ hok, hle⟩
    have hpl : (splice xs off ys).length = xs.length := length_splice _ _ _ hfit
    rw [hpl]
    refine ⟨by rw [encs_length, hpl]; omega, .inr ⟨g, cap, _, by rw [hxl], hb, hg', by omega, hmax, by rw [List.size_toArray, length_splice _ _ _ (by rw [nums_length]; exact hle)]; exact hcl, ?_⟩⟩
    simp only [Nat.mul_one] at htake ⊢
    rw [splice_take _ _ _ _ (by rw [nums_length]; omega) (by omega)]
    have e4 : encs (Value.int k) (splice xs off ys) = splice (nums k xs) off (nums k ys) := nums_splice k xs ys off
    have e5 : encs (Value.int k) xs = nums k xs := rfl
    rw [e4, ← e5, ← htake]
theorem R_cap {α : Type} {d : Kd α} {e : Nat} {w : World} {base : Nat} {ok : Nat → Prop} {A : Option Addr} {n c : Nat} {xs : List α} (h : Kd.R d e w base ok (.slice A n c) xs) : n = xs.length ∧ n ≤ c ∧ c ≤ 9223372036854775807 := by
  obtain ⟨inner, hl, hh⟩ := Kd.R_own h
  obtain ⟨h1, h2, _⟩ := Kd.R_reads' h
  rcases hh with ⟨h3, _⟩ | ⟨g', cap', cur', hv, hb, hheap, hcap, hmax, hsz, htake⟩
  · injection h3 with _ _ h3; subst h3; exact ⟨h1, h2, by omega⟩
  · injection hv with _ _ h3; subst h3; exact ⟨h1, h2, by unfold maxLen at hmax; omega⟩
theorem nums_one (k : IntKind) (xs : List Int) : ∀ v ∈ nums k xs, v.oneCell' = true := by
  intro v hv; unfold nums at hv; obtain ⟨x, _, rfl⟩ := List.mem_map.1 hv; rfl
/-- The cells that a row of whole numbers is read from. -/
theorem C_cells {w : World} {A : Option Addr} {n : Nat} {xs : List Int} {k : IntKind} (h : Kd.C (Kd.int k) w A n xs) (hp : 0 < n) : ∃ ad, A = some ad ∧ ∀ j v, (nums k xs)[j]? = some v → w.cell? (ad.add j) = some v := by
  obtain ⟨ad, ha, hc⟩ := h.2.2 hp
  refine ⟨ad, ha, fun j v hv => ?_⟩
  unfold nums at hv
  rw [List.getElem?_map, Option.map_eq_some_iff] at hv
  obtain ⟨p, hp, rfl⟩ := hv
  obtain ⟨c, h1, h2, h3⟩ := hc j p hp
  have h2' : c = [.int k p] := h2
  subst h2'
  have := h3 0 _ rfl
  have hs : (Kd.int k).sz = 1 := rfl
  rw [hs, Nat.mul_one, Nat.add_zero] at this
  exact this
theorem R_fit {k : IntKind} {w : World} {base e g n cap : Nat} {ok : Nat → Prop} {xs : List Int} {cur : List Value} (h : Kd.R (Kd.int k) e w base ok (.slice (some ⟨g, 0, none⟩) n cap) xs) (hg : w.heap[g]? = some (.cells cur.toArray e (0, 0))) : xs.length ≤ cur.length := by
  obtain ⟨inner, hl, hh⟩ := Kd.R_own h
  rcases hh with ⟨h3, _⟩ | ⟨g', cap', cur', hv, hb, hheap, hcap, hmax, hsz, htake⟩
  · cases h3
  · injection hv with e1 e2 e3
    injection e1 with e1
    injection e1 with e1
    subst e1; subst e3
    rw [hg] at hheap
    injection hheap with hheap
    injection hheap with hc
    have hc' : cur'.toList = cur := by rw [← hc]
    have h4 := congrArg List.length htake
    rw [List.length_take, hl, hc'] at h4
    have h5 : (Kd.int k).sz = 1 := rfl
    rw [h5, Nat.mul_one] at h4
    omega
theorem byteCells_nums (s : ByteArray) : Lib.byteCells s.data.toList = nums .u8 (bytesOf s) := by
  unfold Lib.byteCells nums bytesOf; rw [List.map_map]; rfl
/-- A string copied onto a row of bytes of one's own. -/
theorem copystr {P : Program} {w0 W : World} {ops : Array Oper} {rest : List Oper} {o : Oper} {a : Act} {Q : Exit → Act → World → Prop} (hgd : o.guard = none) (d x : Operand) (dT sT : TypeId)
    (ho : o.op = .call { callee := .builtin .copy, args := #[d, x], argTypes := #[dT, sT] }) (e : TypeId) (hu : P.underlying dT = some (.slice e)) (hsz : (P.info? e).map (·.size) = some 1)
    (g n cap base : Nat) (ok : Nat → Prop) (xs : List Int) (s : ByteArray) (hd : a.eval d = .slice (some ⟨g, 0, none⟩) n cap) (hx : a.eval x = .string s)
    (h : Kd.R (Kd.int .u8) e W base ok (.slice (some ⟨g, 0, none⟩) n cap) xs) (hle : s.size ≤ xs.length) (hb : Below base w0 W) (hbg : base ≤ g)
    (hK : ∀ w1, Kd.R (Kd.int .u8) e w1 base ok (.slice (some ⟨g, 0, none⟩) n cap) (splice xs 0 (bytesOf s)) → Below base w0 w1 → W.grownBy w1 (some g) → wpList P ops Q rest (a.put o.dst (goInt s.size)) w1) : wpList P ops Q (o :: rest) a W := by
  refine wpList_plain hgd fun K hK2 => ?_
  have hn : n = xs.length := (R_cap h).1
  obtain ⟨inner, hl, hh⟩ := Kd.R_own h
  rcases hh with ⟨h3, _⟩ | ⟨g', cap', cur', hv, hb', hheap, hcap, hmax, hszz, htake⟩
  · cases h3
  · injection hv with e1 e2 e3
    injection e1 with e1
    injection e1 with e1
    subst e1; subst e3
    have hfit := R_fit (cur := cur'.toList) h (by simpa using hheap)
    have hbl : (nums .u8 (bytesOf s)).length = s.size := by rw [nums_length, bytesOf_length]
    have hrun := Lib.run_copy_row_string (P := P) W dT sT o.type e g 0 n cap s cur' e hu hsz hheap (by omega) (by have := Array.length_toList (xs := cur'); omega)
    have hsp : (cur'.toList.take 0 ++ Lib.byteCells s.data.toList ++ cur'.toList.drop (0 + s.size)) = splice cur'.toList 0 (nums .u8 (bytesOf s)) := by
      unfold splice; rw [byteCells_nums, hbl, List.append_assoc]
    rw [hsp] at hrun
    unfold Oper.wp
    simp [execOp, ho, resolve, invoke, builtin, hd, hx, hrun, Result.andThen]
    refine hK2 _ _ (hK _ (R_splice (cur := cur'.toList) h (by simpa using hheap) (setRow_heap W g _ _ e _ hheap) (by rw [bytesOf_length]; omega)).1 (below_setRow hb hbg _) ?_)
    exact ⟨rfl, rfl, rfl, by simp [World.setRow], fun k hk hne => setRow_other W g k _ (fun he => hne (by rw [he]))⟩
theorem const4 {W : World} {g t : Nat} {fr : Nat × Nat} {x0 x1 x2 x3 : Int} (h : W.heap[g]? = some (.cells #[.int .u8 x0, .int .u8 x1, .int .u8 x2, .int .u8 x3] t fr)) : ∀ j u, (nums .u8 [x0, x1, x2, x3])[j]? = some u → W.cell? ⟨g, j, none⟩ = some u := by
  intro j u hj
  rw [cell_of_row W g j _ t fr h, ← hj]
  unfold nums
  match j with
  | 0 => rfl
  | 1 => rfl
  | 2 => rfl
  | 3 => rfl
  | j + 4 => rfl
/-- Bytes appended to a constant's bytes (a row that is full): a new row. -/
theorem append_const {P : Program} {w0 W : World} {ops : Array Oper} {rest : List Oper} {o : Oper} {a : Act} {Q : Exit → Act → World → Prop} (hgd : o.guard = none) (s x : Operand) (t e : TypeId)
    (ho : o.op = .call { callee := .builtin .append, args := #[s, x], argTypes := #[t, t] }) (ht : P.underlying t = some (.slice e)) (hinfo : (P.info? e).map (fun i => (i.zero, i.size, i.bytes)) = some (some (.int .u8 0), 1, 1))
    (g : Nat) (xs ys : List Int) (A : Option Addr) (c : Nat) (hs : a.eval s = .slice (some ⟨g, 0, none⟩) xs.length xs.length) (hcells : ∀ j u, (nums .u8 xs)[j]? = some u → W.cell? ⟨g, j, none⟩ = some u)
    (hx : a.eval x = .slice A ys.length c) (hC : Kd.C (Kd.int .u8) W A ys.length ys) (hy : 0 < ys.length) (hl : xs.length + ys.length ≤ 140737488355328) (hB : Below w0.heap.size w0 W)
    (hK : ∀ v1 w1, Kd.R (Kd.int .u8) e w1 w0.heap.size (fun _ => True) v1 (xs ++ ys) → Below w0.heap.size w0 w1 → W.grownBy w1 none → wpList P ops Q rest (a.put o.dst v1) w1) : wpList P ops Q (o :: rest) a W := by
  obtain ⟨i, hi, hz⟩ := Option.map_eq_some_iff.1 hinfo
  simp only [Prod.mk.injEq] at hz
  obtain ⟨ad, hA, hc⟩ := C_cells hC hy
  subst hA
  refine wpList_append_grows W hgd s x t ho e i (.int .u8 0) 1 1 ht hi hz.1 hz.2.1 hz.2.2 rfl (by decide) (some ⟨g, 0, none⟩) xs.length xs.length (nums .u8 xs) hs (fun h => by cases h) (by rw [nums_length, Nat.mul_one])
    (fun b hb j u hj => by injection hb with hb; subst hb; rw [add_plain]; exact hcells j u hj) ad ys.length c (nums .u8 ys) hx (by rw [nums_length, Nat.mul_one]) hc (nums_one _ _) (by omega) (by unfold maxLen; omega) (by omega) ?_
  intro v1 w1 hown hg
  rw [← nums_append, ← List.length_append] at hown
  refine hK v1 w1 (Kd.R_lower (Kd.R_of_own (h1 := fun _ => rfl) hown (fun _ _ => trivial)) hB.size) ?_ hg
  exact pw_below_grown hB none hB.size hg (fun k hk => by cases hk)
theorem block_C {w : World} {ad : Addr} {img : List Int} (h : Kd.C (Kd.int .u8) w (some ad) img.length img) (k : Nat) (hk : k * 64 + 64 ≤ img.length) : Kd.C (Kd.int .u8) w (some (ad.add (k * 64))) 64 ((img.drop (k * 64)).take 64) := by
  obtain ⟨hl, hm, hc⟩ := h
  obtain ⟨ad', he, hc⟩ := hc (by omega)
  injection he with he; subst he
  refine ⟨by simp; omega, by omega, fun _ => ⟨_, rfl, fun j p hj => ?_⟩⟩
  have hj' : j < 64 := by have := (List.getElem?_eq_some_iff.1 hj).1; simp at this; omega
  rw [List.getElem?_take_of_lt hj', List.getElem?_drop] at hj
  obtain ⟨c, h1, h2, h3⟩ := hc _ _ hj
  refine ⟨c, h1, h2, fun i u hi => ?_⟩
  have := h3 i u hi
  rw [Go.Deep.add_add]
  have hs : (Kd.int IntKind.u8).sz = 1 := rfl
  rw [hs] at this ⊢
  rw [← this]; congr 2; omega
end Go.Proofs.Ytaaemamcdhebhaa.Cop
