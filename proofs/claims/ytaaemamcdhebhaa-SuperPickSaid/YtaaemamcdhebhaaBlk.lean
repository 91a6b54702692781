/- Blk: part of a calculus over an abstract machine that stands beside the model, and contracts of functions by it.
Conditions: what each theorem says of its arguments. -/
import Derived.Test.YtaaemamcdhebhaaRead
set_option linter.unusedVariables false
namespace Go.Proofs.Ytaaemamcdhebhaa
open Go Go.Am
/- Blocks of numbers: what is made is read. Nothing here names the program. -/
theorem leN_leB (n : Nat) : ∀ v : Int, leN (leB n v) = v % 256 ^ n := by
  induction n with
  | zero => intro v; simp [leB, leN, Int.emod_one]
  | succ n ih =>
    intro v
    rw [leB, leN, ih, Int.pow_succ, Int.mul_comm (256 ^ n) 256]
    have h1 := Int.emod_add_mul_ediv v 256
    have h2 := Int.emod_add_mul_ediv (v / 256) (256 ^ n)
    have h3 : v / (256 * 256 ^ n) = v / 256 / 256 ^ n := (Int.ediv_ediv_of_nonneg (by omega)).symm
    have h4 := Int.emod_add_mul_ediv v (256 * 256 ^ n)
    rw [h3, Int.mul_assoc] at h4
    have h5 : 256 * (v / 256 % 256 ^ n + 256 ^ n * (v / 256 / 256 ^ n)) = 256 * (v / 256) := by rw [h2]
    rw [Int.mul_add] at h5
    omega
theorem leB_byt (n : Nat) : ∀ v : Int, Byt (leB n v) := by
  induction n with
  | zero => intro v x h; simp [leB] at h
  | succ n ih =>
    intro v x h
    rw [leB, List.mem_cons] at h
    rcases h with rfl | h
    · omega
    · exact ih _ x h
theorem byt_app {a b : List Int} (ha : Byt a) (hb : Byt b) : Byt (a ++ b) := fun x hx => (List.mem_append.1 hx).elim (ha x) (hb x)
theorem byt_rep (n : Nat) : Byt (List.replicate n 0) := fun x hx => by rw [List.eq_of_mem_replicate hx]; omega
theorem byt_take {l : List Int} (h : Byt l) (k : Nat) : Byt (l.take k) := fun x hx => h x (List.mem_of_mem_take hx)
def catB : List Nat → List Int → List Int
  | s :: ss, n :: ns => leB s n ++ catB ss ns
  | _, _ => []
theorem catB_byt : ∀ (ss : List Nat) (ns : List Int), Byt (catB ss ns)
  | [], _ => fun x h => by simp [catB] at h
  | _ :: _, [] => fun x h => by simp [catB] at h
  | s :: ss, n :: ns => byt_app (leB_byt s n) (catB_byt ss ns)
theorem catB_len : ∀ (ss : List Nat) (ns : List Int), ns.length = ss.length → (catB ss ns).length = ss.sum
  | [], _, _ => rfl
  | s :: ss, [], h => by simp at h
  | s :: ss, n :: ns, h => by
    rw [catB, List.length_append, leB_len, catB_len ss ns (by simpa using h), List.sum_cons]
theorem put_cat : ∀ (ss : List Nat) (ns : List Int) (p : List Int) (z a : Nat), p.length = a → ns.length = ss.length → ss.sum ≤ z →
    putF (p ++ List.replicate z 0) ((layF a ss).zip ns) = p ++ catB ss ns ++ List.replicate (z - ss.sum) 0
  | [], ns, p, z, a, hp, hn, hz => by simp [layF, putF, catB]
  | s :: ss, [], p, z, a, hp, hn, hz => by simp at hn
  | s :: ss, n :: ns, p, z, a, hp, hn, hz => by
    have hz' : s + ss.sum ≤ z := by simpa using hz
    have e : layI (p ++ List.replicate z 0) a (leB s n) = (p ++ leB s n) ++ List.replicate (z - s) 0 := by
      unfold layI
      rw [leB_len, List.take_left' hp, List.drop_append, List.drop_of_length_le (by omega), List.nil_append, List.drop_replicate]
      congr 2
      omega
    show putF (layI (p ++ List.replicate z 0) a (leB s n)) ((layF (a + s) ss).zip ns) = _
    rw [e, put_cat ss ns (p ++ leB s n) (z - s) (a + s) (by rw [List.length_append, leB_len, hp]) (by simpa using hn) (by omega)]
    simp only [catB, List.sum_cons, List.append_assoc]
    congr 4
    omega
/-- Numbers that fit. -/
def Fits : List Nat → List Int → Prop
  | s :: ss, n :: ns => (0 ≤ n ∧ n < 256 ^ s ∧ n ≤ 4611686018427387903) ∧ Fits ss ns
  | [], [] => True
  | _, _ => False
theorem Fits.len : ∀ {ss : List Nat} {ns : List Int}, Fits ss ns → ns.length = ss.length
  | [], [], _ => rfl
  | s :: ss, n :: ns, h => by simpa using Fits.len h.2
  | [], _ :: _, h => h.elim
  | _ :: _, [], h => h.elim
theorem get_at {p r : List Int} {a s : Nat} {n : Int} (hp : p.length = a) (h : 0 ≤ n ∧ n < 256 ^ s ∧ n ≤ 4611686018427387903) : leGet (p ++ leB s n ++ r) a s = (n, 0) := by
  have e : ((p ++ leB s n ++ r).drop a).take s = leB s n := by
    rw [List.append_assoc, List.drop_left' hp, List.take_left' (leB_len s n)]
  unfold leGet
  rw [e, leN_leB, Int.emod_eq_of_lt h.1 h.2.1, if_neg (by omega)]
theorem read_cat : ∀ (ss : List Nat) (ns : List Int) (p r : List Int) (a : Nat), p.length = a → Fits ss ns →
    (layF a ss).all (okF (p ++ catB ss ns ++ r)) = true ∧ numsB (layF a ss) (p ++ catB ss ns ++ r) = ns
  | [], [], p, r, a, hp, hf => ⟨rfl, rfl⟩
  | [], _ :: _, p, r, a, hp, hf => hf.elim
  | _ :: _, [], p, r, a, hp, hf => hf.elim
  | s :: ss, n :: ns, p, r, a, hp, hf => by
    have ih := read_cat ss ns (p ++ leB s n) r (a + s) (by rw [List.length_append, leB_len, hp]) hf.2
    have e : p ++ catB (s :: ss) (n :: ns) ++ r = p ++ leB s n ++ catB ss ns ++ r := by simp [catB]
    rw [e]
    have g : leGet (p ++ leB s n ++ catB ss ns ++ r) a s = (n, 0) := by
      have := get_at (r := catB ss ns ++ r) hp hf.1
      rwa [← List.append_assoc] at this
    constructor
    · simp only [layF, List.all_cons, ih.1, Bool.and_true]
      unfold okF; rw [g]; rfl
    · show (leGet _ a s).1 :: numsB (layF (a + s) ss) _ = _
      rw [ih.2, g]
theorem endF_lay : ∀ (ss : List Nat) (a : Nat), (layF a ss).foldl (fun _ f => f.1 + f.2) a = a + ss.sum
  | [], a => rfl
  | s :: ss, a => by
    show (layF (a + s) ss).foldl _ (a + s) = _
    rw [endF_lay ss (a + s), List.sum_cons, Nat.add_assoc]
theorem makeB_eq {mb : List Int} {ss : List Nat} {ns : List Int} (hm : mb.length = 4) (hn : ns.length = ss.length) (hs : ss.sum ≤ 56) :
    makeB mb (layF 4 ss) ns = mb ++ catB ss ns ++ List.replicate (56 - ss.sum) 0 ++ leB 4 (Crc.sum 0 (mb ++ catB ss ns ++ List.replicate (56 - ss.sum) 0)) := by
  have hc := catB_len ss ns hn
  have e : (putF (mb ++ List.replicate 60 0) ((layF 4 ss).zip ns)).take 60 = mb ++ catB ss ns ++ List.replicate (56 - ss.sum) 0 := by
    rw [put_cat ss ns mb 60 4 hm hn (by omega)]
    rw [List.take_append, List.take_of_length_le (by simp; omega), List.take_replicate]
    congr 2
    simp; omega
  unfold makeB
  rw [e]
theorem makeB_byt {mb : List Int} {ss : List Nat} {ns : List Int} (hb : Byt mb) (hm : mb.length = 4) (hn : ns.length = ss.length) (hs : ss.sum ≤ 56) : Byt (makeB mb (layF 4 ss) ns) := by
  rw [makeB_eq hm hn hs]
  exact byt_app (byt_app (byt_app hb (catB_byt ss ns)) (byt_rep _)) (leB_byt 4 _)
theorem makeB_len {mb : List Int} {ss : List Nat} {ns : List Int} (hm : mb.length = 4) (hn : ns.length = ss.length) (hs : ss.sum ≤ 56) : (makeB mb (layF 4 ss) ns).length = 64 := by
  rw [makeB_eq hm hn hs]
  have hc := catB_len ss ns hn
  simp [leB_len]; omega
theorem zeros_rep {p r : List Int} {a z b : Nat} (hp : p.length = a) (hb : b = a + z) : zerosN (p ++ List.replicate z 0 ++ r) a b = true := by
  unfold zerosN
  rw [List.append_assoc, List.drop_left' hp, List.take_left' (by simp; omega)]
  rw [List.all_eq_true]
  intro x hx
  rw [List.eq_of_mem_replicate hx]; rfl
/-- What is made is read. -/
theorem read_make {mb : List Int} {ss : List Nat} {ns : List Int} (hm : mb.length = 4) (hf : Fits ss ns) (hs : ss.sum ≤ 56) :
    readB mb (layF 4 ss) (makeB mb (layF 4 ss) ns) = 0 ∧ numsB (layF 4 ss) (makeB mb (layF 4 ss) ns) = ns := by
  have hn := hf.len
  have hlen := makeB_len hm hn hs
  have hc := catB_len ss ns hn
  rw [makeB_eq hm hn hs] at hlen ⊢
  generalize hS : Crc.sum 0 (mb ++ catB ss ns ++ List.replicate (56 - ss.sum) 0) = S at *
  have hS0 : 0 ≤ S := by rw [← hS]; exact Crc.sum0 _ _
  have hS1 : S < 4294967296 := by rw [← hS]; exact Crc.sum1 _ _
  have h60 : (mb ++ catB ss ns ++ List.replicate (56 - ss.sum) 0).length = 60 := by simp; omega
  obtain ⟨h1, h2⟩ := read_cat ss ns mb (List.replicate (56 - ss.sum) 0 ++ leB 4 S) 4 hm hf
  rw [← List.append_assoc] at h1 h2
  refine ⟨?_, h2⟩
  have hgood : goodB (mb ++ catB ss ns ++ List.replicate (56 - ss.sum) 0 ++ leB 4 S) = true := by
    unfold goodB
    rw [hlen]
    have g := get_at (p := mb ++ catB ss ns ++ List.replicate (56 - ss.sum) 0) (r := []) (a := 60) (s := 4) (n := S) h60 ⟨hS0, hS1, by omega⟩
    rw [List.append_nil] at g
    rw [show (64 - 4 : Nat) = 60 from rfl, g, List.take_left' h60, hS]
    exact beq_self_eq_true _
  have hz : zerosN (mb ++ catB ss ns ++ List.replicate (56 - ss.sum) 0 ++ leB 4 S) (endF (layF 4 ss)) 60 = true := by
    have e : endF (layF 4 ss) = 4 + ss.sum := endF_lay ss 4
    rw [e]
    exact zeros_rep (by simp; omega) (by omega)
  unfold readB
  rw [if_neg (by omega), if_neg (by rw [List.append_assoc, List.append_assoc, List.take_left' hm]; simp), if_neg (by rw [hgood]; decide), if_neg (by rw [h1]; decide), if_neg (by rw [hz]; decide)]
end Go.Proofs.Ytaaemamcdhebhaa
