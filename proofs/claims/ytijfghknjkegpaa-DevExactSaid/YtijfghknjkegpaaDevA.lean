/- Package dev, walked: what slices.Clone, dev.Of, dev.Read, dev.right, dev.Steps come to. -/
import Derived.Test.YtijfghknjkegpaaPDevExactx0
import Derived.Test.YtijfghknjkegpaaPDevExactx1
import Derived.Test.YtijfghknjkegpaaPDevExactx2
import Derived.Test.YtijfghknjkegpaaPDevExactx3
import Derived.Test.YtijfghknjkegpaaB0
import Derived.WalkSpells
import Derived.Laws.CopyOwn
import Derived.StillTailTactics
namespace Go.Proofs.Ytijfghknjkegpaa.PDevExact
open Go.RowKit Go.Proofs.YtijfghknjkegpaaW.PrintWords Go.Proofs.YtijfghknjkegpaaW.PrintLast Go.Proofs.YtijfghknjkegpaaW.PrintMore
set_option linter.unusedVariables false
set_option linter.unusedSimpArgs false
theorem w64 {x : Int} (h0 : -9223372036854775808 ≤ x) (h1 : x ≤ 9223372036854775807) : wrap64 x = x := by unfold wrap64; omega
theorem ret_slice {a a' : Option Addr} {n n' c c' : Nat} (h1 : a = a') (h2 : n = n') (h3 : c = c') : Ending.returned (.slice a n c) = .returned (.slice a' n' c') := by rw [h1, h2, h3]
theorem bcell {W w1 : World} {B : Nat} (hb : Below B W w1) : (∀ b o, b < B → w1.cell? ⟨b, o, none⟩ = W.cell? ⟨b, o, none⟩) :=
  fun b o h => hb.cell (p := ⟨b, o, none⟩) h
theorem R_empty {α : Type} (d : Kd α) (e : Nat) (w : World) (base : Nat) (hb : base ≤ w.heap.size) : Kd.R d e (w.alloc (.cells #[] e)) base (fun _ => True) (.slice (some ⟨w.heap.size, 0, none⟩) 0 0) [] := by
  refine ⟨fun _ _ => trivial, [], ⟨by simp, .inr ⟨w.heap.size, 0, #[], rfl, hb, (MapKept.heap_alloc w _).1, Nat.le_refl _, by unfold maxLen; omega, by simp, by simp⟩⟩, Reps.none _ _⟩

/-- dev.Of: a block that there is, in the device's own memory. -/
theorem devOf (ad : Addr) (n c : Nat) (k : Nat) (w : World) (h1 : k * 64 + 64 ≤ n) (hc : n ≤ c) (hm : c ≤ 9223372036854775807) :
    Calls Try.prog 42 #[.slice (some ad) n c, .int .i64 k] w fun e w' => e = .returned (.slice (some (ad.add (k * 64))) 64 (c - k * 64)) ∧ w = w' := by
  go_enter Try.func42, Try.ntmps42
  go_wp2
  go_ret
  exact ⟨ret_slice rfl (by omega) rfl, rfl⟩

/-- slices.Clone of bytes. -/
theorem clone_some (ad : Addr) (c0 : Nat) (l0 : List Int) (w : World) (hr0 : Kd.C (Kd.int .u8) w (some ad) l0.length l0) (hc0 : l0.length ≤ c0) (hl : l0.length ≤ 140737488355328) :
    Calls Try.prog 41 #[.slice (some ad) l0.length c0] w fun e w' => ∃ v, e = .returned v ∧ Kd.R (Kd.int .u8) 5 w' w.heap.size (fun _ => True) v l0 ∧ Below w.heap.size w w' := by
  have HR0 := Aside0.mk hr0
  have HC0 := Aside0.mk hc0
  clear hr0 hc0
  have HB := Aside0.mk (Below.refl w.heap.size w)
  have hq := fun (w : World) (a : Option Addr) (n c n' c' : Nat) => Lib.run_eql_slice_nil w _ _ a n c n' c' Try.underlying44
  go_enter Try.func41, Try.ntmps41
  go_wp2_with (at_builtin; refine Kd.R_append_rows (Kd.int .u8) (w0 := w) w.heap.size rfl (.tmp 5) (.tmp 6) 44 5 (.int .u8 0) 1 rfl Try.underlying44 info5 rfl (by decide) (by omega) _ ([] : List Int) l0 _ _ _ (fun _ => True) (fun _ => False) rfl rfl (R_empty _ _ _ _ (Nat.le_refl _)) (Kd.C_alloc HR0.out _) (fun _ _ h => h) (fun _ h => h.elim) (fun _ _ => trivial) (below_alloc HB.out _) (by simp) (by simpa using hl) ?_; intro v1 w1 ho hb hg hat)
  go_ret
  exact ⟨v1, rfl, ho, hb⟩
theorem clone_nil (c0 : Nat) (w : World) :
    Calls Try.prog 41 #[.slice none 0 c0] w fun e w' => e = .returned (.slice none 0 0) ∧ w = w' := by
  have hq := fun (w : World) (a : Option Addr) (n c n' c' : Nat) => Lib.run_eql_slice_nil w _ _ a n c n' c' Try.underlying44
  go_enter Try.func41, Try.ntmps41
  go_wp2
  go_ret
  exact ⟨rfl, rfl⟩
theorem clone_calls (A0 : Option Addr) (c0 : Nat) (l0 : List Int) (w : World) (hr0 : Kd.C (Kd.int .u8) w A0 l0.length l0) (hc0 : l0.length ≤ c0) (hl : l0.length ≤ 140737488355328) :
    Calls Try.prog 41 #[.slice A0 l0.length c0] w fun e w' => ∃ v, e = .returned v ∧ Kd.R (Kd.int .u8) 5 w' w.heap.size (fun _ => True) v l0 ∧ Below w.heap.size w w' := by
  rcases A0 with _ | ad
  · have h0 : l0.length = 0 := by
      rcases Nat.eq_zero_or_pos l0.length with h | h
      · exact h
      · obtain ⟨ad, ha, _⟩ := hr0.2.2 h; cases ha
    obtain rfl : l0 = [] := List.eq_nil_of_length_eq_zero h0
    exact (clone_nil c0 w).mono fun e w' ⟨he, hw⟩ => ⟨_, he, Kd.R_nil _ _ _ _ _, hw ▸ Below.refl _ _⟩
  · exact clone_some ad c0 l0 w hr0 hc0 hl

def validDev (img : List Int) : Bool := decide (img.length % 64 = 0 ∧ 4 ≤ img.length / 64 ∧ img.length / 64 ≤ 4096)
theorem check_f (img : List Int) (h : img.length ≤ 140737488355328) : dev_Check.f img = some (if validDev img = true then ((img.length / 64 : Nat) : Int) else 0, if validDev img = true then 0 else 2) := by
  unfold dev_Check.f validDev
  have e : ((img.length : Int) / 64) = ((img.length / 64 : Nat) : Int) := by omega
  rw [e, w64 (by omega) (by omega)]
  by_cases c1 : img.length % 64 = 0
  · rw [if_pos (by omega)]
    by_cases c2 : 4 ≤ img.length / 64
    · rw [if_neg (by omega)]
      by_cases c3 : img.length / 64 ≤ 4096
      · rw [if_neg (by omega), decide_eq_true ⟨c1, c2, c3⟩]; rfl
      · rw [if_pos (by omega), decide_eq_false (by omega)]; rfl
    · rw [if_pos (by omega), decide_eq_false (by omega)]; rfl
  · rw [if_neg (by omega), decide_eq_false (by omega)]; rfl
theorem block_C {w : World} {ad : Addr} {img : List Int} (h : Kd.C (Kd.int .u8) w (some ad) img.length img) (k : Nat) (hk : k * 64 + 64 ≤ img.length) : Kd.C (Kd.int .u8) w (some (ad.add (k * 64))) 64 ((img.drop (k * 64)).take 64) := by
  obtain ⟨hl, hm, hc⟩ := h
  obtain ⟨ad', he, hc⟩ := hc (by omega)
  injection he with he; subst he
  refine ⟨by simp; omega, by omega, fun _ => ⟨_, rfl, fun j p hj => ?_⟩⟩
  have hj' : j < 64 := by have := (List.getElem?_eq_some_iff.1 hj).1; simp at this; omega
  rw [List.getElem?_take_of_lt hj', List.getElem?_drop] at hj
  obtain ⟨c, h1, h2, h3⟩ := hc _ _ hj
  refine ⟨c, h1, h2, fun i u hi => ?_⟩
  have := h3 i u hi
  rw [Go.Deep.add_add]
  have hs : (Kd.int IntKind.u8).sz = 1 := rfl
  rw [hs] at this ⊢
  rw [← this]; congr 2; omega
end Go.Proofs.Ytijfghknjkegpaa.PDevExact
