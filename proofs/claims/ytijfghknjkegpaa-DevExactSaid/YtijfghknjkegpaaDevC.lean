/- Package dev, walked: a block that is read, what all steps, what a crash leaves. -/
import Derived.Test.YtijfghknjkegpaaDevB
namespace Go.Proofs.Ytijfghknjkegpaa.PDevExact
open Go.RowKit Go.Proofs.YtijfghknjkegpaaW.PrintWords Go.Proofs.YtijfghknjkegpaaW.PrintLast Go.Proofs.YtijfghknjkegpaaW.PrintMore
set_option linter.unusedVariables false
set_option linter.unusedSimpArgs false
theorem two_words {v v' : Value} {a a' : Int} (h1 : v = v') (h2 : a = a') : Ending.returned (.tuple #[v, .int .i64 a]) = .returned (.tuple #[v', .int .i64 a']) := by rw [h1, h2]
def blockAt (img : List Int) (k : Nat) : List Int := (img.drop (k * 64)).take 64
def readOf (img : List Int) (k : Int) : List Int × Int :=
  if validDev img = false then ([], 2) else if k < 0 ∨ (img.length / 64 : Nat) ≤ k then ([], 3) else (blockAt img k.toNat, 0)
theorem valid_len {img : List Int} (h : validDev img = true) : img.length % 64 = 0 ∧ 4 ≤ img.length / 64 ∧ img.length / 64 ≤ 4096 := by
  unfold validDev at h; simpa using h
theorem devRead (A0 : Option Addr) (c0 : Nat) (img : List Int) (k : Int) (w : World) (hr0 : Kd.C (Kd.int .u8) w A0 img.length img) (hc0 : img.length ≤ c0) (hm0 : c0 ≤ 9223372036854775807) (hi : img.length ≤ 140737488355328) :
    Calls Try.prog 26 #[.slice A0 img.length c0, .int .i64 k] w fun e w' => ∃ v, e = .returned (.tuple #[v, .int .i64 (readOf img k).2]) ∧ Kd.R (Kd.int .u8) 5 w' w.heap.size (fun _ => True) v (readOf img k).1 ∧ Below w.heap.size w w' := by
  have HR0 := Aside0.mk hr0
  have HC0 := Aside0.mk hc0
  have HF := Aside0.mk (check_f img hi)
  cases hv : validDev img with
  | false =>
    have hres : readOf img k = ([], 2) := by unfold readOf; rw [if_pos hv]
    rw [hres]
    have HV := Aside0.mk hv
    clear hv hres hr0 hc0
    go_enter Try.func26, Try.ntmps26
    go_wp2_with fail
    refine (dev_Check.calls A0 c0 img 0 2 w HR0.out HC0.out (by rw [HF.out, HV.out]; rfl)).mono ?_
    rintro e w1 ⟨rfl, hd1⟩
    have HB1 := Aside0.mk hd1.below
    clear hd1
    go_wp2
    go_ret2
    exact ⟨_, rfl, Kd.R_nil _ _ _ _ _, HB1.out⟩
  | true =>
    have hlen := valid_len hv
    have HV := Aside0.mk hv
    have hres : readOf img k = if k < 0 ∨ (img.length / 64 : Nat) ≤ k then ([], 3) else (blockAt img k.toNat, 0) := by unfold readOf; rw [if_neg (by rw [hv]; decide)]
    clear hv
    generalize hn : img.length / 64 = n at *
    have HN := Aside0.mk hn
    have hlo : n * 64 = img.length := by omega
    have hnb : n ≤ 4096 := hlen.2.2
    by_cases c1 : k < 0
    · have h1 : decide (k < 0) = true := decide_eq_true c1
      rw [if_pos (.inl c1)] at hres
      rw [hres]
      clear hr0 hc0 hres hn hlen hlo
      go_enter Try.func26, Try.ntmps26
      go_wp2_with fail
      refine (dev_Check.calls A0 c0 img n 0 w HR0.out HC0.out (by rw [HF.out, HV.out]; rfl)).mono ?_
      rintro e w1 ⟨rfl, hd1⟩
      have HB1 := Aside0.mk hd1.below
      clear hd1
      go_wp2
      go_ret2
      exact ⟨_, rfl, Kd.R_nil _ _ _ _ _, HB1.out⟩
    · by_cases c2 : (n : Int) ≤ k
      · have h1 : decide (k < 0) = false := decide_eq_false c1
        have h2 : decide ((n : Int) ≤ k) = true := decide_eq_true c2
        rw [if_pos (.inr c2)] at hres
        rw [hres]
        clear hr0 hc0 hres hn hlen hlo
        go_enter Try.func26, Try.ntmps26
        go_wp2_with fail
        refine (dev_Check.calls A0 c0 img n 0 w HR0.out HC0.out (by rw [HF.out, HV.out]; rfl)).mono ?_
        rintro e w1 ⟨rfl, hd1⟩
        have HB1 := Aside0.mk hd1.below
        clear hd1
        go_wp2
        go_ret2
        exact ⟨_, rfl, Kd.R_nil _ _ _ _ _, HB1.out⟩
      · obtain ⟨j, rfl⟩ := Int.eq_ofNat_of_zero_le (show 0 ≤ k by omega)
        have h1 : decide ((j : Int) < 0) = false := decide_eq_false c1
        have h2 : decide (n ≤ j) = false := decide_eq_false (by omega)
        rw [if_neg (by omega)] at hres
        rw [hres]
        have hj : j * 64 + 64 ≤ img.length := by omega
        obtain ⟨ad, rfl, -⟩ := hr0.2.2 (by omega)
        clear hr0 hres hn hlen hlo
        go_enter Try.func26, Try.ntmps26
        go_wp2_with fail
        refine (dev_Check.calls (some ad) c0 img n 0 w HR0.out HC0.out (by rw [HF.out, HV.out]; rfl)).mono ?_
        rintro e w1 ⟨rfl, hd1⟩
        have HB1 := Aside0.mk hd1.below
        have HR1 := Aside0.mk (Kd.C_below HR0.out hd1.below)
        clear hd1
        go_wp2_with fail
        refine (devOf ad img.length c0 j _ hj hc0 hm0).mono ?_
        rintro e w2 ⟨rfl, rfl⟩
        go_wp2_with fail
        have hbl : (blockAt img j).length = 64 := by unfold blockAt; simp; omega
        have hcl := clone_calls (some (ad.add (j * 64))) (c0 - j * 64) (blockAt img j) w1 (by rw [hbl]; exact block_C HR1.out j hj) (by omega) (by omega)
        rw [hbl] at hcl
        refine hcl.mono ?_
        rintro e w2 ⟨v, rfl, r2, hb2⟩
        have HB2 := Aside0.mk (below_then HB1.out HB1.out.size hb2)
        have HR2 := Aside0.mk (Kd.R_lower r2 HB1.out.size)
        clear r2 hb2 hbl
        go_wp2
        go_ret2
        exact ⟨v, rfl, HR2.out, HB2.out⟩
end Go.Proofs.Ytijfghknjkegpaa.PDevExact
