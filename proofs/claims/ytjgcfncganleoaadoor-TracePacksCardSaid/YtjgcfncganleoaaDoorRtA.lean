/-
  Law 09's document: what fits a width; a name's letters.
-/
import Derived.Test.YtjgcfncganleoaaDoorTrcB
namespace Go.Proofs.YtjgcfncganleoaaDoor
open Go.ChangeShapes Go.WideShapes Go.ChangeAt Go.RowKit
set_option linter.unusedVariables false
set_option linter.unusedSimpArgs false

variable {w w' w1 W : World}
set_option maxHeartbeats 1600000 in
theorem rone_c (k : Nat) (hk : k ≤ 63) (w : World) : Calls Tryd.prog 71 #[.int .i64 (k : Int)] w fun e w' => e = .returned (.int .u64 ((2 ^ k : Nat) : Int)) ∧ w = w' := by
  go_enter Tryd.func71, Tryd.ntmps71
  go_wp2_with fail
  go_loop [3, 4] (fun n i => ∃ j : Nat, j ≤ k ∧ i = .int .i64 j ∧ n = .int .u64 ((2 ^ j : Nat) : Int)) (fun _ i => k - (intOf i).toNat)
  case atStart => exact ⟨0, Nat.zero_le _, rfl, rfl⟩
  case round =>
    obtain ⟨j, hj, rfl, rfl⟩ := hrel
    have hp : 2 ^ j ≤ 2 ^ 63 := Nat.pow_le_pow_right (by omega) (by omega)
    have HS := Lib.hid (show 2 ^ (j + 1) = 2 ^ j * 2 from Nat.pow_succ ..)
    by_cases hlt : j < k
    · have hp2 : 2 ^ j ≤ 2 ^ 62 := Nat.pow_le_pow_right (by omega) (by omega)
      obtain ⟨x, hx⟩ : ∃ x, x = 2 ^ j := ⟨_, rfl⟩
      have HX := Lib.hid hx
      rw [← hx] at hp hp2 ⊢
      have hx1 : x ≤ 4611686018427387904 := by have : (2 : Nat) ^ 62 = 4611686018427387904 := by decide
                                               omega
      clear hx hp hp2
      go_wp2
      go_round
      case rel => exact ⟨j + 1, by omega, by go_num, by rw [HS.out, ← HX.out]; go_num⟩
      case measure => simp [intOf]; omega
    · obtain rfl : j = k := by omega
      go_wp2
      go_ret
      exact ⟨rfl, rfl⟩
set_option maxHeartbeats 1600000 in
theorem rfits_c (x : Int) (n : Nat) (hx1 : -9223372036854775808 ≤ x) (hx2 : x ≤ 9223372036854775807) (hn : n < 18446744073709551616) (w : World) : Calls Tryd.prog 49 #[.int .i64 x, .int .u64 (n : Int)] w fun e w' => e = .returned (.bool (fitsB x n)) ∧ w = w' := by
  by_cases h1 : x < 1
  · have HF := Lib.hid (show fitsB x n = false from by unfold fitsB; simp; omega)
    have h1' : ¬ 1 ≤ x := by omega
    go_enter Tryd.func49, Tryd.ntmps49
    go_wp2_with fail
    go_ret
    exact ⟨by rw [HF.out]; rfl, rfl⟩
  by_cases h2 : 64 < x
  · have HF := Lib.hid (show fitsB x n = false from by unfold fitsB; simp; omega)
    have h1' : 1 ≤ x := by omega
    have h2' : ¬ x ≤ 64 := by omega
    go_enter Tryd.func49, Tryd.ntmps49
    go_wp2_with fail
    go_ret
    exact ⟨by rw [HF.out]; rfl, rfl⟩
  by_cases h3 : x = 64
  · subst h3
    have HF := Lib.hid (show fitsB 64 n = true from by unfold fitsB; simp; exact hn)
    go_enter Tryd.func49, Tryd.ntmps49
    go_wp2_with fail
    go_ret
    exact ⟨by rw [HF.out]; rfl, rfl⟩
  · obtain ⟨k, rfl⟩ : ∃ k : Nat, x = (k : Int) := ⟨x.toNat, by omega⟩
    have HF := Lib.hid (show fitsB (k : Int) n = decide (n < 2 ^ k) from by
      have : (1 ≤ (k : Int) ∧ (k : Int) ≤ 64) := by omega
      unfold fitsB; simp [this])
    have HO := Lib.hid (rone_c k (by omega))
    have h1' : 1 ≤ (k : Int) := by omega
    have h2' : (k : Int) ≤ 64 := by omega
    have h3' : ((k : Int) == 64) = false := beq_eq_false_iff_ne.2 h3
    clear h3
    go_enter Tryd.func49, Tryd.ntmps49
    go_wp2_with fail
    refine (HO.out _).mono ?_
    rintro e w1 ⟨rfl, rfl⟩
    generalize 2 ^ k = y at *
    go_wp2_with fail
    go_ret
    exact ⟨by rw [HF.out]; simp, rfl⟩
end Go.Proofs.YtjgcfncganleoaaDoor
