/-
  Package word: which types may be, which numbers fit.
-/
import Derived.Test.YtjnjldbegngooaaDoorGen
import Derived.BigQuiet
namespace Go.Proofs.YtjnjldbegngooaaDoor
open Go.ChangeShapes Go.WideShapes Go.ChangeAt Go.RowKit
set_option linter.unusedVariables false
set_option linter.unusedSimpArgs false

def mayW (b s : Bool) (x : Int) : Bool := if b = true then (!s && decide (x = 1)) else (decide (1 ≤ x) && decide (x ≤ 64))
def tyW (b s : Bool) (x : Int) : Value := .agg #[.bool b, .bool s, .int .i64 x]
variable {w w' : World}
set_option maxHeartbeats 800000 in
theorem word_may (b s : Bool) (x : Int) (w : World) : Calls Tryd.prog 30 #[tyW b s x] w (BoolIs (mayW b s x) w) := by
  unfold tyW
  have HK := Lib.hid ((Kept.refl [] w).alloc (.cells #[.bool b, .bool s, .int .i64 x] 34))
  cases b with
  | true =>
    cases s with
    | true =>
      have HR := Lib.hid (show mayW true true x = false from by simp [mayW])
      go_enter Tryd.func30, Tryd.ntmps30
      go_wp2
      go_ret
      exact ⟨by rw [HR.out]; rfl, HK.out⟩
    | false =>
      have HR := Lib.hid (show (decide (x = 1)) = mayW true false x from by simp [mayW])
      go_enter Tryd.func30, Tryd.ntmps30
      go_wp2
      go_ret
      exact ⟨by rw [← HR.out]; rfl, HK.out⟩
  | false =>
    by_cases h1 : 1 ≤ x
    · by_cases h2 : x ≤ 64
      · have HR := Lib.hid (show mayW false s x = true from by simp [mayW, h1, h2])
        go_enter Tryd.func30, Tryd.ntmps30
        go_wp2
        go_ret
        exact ⟨by rw [HR.out]; rfl, HK.out⟩
      · have HR := Lib.hid (show mayW false s x = false from by simp [mayW, h2])
        go_enter Tryd.func30, Tryd.ntmps30
        go_wp2
        go_ret
        exact ⟨by rw [HR.out]; rfl, HK.out⟩
    · have HR := Lib.hid (show mayW false s x = false from by simp [mayW, h1])
      go_enter Tryd.func30, Tryd.ntmps30
      go_wp2
      go_ret
      exact ⟨by rw [HR.out]; rfl, HK.out⟩
theorem ones_nat (k : Nat) (h : k ≤ 64) : 18446744073709551615 / 2 ^ (64 - k) = 2 ^ k - 1 := by
  have h1 : 2 ^ (64 - k) * 2 ^ k = 18446744073709551616 := by rw [← Nat.pow_add, show 64 - k + k = 64 by omega]
  have h2 : 0 < 2 ^ k := Nat.two_pow_pos k
  have h3 : 0 < 2 ^ (64 - k) := Nat.two_pow_pos _
  rw [Nat.div_eq_iff h3]
  generalize 2 ^ (64 - k) = a at *
  generalize 2 ^ k = b at *
  obtain ⟨c, rfl⟩ : ∃ c, b = c + 1 := ⟨b - 1, by omega⟩
  rw [Nat.mul_add] at h1
  simp only [Nat.add_sub_cancel]
  rw [Nat.mul_comm c a]
  omega
theorem and_high (k n : Nat) (hk : k ≤ 64) (hn : n < 18446744073709551616) : decide (n &&& (18446744073709551615 - (2 ^ k - 1)) = 0) = decide (n < 2 ^ k) := by
  have hp : 2 ^ k ≤ 2 ^ 64 := Nat.pow_le_pow_right (by omega) hk
  have hpos := Nat.two_pow_pos k
  have hx : 18446744073709551615 - (2 ^ k - 1) = 2 ^ k * (2 ^ (64 - k) - 1) := by
    have h1 : 2 ^ k * 2 ^ (64 - k) = 18446744073709551616 := by rw [← Nat.pow_add, show k + (64 - k) = 64 by omega]
    rw [Nat.mul_sub, h1]; omega
  rw [hx, Bool.eq_iff_iff, decide_eq_true_eq, decide_eq_true_eq]
  constructor
  · intro h
    refine Nat.lt_of_not_le fun hle => ?_
    have h2 : n / 2 ^ k ≠ 0 := by
      rw [Nat.ne_zero_iff_zero_lt]
      exact Nat.div_pos hle hpos
    have h3 : (n &&& (2 ^ k * (2 ^ (64 - k) - 1))) / 2 ^ k = n / 2 ^ k := by
      rw [← Nat.shiftRight_eq_div_pow, Nat.shiftRight_and_distrib, Nat.shiftRight_eq_div_pow, Nat.shiftRight_eq_div_pow, Nat.mul_div_cancel_left _ hpos, Nat.and_two_pow_sub_one_eq_mod]
      refine Nat.mod_eq_of_lt ?_
      rw [Nat.div_lt_iff_lt_mul hpos, ← Nat.pow_add, show 64 - k + k = 64 by omega]
      exact hn
    rw [h] at h3
    simp at h3
    exact h2 (by rw [← h3])
  · intro h
    refine Nat.eq_of_testBit_eq fun i => ?_
    rw [Nat.testBit_and, Nat.testBit_two_pow_mul, Nat.zero_testBit]
    by_cases hi : k ≤ i
    · have : n.testBit i = false := Nat.testBit_lt_two_pow (Nat.lt_of_lt_of_le h (Nat.pow_le_pow_right (by omega) hi))
      rw [this]; rfl
    · simp [hi]
theorem word_ones (b s : Bool) (k : Nat) (h1 : 1 ≤ k) (hk : k ≤ 64) (w : World) : Calls Tryd.prog 80 #[tyW b s (k : Int)] w fun e w' => e = .returned (.int .u64 ((2 ^ k - 1 : Nat) : Int)) ∧ Kept [] w w' := by
  unfold tyW
  have HK := Lib.hid ((Kept.refl [] w).alloc (.cells #[.bool b, .bool s, .int .i64 (k : Int)] 34))
  have HV := Lib.hid (show (18446744073709551615 / 2 ^ (64 - k) : Int) = ((2 ^ k - 1 : Nat) : Int) from by
    rw [← ones_nat k hk, Int.natCast_ediv, Int.natCast_pow]
    rfl)
  go_enter Tryd.func80, Tryd.ntmps80
  go_wp2
  go_ret
  exact ⟨by rw [← HV.out]; rfl, HK.out⟩
/-- a number fits a type -/
def fitsW (b s : Bool) (x : Int) (n : Nat) : Bool := mayW b s x && decide (n < 2 ^ x.toNat)
theorem mayW_bounds {b s : Bool} {x : Int} (h : mayW b s x = true) : 1 ≤ x ∧ x ≤ 64 := by
  unfold mayW at h
  split at h <;> simp at h <;> omega
set_option maxHeartbeats 800000 in
theorem word_is (b s : Bool) (x : Int) (n : Nat) (hn : n < 18446744073709551616) (w : World) : Calls Tryd.prog 64 #[tyW b s x, .int .u64 (n : Int)] w (BoolIs (fitsW b s x n) w) := by
  have HK := Lib.hid ((Kept.refl [] w).alloc (.cells #[.bool b, .bool s, .int .i64 x] 34))
  have HM := Lib.hid (fun (W : World) => word_may b s x W)
  cases hm : mayW b s x with
  | false =>
    rw [hm] at HM
    have HR := Lib.hid (show fitsW b s x n = false from by simp [fitsW, hm])
    clear hm
    unfold tyW at *
    go_enter Tryd.func64, Tryd.ntmps64
    go_wp2_with fail
    refine (HM.out _).mono ?_
    rintro e w1 ⟨rfl, k1⟩
    have K1 := Lib.hid (HK.out.trans k1)
    clear k1
    go_wp2_with fail
    go_ret
    exact ⟨by rw [HR.out]; rfl, K1.out⟩
  | true =>
    rw [hm] at HM
    have hb := mayW_bounds hm
    obtain ⟨k, rfl⟩ : ∃ k : Nat, x = (k : Int) := ⟨x.toNat, by omega⟩
    have HO := Lib.hid (fun (W : World) => word_ones b s k (by omega) (by omega) W)
    have hp : 2 ^ k ≤ 2 ^ 64 := Nat.pow_le_pow_right (by omega) (by omega)
    have E1 := Lib.hid (show bits .andNot .u64 (n : Int) ((2 ^ k - 1 : Nat) : Int) = ((n &&& (18446744073709551615 - (2 ^ k - 1)) : Nat) : Int) from u64_andNot_nat _ _ hn (by omega))
    have HD := Lib.hid (and_high k n (by omega) hn)
    have HR := Lib.hid (show fitsW b s (k : Int) n = decide (n < 2 ^ k) from by simp [fitsW, hm])
    obtain ⟨o, ho⟩ : ∃ o, o = 2 ^ k - 1 := ⟨_, rfl⟩
    rw [← ho] at HO E1 HD
    obtain ⟨q, hq⟩ : ∃ q, q = n &&& (18446744073709551615 - o) := ⟨_, rfl⟩
    rw [← hq] at E1 HD
    have e1 := E1.out
    have hd : decide ((q : Int) = 0) = decide (q = 0) := by rw [Bool.eq_iff_iff]; simp
    obtain ⟨d, hdd⟩ : ∃ d, d = decide (q = 0) := ⟨_, rfl⟩
    rw [← hdd] at hd HD
    have hqd : ((q : Int) == 0) = d := by rw [← hd]; rfl
    clear hm hp ho hq hdd hd hb
    unfold tyW at *
    go_enter Tryd.func64, Tryd.ntmps64
    go_wp2_with fail
    refine (HM.out _).mono ?_
    rintro e w1 ⟨rfl, k1⟩
    have K1 := Lib.hid (HK.out.trans k1)
    have c0 := k1.cell (p := ⟨w.heap.size, 0, none⟩) (v := .bool b) (by simp [go_sem]) (by simp)
    have c1 := k1.cell (p := ⟨w.heap.size, 1, none⟩) (v := .bool s) (by simp [go_sem]) (by simp)
    have c2 := k1.cell (p := ⟨w.heap.size, 2, none⟩) (v := .int .i64 (k : Int)) (by simp [go_sem]) (by simp)
    clear k1
    go_wp2_with fail
    refine (HO.out _).mono ?_
    rintro e w2 ⟨rfl, k2⟩
    have K2 := Lib.hid (K1.out.trans k2)
    clear k2
    go_wp2_with fail
    go_ret
    exact ⟨by rw [HR.out, ← HD.out]; rfl, K2.out⟩
end Go.Proofs.YtjnjldbegngooaaDoor
