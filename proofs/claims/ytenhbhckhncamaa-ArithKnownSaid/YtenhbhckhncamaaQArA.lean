/-
  Package word: which types may be, a number's cut; errors.
-/
import Derived.Test.YtenhbhckhncamaaQArT
import Derived.Test.YtenhbhckhncamaaP07
namespace Go.Proofs.Ytenhbhckhncamaa
open Go.ChangeShapes Go.WideShapes Go.ChangeAt Go.RowKit
set_option linter.unusedVariables false
set_option linter.unusedSimpArgs false

variable {w w' : World}
def YesB (b : Bool) (w : World) (e : Ending) (w' : World) : Prop := e = .returned (.bool b) ∧ Kept [] w w'
def NumIs (n : Nat) (w : World) (e : Ending) (w' : World) : Prop := e = .returned (.int .u64 (n : Nat)) ∧ Kept [] w w'
/-- a number, whichever, and an error -/
def ErrIs (x : Nat) (w : World) (e : Ending) (w' : World) : Prop := ∃ n : Int, e = .returned (.tuple #[.int .u64 n, .int .i64 (x : Nat)]) ∧ Kept [] w w'
theorem box3 (w : World) (v0 v1 v2 : Value) (T : TypeId) (V : World) (hV : Kept [] (w.alloc (.cells #[v0, v1, v2] T)) V) : V.cell? ⟨w.heap.size, 0, none⟩ = some v0 ∧ V.cell? ⟨w.heap.size, 1, none⟩ = some v1 ∧ V.cell? ⟨w.heap.size, 2, none⟩ = some v2 := by
  have h := heap_alloc_new w (.cells #[v0, v1, v2] T)
  exact ⟨hV.cell (blk_cell h 0) (by simp), hV.cell (blk_cell h 1) (by simp), hV.cell (blk_cell h 2) (by simp)⟩
set_option maxRecDepth 100000 in
theorem may_c (t : Ty) (w : World) : Calls Try.prog 42 #[tyV t] w (YesB (mayT t) w) := by
  obtain ⟨b, s, n⟩ := t
  unfold tyV mayT
  simp only
  cases b
  · by_cases h1 : 1 ≤ n
    · by_cases h2 : n ≤ 64
      · go_enter Try.func42, Try.ntmps42
        go_wp2_with fail
        go_ret
        exact ⟨by simp [h1, h2], (Kept.refl [] w).alloc _⟩
      · have h3 : 64 < n := by omega
        go_enter Try.func42, Try.ntmps42
        go_wp2_with fail
        go_ret
        exact ⟨by simp [h1, h2], (Kept.refl [] w).alloc _⟩
    · have h3 : n < 1 := by omega
      go_enter Try.func42, Try.ntmps42
      go_wp2_with fail
      go_ret
      exact ⟨by simp [show ¬ (1 : Int) ≤ n by omega], (Kept.refl [] w).alloc _⟩
  · cases s
    · go_enter Try.func42, Try.ntmps42
      go_wp2_with fail
      go_ret
      refine ⟨?_, (Kept.refl [] w).alloc _⟩
      show Ending.returned (.bool (n == 1)) = _
      have e : (n == 1) = decide (n = 1) := by rw [Bool.eq_iff_iff]; simp
      rw [e]
      rfl
    · go_enter Try.func42, Try.ntmps42
      go_wp2_with fail
      go_ret
      exact ⟨by simp, (Kept.refl [] w).alloc _⟩
theorem ones_div {m : Nat} (h : m ≤ 64) : 18446744073709551615 / 2 ^ (64 - m) = 2 ^ m - 1 := by
  obtain ⟨j, hj⟩ : ∃ j, j = 64 - m := ⟨_, rfl⟩
  have e : 2 ^ m * 2 ^ j = 18446744073709551616 := by rw [← Nat.pow_add, show m + j = 64 by omega]
  rw [← hj]
  have hp : 0 < 2 ^ j := Nat.pow_pos (by omega)
  have hq : 0 < 2 ^ m := Nat.pow_pos (by omega)
  apply Nat.div_eq_of_lt_le
  · rw [Nat.sub_mul, e, Nat.one_mul]; omega
  · rw [show (2 ^ m - 1 + 1) = 2 ^ m by omega, e]; omega
set_option maxRecDepth 100000 in
theorem ones_c (t : Ty) (h : mayT t = true) (w : World) : Calls Try.prog 58 #[tyV t] w (NumIs (2 ^ tyN t - 1) w) := by
  have hm := may_n h
  obtain ⟨b, s, n⟩ := t
  unfold tyV
  simp only at hm ⊢
  obtain ⟨hn, h1, h2⟩ := hm
  generalize tyN ⟨b, s, n⟩ = m at *
  subst hn
  have e1 : IntKind.i64.wrap (64 - (m : Int)) = 64 - (m : Int) := IntWalk.i64_in _ (by omega)
  go_enter Try.func58, Try.ntmps58
  have e2 : (18446744073709551615 : Int) / 2 ^ (64 - m) = ((2 ^ m - 1 : Nat) : Int) := by
    have h := ones_div h2
    rw [show (18446744073709551615 : Int) / 2 ^ (64 - m) = ((18446744073709551615 / 2 ^ (64 - m) : Nat) : Int) from by rw [Int.natCast_ediv, Int.natCast_pow]; rfl, h]
  go_wp2_with fail
  go_ret
  exact ⟨rfl, (Kept.refl [] w).alloc _⟩
theorem rest_bit {m i : Nat} (h : m ≤ 64) : (18446744073709551615 - (2 ^ m - 1)).testBit i = (decide (m ≤ i) && decide (i < 64)) := by
  have hq : 0 < 2 ^ m := Nat.pow_pos (by omega)
  have e : 2 ^ (64 - m) * 2 ^ m = 18446744073709551616 := by rw [← Nat.pow_add, show 64 - m + m = 64 by omega]
  have e2 : 18446744073709551615 - (2 ^ m - 1) = (2 ^ (64 - m) - 1) <<< m := by
    rw [Nat.shiftLeft_eq, Nat.sub_mul, e, Nat.one_mul]
    omega
  rw [e2, Nat.testBit_shiftLeft, Nat.testBit_two_pow_sub_one]
  rw [Bool.eq_iff_iff]
  simp
  omega
theorem rest_zero {x m : Nat} (hx : x < 18446744073709551616) (h : m ≤ 64) : (x &&& (18446744073709551615 - (2 ^ m - 1)) = 0) ↔ x < 2 ^ m := by
  constructor
  · intro h0
    apply Nat.lt_of_not_le
    intro hle
    obtain ⟨i, hi, hb⟩ := Nat.exists_ge_and_testBit_of_ge_two_pow hle
    have h64 : i < 64 := by
      apply Nat.lt_of_not_le
      intro hl
      rw [Nat.testBit_lt_two_pow (Nat.lt_of_lt_of_le hx (show 2 ^ 64 ≤ 2 ^ i from Nat.pow_le_pow_right (by omega) hl))] at hb
      cases hb
    have h1 := congrArg (fun z => z.testBit i) h0
    simp only [Nat.testBit_and, rest_bit h, hb, Nat.zero_testBit] at h1
    simp [hi, h64] at h1
  · intro hlt
    apply Nat.eq_of_testBit_eq
    intro i
    rw [Nat.testBit_and, rest_bit h, Nat.zero_testBit]
    by_cases hi : m ≤ i
    · rw [Nat.testBit_lt_two_pow (Nat.lt_of_lt_of_le hlt (Nat.pow_le_pow_right (by omega) hi))]
      rfl
    · simp [hi]
set_option maxRecDepth 100000 in
theorem is_c (t : Ty) (x : Nat) (hx : x < 18446744073709551616) (w : World) : Calls Try.prog 35 #[tyV t, .int .u64 (x : Int)] w (YesB (isT t x) w) := by
  have HM := Lib.hid (fun V => may_c t V)
  have HN := Lib.hid (fun h V => ones_c t h V)
  have HI := Lib.hid (show isT t x = (mayT t && decide (x < 2 ^ tyN t)) from rfl)
  obtain ⟨mt, hmt⟩ : ∃ m, m = mayT t := ⟨_, rfl⟩
  rw [← hmt] at HM HI
  have HMT := Lib.hid hmt
  clear hmt
  have HBX := Lib.hid (fun V hV => box3 w (.bool t.b) (.bool t.s) (.int .i64 t.w) 24 V hV)
  cases mt with
  | false =>
    clear HN
    unfold tyV at *
    generalize t.b = b at *
    generalize t.s = s at *
    generalize t.w = n at *
    go_enter Try.func35, Try.ntmps35
    go_wp2_with fail
    refine (HM.out _).mono ?_
    rintro e w1 ⟨rfl, k1⟩
    have K1 := Lib.hid k1
    clear k1
    go_wp2_with fail
    go_ret
    exact ⟨by rw [HI.out]; rfl, ((Kept.refl [] w).alloc _).trans K1.out⟩
  | true =>
    have HN2 := Lib.hid (fun V => HN.out HMT.out.symm V)
    clear HN
    have hm64 := (may_n HMT.out.symm).2.2
    generalize tyN t = m at *
    have hb : (bits .andNot .u64 (x : Int) ((2 ^ m - 1 : Nat) : Int) == 0) = decide (x < 2 ^ m) := by
      have hp : 2 ^ m ≤ 18446744073709551616 := show 2 ^ m ≤ 2 ^ 64 from Nat.pow_le_pow_right (by omega) hm64
      rw [u64_andNot_nat x (2 ^ m - 1) hx (by omega), Bool.eq_iff_iff, decide_eq_true_iff, ← rest_zero hx hm64]
      simp only [beq_iff_eq]
      omega
    have HBB := Lib.hid hb
    clear hb
    obtain ⟨on, hon⟩ : ∃ on, on = 2 ^ m - 1 := ⟨_, rfl⟩
    rw [← hon] at HN2 HBB
    clear hon
    unfold tyV at *
    generalize t.b = b at *
    generalize t.s = s at *
    generalize t.w = n at *
    go_enter Try.func35, Try.ntmps35
    go_wp2_with fail
    refine (HM.out _).mono ?_
    rintro e w1 ⟨rfl, k1⟩
    have K1 := Lib.hid k1
    obtain ⟨c0, c1, c2⟩ := HBX.out _ k1
    clear k1
    go_wp2_with fail
    refine (HN2.out _).mono ?_
    rintro e w2 ⟨rfl, k2⟩
    have K2 := Lib.hid (K1.out.trans k2)
    clear k2 c0 c1 c2
    go_wp2_with fail
    go_ret
    refine ⟨?_, ((Kept.refl [] w).alloc _).trans K2.out⟩
    show Ending.returned (.bool (bits .andNot .u64 (x : Int) (on : Int) == 0)) = _
    rw [HBB.out, HI.out]
    rfl
end Go.Proofs.Ytenhbhckhncamaa
