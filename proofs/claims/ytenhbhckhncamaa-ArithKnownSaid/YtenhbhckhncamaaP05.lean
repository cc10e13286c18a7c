/-
  Contracts of package lit: literals, their words, folds.
-/
import Derived.Test.YtenhbhckhncamaaP03
import Derived.Test.YtenhbhckhncamaaP00
import Derived.Outline
namespace Go.Proofs.Ytenhbhckhncamaa
open Go.ChangeShapes Go.WideShapes Go.ChangeAt Go.RowKit
set_option linter.unusedVariables false

theorem lit_not (l : Nat) (w : World) (h : l < 4294967296) : Calls Try.prog 47 #[.int .u32 l] w fun e w' => e = .returned (.int .u32 (ntL l : Nat)) ∧ w = w' := by
  have hx := Lib.hid (bits_xor1 l h)
  go_enter Try.func47, Try.ntmps47
  go_wp2
  go_ret
  exact ⟨by rw [← hx.out]; rfl, rfl⟩
theorem lit_node (l : Nat) (w : World) (h : l < 4294967296) : Calls Try.prog 41 #[.int .u32 l] w fun e w' => e = .returned (.int .i64 (l / 2 : Nat)) ∧ w = w' := by
  go_enter Try.func41, Try.ntmps41
  go_wp2
  go_ret
  exact ⟨rfl, rfl⟩
theorem lit_if (l : Nat) (t : Bool) (w : World) (h : l < 4294967296) : Calls Try.prog 70 #[.int .u32 l, .bool t] w fun e w' => e = .returned (.int .u32 (ifL l t : Nat)) ∧ w = w' := by
  cases t
  · go_enter Try.func70, Try.ntmps70
    go_wp2
    go_ret
    exact ⟨rfl, rfl⟩
  · go_enter Try.func70, Try.ntmps70
    go_wp2_with (go_at_call 47; refine (lit_not l _ h).mono ?_; rintro e w' ⟨rfl, rfl⟩)
    go_ret
    exact ⟨rfl, rfl⟩
theorem lit_if_i (x : Int) (t : Bool) (w : World) (h0 : 0 ≤ x) (h : x < 4294967296) : Calls Try.prog 70 #[.int .u32 x, .bool t] w fun e w' => e = .returned (.int .u32 (ifL x.toNat t : Nat)) ∧ w = w' := by
  obtain ⟨l, rfl⟩ := Int.eq_ofNat_of_zero_le h0
  rw [Int.toNat_natCast]
  exact lit_if l t w (by omega)
theorem lit_pair (a b : Nat) (w : World) : Calls Try.prog 66 #[.int .u32 a, .int .u32 b] w fun e w' => e = .returned (.tuple #[.int .u32 (max a b : Nat), .int .u32 (min a b : Nat)]) ∧ w = w' := by
  rcases Nat.lt_trichotomy a b with h | h | h
  · go_enter Try.func66, Try.ntmps66
    go_wp2
    go_ret2
    rw [Nat.max_eq_right (by omega), Nat.min_eq_left (by omega)]
    exact ⟨rfl, rfl⟩
  · subst h
    go_enter Try.func66, Try.ntmps66
    go_wp2
    go_ret2
    rw [Nat.max_self, Nat.min_self]
    exact ⟨rfl, rfl⟩
  · go_enter Try.func66, Try.ntmps66
    go_wp2
    go_ret2
    rw [Nat.max_eq_left (by omega), Nat.min_eq_right (by omega)]
    exact ⟨rfl, rfl⟩
theorem lit_fold (a b : Nat) (w : World) (ha : a < 4294967296) (hb : b < 4294967296) :
    Calls Try.prog 65 #[.int .u32 a, .int .u32 b] w fun e w' => e = .returned (.tuple #[.int .u32 (foldV a b : Nat), .bool (foldB a b)]) ∧ w = w' := by
  have hm : Hid (min a b < 4294967296) := Lib.hid (by omega)
  have hfin := Lib.hid (show foldV a b = (if min a b = 0 ∨ max a b = ntL (min a b) then 0 else if min a b = 1 ∨ max a b = min a b then max a b else 0) ∧ foldB a b = decide (min a b = 0 ∨ max a b = ntL (min a b) ∨ min a b = 1 ∨ max a b = min a b) by
    have : a = b ↔ max a b = min a b := by omega
    unfold foldV foldB
    simp only [this]
    exact ⟨trivial, trivial⟩)
  clear ha hb
  have hp := Lib.hid (fun w => lit_pair a b w)
  generalize max a b = x at *
  generalize min a b = y at *
  by_cases h0 : y = 0
  · subst h0
    go_enter Try.func65, Try.ntmps65
    go_wp2_with (go_at_call 66; refine (hp.out _).mono ?_; rintro e w' ⟨rfl, rfl⟩)
    go_ret2
    rw [hfin.out.1, hfin.out.2]
    simp
  · have k0 : ((y : Int) == 0) = false := by simp; omega
    by_cases h1 : x = ntL y
    · have k1 : ((x : Int) == (ntL y : Int)) = true := by simp [h1]
      have k1' := Lib.hid h1; clear h1
      go_enter Try.func65, Try.ntmps65
      go_wp2_with (first
        | (go_at_call 66; refine (hp.out _).mono ?_; rintro e w' ⟨rfl, rfl⟩)
        | (go_at_call 47; refine (lit_not _ _ hm.out).mono ?_; rintro e w' ⟨rfl, rfl⟩))
      go_ret2
      rw [hfin.out.1, hfin.out.2]
      simp [k1'.out]
    · have k1 : ((x : Int) == (ntL y : Int)) = false := by simp; omega
      have k1' := Lib.hid h1; clear h1
      by_cases h2 : y = 1
      · subst h2
        go_enter Try.func65, Try.ntmps65
        go_wp2_with (first
          | (go_at_call 66; refine (hp.out _).mono ?_; rintro e w' ⟨rfl, rfl⟩)
          | (go_at_call 47; refine (lit_not _ _ hm.out).mono ?_; rintro e w' ⟨rfl, rfl⟩))
        go_ret2
        rw [hfin.out.1, hfin.out.2]
        simp [k1'.out]
      · have k2 : ((y : Int) == 1) = false := by simp; omega
        by_cases h3 : x = y
        · subst h3
          go_enter Try.func65, Try.ntmps65
          go_wp2_with (first
            | (go_at_call 66; refine (hp.out _).mono ?_; rintro e w' ⟨rfl, rfl⟩)
            | (go_at_call 47; refine (lit_not _ _ hm.out).mono ?_; rintro e w' ⟨rfl, rfl⟩))
          go_ret2
          rw [hfin.out.1, hfin.out.2]
          simp [h0, k1'.out]
        · have k3 : ((x : Int) == (y : Int)) = false := by simp; omega
          go_enter Try.func65, Try.ntmps65
          go_wp2_with (first
            | (go_at_call 66; refine (hp.out _).mono ?_; rintro e w' ⟨rfl, rfl⟩)
            | (go_at_call 47; refine (lit_not _ _ hm.out).mono ?_; rintro e w' ⟨rfl, rfl⟩))
          go_ret2
          rw [hfin.out.1, hfin.out.2]
          simp [h0, k1'.out, h2, h3]
def ofV (n : Int) (t : Bool) : Nat := if 0 ≤ n ∧ n ≤ 16777216 then ifL (2 * n.toNat) t else 0
def ofE (n : Int) : Int := if 0 ≤ n ∧ n ≤ 16777216 then 0 else 1
theorem lit_of (n : Int) (t : Bool) (w : World) :
    Calls Try.prog 59 #[.int .i64 n, .bool t] w fun e w' => e = .returned (.tuple #[.int .u32 (ofV n t : Nat), .int .i64 (ofE n)]) ∧ w = w' := by
  by_cases h0 : n < 0
  · go_enter Try.func59, Try.ntmps59
    go_wp2
    go_ret2
    rw [show ofV n t = 0 by simp [ofV]; omega, show ofE n = 1 by simp [ofE]; omega]
    exact ⟨rfl, rfl⟩
  · by_cases h1 : 16777216 < n
    · go_enter Try.func59, Try.ntmps59
      go_wp2
      go_ret2
      rw [show ofV n t = 0 by simp [ofV]; omega, show ofE n = 1 by simp [ofE]; omega]
      exact ⟨rfl, rfl⟩
    · obtain ⟨k, rfl⟩ : ∃ k : Nat, n = k := ⟨n.toNat, by omega⟩
      have hv := Lib.hid (show ofV k t = ifL (2 * k) t by simp [ofV]; omega)
      have he := Lib.hid (show ofE k = 0 by simp [ofE]; omega)
      go_enter Try.func59, Try.ntmps59
      go_wp2_with (go_at_call 70; refine (lit_if_i _ t _ (by omega) (by omega)).mono ?_; rintro e w' ⟨rfl, rfl⟩)
      go_ret2
      rw [hv.out, he.out, show ((k : Int) * 2).toNat = 2 * k by omega]
      exact ⟨rfl, rfl⟩
end Go.Proofs.Ytenhbhckhncamaa
