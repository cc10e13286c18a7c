/-
  Law 15: the smallest functions: a type that may be, bytes, a number that a type holds.
-/
import Derived.Test.YtjnjldbegngooaaDoorGen
import Derived.Test.YtjnjldbegngooaaDoorTokM
namespace Go.Proofs.YtjnjldbegngooaaDoor
open Go.ChangeShapes Go.WideShapes Go.ChangeAt Go.RowKit
set_option linter.unusedVariables false
set_option linter.unusedSimpArgs false

variable {w w' w1 W : World}
/-- a bool, and nothing has turned -/
def QIs (b : Bool) (w : World) (e : Ending) (w' : World) : Prop := e = .returned (.bool b) ∧ w' = w
def tyV (t : Ty) : Value := .agg #[.bool t.b, .bool t.sg, .int .i64 t.w]
theorem mayw_c (t : Ty) (w : World) : Calls Tryd.prog 30 #[tyV t] w (BoolIs (mayTy t) w) := by
  obtain ⟨b, sg, x⟩ := t
  show Calls _ _ #[.agg #[.bool b, .bool sg, .int .i64 x]] _ _
  go_enter Tryd.func30, Tryd.ntmps30
  cases b with
  | true =>
    cases sg with
    | true =>
      go_wp2_with fail
      go_ret
      exact ⟨by simp [mayTy], (Kept.refl [] w).alloc _⟩
    | false =>
      by_cases h : x = 1
      · subst h
        go_wp2_with fail
        go_ret
        exact ⟨by simp [mayTy], (Kept.refl [] w).alloc _⟩
      · have e1 : (x == 1) = false := by simpa using h
        go_wp2_with fail
        go_ret
        exact ⟨by simp [mayTy, h], (Kept.refl [] w).alloc _⟩
  | false =>
    by_cases h1 : 1 ≤ x
    · go_wp2_with fail
      go_ret
      exact ⟨by simp [mayTy, h1], (Kept.refl [] w).alloc _⟩
    · go_wp2_with fail
      go_ret
      exact ⟨by simp [mayTy]; omega, (Kept.refl [] w).alloc _⟩
theorem digit_c (c : Nat) (hc : c < 256) (w : World) : Calls Tryd.prog 24 #[.int .u8 (c : Int)] w (QIs (dgB (UInt8.ofNat c)) w) := by
  have e : (UInt8.ofNat c).toNat = c := by simp; omega
  have HE := Lib.hid (show dgB (UInt8.ofNat c) = (decide (48 ≤ c) && decide (c ≤ 57)) by unfold dgB; rw [e])
  clear e
  go_enter Tryd.func24, Tryd.ntmps24
  by_cases h1 : 48 ≤ c
  · go_wp2_with fail
    go_ret
    exact ⟨by rw [HE.out]; simp [h1]; omega, rfl⟩
  · go_wp2_with fail
    go_ret
    exact ⟨by rw [HE.out]; simp [h1], rfl⟩
theorem begins_c (c : Nat) (hc : c < 256) (w : World) : Calls Tryd.prog 26 #[.int .u8 (c : Int)] w (QIs (bgB (UInt8.ofNat c)) w) := by
  have e : (UInt8.ofNat c).toNat = c := by simp; omega
  have HE := Lib.hid (show bgB (UInt8.ofNat c) = ((decide (97 ≤ c) && decide (c ≤ 122)) || ((decide (65 ≤ c) && decide (c ≤ 90)) || decide (c = 95))) by unfold bgB; rw [e])
  clear e
  go_enter Tryd.func26, Tryd.ntmps26
  have hcases : (97 ≤ c ∧ c ≤ 122) ∨ (65 ≤ c ∧ c ≤ 90) ∨ c = 95 ∨ c < 65 ∨ (90 < c ∧ c < 95) ∨ c = 96 ∨ 122 < c := by omega
  rcases hcases with h1 | h1 | h1 | h1 | h1 | h1 | h1
  all_goals
    try have e122 : decide ((c : Int) ≤ 122) = false := decide_eq_false (by omega)
    try have e90 : decide ((c : Int) ≤ 90) = false := decide_eq_false (by omega)
    try have e95 : ((c : Int) == 95) = false := by rw [beq_eq_false_iff_ne]; omega
    try subst h1
    go_wp2_with fail
    go_ret
    refine ⟨?_, rfl⟩
    first
      | (rw [HE.out]; simp; omega)
      | rfl
theorem more_c (c : Nat) (hc : c < 256) (w : World) : Calls Tryd.prog 45 #[.int .u8 (c : Int)] w (QIs (moB (UInt8.ofNat c)) w) := by
  have HB := Lib.hid (fun w => begins_c c hc w)
  have HD := Lib.hid (fun w => digit_c c hc w)
  have HE := Lib.hid (show moB (UInt8.ofNat c) = (bgB (UInt8.ofNat c) || dgB (UInt8.ofNat c)) from rfl)
  generalize bgB (UInt8.ofNat c) = p at *
  generalize dgB (UInt8.ofNat c) = q at *
  go_enter Tryd.func45, Tryd.ntmps45
  go_wp2_with fail
  refine (HB.out w).mono ?_
  rintro e w1 ⟨rfl, rfl⟩
  cases p with
  | true =>
    go_wp2_with fail
    go_ret
    exact ⟨by rw [HE.out]; rfl, rfl⟩
  | false =>
    go_wp2_with fail
    refine (HD.out w1).mono ?_
    rintro e w2 ⟨rfl, rfl⟩
    go_wp2_with fail
    go_ret
    exact ⟨by rw [HE.out]; simp, rfl⟩
theorem notnl_c (c : Nat) (hc : c < 256) (w : World) : Calls Tryd.prog 43 #[.int .u8 (c : Int)] w (QIs (notNl (UInt8.ofNat c)) w) := by
  have e : (UInt8.ofNat c).toNat = c := by simp; omega
  have HE := Lib.hid (show notNl (UInt8.ofNat c) = decide (c ≠ 10) by unfold notNl; rw [e])
  clear e
  go_enter Tryd.func43, Tryd.ntmps43
  by_cases h : c = 10
  · subst h
    go_wp2_with fail
    go_ret
    exact ⟨rfl, rfl⟩
  · have e1 : ((c : Int) != 10) = true := by rw [bne_iff_ne]; omega
    go_wp2_with fail
    go_ret
    exact ⟨by rw [HE.out]; simp [h], rfl⟩
/-! a word's ones: a number that a width holds -/
theorem ones_shift {x : Nat} (h1 : 1 ≤ x) (h2 : x ≤ 64) : 18446744073709551615 / 2 ^ (64 - x) = 2 ^ x - 1 := by
  have h : ((List.range 65).all fun x => decide (x = 0) || decide (18446744073709551615 / 2 ^ (64 - x) = 2 ^ x - 1)) = true := by kernel_rfl
  have := List.all_eq_true.1 h x (List.mem_range.2 (by omega))
  simp at this
  rcases this with h | h
  · omega
  · exact h
end Go.Proofs.YtjnjldbegngooaaDoor
