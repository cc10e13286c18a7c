/-
  Package trace: letter, named, fits.
-/
import Derived.Test.YtjgcfncganleoaaDoorTrc
import Derived.Test.YtjgcfncganleoaaDoorWord
namespace Go.Proofs.YtjgcfncganleoaaDoor
open Go.ChangeShapes Go.WideShapes Go.ChangeAt Go.RowKit
set_option linter.unusedVariables false
set_option linter.unusedSimpArgs false

variable {w w' : World}
theorem letter_iff (c : Nat) : letterB c = true ↔ (97 ≤ c ∧ c ≤ 122) ∨ (65 ≤ c ∧ c ≤ 90) ∨ (48 ≤ c ∧ c ≤ 57) ∨ c = 95 ∨ c = 64 ∨ c = 63 := by
  unfold letterB
  simp only [Bool.or_eq_true, Bool.and_eq_true, decide_eq_true_eq]
set_option maxHeartbeats 1600000 in
theorem letter_c (c : Nat) (w : World) : Calls Tryd.prog 67 #[.int .u8 (c : Int)] w fun e w' => e = .returned (.bool (letterB c)) ∧ w = w' := by
  have hcases : (97 ≤ c ∧ c ≤ 122) ∨ (65 ≤ c ∧ c ≤ 90) ∨ (48 ≤ c ∧ c ≤ 57) ∨ c = 95 ∨ c = 64 ∨ c = 63 ∨ c < 48 ∨ (57 < c ∧ c < 63) ∨ (90 < c ∧ c < 95) ∨ c = 96 ∨ 122 < c := by omega
  have HY := Lib.hid (fun (h : (97 ≤ c ∧ c ≤ 122) ∨ (65 ≤ c ∧ c ≤ 90) ∨ (48 ≤ c ∧ c ≤ 57) ∨ c = 95 ∨ c = 64 ∨ c = 63) => show letterB c = true from (letter_iff c).2 h)
  have HN := Lib.hid (fun (h : ¬ ((97 ≤ c ∧ c ≤ 122) ∨ (65 ≤ c ∧ c ≤ 90) ∨ (48 ≤ c ∧ c ≤ 57) ∨ c = 95 ∨ c = 64 ∨ c = 63)) => show letterB c = false from by
    rw [← Bool.not_eq_true]; exact fun hx => h ((letter_iff c).1 hx))
  rcases hcases with h1 | h1 | h1 | h1 | h1 | h1 | h1 | h1 | h1 | h1 | h1
  all_goals
    obtain ⟨r, hr⟩ : ∃ r, letterB c = r := ⟨_, rfl⟩
    have HR := Lib.hid hr
    first
      | (have hr2 : r = true := by rw [← hr]; exact HY.out (by omega))
      | (have hr2 : r = false := by rw [← hr]; exact HN.out (by omega))
    subst hr2
    try have e95 : ((c : Int) == 95) = false := by rw [beq_eq_false_iff_ne]; omega
    try have e64 : ((c : Int) == 64) = false := by rw [beq_eq_false_iff_ne]; omega
    try have e63 : ((c : Int) == 63) = false := by rw [beq_eq_false_iff_ne]; omega
    try have e122 : decide ((c : Int) ≤ 122) = false := decide_eq_false (by omega)
    try have e90 : decide ((c : Int) ≤ 90) = false := decide_eq_false (by omega)
    try have e57 : decide ((c : Int) ≤ 57) = false := decide_eq_false (by omega)
    clear hr HY HN
    go_enter Tryd.func67, Tryd.ntmps67
    go_wp2
    all_goals
      go_ret
      exact ⟨by rw [HR.out]; rfl, rfl⟩
theorem tfits_c (nm : Value) (x : Int) (n : Nat) (hn : n < 18446744073709551616) (w : World) : Calls Tryd.prog 35 #[.agg #[nm, .int .i64 x], .int .u64 (n : Int)] w (BoolIs (fitsB x n) w) := by
  have HK := Lib.hid ((Kept.refl [] w).alloc (.cells #[nm, .int .i64 x] 35))
  have HR := Lib.hid (show fitsW false false x n = fitsB x n from by
    unfold fitsW mayW fitsB
    by_cases h1 : 1 ≤ x <;> by_cases h2 : x ≤ 64 <;> simp [h1, h2])
  have HI := Lib.hid (fun (W : World) => word_is false false x n hn W)
  rw [HR.out] at HI
  unfold tyV at HI
  go_enter Tryd.func35, Tryd.ntmps35
  go_wp2_with fail
  refine (HI.out _).mono ?_
  rintro e w1 ⟨rfl, k1⟩
  have K1 := Lib.hid (HK.out.trans k1)
  clear k1
  go_wp2_with fail
  go_ret
  exact ⟨rfl, K1.out⟩
theorem lettersB_iff (s : ByteArray) : lettersB s = true ↔ ∀ i (h : i < s.size), letterB (s[i]'h).toNat = true := by
  unfold lettersB
  rw [List.all_eq_true]
  constructor
  · intro h i hi
    exact h _ (by
      have : s[i] = s.data.toList[i]'(by simpa using hi) := by simp [ByteArray.getElem_eq_getElem_data]
      rw [this]
      exact List.getElem_mem _)
  · intro h x hx
    obtain ⟨i, hi, rfl⟩ := List.getElem_of_mem hx
    have := h i (by simpa using hi)
    simpa [ByteArray.getElem_eq_getElem_data] using this
set_option maxHeartbeats 800000 in
theorem named_c (s : ByteArray) (hs : s.size ≤ 140737488351232) (w : World) : Calls Tryd.prog 34 #[.string s] w fun e w' => e = .returned (.bool (namedB s)) ∧ w = w' := by
  have HNO := Lib.hid (fun i (h : i < s.size) (hn : letterB (s[i]'h).toNat = false) => show namedB s = false from by
    have : lettersB s = false := by
      rw [← Bool.not_eq_true]
      exact fun hx => by have := (lettersB_iff s).1 hx i h; rw [hn] at this; cases this
    simp [namedB, this])
  have HYES := Lib.hid (fun (h : ∀ i, i < s.size → ∃ h : i < s.size, letterB (s[i]'h).toNat = true) => show namedB s = (decide (1 ≤ s.size) && decide (s.size ≤ 33)) from by
    have : lettersB s = true := (lettersB_iff s).2 fun i hi => (h i hi).2
    simp [namedB, this])
  go_enter Tryd.func34, Tryd.ntmps34
  go_wp2_with fail
  go_loopw [6] (fun i wr => ∃ k : Nat, k ≤ s.size ∧ i = .int .i64 k ∧ wr = w ∧ ∀ j, j < k → ∃ h : j < s.size, letterB (s[j]'h).toNat = true) (fun i _ => s.size - (intOf i).toNat)
  case atStart => exact ⟨0, Nat.zero_le _, rfl, rfl, fun j hj => by omega⟩
  case round =>
    obtain ⟨k, hk, rfl, rfl, hall⟩ := hrel
    have HALL := Lib.hid hall
    clear hall
    by_cases hlt : k < s.size
    · have HL := Lib.hid (letter_c (s[k]'hlt).toNat wr)
      cases hb : letterB (s[k]'hlt).toNat with
      | false =>
        rw [hb] at HL
        have HR := Lib.hid (HNO.out k hlt hb)
        clear hb
        go_wp2_with fail
        refine HL.out.mono ?_
        rintro e w1 ⟨rfl, rfl⟩
        go_wp2_with fail
        go_ret
        exact ⟨by rw [HR.out]; rfl, rfl⟩
      | true =>
        rw [hb] at HL
        have HB := Lib.hid (show ∀ j, j < k + 1 → ∃ h : j < s.size, letterB (s[j]'h).toNat = true from fun j hj => by
          by_cases h : j < k
          · exact HALL.out j h
          · obtain rfl : j = k := by omega
            exact ⟨hlt, hb⟩)
        clear hb
        go_wp2_with fail
        refine HL.out.mono ?_
        rintro e w1 ⟨rfl, rfl⟩
        go_wp2_with fail
        go_roundw
        case rel => exact ⟨k + 1, by omega, by go_num, by trivial, HB.out⟩
        case measure => simp [intOf]; omega
    · obtain rfl : k = s.size := by omega
      have HR := Lib.hid (HYES.out HALL.out)
      by_cases h1 : 1 ≤ s.size
      · by_cases h2 : s.size ≤ 33
        · go_wp2_with fail
          go_ret
          exact ⟨by rw [HR.out]; simp [h1, h2]; omega, rfl⟩
        · go_wp2_with fail
          go_ret
          exact ⟨by rw [HR.out]; simp [h1, h2]; omega, rfl⟩
      · go_wp2_with fail
        go_ret
        exact ⟨by rw [HR.out]; simp [h1], rfl⟩
end Go.Proofs.YtjgcfncganleoaaDoor
