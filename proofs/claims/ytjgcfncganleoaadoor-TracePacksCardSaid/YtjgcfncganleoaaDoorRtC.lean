/-
  Law 09's document: a name's letters.
-/
import Derived.Test.YtjgcfncganleoaaDoorRtB
import Derived.Deep.DeepCutAuto
import Derived.Deep.CutBlock
namespace Go.Proofs.YtjgcfncganleoaaDoor
open Go.ChangeShapes Go.WideShapes Go.ChangeAt Go.RowKit
set_option linter.unusedVariables false
set_option linter.unusedSimpArgs false

variable {w w' w1 W : World}
set_option maxHeartbeats 3200000 in
theorem rletters_c (s : ByteArray) (hs : s.size ≤ 140737488351232) (w : World) : Calls Tryd.prog 47 #[.string s] w fun e w' => e = .returned (.bool (lettersB s && decide (s.size ≤ 33))) ∧ w = w' := by
  have HNO := Lib.hid (fun k (hk : k < s.size) (hb : letterB (s[k]'hk).toNat = false) => show lettersB s = false from by
    rw [← Bool.not_eq_true, lettersB_iff]; exact fun h => by rw [h k hk] at hb; exact absurd hb (by decide))
  have HYES := Lib.hid (fun (h : ∀ j, j < s.size → ∃ h : j < s.size, letterB (s[j]'h).toNat = true) => show lettersB s = true from (lettersB_iff s).2 fun j hj => (h j hj).2)
  go_enter Tryd.func47, Tryd.ntmps47
  go_wp2_with fail
  go_loop [3] (fun i => ∃ k : Nat, k ≤ s.size ∧ i = .int .i64 k ∧ ∀ j, j < k → ∃ h : j < s.size, letterB (s[j]'h).toNat = true) (fun i => s.size - (intOf i).toNat)
  case atStart => exact ⟨0, Nat.zero_le _, rfl, fun j hj => by omega⟩
  case round =>
    obtain ⟨k, hk, rfl, hall⟩ := hrel
    have HALL := Lib.hid hall
    clear hall
    by_cases hlt : k < s.size
    · obtain ⟨c, hc⟩ : ∃ c, c = (s[k]'hlt).toNat := ⟨_, rfl⟩
      have HC := Lib.hid hc
      have HGO := Lib.hid (fun (hb : letterB c = true) => show ∀ j, j < k + 1 → ∃ h : j < s.size, letterB (s[j]'h).toNat = true from fun j hj => by
        by_cases h : j < k
        · exact HALL.out j h
        · obtain rfl : j = k := by omega
          exact ⟨hlt, hc ▸ hb⟩)
      have HNG := Lib.hid (fun (hb : letterB c = false) => HNO.out k hlt (hc ▸ hb))
      have HIX := Lib.hid hlt
      go_upto_region 5 with (fail)
      rw [← hc]
      clear hc
      by_cases hyes : (97 ≤ c ∧ c ≤ 122) ∨ (65 ≤ c ∧ c ≤ 90) ∨ (48 ≤ c ∧ c ≤ 57) ∨ c = 95 ∨ c = 64 ∨ c = 63
      · have HX := Lib.hid (HGO.out ((letter_iff c).2 hyes))
        clear HGO HNG HYES HNO HALL HC
        have hcases : (97 ≤ c ∧ c ≤ 122) ∨ (65 ≤ c ∧ c ≤ 90) ∨ (48 ≤ c ∧ c ≤ 57) ∨ c = 95 ∨ c = 64 ∨ c = 63 := hyes
        clear hyes
        rcases hcases with h1 | h1 | h1 | h1 | h1 | h1
        all_goals
          try have e95 : ((c : Int) != 95) = true := by rw [bne_iff_ne]; omega
          try have e64 : ((c : Int) != 64) = true := by rw [bne_iff_ne]; omega
          try have e63 : ((c : Int) != 63) = true := by rw [bne_iff_ne]; omega
          try have e122 : decide ((c : Int) ≤ 122) = false := decide_eq_false (by omega)
          try have e90 : decide ((c : Int) ≤ 90) = false := decide_eq_false (by omega)
          try have e57 : decide ((c : Int) ≤ 57) = false := decide_eq_false (by omega)
          go_wp2
          go_round
          case rel => exact ⟨k + 1, by omega, by go_num, HX.out⟩
          case measure => simp [intOf]; omega
      · have HX := Lib.hid (HNG.out (by rw [← Bool.not_eq_true]; exact fun hx => hyes ((letter_iff c).1 hx)))
        have hcases : c < 48 ∨ (57 < c ∧ c < 63) ∨ (90 < c ∧ c < 95) ∨ c = 96 ∨ 122 < c := by omega
        clear HGO HNG HYES HNO HALL HC hyes
        rcases hcases with h1 | h1 | h1 | h1 | h1
        all_goals
          try have e95 : ((c : Int) != 95) = true := by rw [bne_iff_ne]; omega
          try have e64 : ((c : Int) != 64) = true := by rw [bne_iff_ne]; omega
          try have e63 : ((c : Int) != 63) = true := by rw [bne_iff_ne]; omega
          try have e122 : decide ((c : Int) ≤ 122) = false := decide_eq_false (by omega)
          try have e90 : decide ((c : Int) ≤ 90) = false := decide_eq_false (by omega)
          try have e57 : decide ((c : Int) ≤ 57) = false := decide_eq_false (by omega)
          go_wp2
          go_ret
          exact ⟨by rw [HX.out]; rfl, rfl⟩
    · obtain rfl : k = s.size := by omega
      have HR := Lib.hid (HYES.out HALL.out)
      go_wp2_with fail
      go_ret
      exact ⟨by rw [HR.out]; simp; omega, rfl⟩
end Go.Proofs.YtjgcfncganleoaaDoor
