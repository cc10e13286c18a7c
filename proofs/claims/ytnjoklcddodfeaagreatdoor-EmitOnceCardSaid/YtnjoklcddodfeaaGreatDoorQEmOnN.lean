/-
  Law 10: EmitOnce, plain: digits read back; no blank in a word.
-/
import Derived.Test.YtnjoklcddodfeaaGreatDoorQEmOnM
import Derived.Lib.ParseIntB
namespace Go.Proofs.YtnjoklcddodfeaaGreatDoor
open Go.ChangeShapes Go.WideShapes Go.ChangeAt Go.RowKit
set_option linter.unusedVariables false
set_option linter.unusedSimpArgs false

theorem dec_no32 (u : Nat) : (32 : UInt8) ∉ Lib.decDigits u := fun h => absurd (dec_ge u 32 h) (by decide)
theorem name_no32 {s : ByteArray} (h : mayB s = true) : (32 : UInt8) ∉ bytesL s := by
  unfold mayB at h
  rw [Bool.and_eq_true] at h
  have h2 := h.2
  unfold allOk at h2
  rw [List.all_eq_true] at h2
  intro hm
  exact absurd (h2 32 hm) (by decide)
theorem parse_step (M acc d : Nat) (r : List UInt8) (hd : d < 10) (ha : acc < 1844674407370955162) (hM : acc * 10 + d ≤ M) : Lib.parseUintM M acc (UInt8.ofNat (48 + d) :: r) = Lib.parseUintM M (acc * 10 + d) r := by
  have e : (UInt8.ofNat (48 + d)).toNat = 48 + d := by rw [UInt8.toNat_ofNat']; omega
  rw [Lib.parseUintM, e, if_pos (by omega), if_neg (by omega), if_neg (by omega)]
  have e2 : 48 + d - 48 = d := by omega
  rw [e2]
theorem parse_dec (M : Nat) (hM : M < 18446744073709551616) (u : Nat) : ∀ r, u ≤ M → Lib.parseUintM M 0 (Lib.decDigits u ++ r) = Lib.parseUintM M u r := by
  induction u using Nat.strongRecOn with
  | _ u ih =>
    intro r hu
    by_cases h : u < 10
    · rw [dec_small h, List.cons_append, List.nil_append, parse_step M 0 u r h (by omega) (by omega)]
      rw [show 0 * 10 + u = u from by omega]
    · rw [dec_big h, List.append_assoc, ih (u / 10) (by omega) _ (by omega), List.cons_append, List.nil_append, parse_step M (u / 10) (u % 10) r (by omega) (by omega) (by omega)]
      rw [show u / 10 * 10 + u % 10 = u from by omega]
/-- a number's digits, read back -/
theorem parse_back (u : Nat) (hu : u < 4294967296) : Lib.parseUintB 32 (Lib.decDigits u) = .ok u := by
  have hne : Lib.decDigits u ≠ [] := by
    intro h
    have h1 := congrArg List.length h
    by_cases hs : u < 10
    · rw [dec_small hs] at h1; simp at h1
    · rw [dec_big hs] at h1; simp at h1
  have h := parse_dec (2 ^ 32 - 1) (by decide) u [] (by omega)
  rw [List.append_nil] at h
  unfold Lib.parseUintB
  rw [if_neg hne, h]
  rfl
/-- a line cut at its blanks -/
theorem lineB_split (word name : List UInt8) (l : List Nat) (hw : (32 : UInt8) ∉ word) (hn : (32 : UInt8) ∉ name) : Lib.split (lineB word name l) [32] = word :: ((if name = [] then [] else [name]) ++ l.map Lib.decDigits) := by
  rw [lineB_join]
  refine split_join 32 _ (by simp) fun s hs => ?_
  rcases List.mem_cons.1 hs with rfl | hs
  · exact hw
  · rcases List.mem_append.1 hs with hs | hs
    · split at hs
      · simp at hs
      · rw [List.mem_singleton] at hs
        subst hs
        exact hn
    · obtain ⟨x, _, rfl⟩ := List.mem_map.1 hs
      exact dec_no32 x
end Go.Proofs.YtnjoklcddodfeaaGreatDoor
