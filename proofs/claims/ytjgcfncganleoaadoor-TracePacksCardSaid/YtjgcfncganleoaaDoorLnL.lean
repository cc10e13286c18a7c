/-
  Package lanes: Lane: what a lane has.
-/
import Derived.Test.YtjgcfncganleoaaDoorLnQ
import Derived.Laws.BitsAllLaws
namespace Go.Proofs.YtjgcfncganleoaaDoor
open Go.ChangeShapes Go.WideShapes Go.ChangeAt Go.RowKit
open Go.Maps (Keyed)
open Go.WideMaps
set_option linter.unusedVariables false
set_option linter.unusedSimpArgs false

variable {w w' w1 W : World}
def bitOf (b i : Nat) : Nat := b / 2 ^ i % 2
def laneTo (l : List Nat) (i : Nat) : Nat → Nat
  | 0 => 0
  | k + 1 => laneTo l i k ||| (bitOf (l.getD k 0) i * 2 ^ k)
def laneW (l : List Nat) (i : Nat) : Nat := laneTo l i l.length
theorem bitOf_bit (b i j : Nat) : (bitOf b i).testBit j = (decide (j = 0) && b.testBit i) := by
  unfold bitOf
  have h1 : b / 2 ^ i % 2 = (b.testBit i).toNat := by
    rw [Nat.testBit_eq_decide_div_mod_eq]
    rcases Nat.mod_two_eq_zero_or_one (b / 2 ^ i) with h | h <;> simp [h]
  rw [h1]
  cases b.testBit i with
  | false => simp
  | true =>
    cases j with
    | zero => rfl
    | succ j => simp [Nat.testBit_succ]
theorem laneTo_bit (l : List Nat) (i k j : Nat) : (laneTo l i k).testBit j = (decide (j < k) && (l.getD j 0).testBit i) := by
  induction k with
  | zero => simp [laneTo]
  | succ k ih =>
    rw [laneTo, Nat.testBit_or, ih, ← Nat.shiftLeft_eq, Nat.testBit_shiftLeft, bitOf_bit]
    by_cases h : j = k
    · subst h; simp
    · by_cases h2 : j < k
      · have : ¬ j ≥ k := by omega
        simp [h2, this, show j < k + 1 by omega]
      · have h3 : ¬ j - k = 0 := by omega
        simp [h2, h3, show ¬ j < k + 1 by omega]
theorem laneTo_lt (l : List Nat) (i : Nat) : ∀ k, k ≤ 64 → laneTo l i k < 2 ^ k
  | 0, _ => by simp [laneTo]
  | k + 1, h => by
    rw [laneTo]
    refine Nat.or_lt_two_pow (Nat.lt_of_lt_of_le (laneTo_lt l i k (by omega)) (Nat.pow_le_pow_right (by omega) (by omega))) ?_
    have h1 : bitOf (l.getD k 0) i < 2 := Nat.mod_lt _ (by omega)
    have h2 : 0 < 2 ^ k := Nat.pow_pos (by omega)
    rw [Nat.pow_succ, Nat.mul_comm]
    exact Nat.mul_lt_mul_of_pos_left h1 h2
/-- a lane of what was packed is the word -/
theorem lane_pack {k : Nat} {l : List Nat} (hk : k ≤ 64) (h : l.length ≤ 64) (hW : Words l) (i : Nat) (hi : i < 64) (hf : l.getD i 0 < 2 ^ k) : laneW (packT k l) i = l.getD i 0 := by
  apply Nat.eq_of_testBit_eq
  intro j
  unfold laneW
  rw [laneTo_bit, packT_len hk h hW]
  by_cases hj : j < k
  · rw [decide_eq_true hj, Bool.true_and, (packT_bit hk h hW j hj).2 i hi]
  · rw [decide_eq_false hj, Bool.false_and, Nat.testBit_lt_two_pow (Nat.lt_of_lt_of_le hf (Nat.pow_le_pow_right (by omega) (by omega)))]
set_option maxHeartbeats 800000 in
theorem is_c (a : Option Addr) (c n i : Nat) (w : World) (hn : n ≤ 140737488351232) (hi : i < 64) :
    Calls Tryd.prog 54 #[.slice a n c, .int .i64 (i : Int)] w (BoolIs (decide (1 ≤ n ∧ n ≤ 64)) w) := by
  have HF := Lib.hid (fits_c (n : Int) none 0 0 [] w rfl (by omega) (SlN.nil _ _ _) (by simp [Words]))
  have HR := Lib.hid (show fitsAll (n : Int) [] = decide (1 ≤ n ∧ n ≤ 64) from by
    unfold fitsAll
    simp only [List.all_nil, Bool.and_true]
    rw [Bool.eq_iff_iff, decide_eq_true_eq, decide_eq_true_eq]
    omega)
  rw [HR.out] at HF
  obtain ⟨r, hr⟩ : ∃ r, r = decide (1 ≤ n ∧ n ≤ 64) := ⟨_, rfl⟩
  rw [← hr] at HF ⊢
  clear hr HR
  go_enter Tryd.func54, Tryd.ntmps54
  go_wp2_with fail
  refine HF.out.mono ?_
  rintro e w1 ⟨rfl, k1⟩
  have K1 := Lib.hid k1
  clear k1
  cases r with
  | false =>
    go_wp2_with fail
    go_ret
    exact ⟨rfl, K1.out⟩
  | true =>
    go_wp2_with fail
    go_ret
    exact ⟨by simp; omega, K1.out⟩
set_option maxHeartbeats 1600000 in
theorem lane_c (a : Option Addr) (c n i : Nat) (l : List Nat) (w : World) (hl : l.length = n) (h1 : 1 ≤ n) (h64 : n ≤ 64) (hi : i < 64) (hs : SlN w .u64 a l) (hW : Words l) :
    Calls Tryd.prog 25 #[.slice a n c, .int .i64 (i : Int)] w fun e w' => e = .returned (.tuple #[.int .u64 (laneW l i : Int), .int .i64 0]) ∧ Kept [] w w' := by
  have HL := Lib.hid hl
  have HS := Lib.hid hs
  have HW := Lib.hid hW
  have HI := Lib.hid (is_c a c n i w (by omega) hi)
  rw [decide_eq_true (show 1 ≤ n ∧ n ≤ 64 from ⟨h1, h64⟩)] at HI
  clear hl hs hW
  go_enter Tryd.func25, Tryd.ntmps25
  go_wp2_with fail
  refine HI.out.mono ?_
  rintro e w2 ⟨rfl, k2⟩
  have K2 := Lib.hid k2
  clear k2 HI
  go_wp2_with fail
  go_loopw [6, 15] (fun wv iv wr => ∃ (k : Nat), k ≤ n ∧ iv = .int .i64 k ∧ wv = .int .u64 (laneTo l i k : Int) ∧ wr = w2) (fun _ iv _ => n - (intOf iv).toNat)
  case atStart => exact ⟨0, Nat.zero_le _, rfl, rfl, rfl⟩
  case round =>
    obtain ⟨k, hk, rfl, rfl, rfl⟩ := hrel
    obtain ⟨w2, rfl⟩ : ∃ v : World, v = wr := ⟨_, rfl⟩
    by_cases hlt : k < n
    · have hkl : k < l.length := by rw [HL.out]; exact hlt
      obtain ⟨ad, rfl, x0⟩ := (HS.out.kept0 K2.out) k hkl
      have HGT := Lib.hid (show l.getD k 0 = l[k] from by simp [List.getD, List.getElem?_eq_getElem hkl])
      have hb64 := HW.out _ (List.getElem_mem hkl)
      have HSU := Lib.hid (show laneTo l i (k + 1) = laneTo l i k ||| (bitOf (l.getD k 0) i * 2 ^ k) from rfl)
      have hlo : laneTo l i k < 18446744073709551616 := Nat.lt_of_lt_of_le (laneTo_lt l i k (by omega)) (by
        rw [show (18446744073709551616 : Nat) = 2 ^ 64 from rfl]
        exact Nat.pow_le_pow_right (by omega) (by omega))
      rw [HGT.out] at HSU
      generalize l[k] = b at *
      generalize laneTo l i k = lo at *
      obtain ⟨y, hy⟩ : ∃ y, y = b / 2 ^ i := ⟨_, rfl⟩
      have hyl : y ≤ b := by rw [hy]; exact Nat.div_le_self _ _
      have hshr : (b : Int) / 2 ^ i = (y : Int) := by rw [hy]; simp
      obtain ⟨z, hz⟩ : ∃ z, z = y % 2 := ⟨_, rfl⟩
      have hz1 : z ≤ 1 := by omega
      have hand : bits .and .u64 (y : Int) 1 = (z : Int) := by
        have := u64_and_nat y 1 (by omega) (by omega)
        rw [Nat.and_one_is_mod] at this
        rw [hz]; exact this
      obtain ⟨x, hx⟩ : ∃ x, x = z * 2 ^ k := ⟨_, rfl⟩
      have hxp : x ≤ 2 ^ 63 := by
        rw [hx]
        have h1 : 2 ^ k ≤ 2 ^ 63 := Nat.pow_le_pow_right (by omega) (by omega)
        calc z * 2 ^ k ≤ 1 * 2 ^ k := Nat.mul_le_mul_right _ hz1
          _ ≤ 2 ^ 63 := by omega
      have hx63 : x ≤ 9223372036854775808 := hxp
      have hsh : IntKind.u64.wrap ((z : Int) * 2 ^ k) = (x : Int) := by
        have e1 : ((z : Int) * 2 ^ k) = ((x : Nat) : Int) := by rw [hx]; simp
        rw [e1]
        exact IntWalk.u64_in _ ⟨by omega, by omega⟩
      have hor := u64_or_nat lo x hlo (by omega)
      have HN := Lib.hid (show lo ||| x = laneTo l i (k + 1) from by rw [HSU.out, hx, hz, hy]; rfl)
      rw [HN.out] at hor
      clear hy hz hx hxp
      go_wp2_with fail
      go_roundw
      case rel => exact ⟨k + 1, by omega, by go_num, rfl, by first | rfl | trivial⟩
      case measure => simp [intOf]; omega
    · obtain rfl : k = n := by omega
      have HE := Lib.hid (show laneTo l i k = laneW l i from by unfold laneW; rw [HL.out])
      rw [HE.out]
      go_wp2_with fail
      go_ret2
      exact ⟨rfl, K2.out⟩
end Go.Proofs.YtjgcfncganleoaaDoor
