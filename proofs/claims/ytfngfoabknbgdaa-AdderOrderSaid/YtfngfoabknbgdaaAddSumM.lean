/-
  Law 12: sums, lane by lane. Plain.
-/
import Derived.Test.YtfngfoabknbgdaaAddDeepM
import Derived.Test.YtfngfoabknbgdaaCmpNum
namespace Go.Proofs.Ytfngfoabknbgdaa
set_option linter.unusedVariables false
variable {g : Gr} {n : Nat} {inp : List Nat}
/-- the words that sums are asked for -/
def sumRow (inp : List Nat) (r : Gr × List Nat × Nat) : List Nat := (r.2.1 ++ [r.2.2]).map (lw inp r.1)
theorem sumRow_length {m c : Nat} {g0 : Gr} {la lb : List Nat} {r : Gr × List Nat × Nat} (h : AddOk m g0 la lb c n r) : (sumRow inp r).length = n + 1 := by simp [sumRow, h.len]
theorem sumRow_words {r : Gr × List Nat × Nat} (hi : Words inp) : Words (sumRow inp r) := by
  intro x hx
  obtain ⟨y, _, rfl⟩ := List.mem_map.1 hx
  exact lw_lt hi _ _
theorem sumRow_low {m c i : Nat} {g0 : Gr} {la lb : List Nat} {r : Gr × List Nat × Nat} (h : AddOk m g0 la lb c n r) (hi : i < n) : (sumRow inp r).getD i 0 = lw inp r.1 (r.2.1.getD i 0) := by
  have hl := h.len
  simp only [sumRow, List.getD_eq_getElem?_getD, List.getElem?_map, List.getElem?_append_left (show i < r.2.1.length by omega)]
  rw [List.getElem?_eq_getElem (by omega)]
  rfl
theorem sumRow_top {m c : Nat} {g0 : Gr} {la lb : List Nat} {r : Gr × List Nat × Nat} (h : AddOk m g0 la lb c n r) : (sumRow inp r).getD n 0 = lw inp r.1 r.2.2 := by
  have hl := h.len
  simp only [sumRow, List.getD_eq_getElem?_getD, List.getElem?_map, List.getElem?_append_right (show r.2.1.length ≤ n by omega)]
  rw [hl]
  simp
/-- what the words tell does not hang on the way they were made -/
theorem sumRow_same {m m' c : Nat} {g0 : Gr} {la lb : List Nat} {r r' : Gr × List Nat × Nat} (hi : Words inp) (h : AddOk m g0 la lb c n r) (h' : AddOk m' g0 la lb c n r') : sumRow inp r = sumRow inp r' := by
  have e1 := sumRow_length (inp := inp) h
  have e2 := sumRow_length (inp := inp) h'
  have key : ∀ i, i < n + 1 → (sumRow inp r).getD i 0 = (sumRow inp r').getD i 0 := by
    intro i hin
    apply Nat.eq_of_testBit_eq
    intro t
    by_cases ht : t < 64
    · have v1 := h.val inp t hi ht
      have v2 := h'.val inp t hi ht
      by_cases hlt : i < n
      · rw [sumRow_low h hlt, sumRow_low h' hlt]
        exact (v1.1 i hlt).trans (v2.1 i hlt).symm
      · obtain rfl : i = n := by omega
        rw [sumRow_top h, sumRow_top h']
        exact v1.2.trans v2.2.symm
    · have a1 := words_getD (sumRow_words (r := r) hi) i
      have a2 := words_getD (sumRow_words (r := r') hi) i
      have hp : 2 ^ 64 ≤ 2 ^ t := Nat.pow_le_pow_right (by omega) (by omega)
      rw [Nat.testBit_lt_two_pow (by omega), Nat.testBit_lt_two_pow (by omega)]
  apply List.ext_getElem (by omega)
  intro i h1 h2
  have h3 := key i (by omega)
  simpa [List.getD_eq_getElem?_getD, List.getElem?_eq_getElem h1, List.getElem?_eq_getElem h2] using h3
structure SumLaw (n : Nat) (inp row : List Nat) : Prop where
  len : row.length = n + 1
  words : Words row
  law : ∀ t, t < 64 → laneN (row.take n) t + ((row.getD n 0).testBit t).toNat * 2 ^ n = laneN (inp.take n) t + laneN ((inp.drop n).take n) t + ((inp.getD (2 * n) 0).testBit t).toNat
theorem sum_law {m : Nat} {o1 o2 : Bool} {r : Gr × List Nat × Nat} (h : AddOk m (freshG o1 o2 (2 * n + 1)) (rowL 1 n) (rowL (1 + n) n) (2 * (1 + 2 * n)) n r) (hi : Words inp) (hl : inp.length = 2 * n + 1) : SumLaw n inp (sumRow inp r) := by
  refine ⟨sumRow_length h, sumRow_words hi, fun t ht => ?_⟩
  have h1 := add_num h hi ht
  rw [lane_low (by omega), lane_high (by omega)] at h1
  have e1 : laneN ((sumRow inp r).take n) t = bitN (fun i => lane1 inp r.1 t (r.2.1.getD i 0)) 0 n := by
    unfold laneN
    rw [show ((sumRow inp r).take n).length = n by rw [List.length_take, sumRow_length h]; omega]
    apply bitN_congr
    intro i _ hin
    rw [getD_take (by omega), sumRow_low h (by omega)]
    rfl
  have e2 : ((sumRow inp r).getD n 0).testBit t = lane1 inp r.1 t r.2.2 := by rw [sumRow_top h]; rfl
  have e3 : (inp.getD (2 * n) 0).testBit t = lane1 inp (freshG o1 o2 (2 * n + 1)) t (2 * (1 + 2 * n)) := by
    unfold lane1
    rw [show 2 * (1 + 2 * n) = 2 * (2 * n + 1) by omega, freshG_val _ _ _ _ _ (by omega)]
  rw [e1, e2, e3]
  exact h1
/-- the sum's number, and what goes out above it -/
theorem sum_split {n v X T : Nat} (hv : v < 2 ^ n) (h : v + X * 2 ^ n = T) : v = T % 2 ^ n ∧ X = T / 2 ^ n := by
  subst h
  constructor
  · rw [Nat.add_mul_mod_self_right, Nat.mod_eq_of_lt hv]
  · rw [Nat.add_mul_div_right _ _ (Nat.pow_pos (by omega)), Nat.div_eq_of_lt hv, Nat.zero_add]
section
open Go.ChangeShapes Go.WideShapes Go.ChangeAt Go.RowKit
theorem mask_spell {T n : Nat} (hT : T < 18446744073709551616) (hn : n < 64) : bits .and .u64 (T : Int) (IntKind.u64.wrap (IntKind.u64.wrap (2 ^ n) - 1)) = ((T % 2 ^ n : Nat) : Int) := by
  have h1 : (2 : Nat) ^ n ≤ 2 ^ 63 := Nat.pow_le_pow_right (by omega) (by omega)
  have h2 : 1 ≤ (2 : Nat) ^ n := Nat.one_le_two_pow
  have e : (2 : Int) ^ n = ((2 ^ n : Nat) : Int) := by push_cast; rfl
  have e2 : IntKind.u64.wrap (IntKind.u64.wrap (2 ^ n) - 1) = ((2 ^ n - 1 : Nat) : Int) := by
    rw [e]
    simp only [IntKind.wrap_u64]
    omega
  rw [e2, u64_and_nat _ _ hT (by omega), Nat.and_two_pow_sub_one_eq_mod]
theorem top_spell {T n X : Nat} (hT : T < 18446744073709551616) (hX : X = T / 2 ^ n) (h1 : X ≤ 1) : bits .and .u64 ((T : Int) / 2 ^ n) 1 = (X : Int) := by
  have e : (T : Int) / 2 ^ n = ((T / 2 ^ n : Nat) : Int) := by push_cast; rfl
  rw [e, bits_and1w _ (Nat.lt_of_le_of_lt (Nat.div_le_self _ _) hT), ← hX]
  have : X = 0 ∨ X = 1 := by omega
  rcases this with rfl | rfl <;> rfl
end
end Go.Proofs.Ytfngfoabknbgdaa
