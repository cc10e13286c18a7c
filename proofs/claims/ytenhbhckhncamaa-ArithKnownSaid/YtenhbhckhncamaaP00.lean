/-
  Plain words on literals and their 64-lane words: no program in sight.
-/
import Derived.Laws.BitsAllLaws
import Derived.Laws.Entries
import Derived.WalkKit
namespace Go.Proofs.Ytenhbhckhncamaa
open Go.RowKit

/-- the opposite of a literal -/
def ntL (l : Nat) : Nat := if l % 2 = 0 then l + 1 else l - 1
def ifL (l : Nat) (t : Bool) : Nat := if t then ntL l else l
def noW (v : Nat) : Nat := 18446744073709551615 - v
/-- a node's word by a row of words -/
def nodeW (ws : List Nat) (n : Nat) : Nat := if n = 0 then 0 else ws.getD n 0
/-- a literal's word by a row of words -/
def wd (ws : List Nat) (l : Nat) : Nat := if l % 2 = 1 then noW (nodeW ws (l / 2)) else nodeW ws (l / 2)
def foldV (a b : Nat) : Nat := if min a b = 0 ∨ max a b = ntL (min a b) then 0 else if min a b = 1 ∨ a = b then max a b else 0
def foldB (a b : Nat) : Bool := decide (min a b = 0 ∨ max a b = ntL (min a b) ∨ min a b = 1 ∨ a = b)
def Words (ws : List Nat) : Prop := ∀ n ∈ ws, n < 18446744073709551616
def Lits (ls : List Nat) : Prop := ∀ n ∈ ls, n < 4294967296

theorem xor_one (l : Nat) : l ^^^ 1 = ntL l := by
  have h1 : (l ^^^ 1) / 2 = l / 2 := by rw [Nat.xor_div_two]; simp
  have h2 : (l ^^^ 1) % 2 = (l + 1) % 2 := by
    by_cases hx : (l ^^^ 1) % 2 = 1
    · have := Nat.xor_mod_two_eq_one.1 hx
      simp at this; omega
    · have : ¬ ¬ (l % 2 = 1 ↔ 1 % 2 = 1) := fun h => hx (Nat.xor_mod_two_eq_one.2 h)
      simp at this; omega
  unfold ntL
  split <;> omega

theorem xor_all (v : Nat) (h : v < 18446744073709551616) : v ^^^ 18446744073709551615 = noW v := by
  unfold noW
  have h' : v < 2 ^ 64 := h
  apply Nat.eq_of_testBit_eq; intro i
  rw [show 18446744073709551615 - v = 2^64 - (v+1) by omega, Nat.testBit_two_pow_sub_succ h', Nat.testBit_xor, show 18446744073709551615 = 2^64 - 1 by rfl, Nat.testBit_two_pow_sub_one]
  by_cases hi : i < 64
  · simp [hi]
  · have : v.testBit i = false := Nat.testBit_lt_two_pow (Nat.lt_of_lt_of_le h' (Nat.pow_le_pow_right (by omega) (Nat.not_lt.1 hi)))
    simp [hi, this]

theorem ntL_lt {l : Nat} (h : l < 4294967296) : ntL l < 4294967296 := by unfold ntL; split <;> omega
theorem ntL_half (l : Nat) : ntL l / 2 = l / 2 := by unfold ntL; split <;> omega
theorem ntL_mod (l : Nat) : ntL l % 2 = 1 - l % 2 := by unfold ntL; split <;> omega
theorem ntL_ntL (l : Nat) : ntL (ntL l) = l := by unfold ntL; split <;> split <;> omega
theorem ntL_ne (l : Nat) : ntL l ≠ l := by unfold ntL; split <;> omega
theorem ifL_lt {l : Nat} (h : l < 4294967296) (t : Bool) : ifL l t < 4294967296 := by unfold ifL; split; exact ntL_lt h; exact h
theorem ifL_half (l : Nat) (t : Bool) : ifL l t / 2 = l / 2 := by unfold ifL; split; exact ntL_half l; rfl
theorem noW_lt (v : Nat) : noW v < 18446744073709551616 := by unfold noW; omega
theorem noW_noW {v : Nat} (h : v < 18446744073709551616) : noW (noW v) = v := by unfold noW; omega
theorem nodeW_lt {ws : List Nat} (h : Words ws) (n : Nat) : nodeW ws n < 18446744073709551616 := by
  unfold nodeW
  split
  · omega
  · rw [List.getD_eq_getElem?_getD]
    cases hn : ws[n]? with
    | none => simp
    | some v => simpa using h v (List.mem_of_getElem? hn)
theorem wd_lt {ws : List Nat} (h : Words ws) (l : Nat) : wd ws l < 18446744073709551616 := by
  unfold wd; split; exact noW_lt _; exact nodeW_lt h _
theorem wd_ntL {ws : List Nat} (h : Words ws) (l : Nat) : wd ws (ntL l) = noW (wd ws l) := by
  have := ntL_mod l
  unfold wd
  rw [ntL_half]
  by_cases hl : l % 2 = 1
  · rw [if_neg (by omega), if_pos hl, noW_noW (nodeW_lt h _)]
  · rw [if_pos (by omega), if_neg hl]

/-! The walk's own spellings. -/
theorem bits_and1 (l : Nat) (h : l < 4294967296) : bits .and .u32 (l : Int) 1 = ((l % 2 : Nat) : Int) := by
  rw [show (1 : Int) = ((1 : Nat) : Int) from rfl, u32_and_nat _ _ h (by omega), nat_mask1]
theorem bits_xor1 (l : Nat) (h : l < 4294967296) : bits .xor .u32 (l : Int) 1 = ((ntL l : Nat) : Int) := by
  rw [show (1 : Int) = ((1 : Nat) : Int) from rfl, u32_xor_nat _ _ h (by omega), xor_one]
theorem word_spell (v l : Nat) (hv : v < 18446744073709551616) (h : l < 4294967296) :
    bits .xor .u64 (v : Int) (IntKind.u64.wrap (-IntKind.u64.wrap (bits .and .u32 (l : Int) 1))) = ((if l % 2 = 1 then noW v else v : Nat) : Int) := by
  rw [bits_and1 l h]
  by_cases hl : l % 2 = 1
  · rw [hl, if_pos rfl, ← xor_all v hv, ← u64_xor_nat _ _ hv (by omega)]
    rfl
  · rw [show l % 2 = 0 by omega, if_neg (by omega)]
    have : IntKind.u64.wrap (-IntKind.u64.wrap ((0 : Nat) : Int)) = ((0 : Nat) : Int) := rfl
    rw [this, u64_xor_nat _ _ hv (by omega), Nat.xor_zero]

theorem noW_and (v : Nat) : v &&& noW v = 0 := by
  by_cases h : v < 2 ^ 64
  · rw [← xor_all v h]
    apply Nat.eq_of_testBit_eq; intro i
    rw [Nat.testBit_and, Nat.testBit_xor, show 18446744073709551615 = 2^64 - 1 by rfl, Nat.testBit_two_pow_sub_one]
    by_cases hi : i < 64
    · simp [hi]
    · have : v.testBit i = false := Nat.testBit_lt_two_pow (Nat.lt_of_lt_of_le h (Nat.pow_le_pow_right (by omega) (Nat.not_lt.1 hi)))
      simp [this]
  · have : noW v = 0 := by unfold noW; omega
    rw [this, Nat.and_zero]
theorem and_all (v : Nat) (h : v < 18446744073709551616) : v &&& 18446744073709551615 = v := by
  have h' : v < 2 ^ 64 := h
  exact Nat.and_two_pow_sub_one_of_lt_two_pow h'
theorem wd_zero (ws : List Nat) : wd ws 0 = 0 := by simp [wd, nodeW]
theorem wd_one (ws : List Nat) : wd ws 1 = 18446744073709551615 := by simp [wd, nodeW, noW]
theorem foldV_comm (a b : Nat) : foldV a b = foldV b a := by
  unfold foldV
  rw [Nat.max_comm, Nat.min_comm]
  simp only [eq_comm (a := a) (b := b)]
theorem foldB_comm (a b : Nat) : foldB a b = foldB b a := by
  unfold foldB
  rw [Nat.max_comm, Nat.min_comm]
  simp only [eq_comm (a := a) (b := b)]
/-- what Fold tells is the And of both words -/
theorem fold_word {ws : List Nat} (h : Words ws) (a b : Nat) (hf : foldB a b = true) : wd ws (foldV a b) = wd ws a &&& wd ws b := by
  have comm : ∀ p q : Nat, wd ws (max p q) &&& wd ws (min p q) = wd ws p &&& wd ws q := by
    intro p q
    rcases Nat.le_total p q with hpq | hpq
    · rw [Nat.max_eq_right hpq, Nat.min_eq_left hpq, Nat.and_comm]
    · rw [Nat.max_eq_left hpq, Nat.min_eq_right hpq]
  rw [← comm]
  unfold foldB at hf
  unfold foldV
  simp only [decide_eq_true_eq] at hf
  by_cases h0 : min a b = 0
  · rw [if_pos (.inl h0), h0, wd_zero, Nat.and_zero]
  · by_cases h1 : max a b = ntL (min a b)
    · rw [if_pos (.inr h1), h1, wd_ntL h, wd_zero, Nat.and_comm, noW_and]
    · rw [if_neg (by simp [h0, h1])]
      by_cases h2 : min a b = 1
      · rw [if_pos (.inl h2), h2, wd_one, and_all _ (wd_lt h _)]
      · have h3 : a = b := by
          rcases hf with h | h | h | h
          · exact absurd h h0
          · exact absurd h h1
          · exact absurd h h2
          · exact h
        rw [if_pos (.inr h3), h3, Nat.max_self, Nat.min_self, Nat.and_self]
theorem fold_not (a b : Nat) (hf : foldB a b = false) : a / 2 ≠ b / 2 ∧ 1 < a ∧ 1 < b := by
  unfold foldB at hf
  simp only [decide_eq_false_iff_not, not_or] at hf
  obtain ⟨h0, h1, h2, h3⟩ := hf
  unfold ntL at h1
  split at h1 <;> omega
theorem foldV_lt (a b : Nat) (ha : a < 4294967296) (hb : b < 4294967296) : foldV a b < 4294967296 := by
  unfold foldV
  repeat' split
  all_goals omega
theorem notw_spell (v : Nat) (h : v < 18446744073709551616) : bits .xor .u64 IntKind.u64.max (v : Int) = ((noW v : Nat) : Int) := by
  rw [show IntKind.u64.max = ((18446744073709551615 : Nat) : Int) from rfl, u64_xor_nat _ _ (by omega) h, Nat.xor_comm, xor_all v h]
end Go.Proofs.Ytenhbhckhncamaa
