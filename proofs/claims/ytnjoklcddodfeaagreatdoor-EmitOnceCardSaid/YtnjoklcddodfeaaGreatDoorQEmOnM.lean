/-
  Law 10: EmitOnce, plain: a text cut at its lines' ends, a line at its blanks.
-/
import Derived.Test.YtnjoklcddodfeaaGreatDoorQEmOnL
import Derived.Lib.Split
import Derived.Lib.SplitLaws
import Derived.Lib.IndexBytes
namespace Go.Proofs.YtnjoklcddodfeaaGreatDoor
open Go.ChangeShapes Go.WideShapes Go.ChangeAt Go.RowKit
set_option linter.unusedVariables false
set_option linter.unusedSimpArgs false

variable {k : Nat} {N : Nt}
/-- joined, a byte between -/
def joinC (c : UInt8) : List (List UInt8) → List UInt8
  | [] => []
  | [s] => s
  | s :: t :: r => s ++ c :: joinC c (t :: r)
theorem indexByte_app (c : UInt8) (s t : List UInt8) (h : c ∉ s) : Lib.indexByte (s ++ c :: t) c = (s.length : Int) := by
  induction s with
  | nil => simp [Lib.indexByte]
  | cons b s ih =>
    rw [List.mem_cons, not_or] at h
    have hb : (b == c) = false := by rw [beq_eq_false_iff_ne]; exact fun e => h.1 e.symm
    rw [List.cons_append, Lib.indexByte, hb, ih h.2]
    have hn : ((s.length : Int) == -1) = false := by rw [beq_eq_false_iff_ne]; omega
    rw [hn]
    simp
theorem joinC_count (c : UInt8) (L : List (List UInt8)) (h : ∀ s ∈ L, c ∉ s) : (joinC c L).count c = L.length - 1 := by
  induction L with
  | nil => rfl
  | cons s L ih =>
    cases L with
    | nil => simp only [joinC, List.length_cons, List.length_nil]; exact List.count_eq_zero_of_not_mem (h s (by simp))
    | cons t r =>
      have h1 := ih fun u hu => h u (List.mem_cons_of_mem _ hu)
      simp only [joinC, List.count_append, List.count_cons_self, h1, List.length_cons]
      rw [List.count_eq_zero_of_not_mem (h s (by simp))]
      omega
theorem splitK_join (c : UInt8) (L : List (List UInt8)) (h0 : L ≠ []) (h : ∀ s ∈ L, c ∉ s) : Lib.splitK [c] 0 (L.length - 1) (joinC c L) = L := by
  induction L with
  | nil => exact absurd rfl h0
  | cons s L ih =>
    cases L with
    | nil => rfl
    | cons t r =>
      have h1 := ih (by simp) fun u hu => h u (List.mem_cons_of_mem _ hu)
      have hi : Lib.index (s ++ c :: joinC c (t :: r)) [c] = (s.length : Int) := by rw [Lib.index_one]; exact indexByte_app c s _ (h s (by simp))
      have hn : ((s.length : Int) == -1) = false := by rw [beq_eq_false_iff_ne]; omega
      show Lib.splitK [c] 0 (r.length + 1) (s ++ c :: joinC c (t :: r)) = _
      rw [Lib.splitK, hi, hn]
      have e1 : ((s.length : Int)).toNat = s.length := by omega
      simp only [e1, Bool.false_eq_true, if_false, Nat.add_zero, List.length_singleton]
      rw [List.take_left', show s ++ c :: joinC c (t :: r) = (s ++ [c]) ++ joinC c (t :: r) from by simp, List.drop_left']
      · have h2 : Lib.splitK [c] 0 r.length (joinC c (t :: r)) = t :: r := h1
        rw [h2]
      · simp
      · rfl
/-- cut at a byte that stands in none of them, they come back -/
theorem split_join (c : UInt8) (L : List (List UInt8)) (h0 : L ≠ []) (h : ∀ s ∈ L, c ∉ s) : Lib.split (joinC c L) [c] = L := by
  unfold Lib.split
  rw [Lib.count_one, joinC_count c L h]
  exact splitK_join c L h0 h
/-- a text's lines, joined, and the last end -/
theorem textL_join (L : List (List UInt8)) (h0 : L ≠ []) : textL L = joinC 10 L ++ [10] := by
  induction L with
  | nil => exact absurd rfl h0
  | cons s L ih =>
    cases L with
    | nil => simp [textL, joinC]
    | cons t r =>
      have h1 := ih (by simp)
      have e : textL (s :: t :: r) = (s ++ [10]) ++ textL (t :: r) := by simp [textL]
      rw [e, h1]
      simp [joinC]
/-- a line's words, joined by blanks -/
theorem lineB_join (word name : List UInt8) (l : List Nat) : lineB word name l = joinC 32 (word :: ((if name = [] then [] else [name]) ++ l.map Lib.decDigits)) := by
  have hw : ∀ (l : List Nat) (s : List UInt8), s ++ wordsB l = joinC 32 (s :: l.map Lib.decDigits) := by
    intro l
    induction l with
    | nil => intro s; simp [wordsB, joinC]
    | cons x l ih =>
      intro s
      have h1 := ih (Lib.decDigits x)
      have e : wordsB (x :: l) = 32 :: (Lib.decDigits x ++ wordsB l) := by simp [wordsB]
      rw [e, h1]
      simp [joinC]
  unfold lineB nameB1
  by_cases hn : name = []
  · rw [if_pos hn, if_pos hn, List.append_nil, hw]
    rfl
  · rw [if_neg hn, if_neg hn]
    have h1 := hw l name
    rw [List.append_assoc, List.cons_append, h1]
    simp [joinC]
end Go.Proofs.YtnjoklcddodfeaaGreatDoor
