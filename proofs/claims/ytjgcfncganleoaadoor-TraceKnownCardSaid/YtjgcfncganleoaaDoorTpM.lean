/-
  Chapter 09, plain: a row of tables in lanes.
-/
import Derived.Test.YtjgcfncganleoaaDoorLnQ
import Derived.Test.YtjgcfncganleoaaDoorTrcE
namespace Go.Proofs.YtjgcfncganleoaaDoor
set_option linter.unusedVariables false
set_option linter.unusedSimpArgs false

def bs0 (ts : List Tb) : List (ByteArray × Int) := match ts with | t :: _ => t.bs | [] => []
def packBad (ts : List Tb) : Bool := decide (ts.length = 0) || (decide (64 < ts.length) || ts.any fun t => !(mayT t && decide (t.bs = bs0 ts)))
def packNone (at_ : Int) (ts : List Tb) : Bool := decide (at_ < 0) || !(ts.any fun t => decide (at_ < (t.rs.length : Int)))
def numAt (i k : Nat) (t : Tb) : Nat := if i < t.rs.length then atT t i k else 0
def colW (i : Nat) (ts : List Tb) (k : Nat) : List Nat := ts.map (numAt i k)
def widthAt (bs : List (ByteArray × Int)) (k : Nat) : Int := (bs[k]?.map (·.2)).getD 0
def colsTo (i : Nat) (ts : List Tb) (n : Nat) : List (List Nat) := (List.range n).map fun k => packT (widthAt (bs0 ts) k).toNat (colW i ts k)
theorem colsTo_succ (i : Nat) (ts : List Tb) (n : Nat) : colsTo i ts (n + 1) = colsTo i ts n ++ [packT (widthAt (bs0 ts) n).toNat (colW i ts n)] := by
  simp [colsTo, List.range_succ]
theorem packBad_parts {ts : List Tb} (h : packBad ts = false) : 1 ≤ ts.length ∧ ts.length ≤ 64 ∧ ∀ t ∈ ts, mayT t = true ∧ t.bs = bs0 ts := by
  unfold packBad at h
  simp only [Bool.or_eq_false_iff, decide_eq_false_iff_not, List.any_eq_false] at h
  refine ⟨by omega, by omega, fun t ht => ?_⟩
  have := h.2.2 t ht
  simpa using this
theorem may_fit {t : Tb} (h : mayT t = true) (i k : Nat) (hi : i < t.rs.length) (hk : k < t.bs.length) : fitsB (widthAt t.bs k) (atT t i k) = true := by
  have h2 := (mayT_parts h).2.1
  unfold rowsB at h2
  rw [List.all_eq_true] at h2
  have h3 := h2 _ (List.getElem_mem hi)
  unfold rowB rowTo at h3
  rw [Bool.and_eq_true, decide_eq_true_eq, List.all_eq_true] at h3
  have h4 := h3.2 k (List.mem_range.2 (by rw [h3.1]; exact hk))
  unfold atT
  rw [List.getD_eq_getElem?_getD (l := t.rs), List.getElem?_eq_getElem hi, Option.getD_some]
  exact h4
theorem may_width {t : Tb} (h : mayT t = true) (k : Nat) (hk : k < t.bs.length) : 1 ≤ widthAt t.bs k ∧ widthAt t.bs k ≤ 64 := by
  have h1 := (mayT_parts h).1
  unfold busesB busesTo at h1
  rw [List.all_eq_true] at h1
  have h2 := h1 k (List.mem_range.2 hk)
  rw [List.getElem?_eq_getElem hk] at h2
  simp only [busB, fitsB, Bool.and_eq_true, decide_eq_true_eq] at h2
  unfold widthAt
  rw [List.getElem?_eq_getElem hk]
  exact h2.2.2.1
theorem fits_zero {x : Int} (h : 1 ≤ x ∧ x ≤ 64) : fitsB x 0 = true := by
  unfold fitsB
  rw [decide_eq_true h, Bool.true_and, decide_eq_true_eq]
  exact Nat.pow_pos (by omega)
theorem fits_word {x : Int} {n : Nat} (h : fitsB x n = true) : n < 18446744073709551616 := by
  unfold fitsB at h
  simp only [Bool.and_eq_true, decide_eq_true_eq] at h
  have h1 : 2 ^ x.toNat ≤ 2 ^ 64 := Nat.pow_le_pow_right (by omega) (by omega)
  have h2 : (2 : Nat) ^ 64 = 18446744073709551616 := by decide
  omega
/-- what is packed fits -/
theorem col_fits {ts : List Tb} (h : packBad ts = false) (i k : Nat) (hk : k < (bs0 ts).length) : (1 ≤ widthAt (bs0 ts) k ∧ widthAt (bs0 ts) k ≤ 64) ∧ ∀ n ∈ colW i ts k, fitsB (widthAt (bs0 ts) k) n = true := by
  obtain ⟨h1, h2, h3⟩ := packBad_parts h
  have hw : 1 ≤ widthAt (bs0 ts) k ∧ widthAt (bs0 ts) k ≤ 64 := by
    have h4 := h3 _ (List.getElem_mem (show 0 < ts.length by omega))
    rw [← h4.2] at hk ⊢
    exact may_width h4.1 k hk
  refine ⟨hw, fun n hn => ?_⟩
  obtain ⟨t, ht, rfl⟩ := List.mem_map.1 hn
  have h4 := h3 t ht
  unfold numAt
  split
  · rename_i hi
    have := may_fit h4.1 i k hi (by rw [h4.2]; exact hk)
    rwa [h4.2] at this
  · exact fits_zero hw
theorem col_pack {ts : List Tb} (h : packBad ts = false) (i k : Nat) (hk : k < (bs0 ts).length) : packB (widthAt (bs0 ts) k) (colW i ts k) = true ∧ Words (colW i ts k) := by
  obtain ⟨h1, h2, h3⟩ := packBad_parts h
  obtain ⟨hw, hf⟩ := col_fits h i k hk
  refine ⟨?_, fun n hn => fits_word (hf n hn)⟩
  unfold packB fitsAll
  rw [decide_eq_true hw, Bool.true_and, Bool.and_eq_true, List.all_eq_true, decide_eq_true_eq]
  exact ⟨hf, by rw [colW, List.length_map]; exact h2⟩
/-- words as far as they are told -/
def wordsTo (i k : Nat) (ts : List Tb) (j : Nat) : List Nat := colW i (ts.take j) k ++ List.replicate (ts.length - j) 0
theorem wordsTo_len {i k : Nat} {ts : List Tb} {j : Nat} (hj : j ≤ ts.length) : (wordsTo i k ts j).length = ts.length := by
  simp [wordsTo, colW]; omega
theorem wordsTo_zero (i k : Nat) (ts : List Tb) : wordsTo i k ts 0 = List.replicate ts.length 0 := by simp [wordsTo, colW]
theorem wordsTo_all (i k : Nat) (ts : List Tb) : wordsTo i k ts ts.length = colW i ts k := by simp [wordsTo]
theorem wordsTo_succ {i k : Nat} {ts : List Tb} {j : Nat} (hj : j < ts.length) : wordsTo i k ts (j + 1) = (wordsTo i k ts j).set j (numAt i k ts[j]) := by
  unfold wordsTo
  have h1 : (colW i (ts.take j) k).length = j := by simp [colW]; omega
  rw [List.set_append_right _ _ (by omega), h1, Nat.sub_self]
  have h2 : ts.length - j = (ts.length - (j + 1)) + 1 := by omega
  rw [h2, List.replicate_succ, List.set_cons_zero, List.take_succ_eq_append_getElem hj]
  unfold colW
  rw [List.map_append, List.append_assoc]
  rfl
theorem wordsTo_skip {i k : Nat} {ts : List Tb} {j : Nat} (hj : j < ts.length) (h : ¬ i < ts[j].rs.length) : wordsTo i k ts (j + 1) = wordsTo i k ts j := by
  rw [wordsTo_succ hj]
  have h0 : numAt i k ts[j] = 0 := by unfold numAt; rw [if_neg h]
  rw [h0]
  have hl := wordsTo_len (i := i) (k := k) (ts := ts) (j := j) (by omega)
  have : (wordsTo i k ts j)[j]'(by omega) = 0 := by
    have h1 : (colW i (ts.take j) k).length = j := by simp [colW]; omega
    unfold wordsTo
    rw [List.getElem_append_right (by omega)]
    simp
  refine List.ext_getElem (by simp) fun q h1 h2 => ?_
  rw [List.getElem_set]
  split
  · rename_i e; subst e; exact this.symm
  · rfl
end Go.Proofs.YtjgcfncganleoaaDoor
