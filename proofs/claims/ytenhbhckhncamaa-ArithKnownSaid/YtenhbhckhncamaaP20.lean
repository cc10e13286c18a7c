/-
  A fresh graph of inputs: its words and depths. Plain mathematics.
-/
import Derived.Test.YtenhbhckhncamaaP19
namespace Go.Proofs.Ytenhbhckhncamaa
set_option linter.unusedVariables false

theorem freshG_wf (o1 o2 : Bool) (k : Nat) : WF (freshG o1 o2 k).nodes ∧ (ins (freshG o1 o2 k).nodes).length = k := by
  induction k with
  | zero =>
    refine ⟨⟨rfl, fun i a b h => ?_⟩, rfl⟩
    cases i with
    | zero => simp [freshG] at h; omega
    | succ i => simp [freshG] at h
  | succ k ih =>
    have h := inputG_spec ih.1
    rw [freshG_succ] at h
    exact ⟨h.1, by rw [h.2.2]; simp [ih.2]⟩
theorem freshG_ok (o1 o2 : Bool) {k j : Nat} (h : j ≤ 2 * k + 1) : (freshG o1 o2 k).ok j := by unfold Gr.ok; rw [freshG_length]; omega
theorem freshG_val (inp : List Nat) (o1 o2 : Bool) (k j : Nat) (h : j < k) : lw inp (freshG o1 o2 k) (2 * (j + 1)) = inp.getD j 0 := by
  induction k with
  | zero => omega
  | succ k ih =>
    by_cases hj : j = k
    · subst hj
      have h := inputG_val (freshG_wf o1 o2 j).1 inp
      rw [freshG_succ, (freshG_wf o1 o2 j).2] at h
      exact h
    · have hp := inputG_pre (freshG o1 o2 k)
      rw [freshG_succ] at hp
      rw [lw_pre hp (freshG_ok o1 o2 (by omega))]
      exact ih (by omega)
theorem freshG_dp (o1 o2 : Bool) (k j : Nat) (h : j ≤ k) : dp (freshG o1 o2 k) (2 * j) = 0 := by
  unfold dp dl
  rw [show 2 * j / 2 = j by omega, List.getD_eq_getElem?_getD]
  have e : (freshG o1 o2 k).nodes[j]? = some (2 * j, 2 * j) := by
    simp [freshG, List.getElem?_range (show j < k + 1 by omega)]
  rw [dp_none e (.inl (by omega))]
  rfl
theorem rowL_mem {k n x : Nat} (h : x ∈ rowL k n) : ∃ i, i < n ∧ x = 2 * (k + i) := by
  simp only [rowL, List.mem_map, List.mem_range] at h
  obtain ⟨i, h1, h2⟩ := h
  exact ⟨i, h1, h2.symm⟩
theorem rowL_getD {k n i : Nat} (h : i < n) : (rowL k n).getD i 0 = 2 * (k + i) := by
  rw [List.getD_eq_getElem?_getD]
  simp [rowL, List.getElem?_range h]
end Go.Proofs.Ytenhbhckhncamaa
