/-
  Inputs of a graph, plain: what an input's node is.
-/
import Derived.Test.YtnjoklcddodfeaaGreatDoorP00
namespace Go.Proofs.YtnjoklcddodfeaaGreatDoor
set_option linter.unusedVariables false

theorem insFrom_of (i : Nat) (l : List (Nat × Nat)) : ∀ x ∈ insFrom i l, x ≠ 0 ∧ ∃ j a b, x = i + j ∧ l[j]? = some (a, b) ∧ a / 2 = x := by
  induction l generalizing i with
  | nil => intro x hx; simp [insFrom] at hx
  | cons p l ih =>
    intro x hx
    have step : x ∈ insFrom (i + 1) l → x ≠ 0 ∧ ∃ j a b, x = i + j ∧ (p :: l)[j]? = some (a, b) ∧ a / 2 = x := fun h => by
      obtain ⟨h0, j, a, b, h1, h2, h3⟩ := ih (i + 1) x h
      exact ⟨h0, j + 1, a, b, by omega, by simpa using h2, h3⟩
    simp only [insFrom] at hx
    split at hx
    · rename_i hc
      simp only [Bool.and_eq_true, decide_eq_true_eq, inAt] at hc
      rcases List.mem_cons.1 hx with rfl | hx
      · exact ⟨hc.2, 0, p.1, p.2, by omega, by simp, hc.1⟩
      · exact step hx
    · exact step hx
theorem ins_of {ns : List (Nat × Nat)} {x : Nat} (h : x ∈ ins ns) : x ≠ 0 ∧ ∃ a b, ns[x]? = some (a, b) ∧ a / 2 = x := by
  obtain ⟨h0, j, a, b, h1, h2, h3⟩ := insFrom_of 0 ns x h
  refine ⟨h0, a, b, ?_, h3⟩
  rw [h1, Nat.zero_add]; exact h2
end Go.Proofs.YtnjoklcddodfeaaGreatDoor
