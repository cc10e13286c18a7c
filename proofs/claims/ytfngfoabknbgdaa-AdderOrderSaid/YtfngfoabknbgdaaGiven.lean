/-
  Rows given: parts of a row, cells of a row.
-/
import Derived.Test.YtfngfoabknbgdaaLane
namespace Go.Proofs.Ytfngfoabknbgdaa
open Go.ChangeShapes Go.WideShapes Go.ChangeAt Go.RowKit
set_option linter.unusedVariables false

theorem Own.cap {w : World} {e : TypeId} {g n cap : Nat} {xs : List Value} (h : Own w e (some ⟨g, 0, none⟩) n cap xs) : n ≤ cap := by
  rcases h.2 with ⟨hv, h0⟩ | ⟨g', cap', cur, hv, hb, hg, hle, rest⟩
  · cases hv
  · injection hv with _ _ hc
    subst hc
    exact hle
theorem sln_mid {w : World} {K : IntKind} {g n : Nat} {l : List Nat} (h : SlN w K (some ⟨g, 0, none⟩) l) (m : Nat) : SlN w K (some ⟨g, n, none⟩) ((l.drop n).take m) := fun k hk => by
  rw [List.length_take, List.length_drop] at hk
  obtain ⟨ad, h1, h2⟩ := h (n + k) (by omega)
  injection h1 with h1
  subst h1
  refine ⟨_, rfl, ?_⟩
  have e1 : (⟨g, n, none⟩ : Addr).add k = ⟨g, n + k, none⟩ := by unfold Addr.add; split <;> simp_all
  have e2 : (⟨g, 0, none⟩ : Addr).add (n + k) = ⟨g, n + k, none⟩ := by unfold Addr.add; split <;> simp_all
  rw [e1, ← e2, h2]
  simp
theorem words_take {l : List Nat} (h : Words l) (n : Nat) : Words (l.take n) := fun x hx => h x (List.mem_of_mem_take hx)
theorem words_drop {l : List Nat} (h : Words l) (n : Nat) : Words (l.drop n) := fun x hx => h x (List.mem_of_mem_drop hx)
theorem row_cell {w : World} {g : Nat} {row : List Nat} (h : SlN w .u64 (some ⟨g, 0, none⟩) row) (i : Nat) (hi : i < row.length) : w.cell? ⟨g, i, none⟩ = some (.int .u64 (row.getD i 0 : Nat)) := by
  obtain ⟨ad, h1, h2⟩ := h.getD (k := i) hi
  injection h1 with h1
  subst h1
  rw [← h2]
  congr 1
  unfold Addr.add; split <;> simp_all
end Go.Proofs.Ytfngfoabknbgdaa
