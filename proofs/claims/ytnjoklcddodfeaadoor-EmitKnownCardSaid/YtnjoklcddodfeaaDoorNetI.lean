/-
  Law 06: Does, the steps whose statements draw their order.
-/
import Derived.Test.YtnjoklcddodfeaaDoorNetH
namespace Go.Proofs.YtnjoklcddodfeaaDoor
open Go.ChangeShapes Go.WideShapes Go.ChangeAt Go.RowKit
open Go.Maps (Keyed)
open Go.WideMaps
set_option linter.unusedVariables false
set_option linter.unusedSimpArgs false

variable {w w' : World} {p n : Nat} {F R S : List Nat} {g : Gr} {N : Nt}
theorem sln_blk {W : World} {b : Nat} {l : List Nat} {T : TypeId} (h : W.heap[b]? = some (.cells (nats .u32 l).toArray T (0, 0))) : SlN W .u32 (some ⟨b, 0, none⟩) l := fun k hk => by
  have hadd : (⟨b, 0, none⟩ : Addr).add k = ⟨b, k, none⟩ := by unfold Addr.add; split <;> simp_all
  refine ⟨_, rfl, ?_⟩
  rw [hadd, blk_cell h]
  simp [nats, hk]
end Go.Proofs.YtnjoklcddodfeaaDoor
