/-
  Law 06: Does, the steps whose statements draw their order.
-/
import Derived.Test.YtnjoklcddodfeaaDoorNetI
namespace Go.Proofs.YtnjoklcddodfeaaDoor
open Go.ChangeShapes Go.WideShapes Go.ChangeAt Go.RowKit
open Go.Maps (Keyed)
open Go.WideMaps
set_option linter.unusedVariables false
set_option linter.unusedSimpArgs false

variable {w w' : World} {p n : Nat} {F R S : List Nat} {g : Gr} {N : Nt}
end Go.Proofs.YtnjoklcddodfeaaDoor
