/-
  Law 06: Does, a step done with a netlist.
-/
import Derived.Test.YtnjoklcddodfeaaDoorNetG
namespace Go.Proofs.YtnjoklcddodfeaaDoor
open Go.ChangeShapes Go.WideShapes Go.ChangeAt Go.RowKit
open Go.Maps (Keyed)
open Go.WideMaps
set_option linter.unusedVariables false
set_option linter.unusedSimpArgs false

variable {w w' : World} {p n : Nat} {F R S : List Nat} {g : Gr} {N : Nt}
def stepV (s : NStp) (la : Option Addr) (lc : Nat) : Value := .agg (stepCells6 s la lc)
theorem rem_spell (n : Int) (h1 : -9223372036854775808 ≤ n) (h2 : n ≤ 9223372036854775807) : (n.tmod 2 != 0) = decide (n % 2 ≠ 0) := by
  rw [Bool.eq_iff_iff, bne_iff_ne, decide_eq_true_eq]
  have : n.tmod 2 = 0 ↔ n % 2 = 0 := by
    constructor
    · intro h; have := Int.dvd_of_tmod_eq_zero h; omega
    · intro h; exact Int.tmod_eq_zero_of_dvd (by omega)
  rw [ne_eq, ne_eq, this]
end Go.Proofs.YtnjoklcddodfeaaDoor
