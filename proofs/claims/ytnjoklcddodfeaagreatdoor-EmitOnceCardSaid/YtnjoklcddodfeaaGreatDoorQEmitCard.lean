/-
  Chapter 10: what the rows' laid variables give the walks; the frame's parts.
-/
import Derived.Test.YtnjoklcddodfeaaGreatDoorQEmitD
import Derived.Test.YtnjoklcddodfeaaGreatDoorRows
import Derived.Test.YtnjoklcddodfeaaGreatDoorTie
import Derived.Test.YtnjoklcddodfeaaGreatDoorCards
import Derived.ProofKit
import Derived.LaidMore
import Derived.OpenShut
import Derived.Stop.Joined
import Derived.SevenTiedAt
namespace Go.Proofs.YtnjoklcddodfeaaGreatDoor
open Go.ChangeShapes Go.WideShapes Go.ChangeAt Go.WideMaps Go.WideElems Go.RowKit
set_option linter.unusedVariables false
set_option linter.unusedSimpArgs false

def laid3 : List (String × DataW Unit) := [("math/bits.deBruijn32tab", Rows.laid_math_bits_deBruijn32tab), ("math/bits.deBruijn64tab", Rows.laid_math_bits_deBruijn64tab), ("internal/strconv.uint64pow10", Rows.laid_internal_strconv_uint64pow10)]
set_option maxRecDepth 100000 in
theorem door_met (os : Os) (args : Array Value) : laidMetH Tryz.prog laid3 ((World.doorLaid Tryz.prog 400 os).forCall (fun _ _ => 0) ⟨#[], args, []⟩).memory :=
  laidMetH_of_parts3 (fuel := 8) (laidMet_of_run' 8 (by kernel_rfl) (by kernel_rfl)) (by kernel_rfl) (by kernel_rfl)
theorem tPow : (Tryz.prog.globals[3]?).map (·.type) = some 222 := by kernel_rfl
theorem pow_data : (Rows.laid_internal_strconv_uint64pow10 : DataW Unit) = Lib.tabData .u64 Lib.pow10Tab := by kernel_rfl
set_option maxRecDepth 100000 in
theorem laid_pow {W : World} (h : laidMetH Tryz.prog laid3 W) : PowLaid W := by
  rw [MakeChecks.laidMetH_plain _ _ _ (by kernel_rfl)] at h
  obtain ⟨ps, ⟨_, _, _, _, _, _, _, _, _, _, ⟨_, _, _, _, _, _, _, _, _, _, ⟨g5, t5, cs5, f5, p5, q5, hg5, ht5, hv5, hd5, _⟩, _⟩, _⟩, _⟩ := h
  obtain rfl := Option.some.inj (gPow.symm.trans hg5)
  obtain rfl := Option.some.inj (tPow.symm.trans ht5)
  rw [pow_data] at hd5
  unfold PowLaid Lib.TabIs
  rw [hv5, ← Lib.cells_of_tab Tryz.underlying222 Tryz.underlying66 (by kernel_rfl) (by kernel_rfl) hd5]
end Go.Proofs.YtnjoklcddodfeaaGreatDoor
