/-
  DERIVED. GIVEN WITH THE SEED: THE CARDS: each row of YtnjoklcddodfeaaDoorRows.lean that lists a variable, with what it lists TIED to the program's text (the seventh form; the later family's looks); each row that meets fmt, with fmt's text TOLD by the authors' own Lean function (tested against real Go, not proved from fmt's source: count such statements apart). THE CARD IS WHAT COUNTS. Prove the row's statement (the work); the ties are given (YtnjoklcddodfeaaDoorTie.lean); close each card by the builder's one call (the guide's Derived/Test/ToyasCard.lean, 'card_holds'). Laid BY PROGRAM, IN A SANDBOX (cutbox-door.mjs). By AI agents, Wed Nov 11 2026. No macro, syntax, notation, axiom, sorry.
-/
import Derived.Test.YtnjoklcddodfeaaDoorRows
import GoSem.ClaimSeven
namespace Go.Proofs.YtnjoklcddodfeaaDoor
namespace Rows

/-- THE TIED CARD OF 'orrerylaw10.EmitKnown'. -/
def emitKnownCard : Claim7 := { stood := { row := emitKnownRow, standIns := [], harness := (true, "05457ae20ff0848382c6a5250946356541112b6abd8f67a5f5d8f89f2624fd0b"), looks := false }, kinds := [], alts := [], laidByText := true, laidKinds := [.data, .data, .data], laidTests := true, laidLooks := .later }
def EmitKnownCardSaid : Prop := Claim7.holds Tryd.pinned (.plain (OpenSpec.ofChange emitKnownSpec)) emitKnownCard

/-- THE SECOND FORM's CARD OF 'orrerylaw10.EmitKnown'. -/
def emitKnownUptoCard : Claim7 := { stood := { row := emitKnownUptoRow, standIns := [], harness := (true, "05457ae20ff0848382c6a5250946356541112b6abd8f67a5f5d8f89f2624fd0b"), looks := false }, kinds := [], alts := [], laidByText := true, laidKinds := [.data, .data, .data], laidTests := true, laidLooks := .later }
def EmitKnownUptoCardSaid : Prop := Claim7.holds Tryd.pinned (.plain (OpenSpec.upto emitKnownSpec)) emitKnownUptoCard
end Rows
end Go.Proofs.YtnjoklcddodfeaaDoor
