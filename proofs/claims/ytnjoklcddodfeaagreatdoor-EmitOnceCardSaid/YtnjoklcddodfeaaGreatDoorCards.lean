/-
  DERIVED. GIVEN WITH THE SEED: THE CARDS: each row of YtnjoklcddodfeaaGreatDoorRows.lean that lists a variable, with what it lists TIED to the program's text (the seventh form; the later family's looks); each row that meets fmt, with fmt's text TOLD by the authors' own Lean function (tested against real Go, not proved from fmt's source: count such statements apart). THE CARD IS WHAT COUNTS. Prove the row's statement (the work); the ties are given (YtnjoklcddodfeaaGreatDoorTie.lean); close each card by the builder's one call (the guide's Derived/Test/ToyasCard.lean, 'card_holds'). Laid BY PROGRAM, IN A SANDBOX (cutbox-door.mjs). By AI agents, Wed Nov 11 2026. No macro, syntax, notation, axiom, sorry.
-/
import Derived.Test.YtnjoklcddodfeaaGreatDoorRows
import GoSem.ClaimSeven
namespace Go.Proofs.YtnjoklcddodfeaaGreatDoor
namespace Rows

/-- THE TIED CARD OF 'orrerylaw10.EmitOptions'. -/
def emitOptionsCard : Claim7 := { stood := { row := emitOptionsRow, standIns := [], harness := (true, "200171d27cc9508a43092f07b931dc97c379839cf0d6d4ae6b57a68e63c87cb0"), looks := true }, kinds := [], alts := [], laidByText := true, laidKinds := [.data, .data, .data], laidTests := true, laidLooks := .later }
def EmitOptionsCardSaid : Prop := Claim7.holds Tryz.pinned (.plain (OpenSpec.ofChange emitOptionsSpec)) emitOptionsCard

/-- THE TIED CARD OF 'orrerylaw10.EmitTells'. -/
def emitTellsCard : Claim7 := { stood := { row := emitTellsRow, standIns := [], harness := (true, "200171d27cc9508a43092f07b931dc97c379839cf0d6d4ae6b57a68e63c87cb0"), looks := true }, kinds := [], alts := [], laidByText := true, laidKinds := [.data, .data, .data], laidTests := true, laidLooks := .later }
def EmitTellsCardSaid : Prop := Claim7.holds Tryz.pinned (.plain (OpenSpec.ofChange emitTellsSpec)) emitTellsCard

/-- THE TIED CARD OF 'orrerylaw10.EmitOnce'. -/
def emitOnceCard : Claim7 := { stood := { row := emitOnceRow, standIns := [], harness := (true, "200171d27cc9508a43092f07b931dc97c379839cf0d6d4ae6b57a68e63c87cb0"), looks := true }, kinds := [], alts := [], laidByText := true, laidKinds := [.data, .data, .data, .data, .sentinel, .sentinel, .pinned], laidTests := true, laidLooks := .later }
def EmitOnceCardSaid : Prop := Claim7.holds Tryz.pinned (.plain (OpenSpec.ofChange emitOnceSpec)) emitOnceCard

/-- THE SECOND FORM's CARD OF 'orrerylaw10.EmitOptions'. -/
def emitOptionsUptoCard : Claim7 := { stood := { row := emitOptionsUptoRow, standIns := [], harness := (true, "200171d27cc9508a43092f07b931dc97c379839cf0d6d4ae6b57a68e63c87cb0"), looks := true }, kinds := [], alts := [], laidByText := true, laidKinds := [.data, .data, .data], laidTests := true, laidLooks := .later }
def EmitOptionsUptoCardSaid : Prop := Claim7.holds Tryz.pinned (.plain (OpenSpec.upto emitOptionsSpec)) emitOptionsUptoCard

/-- THE SECOND FORM's CARD OF 'orrerylaw10.EmitTells'. -/
def emitTellsUptoCard : Claim7 := { stood := { row := emitTellsUptoRow, standIns := [], harness := (true, "200171d27cc9508a43092f07b931dc97c379839cf0d6d4ae6b57a68e63c87cb0"), looks := true }, kinds := [], alts := [], laidByText := true, laidKinds := [.data, .data, .data], laidTests := true, laidLooks := .later }
def EmitTellsUptoCardSaid : Prop := Claim7.holds Tryz.pinned (.plain (OpenSpec.upto emitTellsSpec)) emitTellsUptoCard

/-- THE SECOND FORM's CARD OF 'orrerylaw10.EmitOnce'. -/
def emitOnceUptoCard : Claim7 := { stood := { row := emitOnceUptoRow, standIns := [], harness := (true, "200171d27cc9508a43092f07b931dc97c379839cf0d6d4ae6b57a68e63c87cb0"), looks := true }, kinds := [], alts := [], laidByText := true, laidKinds := [.data, .data, .data, .data, .sentinel, .sentinel, .pinned], laidTests := true, laidLooks := .later }
def EmitOnceUptoCardSaid : Prop := Claim7.holds Tryz.pinned (.plain (OpenSpec.upto emitOnceSpec)) emitOnceUptoCard
end Rows
end Go.Proofs.YtnjoklcddodfeaaGreatDoor
