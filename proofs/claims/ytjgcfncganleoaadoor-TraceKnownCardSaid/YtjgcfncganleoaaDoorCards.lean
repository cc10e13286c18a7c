/-
  DERIVED. GIVEN WITH THE SEED: THE CARDS: each row of YtjgcfncganleoaaDoorRows.lean that lists a variable, with what it lists TIED to the program's text (the seventh form; the later family's looks); each row that meets fmt, with fmt's text TOLD by the authors' own Lean function (tested against real Go, not proved from fmt's source: count such statements apart). THE CARD IS WHAT COUNTS. Prove the row's statement (the work); the ties are given (YtjgcfncganleoaaDoorTie.lean); close each card by the builder's one call (the guide's Derived/Test/ToyasCard.lean, 'card_holds'). Laid BY PROGRAM, IN A SANDBOX (cutbox-door.mjs). By AI agents, Wed Nov 11 2026. No macro, syntax, notation, axiom, sorry.
-/
import Derived.Test.YtjgcfncganleoaaDoorRows
import GoSem.ClaimSeven
namespace Go.Proofs.YtjgcfncganleoaaDoor
namespace Rows

/-- THE TIED CARD OF 'orrerylaw09.TraceDiffers'. -/
def traceDiffersCard : Claim7 := { stood := { row := traceDiffersRow, standIns := [], harness := (true, "2859d36fb02e9bf1392a87112828a76f2a868c2c33f8cd9b4259cc1a5a91a5c6"), looks := true }, kinds := [], alts := [], laidByText := true, laidKinds := [.data, .data, .data], laidTests := true, laidLooks := .later }
def TraceDiffersCardSaid : Prop := Claim7.holds Tryd.pinned (.plain (OpenSpec.ofChange traceDiffersSpec)) traceDiffersCard

/-- THE TIED CARD OF 'orrerylaw09.TraceCalls'. -/
def traceCallsCard : Claim7 := { stood := { row := traceCallsRow, standIns := [], harness := (true, "2859d36fb02e9bf1392a87112828a76f2a868c2c33f8cd9b4259cc1a5a91a5c6"), looks := true }, kinds := [], alts := [], laidByText := true, laidKinds := [.data, .data, .data], laidTests := true, laidLooks := .later }
def TraceCallsCardSaid : Prop := Claim7.holds Tryd.pinned (.plain (OpenSpec.ofChange traceCallsSpec)) traceCallsCard

/-- THE TIED CARD OF 'orrerylaw09.TracePacked'. -/
def tracePackedCard : Claim7 := { stood := { row := tracePackedRow, standIns := [], harness := (true, "2859d36fb02e9bf1392a87112828a76f2a868c2c33f8cd9b4259cc1a5a91a5c6"), looks := true }, kinds := [], alts := [], laidByText := true, laidKinds := [.data, .data, .data], laidTests := true, laidLooks := .later }
def TracePackedCardSaid : Prop := Claim7.holds Tryd.pinned (.plain (OpenSpec.ofChange tracePackedSpec)) tracePackedCard

/-- THE TIED CARD OF 'orrerylaw09.TracePacks'. -/
def tracePacksCard : Claim7 := { stood := { row := tracePacksRow, standIns := [], harness := (true, "2859d36fb02e9bf1392a87112828a76f2a868c2c33f8cd9b4259cc1a5a91a5c6"), looks := true }, kinds := [], alts := [], laidByText := true, laidKinds := [.data, .data, .data], laidTests := true, laidLooks := .later }
def TracePacksCardSaid : Prop := Claim7.holds Tryd.pinned (.plain (OpenSpec.ofChange tracePacksSpec)) tracePacksCard

/-- THE TIED CARD OF 'orrerylaw09.TraceForm'. -/
def traceFormCard : Claim7 := { stood := { row := traceFormRow, standIns := [], harness := (true, "2859d36fb02e9bf1392a87112828a76f2a868c2c33f8cd9b4259cc1a5a91a5c6"), looks := true }, kinds := [], alts := [], laidByText := true, laidKinds := [.data, .data, .data], laidTests := true, laidLooks := .later }
def TraceFormCardSaid : Prop := Claim7.holds Tryd.pinned (.plain (OpenSpec.ofChange traceFormSpec)) traceFormCard

/-- THE TIED CARD OF 'orrerylaw09.TraceKnown'. -/
def traceKnownCard : Claim7 := { stood := { row := traceKnownRow, standIns := [], harness := (true, "2859d36fb02e9bf1392a87112828a76f2a868c2c33f8cd9b4259cc1a5a91a5c6"), looks := true }, kinds := [], alts := [], laidByText := true, laidKinds := [.data, .data, .data], laidTests := true, laidLooks := .later }
def TraceKnownCardSaid : Prop := Claim7.holds Tryd.pinned (.plain (OpenSpec.ofChange traceKnownSpec)) traceKnownCard

/-- THE SECOND FORM's CARD OF 'orrerylaw09.TraceDiffers'. -/
def traceDiffersUptoCard : Claim7 := { stood := { row := traceDiffersUptoRow, standIns := [], harness := (true, "2859d36fb02e9bf1392a87112828a76f2a868c2c33f8cd9b4259cc1a5a91a5c6"), looks := true }, kinds := [], alts := [], laidByText := true, laidKinds := [.data, .data, .data], laidTests := true, laidLooks := .later }
def TraceDiffersUptoCardSaid : Prop := Claim7.holds Tryd.pinned (.plain (OpenSpec.upto traceDiffersSpec)) traceDiffersUptoCard

/-- THE SECOND FORM's CARD OF 'orrerylaw09.TraceCalls'. -/
def traceCallsUptoCard : Claim7 := { stood := { row := traceCallsUptoRow, standIns := [], harness := (true, "2859d36fb02e9bf1392a87112828a76f2a868c2c33f8cd9b4259cc1a5a91a5c6"), looks := true }, kinds := [], alts := [], laidByText := true, laidKinds := [.data, .data, .data], laidTests := true, laidLooks := .later }
def TraceCallsUptoCardSaid : Prop := Claim7.holds Tryd.pinned (.plain (OpenSpec.upto traceCallsSpec)) traceCallsUptoCard

/-- THE SECOND FORM's CARD OF 'orrerylaw09.TracePacked'. -/
def tracePackedUptoCard : Claim7 := { stood := { row := tracePackedUptoRow, standIns := [], harness := (true, "2859d36fb02e9bf1392a87112828a76f2a868c2c33f8cd9b4259cc1a5a91a5c6"), looks := true }, kinds := [], alts := [], laidByText := true, laidKinds := [.data, .data, .data], laidTests := true, laidLooks := .later }
def TracePackedUptoCardSaid : Prop := Claim7.holds Tryd.pinned (.plain (OpenSpec.upto tracePackedSpec)) tracePackedUptoCard

/-- THE SECOND FORM's CARD OF 'orrerylaw09.TracePacks'. -/
def tracePacksUptoCard : Claim7 := { stood := { row := tracePacksUptoRow, standIns := [], harness := (true, "2859d36fb02e9bf1392a87112828a76f2a868c2c33f8cd9b4259cc1a5a91a5c6"), looks := true }, kinds := [], alts := [], laidByText := true, laidKinds := [.data, .data, .data], laidTests := true, laidLooks := .later }
def TracePacksUptoCardSaid : Prop := Claim7.holds Tryd.pinned (.plain (OpenSpec.upto tracePacksSpec)) tracePacksUptoCard

/-- THE SECOND FORM's CARD OF 'orrerylaw09.TraceForm'. -/
def traceFormUptoCard : Claim7 := { stood := { row := traceFormUptoRow, standIns := [], harness := (true, "2859d36fb02e9bf1392a87112828a76f2a868c2c33f8cd9b4259cc1a5a91a5c6"), looks := true }, kinds := [], alts := [], laidByText := true, laidKinds := [.data, .data, .data], laidTests := true, laidLooks := .later }
def TraceFormUptoCardSaid : Prop := Claim7.holds Tryd.pinned (.plain (OpenSpec.upto traceFormSpec)) traceFormUptoCard

/-- THE SECOND FORM's CARD OF 'orrerylaw09.TraceKnown'. -/
def traceKnownUptoCard : Claim7 := { stood := { row := traceKnownUptoRow, standIns := [], harness := (true, "2859d36fb02e9bf1392a87112828a76f2a868c2c33f8cd9b4259cc1a5a91a5c6"), looks := true }, kinds := [], alts := [], laidByText := true, laidKinds := [.data, .data, .data], laidTests := true, laidLooks := .later }
def TraceKnownUptoCardSaid : Prop := Claim7.holds Tryd.pinned (.plain (OpenSpec.upto traceKnownSpec)) traceKnownUptoCard
end Rows
end Go.Proofs.YtjgcfncganleoaaDoor
