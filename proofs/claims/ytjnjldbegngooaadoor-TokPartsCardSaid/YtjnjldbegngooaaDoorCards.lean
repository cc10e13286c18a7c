/-
  DERIVED. GIVEN WITH THE SEED: THE CARDS: each row of YtjnjldbegngooaaDoorRows.lean that lists a variable, with what it lists TIED to the program's text (the seventh form; the later family's looks); each row that meets fmt, with fmt's text TOLD by the authors' own Lean function (tested against real Go, not proved from fmt's source: count such statements apart). THE CARD IS WHAT COUNTS. Prove the row's statement (the work); the ties are given (YtjnjldbegngooaaDoorTie.lean); close each card by the builder's one call (the guide's Derived/Test/ToyasCard.lean, 'card_holds'). Laid BY PROGRAM, IN A SANDBOX (cutbox-door.mjs). By AI agents, Wed Nov 11 2026. No macro, syntax, notation, axiom, sorry.
-/
import Derived.Test.YtjnjldbegngooaaDoorRows
import GoSem.ClaimSeven
namespace Go.Proofs.YtjnjldbegngooaaDoor
namespace Rows

/-- THE TIED CARD OF 'orrerylaw15.TokReads'. -/
def tokReadsCard : Claim7 := { stood := { row := tokReadsRow, standIns := [], harness := (true, "82f284afd1f5447fba90b818d4d1b473c576b6355827642cd5c28ef0bef59fa5"), looks := true }, kinds := [], alts := [], laidByText := true, laidKinds := [.data, .data, .data, .sentinel, .sentinel, .mapped, .data], laidTests := true, laidLooks := .later }
def TokReadsCardSaid : Prop := Claim7.holds Tryd.pinned (.plain (OpenSpec.ofChange tokReadsSpec)) tokReadsCard

/-- THE TIED CARD OF 'orrerylaw15.TokWords'. -/
def tokWordsCard : Claim7 := { stood := { row := tokWordsRow, standIns := [], harness := (true, "82f284afd1f5447fba90b818d4d1b473c576b6355827642cd5c28ef0bef59fa5"), looks := true }, kinds := [], alts := [], laidByText := true, laidKinds := [.data, .data, .data, .sentinel, .sentinel, .mapped, .data], laidTests := true, laidLooks := .later }
def TokWordsCardSaid : Prop := Claim7.holds Tryd.pinned (.plain (OpenSpec.ofChange tokWordsSpec)) tokWordsCard

/-- THE TIED CARD OF 'orrerylaw15.TokFault'. -/
def tokFaultCard : Claim7 := { stood := { row := tokFaultRow, standIns := [], harness := (true, "82f284afd1f5447fba90b818d4d1b473c576b6355827642cd5c28ef0bef59fa5"), looks := true }, kinds := [], alts := [], laidByText := true, laidKinds := [.data, .data, .data, .sentinel, .sentinel, .mapped, .data], laidTests := true, laidLooks := .later }
def TokFaultCardSaid : Prop := Claim7.holds Tryd.pinned (.plain (OpenSpec.ofChange tokFaultSpec)) tokFaultCard

/-- THE TIED CARD OF 'orrerylaw15.TokTypes'. -/
def tokTypesCard : Claim7 := { stood := { row := tokTypesRow, standIns := [], harness := (true, "82f284afd1f5447fba90b818d4d1b473c576b6355827642cd5c28ef0bef59fa5"), looks := true }, kinds := [], alts := [], laidByText := true, laidKinds := [.data, .data, .data, .sentinel, .sentinel, .mapped, .data], laidTests := true, laidLooks := .later }
def TokTypesCardSaid : Prop := Claim7.holds Tryd.pinned (.plain (OpenSpec.ofChange tokTypesSpec)) tokTypesCard

/-- THE TIED CARD OF 'orrerylaw15.TokKnown'. -/
def tokKnownCard : Claim7 := { stood := { row := tokKnownRow, standIns := [], harness := (true, "82f284afd1f5447fba90b818d4d1b473c576b6355827642cd5c28ef0bef59fa5"), looks := true }, kinds := [], alts := [], laidByText := true, laidKinds := [.data, .data, .data, .sentinel, .sentinel, .mapped, .data], laidTests := true, laidLooks := .later }
def TokKnownCardSaid : Prop := Claim7.holds Tryd.pinned (.plain (OpenSpec.ofChange tokKnownSpec)) tokKnownCard

/-- THE TIED CARD OF 'orrerylaw15.TokParts'. -/
def tokPartsCard : Claim7 := { stood := { row := tokPartsRow, standIns := [], harness := (true, "82f284afd1f5447fba90b818d4d1b473c576b6355827642cd5c28ef0bef59fa5"), looks := true }, kinds := [], alts := [], laidByText := true, laidKinds := [.data, .data, .data, .sentinel, .sentinel, .mapped, .data], laidTests := true, laidLooks := .later }
def TokPartsCardSaid : Prop := Claim7.holds Tryd.pinned (.plain (OpenSpec.ofChange tokPartsSpec)) tokPartsCard

/-- THE SECOND FORM's CARD OF 'orrerylaw15.TokReads'. -/
def tokReadsUptoCard : Claim7 := { stood := { row := tokReadsUptoRow, standIns := [], harness := (true, "82f284afd1f5447fba90b818d4d1b473c576b6355827642cd5c28ef0bef59fa5"), looks := true }, kinds := [], alts := [], laidByText := true, laidKinds := [.data, .data, .data, .sentinel, .sentinel, .mapped, .data], laidTests := true, laidLooks := .later }
def TokReadsUptoCardSaid : Prop := Claim7.holds Tryd.pinned (.plain (OpenSpec.upto tokReadsSpec)) tokReadsUptoCard

/-- THE SECOND FORM's CARD OF 'orrerylaw15.TokWords'. -/
def tokWordsUptoCard : Claim7 := { stood := { row := tokWordsUptoRow, standIns := [], harness := (true, "82f284afd1f5447fba90b818d4d1b473c576b6355827642cd5c28ef0bef59fa5"), looks := true }, kinds := [], alts := [], laidByText := true, laidKinds := [.data, .data, .data, .sentinel, .sentinel, .mapped, .data], laidTests := true, laidLooks := .later }
def TokWordsUptoCardSaid : Prop := Claim7.holds Tryd.pinned (.plain (OpenSpec.upto tokWordsSpec)) tokWordsUptoCard

/-- THE SECOND FORM's CARD OF 'orrerylaw15.TokFault'. -/
def tokFaultUptoCard : Claim7 := { stood := { row := tokFaultUptoRow, standIns := [], harness := (true, "82f284afd1f5447fba90b818d4d1b473c576b6355827642cd5c28ef0bef59fa5"), looks := true }, kinds := [], alts := [], laidByText := true, laidKinds := [.data, .data, .data, .sentinel, .sentinel, .mapped, .data], laidTests := true, laidLooks := .later }
def TokFaultUptoCardSaid : Prop := Claim7.holds Tryd.pinned (.plain (OpenSpec.upto tokFaultSpec)) tokFaultUptoCard

/-- THE SECOND FORM's CARD OF 'orrerylaw15.TokTypes'. -/
def tokTypesUptoCard : Claim7 := { stood := { row := tokTypesUptoRow, standIns := [], harness := (true, "82f284afd1f5447fba90b818d4d1b473c576b6355827642cd5c28ef0bef59fa5"), looks := true }, kinds := [], alts := [], laidByText := true, laidKinds := [.data, .data, .data, .sentinel, .sentinel, .mapped, .data], laidTests := true, laidLooks := .later }
def TokTypesUptoCardSaid : Prop := Claim7.holds Tryd.pinned (.plain (OpenSpec.upto tokTypesSpec)) tokTypesUptoCard

/-- THE SECOND FORM's CARD OF 'orrerylaw15.TokKnown'. -/
def tokKnownUptoCard : Claim7 := { stood := { row := tokKnownUptoRow, standIns := [], harness := (true, "82f284afd1f5447fba90b818d4d1b473c576b6355827642cd5c28ef0bef59fa5"), looks := true }, kinds := [], alts := [], laidByText := true, laidKinds := [.data, .data, .data, .sentinel, .sentinel, .mapped, .data], laidTests := true, laidLooks := .later }
def TokKnownUptoCardSaid : Prop := Claim7.holds Tryd.pinned (.plain (OpenSpec.upto tokKnownSpec)) tokKnownUptoCard

/-- THE SECOND FORM's CARD OF 'orrerylaw15.TokParts'. -/
def tokPartsUptoCard : Claim7 := { stood := { row := tokPartsUptoRow, standIns := [], harness := (true, "82f284afd1f5447fba90b818d4d1b473c576b6355827642cd5c28ef0bef59fa5"), looks := true }, kinds := [], alts := [], laidByText := true, laidKinds := [.data, .data, .data, .sentinel, .sentinel, .mapped, .data], laidTests := true, laidLooks := .later }
def TokPartsUptoCardSaid : Prop := Claim7.holds Tryd.pinned (.plain (OpenSpec.upto tokPartsSpec)) tokPartsUptoCard
end Rows
end Go.Proofs.YtjnjldbegngooaaDoor
