/-
  No cell of these rows narrows 'for every input' (looked for: loops, veiled, ifaces, maps, wideKeys, modest, calm, conditions, laid).
  DERIVED. THE GIVEN ROWS OF THIS SEAT. 11 by the template 'for every input the law returns true; each argument reads behind the call as it read before'; 0 by the template 'total and deterministic' (their statements: YtfngfoabknbgdaaTotals.lean).
  GIVEN WITH THE SEED: the statements are not yours to turn. If you find one false, say at which input.
  Laid BY PROGRAM, IN A SANDBOX (cutbox-rows.mjs): the forced cells as the released guide's own fill.sh prints them over the translation ae6469992ec3fa78… (all of the seat's roots in one cut). By AI agents, Wed Nov 11 2026. No macro, syntax, notation, axiom, sorry.
-/
import Derived.Test.YtfngfoabknbgdaaChecked
import GoSem.Claim
import GoSem.ClaimJoined
import GoSem.ClaimMapViews
import Derived.JoinedTies
import Derived.KernelRfl
namespace Go.Proofs.Ytfngfoabknbgdaa
/- THE CELL 'sum', in the pinned program and in every row, IS THE sha256 OF THE DUMP (.gsa) THAT YtfngfoabknbgdaaProg.lean LOADS. Nothing in Lean hashes anything: it is a label: what it is worth is what the hold of that sum in a sandbox is worth. -/
noncomputable def Try.pinned : Pinned := { name := "ytfngfoabknbgdaa", sum := "ae6469992ec3fa782bb3780f523bcb15a73653d5bc0fbe1b7db4825a315751e4", checked := Try.checked }
namespace Rows
def none {H : Type} : Left H := { results := [], args := [] }

/-- 'orrerylaw14.CompareKnown': WHATEVER THE INPUT: true; the input reads as it did. -/
def compareKnownSpec : ChangeSpec := { name := "compareKnown", fn := fun _ => fun
  | [] => { results := [.lit (.bool true)], args := [] }
  | _ => none }
def compareKnownRow : OpenClaim := { program := "ytfngfoabknbgdaa", sum := "ae6469992ec3fa782bb3780f523bcb15a73653d5bc0fbe1b7db4825a315751e4", func := "orrery/orrerylaw14.CompareKnown", spec := "compareKnown", unfollowed := true, recurses := true, plainKeys := false, apart := false }
def CompareKnownSaid : Prop := compareKnownRow.holds Try.pinned (OpenSpec.ofChange compareKnownSpec)

/-- ITS FALSE NEIGHBOUR: 'it returns false'. Refute it at one input. -/
def compareKnownWrong : ChangeSpec := { name := "compareKnown", fn := fun _ => fun
  | [] => { results := [.lit (.bool false)], args := [] }
  | _ => none }
def CompareKnownWrongFalsely : Prop := compareKnownRow.holds Try.pinned (OpenSpec.ofChange compareKnownWrong)

/-- 'orrerylaw14.CompareDeep': WHATEVER THE INPUT: true; the input reads as it did. -/
def compareDeepSpec : ChangeSpec := { name := "compareDeep", fn := fun _ => fun
  | [d1, d2] => { results := [.lit (.bool true)], args := [d1, d2] }
  | _ => none }
def compareDeepRow : OpenClaim := { program := "ytfngfoabknbgdaa", sum := "ae6469992ec3fa782bb3780f523bcb15a73653d5bc0fbe1b7db4825a315751e4", func := "orrery/orrerylaw14.CompareDeep", spec := "compareDeep", unfollowed := true, recurses := true, plainKeys := false, apart := false }
def CompareDeepSaid : Prop := compareDeepRow.holds Try.pinned (OpenSpec.ofChange compareDeepSpec)

/-- ITS FALSE NEIGHBOUR: 'it returns false'. Refute it at one input. -/
def compareDeepWrong : ChangeSpec := { name := "compareDeep", fn := fun _ => fun
  | [d1, d2] => { results := [.lit (.bool false)], args := [d1, d2] }
  | _ => none }
def CompareDeepWrongFalsely : Prop := compareDeepRow.holds Try.pinned (OpenSpec.ofChange compareDeepWrong)

/-- 'orrerylaw12.AdderKnown': WHATEVER THE INPUT: true; the input reads as it did. -/
def adderKnownSpec : ChangeSpec := { name := "adderKnown", fn := fun _ => fun
  | [] => { results := [.lit (.bool true)], args := [] }
  | _ => none }
def adderKnownRow : OpenClaim := { program := "ytfngfoabknbgdaa", sum := "ae6469992ec3fa782bb3780f523bcb15a73653d5bc0fbe1b7db4825a315751e4", func := "orrery/orrerylaw12.AdderKnown", spec := "adderKnown", inPlace := ["maps.clone"], unfollowed := true, recurses := true, plainKeys := false, apart := false }
def AdderKnownSaid : Prop := adderKnownRow.holds Try.pinned (OpenSpec.ofChange adderKnownSpec)

/-- ITS FALSE NEIGHBOUR: 'it returns false'. Refute it at one input. -/
def adderKnownWrong : ChangeSpec := { name := "adderKnown", fn := fun _ => fun
  | [] => { results := [.lit (.bool false)], args := [] }
  | _ => none }
def AdderKnownWrongFalsely : Prop := adderKnownRow.holds Try.pinned (OpenSpec.ofChange adderKnownWrong)

/-- 'orrerylaw14.CompareNumbers': WHATEVER THE INPUT: true; the input reads as it did. -/
def compareNumbersSpec : ChangeSpec := { name := "compareNumbers", fn := fun _ => fun
  | [d1, d2, d3, d4] => { results := [.lit (.bool true)], args := [d1, d2, d3, d4] }
  | _ => none }
def compareNumbersRow : OpenClaim := { program := "ytfngfoabknbgdaa", sum := "ae6469992ec3fa782bb3780f523bcb15a73653d5bc0fbe1b7db4825a315751e4", func := "orrery/orrerylaw14.CompareNumbers", spec := "compareNumbers", unfollowed := true, recurses := true, plainKeys := false, apart := false }
def CompareNumbersSaid : Prop := compareNumbersRow.holds Try.pinned (OpenSpec.ofChange compareNumbersSpec)

/-- ITS FALSE NEIGHBOUR: 'it returns false'. Refute it at one input. -/
def compareNumbersWrong : ChangeSpec := { name := "compareNumbers", fn := fun _ => fun
  | [d1, d2, d3, d4] => { results := [.lit (.bool false)], args := [d1, d2, d3, d4] }
  | _ => none }
def CompareNumbersWrongFalsely : Prop := compareNumbersRow.holds Try.pinned (OpenSpec.ofChange compareNumbersWrong)

/-- 'orrerylaw12.AdderDeep': WHATEVER THE INPUT: true; the input reads as it did. -/
def adderDeepSpec : ChangeSpec := { name := "adderDeep", fn := fun _ => fun
  | [d1, d2] => { results := [.lit (.bool true)], args := [d1, d2] }
  | _ => none }
def adderDeepRow : OpenClaim := { program := "ytfngfoabknbgdaa", sum := "ae6469992ec3fa782bb3780f523bcb15a73653d5bc0fbe1b7db4825a315751e4", func := "orrery/orrerylaw12.AdderDeep", spec := "adderDeep", inPlace := ["maps.clone"], unfollowed := true, recurses := true, plainKeys := false, apart := false }
def AdderDeepSaid : Prop := adderDeepRow.holds Try.pinned (OpenSpec.ofChange adderDeepSpec)

/-- ITS FALSE NEIGHBOUR: 'it returns false'. Refute it at one input. -/
def adderDeepWrong : ChangeSpec := { name := "adderDeep", fn := fun _ => fun
  | [d1, d2] => { results := [.lit (.bool false)], args := [d1, d2] }
  | _ => none }
def AdderDeepWrongFalsely : Prop := adderDeepRow.holds Try.pinned (OpenSpec.ofChange adderDeepWrong)

/-- 'orrerylaw14.CompareTurned': WHATEVER THE INPUT: true; the input reads as it did. -/
def compareTurnedSpec : ChangeSpec := { name := "compareTurned", fn := fun _ => fun
  | [d1, d2, d3, d4] => { results := [.lit (.bool true)], args := [d1, d2, d3, d4] }
  | _ => none }
def compareTurnedRow : OpenClaim := { program := "ytfngfoabknbgdaa", sum := "ae6469992ec3fa782bb3780f523bcb15a73653d5bc0fbe1b7db4825a315751e4", func := "orrery/orrerylaw14.CompareTurned", spec := "compareTurned", unfollowed := true, recurses := true, plainKeys := false, apart := false }
def CompareTurnedSaid : Prop := compareTurnedRow.holds Try.pinned (OpenSpec.ofChange compareTurnedSpec)

/-- ITS FALSE NEIGHBOUR: 'it returns false'. Refute it at one input. -/
def compareTurnedWrong : ChangeSpec := { name := "compareTurned", fn := fun _ => fun
  | [d1, d2, d3, d4] => { results := [.lit (.bool false)], args := [d1, d2, d3, d4] }
  | _ => none }
def CompareTurnedWrongFalsely : Prop := compareTurnedRow.holds Try.pinned (OpenSpec.ofChange compareTurnedWrong)

/-- 'orrerylaw12.AdderSums': WHATEVER THE INPUT: true; the input reads as it did. -/
def adderSumsSpec : ChangeSpec := { name := "adderSums", fn := fun _ => fun
  | [d1, d2, d3, d4, d5] => { results := [.lit (.bool true)], args := [d1, d2, d3, d4, d5] }
  | _ => none }
def adderSumsRow : OpenClaim := { program := "ytfngfoabknbgdaa", sum := "ae6469992ec3fa782bb3780f523bcb15a73653d5bc0fbe1b7db4825a315751e4", func := "orrery/orrerylaw12.AdderSums", spec := "adderSums", inPlace := ["math/bits.Add64", "maps.clone"], unfollowed := true, recurses := true, plainKeys := false, apart := false }
def AdderSumsSaid : Prop := adderSumsRow.holds Try.pinned (OpenSpec.ofChange adderSumsSpec)

/-- ITS FALSE NEIGHBOUR: 'it returns false'. Refute it at one input. -/
def adderSumsWrong : ChangeSpec := { name := "adderSums", fn := fun _ => fun
  | [d1, d2, d3, d4, d5] => { results := [.lit (.bool false)], args := [d1, d2, d3, d4, d5] }
  | _ => none }
def AdderSumsWrongFalsely : Prop := adderSumsRow.holds Try.pinned (OpenSpec.ofChange adderSumsWrong)

/-- 'orrerylaw12.AdderOrder': WHATEVER THE INPUT: true; the input reads as it did. -/
def adderOrderSpec : ChangeSpec := { name := "adderOrder", fn := fun _ => fun
  | [d1, d2, d3, d4, d5] => { results := [.lit (.bool true)], args := [d1, d2, d3, d4, d5] }
  | _ => none }
def adderOrderRow : OpenClaim := { program := "ytfngfoabknbgdaa", sum := "ae6469992ec3fa782bb3780f523bcb15a73653d5bc0fbe1b7db4825a315751e4", func := "orrery/orrerylaw12.AdderOrder", spec := "adderOrder", inPlace := ["maps.clone"], unfollowed := true, recurses := true, plainKeys := false, apart := false }
def AdderOrderSaid : Prop := adderOrderRow.holds Try.pinned (OpenSpec.ofChange adderOrderSpec)

/-- ITS FALSE NEIGHBOUR: 'it returns false'. Refute it at one input. -/
def adderOrderWrong : ChangeSpec := { name := "adderOrder", fn := fun _ => fun
  | [d1, d2, d3, d4, d5] => { results := [.lit (.bool false)], args := [d1, d2, d3, d4, d5] }
  | _ => none }
def AdderOrderWrongFalsely : Prop := adderOrderRow.holds Try.pinned (OpenSpec.ofChange adderOrderWrong)

/-- 'orrerylaw06.NetGives': WHATEVER THE INPUT: true; the input reads as it did. -/
def netGivesSpec : ChangeSpec := { name := "netGives", fn := fun _ => fun
  | [d1, d2] => { results := [.lit (.bool true)], args := [d1, d2] }
  | _ => none }
def netGivesRow : OpenClaim := { program := "ytfngfoabknbgdaa", sum := "ae6469992ec3fa782bb3780f523bcb15a73653d5bc0fbe1b7db4825a315751e4", func := "orrery/orrerylaw06.NetGives", spec := "netGives", inPlace := ["internal/bytealg.IndexByteString", "internal/bytealg.IndexString"], unfollowed := true, recurses := true, named := ["internal/bytealg.MaxLen"], plainKeys := false, apart := false }
def NetGivesSaid : Prop := netGivesRow.holds Try.pinned (OpenSpec.ofChange netGivesSpec)

/-- ITS FALSE NEIGHBOUR: 'it returns false'. Refute it at one input. -/
def netGivesWrong : ChangeSpec := { name := "netGives", fn := fun _ => fun
  | [d1, d2] => { results := [.lit (.bool false)], args := [d1, d2] }
  | _ => none }
def NetGivesWrongFalsely : Prop := netGivesRow.holds Try.pinned (OpenSpec.ofChange netGivesWrong)

/-- 'orrerylaw06.NetWell': WHATEVER THE INPUT: true; the input reads as it did. -/
def netWellSpec : ChangeSpec := { name := "netWell", fn := fun _ => fun
  | [d1, d2] => { results := [.lit (.bool true)], args := [d1, d2] }
  | _ => none }
def netWellRow : OpenClaim := { program := "ytfngfoabknbgdaa", sum := "ae6469992ec3fa782bb3780f523bcb15a73653d5bc0fbe1b7db4825a315751e4", func := "orrery/orrerylaw06.NetWell", spec := "netWell", inPlace := ["internal/bytealg.IndexByteString", "internal/bytealg.IndexString", "maps.clone"], unfollowed := true, recurses := true, named := ["internal/bytealg.MaxLen"], plainKeys := false, apart := false }
def NetWellSaid : Prop := netWellRow.holds Try.pinned (OpenSpec.ofChange netWellSpec)

/-- ITS FALSE NEIGHBOUR: 'it returns false'. Refute it at one input. -/
def netWellWrong : ChangeSpec := { name := "netWell", fn := fun _ => fun
  | [d1, d2] => { results := [.lit (.bool false)], args := [d1, d2] }
  | _ => none }
def NetWellWrongFalsely : Prop := netWellRow.holds Try.pinned (OpenSpec.ofChange netWellWrong)

/-- 'orrerylaw13.ArithKnown': WHATEVER THE INPUT: true; the input reads as it did. -/
def arithKnownSpec : ChangeSpec := { name := "arithKnown", fn := fun _ => fun
  | [] => { results := [.lit (.bool true)], args := [] }
  | _ => none }
def arithKnownRow : OpenClaim := { program := "ytfngfoabknbgdaa", sum := "ae6469992ec3fa782bb3780f523bcb15a73653d5bc0fbe1b7db4825a315751e4", func := "orrery/orrerylaw13.ArithKnown", spec := "arithKnown", unfollowed := true, recurses := true, plainKeys := false, apart := false }
def ArithKnownSaid : Prop := arithKnownRow.holds Try.pinned (OpenSpec.ofChange arithKnownSpec)

/-- ITS FALSE NEIGHBOUR: 'it returns false'. Refute it at one input. -/
def arithKnownWrong : ChangeSpec := { name := "arithKnown", fn := fun _ => fun
  | [] => { results := [.lit (.bool false)], args := [] }
  | _ => none }
def ArithKnownWrongFalsely : Prop := arithKnownRow.holds Try.pinned (OpenSpec.ofChange arithKnownWrong)

/- THE SECOND FORM. 'bulk': how many values and letters a reading holds, each counted each time it is reached (what is shared counts as often as it is met; a slice's spare places count too). A statement '..UptoSaid' is the law's where the arguments, and the package variables that the reading takes, are together of bulk at most 1048576: NARROWER than '..Said'. Prove '..Said' where nothing that the law and all that it calls make is longer than what came in: it says more and counts as full. Else prove '..UptoSaid'. A law counts once. -/
mutual
def uptoBulk {H : Type} : DataW H → Nat
  | .lit (.string bytes) => bytes.length + 1
  | .lit _ => 1
  | .nil => 1
  | .ptr d => uptoBulk d + 1
  | .slice elems spare => uptoBulkAll elems + uptoBulkAll spare + 1
  | .agg parts => uptoBulkAll parts + 1
  | .iface _ d => uptoBulk d + 1
  | .map entries => uptoBulkEntries entries + 1
  | .held _ => 1
def uptoBulkAll {H : Type} : List (DataW H) → Nat
  | [] => 0
  | d :: r => uptoBulk d + uptoBulkAll r
def uptoBulkEntries {H : Type} : List (Lit × DataW H) → Nat
  | [] => 0
  | x :: r => uptoBulkEntry x + uptoBulkEntries r
def uptoBulkEntry {H : Type} : Lit × DataW H → Nat
  | (.string bytes, d) => bytes.length + uptoBulk d + 1
  | (_, d) => uptoBulk d + 1
 end
def uptoSmall : (H : Type) → List (DataW H) → Bool := fun _ ds => decide (uptoBulkAll ds ≤ 1048576)
def OpenSpec.upto (s : _root_.Go.ChangeSpec) : _root_.Go.OpenSpec := { _root_.Go.OpenSpec.ofChange s with cond := some uptoSmall }

/-- 'orrerylaw14.CompareKnown', WHERE WHAT IT READS IS OF BULK AT MOST 1048576: true; the input reads as it did. -/
def compareKnownUptoRow : OpenClaim := { program := "ytfngfoabknbgdaa", sum := "ae6469992ec3fa782bb3780f523bcb15a73653d5bc0fbe1b7db4825a315751e4", func := "orrery/orrerylaw14.CompareKnown", spec := "compareKnown", unfollowed := true, recurses := true, plainKeys := false, apart := false, narrowed := true }
def CompareKnownUptoSaid : Prop := compareKnownUptoRow.holds Try.pinned (OpenSpec.upto compareKnownSpec)

/-- 'orrerylaw14.CompareDeep', WHERE WHAT IT READS IS OF BULK AT MOST 1048576: true; the input reads as it did. -/
def compareDeepUptoRow : OpenClaim := { program := "ytfngfoabknbgdaa", sum := "ae6469992ec3fa782bb3780f523bcb15a73653d5bc0fbe1b7db4825a315751e4", func := "orrery/orrerylaw14.CompareDeep", spec := "compareDeep", unfollowed := true, recurses := true, plainKeys := false, apart := false, narrowed := true }
def CompareDeepUptoSaid : Prop := compareDeepUptoRow.holds Try.pinned (OpenSpec.upto compareDeepSpec)

/-- 'orrerylaw12.AdderKnown', WHERE WHAT IT READS IS OF BULK AT MOST 1048576: true; the input reads as it did. -/
def adderKnownUptoRow : OpenClaim := { program := "ytfngfoabknbgdaa", sum := "ae6469992ec3fa782bb3780f523bcb15a73653d5bc0fbe1b7db4825a315751e4", func := "orrery/orrerylaw12.AdderKnown", spec := "adderKnown", inPlace := ["maps.clone"], unfollowed := true, recurses := true, plainKeys := false, apart := false, narrowed := true }
def AdderKnownUptoSaid : Prop := adderKnownUptoRow.holds Try.pinned (OpenSpec.upto adderKnownSpec)

/-- 'orrerylaw14.CompareNumbers', WHERE WHAT IT READS IS OF BULK AT MOST 1048576: true; the input reads as it did. -/
def compareNumbersUptoRow : OpenClaim := { program := "ytfngfoabknbgdaa", sum := "ae6469992ec3fa782bb3780f523bcb15a73653d5bc0fbe1b7db4825a315751e4", func := "orrery/orrerylaw14.CompareNumbers", spec := "compareNumbers", unfollowed := true, recurses := true, plainKeys := false, apart := false, narrowed := true }
def CompareNumbersUptoSaid : Prop := compareNumbersUptoRow.holds Try.pinned (OpenSpec.upto compareNumbersSpec)

/-- 'orrerylaw12.AdderDeep', WHERE WHAT IT READS IS OF BULK AT MOST 1048576: true; the input reads as it did. -/
def adderDeepUptoRow : OpenClaim := { program := "ytfngfoabknbgdaa", sum := "ae6469992ec3fa782bb3780f523bcb15a73653d5bc0fbe1b7db4825a315751e4", func := "orrery/orrerylaw12.AdderDeep", spec := "adderDeep", inPlace := ["maps.clone"], unfollowed := true, recurses := true, plainKeys := false, apart := false, narrowed := true }
def AdderDeepUptoSaid : Prop := adderDeepUptoRow.holds Try.pinned (OpenSpec.upto adderDeepSpec)

/-- 'orrerylaw14.CompareTurned', WHERE WHAT IT READS IS OF BULK AT MOST 1048576: true; the input reads as it did. -/
def compareTurnedUptoRow : OpenClaim := { program := "ytfngfoabknbgdaa", sum := "ae6469992ec3fa782bb3780f523bcb15a73653d5bc0fbe1b7db4825a315751e4", func := "orrery/orrerylaw14.CompareTurned", spec := "compareTurned", unfollowed := true, recurses := true, plainKeys := false, apart := false, narrowed := true }
def CompareTurnedUptoSaid : Prop := compareTurnedUptoRow.holds Try.pinned (OpenSpec.upto compareTurnedSpec)

/-- 'orrerylaw12.AdderSums', WHERE WHAT IT READS IS OF BULK AT MOST 1048576: true; the input reads as it did. -/
def adderSumsUptoRow : OpenClaim := { program := "ytfngfoabknbgdaa", sum := "ae6469992ec3fa782bb3780f523bcb15a73653d5bc0fbe1b7db4825a315751e4", func := "orrery/orrerylaw12.AdderSums", spec := "adderSums", inPlace := ["math/bits.Add64", "maps.clone"], unfollowed := true, recurses := true, plainKeys := false, apart := false, narrowed := true }
def AdderSumsUptoSaid : Prop := adderSumsUptoRow.holds Try.pinned (OpenSpec.upto adderSumsSpec)

/-- 'orrerylaw12.AdderOrder', WHERE WHAT IT READS IS OF BULK AT MOST 1048576: true; the input reads as it did. -/
def adderOrderUptoRow : OpenClaim := { program := "ytfngfoabknbgdaa", sum := "ae6469992ec3fa782bb3780f523bcb15a73653d5bc0fbe1b7db4825a315751e4", func := "orrery/orrerylaw12.AdderOrder", spec := "adderOrder", inPlace := ["maps.clone"], unfollowed := true, recurses := true, plainKeys := false, apart := false, narrowed := true }
def AdderOrderUptoSaid : Prop := adderOrderUptoRow.holds Try.pinned (OpenSpec.upto adderOrderSpec)

/-- 'orrerylaw06.NetGives', WHERE WHAT IT READS IS OF BULK AT MOST 1048576: true; the input reads as it did. -/
def netGivesUptoRow : OpenClaim := { program := "ytfngfoabknbgdaa", sum := "ae6469992ec3fa782bb3780f523bcb15a73653d5bc0fbe1b7db4825a315751e4", func := "orrery/orrerylaw06.NetGives", spec := "netGives", inPlace := ["internal/bytealg.IndexByteString", "internal/bytealg.IndexString"], unfollowed := true, recurses := true, named := ["internal/bytealg.MaxLen"], plainKeys := false, apart := false, narrowed := true }
def NetGivesUptoSaid : Prop := netGivesUptoRow.holds Try.pinned (OpenSpec.upto netGivesSpec)

/-- 'orrerylaw06.NetWell', WHERE WHAT IT READS IS OF BULK AT MOST 1048576: true; the input reads as it did. -/
def netWellUptoRow : OpenClaim := { program := "ytfngfoabknbgdaa", sum := "ae6469992ec3fa782bb3780f523bcb15a73653d5bc0fbe1b7db4825a315751e4", func := "orrery/orrerylaw06.NetWell", spec := "netWell", inPlace := ["internal/bytealg.IndexByteString", "internal/bytealg.IndexString", "maps.clone"], unfollowed := true, recurses := true, named := ["internal/bytealg.MaxLen"], plainKeys := false, apart := false, narrowed := true }
def NetWellUptoSaid : Prop := netWellUptoRow.holds Try.pinned (OpenSpec.upto netWellSpec)

/-- 'orrerylaw13.ArithKnown', WHERE WHAT IT READS IS OF BULK AT MOST 1048576: true; the input reads as it did. -/
def arithKnownUptoRow : OpenClaim := { program := "ytfngfoabknbgdaa", sum := "ae6469992ec3fa782bb3780f523bcb15a73653d5bc0fbe1b7db4825a315751e4", func := "orrery/orrerylaw13.ArithKnown", spec := "arithKnown", unfollowed := true, recurses := true, plainKeys := false, apart := false, narrowed := true }
def ArithKnownUptoSaid : Prop := arithKnownUptoRow.holds Try.pinned (OpenSpec.upto arithKnownSpec)

end Rows
end Go.Proofs.Ytfngfoabknbgdaa
