/-
  No cell of these rows narrows 'for every input' (looked for: loops, veiled, ifaces, maps, wideKeys, modest, calm, conditions, laid).
  DERIVED. THE GIVEN ROWS OF THIS SEAT. 11 by the template 'for every input the law returns true; each argument reads behind the call as it read before'; 0 by the template 'total and deterministic' (their statements: YteikngjanfjmfaaTotals.lean).
  GIVEN WITH THE SEED: the statements are not yours to turn. If you find one false, say at which input.
  Laid BY PROGRAM, IN A SANDBOX (cutbox-rows.mjs): the forced cells as the released guide's own fill.sh prints them over the translation 8c42af48f69e0d42… (all of the seat's roots in one cut). By AI agents, Wed Nov 11 2026. No macro, syntax, notation, axiom, sorry.
-/
import Derived.Test.YteikngjanfjmfaaChecked
import GoSem.Claim
import GoSem.ClaimJoined
import GoSem.ClaimMapViews
import Derived.JoinedTies
import Derived.KernelRfl
namespace Go.Proofs.Yteikngjanfjmfaa
/- THE CELL 'sum', in the pinned program and in every row, IS THE sha256 OF THE DUMP (.gsa) THAT YteikngjanfjmfaaProg.lean LOADS. Nothing in Lean hashes anything: it is a label: what it is worth is what the hold of that sum in a sandbox is worth. -/
noncomputable def Try.pinned : Pinned := { name := "yteikngjanfjmfaa", sum := "8c42af48f69e0d42dba104224aa12a5eae42b744bf0c9342956e4a0bff1c5234", checked := Try.checked }
namespace Rows
def none {H : Type} : Left H := { results := [], args := [] }

/-- 'orrerylaw02.LitOnes': WHATEVER THE INPUT: true; the input reads as it did. -/
def litOnesSpec : ChangeSpec := { name := "litOnes", fn := fun _ => fun
  | [d1, d2, d3, d4, d5] => { results := [.lit (.bool true)], args := [d1, d2, d3, d4, d5] }
  | _ => none }
def litOnesRow : OpenClaim := { program := "yteikngjanfjmfaa", sum := "8c42af48f69e0d42dba104224aa12a5eae42b744bf0c9342956e4a0bff1c5234", func := "orrery/orrerylaw02.LitOnes", spec := "litOnes", plainKeys := false, apart := false }
def LitOnesSaid : Prop := litOnesRow.holds Try.pinned (OpenSpec.ofChange litOnesSpec)

/-- ITS FALSE NEIGHBOUR: 'it returns false'. Refute it at one input. -/
def litOnesWrong : ChangeSpec := { name := "litOnes", fn := fun _ => fun
  | [d1, d2, d3, d4, d5] => { results := [.lit (.bool false)], args := [d1, d2, d3, d4, d5] }
  | _ => none }
def LitOnesWrongFalsely : Prop := litOnesRow.holds Try.pinned (OpenSpec.ofChange litOnesWrong)

/-- 'orrerylaw02.LitFolds': WHATEVER THE INPUT: true; the input reads as it did. -/
def litFoldsSpec : ChangeSpec := { name := "litFolds", fn := fun _ => fun
  | [d1, d2, d3] => { results := [.lit (.bool true)], args := [d1, d2, d3] }
  | _ => none }
def litFoldsRow : OpenClaim := { program := "yteikngjanfjmfaa", sum := "8c42af48f69e0d42dba104224aa12a5eae42b744bf0c9342956e4a0bff1c5234", func := "orrery/orrerylaw02.LitFolds", spec := "litFolds", plainKeys := false, apart := false }
def LitFoldsSaid : Prop := litFoldsRow.holds Try.pinned (OpenSpec.ofChange litFoldsSpec)

/-- ITS FALSE NEIGHBOUR: 'it returns false'. Refute it at one input. -/
def litFoldsWrong : ChangeSpec := { name := "litFolds", fn := fun _ => fun
  | [d1, d2, d3] => { results := [.lit (.bool false)], args := [d1, d2, d3] }
  | _ => none }
def LitFoldsWrongFalsely : Prop := litFoldsRow.holds Try.pinned (OpenSpec.ofChange litFoldsWrong)

/-- 'orrerylaw02.LitNumbers': WHATEVER THE INPUT: true; the input reads as it did. -/
def litNumbersSpec : ChangeSpec := { name := "litNumbers", fn := fun _ => fun
  | [d1, d2, d3, d4] => { results := [.lit (.bool true)], args := [d1, d2, d3, d4] }
  | _ => none }
def litNumbersRow : OpenClaim := { program := "yteikngjanfjmfaa", sum := "8c42af48f69e0d42dba104224aa12a5eae42b744bf0c9342956e4a0bff1c5234", func := "orrery/orrerylaw02.LitNumbers", spec := "litNumbers", unfollowed := true, recurses := true, plainKeys := false, apart := false }
def LitNumbersSaid : Prop := litNumbersRow.holds Try.pinned (OpenSpec.ofChange litNumbersSpec)

/-- ITS FALSE NEIGHBOUR: 'it returns false'. Refute it at one input. -/
def litNumbersWrong : ChangeSpec := { name := "litNumbers", fn := fun _ => fun
  | [d1, d2, d3, d4] => { results := [.lit (.bool false)], args := [d1, d2, d3, d4] }
  | _ => none }
def LitNumbersWrongFalsely : Prop := litNumbersRow.holds Try.pinned (OpenSpec.ofChange litNumbersWrong)

/-- 'orrerylaw02.LitOver': WHATEVER THE INPUT: true; the input reads as it did. -/
def litOverSpec : ChangeSpec := { name := "litOver", fn := fun _ => fun
  | [d1, d2, d3, d4] => { results := [.lit (.bool true)], args := [d1, d2, d3, d4] }
  | _ => none }
def litOverRow : OpenClaim := { program := "yteikngjanfjmfaa", sum := "8c42af48f69e0d42dba104224aa12a5eae42b744bf0c9342956e4a0bff1c5234", func := "orrery/orrerylaw02.LitOver", spec := "litOver", unfollowed := true, recurses := true, plainKeys := false, apart := false }
def LitOverSaid : Prop := litOverRow.holds Try.pinned (OpenSpec.ofChange litOverSpec)

/-- ITS FALSE NEIGHBOUR: 'it returns false'. Refute it at one input. -/
def litOverWrong : ChangeSpec := { name := "litOver", fn := fun _ => fun
  | [d1, d2, d3, d4] => { results := [.lit (.bool false)], args := [d1, d2, d3, d4] }
  | _ => none }
def LitOverWrongFalsely : Prop := litOverRow.holds Try.pinned (OpenSpec.ofChange litOverWrong)

/-- 'orrerylaw03.AigOnce': WHATEVER THE INPUT: true; the input reads as it did. -/
def aigOnceSpec : ChangeSpec := { name := "aigOnce", fn := fun _ => fun
  | [d1, d2] => { results := [.lit (.bool true)], args := [d1, d2] }
  | _ => none }
def aigOnceRow : OpenClaim := { program := "yteikngjanfjmfaa", sum := "8c42af48f69e0d42dba104224aa12a5eae42b744bf0c9342956e4a0bff1c5234", func := "orrery/orrerylaw03.AigOnce", spec := "aigOnce", unfollowed := true, recurses := true, plainKeys := false, apart := false }
def AigOnceSaid : Prop := aigOnceRow.holds Try.pinned (OpenSpec.ofChange aigOnceSpec)

/-- ITS FALSE NEIGHBOUR: 'it returns false'. Refute it at one input. -/
def aigOnceWrong : ChangeSpec := { name := "aigOnce", fn := fun _ => fun
  | [d1, d2] => { results := [.lit (.bool false)], args := [d1, d2] }
  | _ => none }
def AigOnceWrongFalsely : Prop := aigOnceRow.holds Try.pinned (OpenSpec.ofChange aigOnceWrong)

/-- 'orrerylaw03.AigOptions': WHATEVER THE INPUT: true; the input reads as it did. -/
def aigOptionsSpec : ChangeSpec := { name := "aigOptions", fn := fun _ => fun
  | [d1, d2] => { results := [.lit (.bool true)], args := [d1, d2] }
  | _ => none }
def aigOptionsRow : OpenClaim := { program := "yteikngjanfjmfaa", sum := "8c42af48f69e0d42dba104224aa12a5eae42b744bf0c9342956e4a0bff1c5234", func := "orrery/orrerylaw03.AigOptions", spec := "aigOptions", unfollowed := true, recurses := true, plainKeys := false, apart := false }
def AigOptionsSaid : Prop := aigOptionsRow.holds Try.pinned (OpenSpec.ofChange aigOptionsSpec)

/-- ITS FALSE NEIGHBOUR: 'it returns false'. Refute it at one input. -/
def aigOptionsWrong : ChangeSpec := { name := "aigOptions", fn := fun _ => fun
  | [d1, d2] => { results := [.lit (.bool false)], args := [d1, d2] }
  | _ => none }
def AigOptionsWrongFalsely : Prop := aigOptionsRow.holds Try.pinned (OpenSpec.ofChange aigOptionsWrong)

/-- 'orrerylaw03.AigMeans': WHATEVER THE INPUT: true; the input reads as it did. -/
def aigMeansSpec : ChangeSpec := { name := "aigMeans", fn := fun _ => fun
  | [d1, d2, d3] => { results := [.lit (.bool true)], args := [d1, d2, d3] }
  | _ => none }
def aigMeansRow : OpenClaim := { program := "yteikngjanfjmfaa", sum := "8c42af48f69e0d42dba104224aa12a5eae42b744bf0c9342956e4a0bff1c5234", func := "orrery/orrerylaw03.AigMeans", spec := "aigMeans", unfollowed := true, recurses := true, plainKeys := false, apart := false }
def AigMeansSaid : Prop := aigMeansRow.holds Try.pinned (OpenSpec.ofChange aigMeansSpec)

/-- ITS FALSE NEIGHBOUR: 'it returns false'. Refute it at one input. -/
def aigMeansWrong : ChangeSpec := { name := "aigMeans", fn := fun _ => fun
  | [d1, d2, d3] => { results := [.lit (.bool false)], args := [d1, d2, d3] }
  | _ => none }
def AigMeansWrongFalsely : Prop := aigMeansRow.holds Try.pinned (OpenSpec.ofChange aigMeansWrong)

/-- 'orrerylaw04.ConeDepth': WHATEVER THE INPUT: true; the input reads as it did. -/
def coneDepthSpec : ChangeSpec := { name := "coneDepth", fn := fun _ => fun
  | [d1, d2, d3] => { results := [.lit (.bool true)], args := [d1, d2, d3] }
  | _ => none }
def coneDepthRow : OpenClaim := { program := "yteikngjanfjmfaa", sum := "8c42af48f69e0d42dba104224aa12a5eae42b744bf0c9342956e4a0bff1c5234", func := "orrery/orrerylaw04.ConeDepth", spec := "coneDepth", unfollowed := true, recurses := true, plainKeys := false, apart := false }
def ConeDepthSaid : Prop := coneDepthRow.holds Try.pinned (OpenSpec.ofChange coneDepthSpec)

/-- ITS FALSE NEIGHBOUR: 'it returns false'. Refute it at one input. -/
def coneDepthWrong : ChangeSpec := { name := "coneDepth", fn := fun _ => fun
  | [d1, d2, d3] => { results := [.lit (.bool false)], args := [d1, d2, d3] }
  | _ => none }
def ConeDepthWrongFalsely : Prop := coneDepthRow.holds Try.pinned (OpenSpec.ofChange coneDepthWrong)

/-- 'orrerylaw04.ConeSupport': WHATEVER THE INPUT: true; the input reads as it did. -/
def coneSupportSpec : ChangeSpec := { name := "coneSupport", fn := fun _ => fun
  | [d1, d2, d3, d4, d5] => { results := [.lit (.bool true)], args := [d1, d2, d3, d4, d5] }
  | _ => none }
def coneSupportRow : OpenClaim := { program := "yteikngjanfjmfaa", sum := "8c42af48f69e0d42dba104224aa12a5eae42b744bf0c9342956e4a0bff1c5234", func := "orrery/orrerylaw04.ConeSupport", spec := "coneSupport", unfollowed := true, recurses := true, plainKeys := false, apart := false }
def ConeSupportSaid : Prop := coneSupportRow.holds Try.pinned (OpenSpec.ofChange coneSupportSpec)

/-- ITS FALSE NEIGHBOUR: 'it returns false'. Refute it at one input. -/
def coneSupportWrong : ChangeSpec := { name := "coneSupport", fn := fun _ => fun
  | [d1, d2, d3, d4, d5] => { results := [.lit (.bool false)], args := [d1, d2, d3, d4, d5] }
  | _ => none }
def ConeSupportWrongFalsely : Prop := coneSupportRow.holds Try.pinned (OpenSpec.ofChange coneSupportWrong)

/-- 'orrerylaw04.ConeWords': WHATEVER THE INPUT: true; the input reads as it did. -/
def coneWordsSpec : ChangeSpec := { name := "coneWords", fn := fun _ => fun
  | [d1, d2] => { results := [.lit (.bool true)], args := [d1, d2] }
  | _ => none }
def coneWordsRow : OpenClaim := { program := "yteikngjanfjmfaa", sum := "8c42af48f69e0d42dba104224aa12a5eae42b744bf0c9342956e4a0bff1c5234", func := "orrery/orrerylaw04.ConeWords", spec := "coneWords", inPlace := ["maps.clone"], unfollowed := true, recurses := true, plainKeys := false, apart := false }
def ConeWordsSaid : Prop := coneWordsRow.holds Try.pinned (OpenSpec.ofChange coneWordsSpec)

/-- ITS FALSE NEIGHBOUR: 'it returns false'. Refute it at one input. -/
def coneWordsWrong : ChangeSpec := { name := "coneWords", fn := fun _ => fun
  | [d1, d2] => { results := [.lit (.bool false)], args := [d1, d2] }
  | _ => none }
def ConeWordsWrongFalsely : Prop := coneWordsRow.holds Try.pinned (OpenSpec.ofChange coneWordsWrong)

/-- 'orrerylaw04.ConeKnown': WHATEVER THE INPUT: true; the input reads as it did. -/
def coneKnownSpec : ChangeSpec := { name := "coneKnown", fn := fun _ => fun
  | [] => { results := [.lit (.bool true)], args := [] }
  | _ => none }
def coneKnownRow : OpenClaim := { program := "yteikngjanfjmfaa", sum := "8c42af48f69e0d42dba104224aa12a5eae42b744bf0c9342956e4a0bff1c5234", func := "orrery/orrerylaw04.ConeKnown", spec := "coneKnown", inPlace := ["maps.clone"], unfollowed := true, recurses := true, plainKeys := false, apart := false }
def ConeKnownSaid : Prop := coneKnownRow.holds Try.pinned (OpenSpec.ofChange coneKnownSpec)

/-- ITS FALSE NEIGHBOUR: 'it returns false'. Refute it at one input. -/
def coneKnownWrong : ChangeSpec := { name := "coneKnown", fn := fun _ => fun
  | [] => { results := [.lit (.bool false)], args := [] }
  | _ => none }
def ConeKnownWrongFalsely : Prop := coneKnownRow.holds Try.pinned (OpenSpec.ofChange coneKnownWrong)

/- THE SECOND FORM. 'bulk': how many values and letters a reading holds, each counted each time it is reached (what is shared counts as often as it is met; a slice's spare places count too). A statement '..UptoSaid' is the law's where the arguments, and the package variables that the reading takes, are together of bulk at most 1048576: NARROWER than '..Said'. Prove '..Said' where nothing that the law and all that it calls make is longer than what came in: it says more and counts as full. Else prove '..UptoSaid'. A law counts once. -/
mutual
def uptoBulk {H : Type} : DataW H → Nat
  | .lit (.string bytes) => bytes.length + 1
  | .lit _ => 1
  | .nil => 1
  | .ptr d => uptoBulk d + 1
  | .slice elems spare => uptoBulkAll elems + uptoBulkAll spare + 1
  | .agg parts => uptoBulkAll parts + 1
  | .iface _ d => uptoBulk d + 1
  | .map entries => uptoBulkEntries entries + 1
  | .held _ => 1
def uptoBulkAll {H : Type} : List (DataW H) → Nat
  | [] => 0
  | d :: r => uptoBulk d + uptoBulkAll r
def uptoBulkEntries {H : Type} : List (Lit × DataW H) → Nat
  | [] => 0
  | x :: r => uptoBulkEntry x + uptoBulkEntries r
def uptoBulkEntry {H : Type} : Lit × DataW H → Nat
  | (.string bytes, d) => bytes.length + uptoBulk d + 1
  | (_, d) => uptoBulk d + 1
 end
def uptoSmall : (H : Type) → List (DataW H) → Bool := fun _ ds => decide (uptoBulkAll ds ≤ 1048576)
def OpenSpec.upto (s : _root_.Go.ChangeSpec) : _root_.Go.OpenSpec := { _root_.Go.OpenSpec.ofChange s with cond := some uptoSmall }

/-- 'orrerylaw02.LitOnes', WHERE WHAT IT READS IS OF BULK AT MOST 1048576: true; the input reads as it did. -/
def litOnesUptoRow : OpenClaim := { program := "yteikngjanfjmfaa", sum := "8c42af48f69e0d42dba104224aa12a5eae42b744bf0c9342956e4a0bff1c5234", func := "orrery/orrerylaw02.LitOnes", spec := "litOnes", plainKeys := false, apart := false, narrowed := true }
def LitOnesUptoSaid : Prop := litOnesUptoRow.holds Try.pinned (OpenSpec.upto litOnesSpec)

/-- 'orrerylaw02.LitFolds', WHERE WHAT IT READS IS OF BULK AT MOST 1048576: true; the input reads as it did. -/
def litFoldsUptoRow : OpenClaim := { program := "yteikngjanfjmfaa", sum := "8c42af48f69e0d42dba104224aa12a5eae42b744bf0c9342956e4a0bff1c5234", func := "orrery/orrerylaw02.LitFolds", spec := "litFolds", plainKeys := false, apart := false, narrowed := true }
def LitFoldsUptoSaid : Prop := litFoldsUptoRow.holds Try.pinned (OpenSpec.upto litFoldsSpec)

/-- 'orrerylaw02.LitNumbers', WHERE WHAT IT READS IS OF BULK AT MOST 1048576: true; the input reads as it did. -/
def litNumbersUptoRow : OpenClaim := { program := "yteikngjanfjmfaa", sum := "8c42af48f69e0d42dba104224aa12a5eae42b744bf0c9342956e4a0bff1c5234", func := "orrery/orrerylaw02.LitNumbers", spec := "litNumbers", unfollowed := true, recurses := true, plainKeys := false, apart := false, narrowed := true }
def LitNumbersUptoSaid : Prop := litNumbersUptoRow.holds Try.pinned (OpenSpec.upto litNumbersSpec)

/-- 'orrerylaw02.LitOver', WHERE WHAT IT READS IS OF BULK AT MOST 1048576: true; the input reads as it did. -/
def litOverUptoRow : OpenClaim := { program := "yteikngjanfjmfaa", sum := "8c42af48f69e0d42dba104224aa12a5eae42b744bf0c9342956e4a0bff1c5234", func := "orrery/orrerylaw02.LitOver", spec := "litOver", unfollowed := true, recurses := true, plainKeys := false, apart := false, narrowed := true }
def LitOverUptoSaid : Prop := litOverUptoRow.holds Try.pinned (OpenSpec.upto litOverSpec)

/-- 'orrerylaw03.AigOnce', WHERE WHAT IT READS IS OF BULK AT MOST 1048576: true; the input reads as it did. -/
def aigOnceUptoRow : OpenClaim := { program := "yteikngjanfjmfaa", sum := "8c42af48f69e0d42dba104224aa12a5eae42b744bf0c9342956e4a0bff1c5234", func := "orrery/orrerylaw03.AigOnce", spec := "aigOnce", unfollowed := true, recurses := true, plainKeys := false, apart := false, narrowed := true }
def AigOnceUptoSaid : Prop := aigOnceUptoRow.holds Try.pinned (OpenSpec.upto aigOnceSpec)

/-- 'orrerylaw03.AigOptions', WHERE WHAT IT READS IS OF BULK AT MOST 1048576: true; the input reads as it did. -/
def aigOptionsUptoRow : OpenClaim := { program := "yteikngjanfjmfaa", sum := "8c42af48f69e0d42dba104224aa12a5eae42b744bf0c9342956e4a0bff1c5234", func := "orrery/orrerylaw03.AigOptions", spec := "aigOptions", unfollowed := true, recurses := true, plainKeys := false, apart := false, narrowed := true }
def AigOptionsUptoSaid : Prop := aigOptionsUptoRow.holds Try.pinned (OpenSpec.upto aigOptionsSpec)

/-- 'orrerylaw03.AigMeans', WHERE WHAT IT READS IS OF BULK AT MOST 1048576: true; the input reads as it did. -/
def aigMeansUptoRow : OpenClaim := { program := "yteikngjanfjmfaa", sum := "8c42af48f69e0d42dba104224aa12a5eae42b744bf0c9342956e4a0bff1c5234", func := "orrery/orrerylaw03.AigMeans", spec := "aigMeans", unfollowed := true, recurses := true, plainKeys := false, apart := false, narrowed := true }
def AigMeansUptoSaid : Prop := aigMeansUptoRow.holds Try.pinned (OpenSpec.upto aigMeansSpec)

/-- 'orrerylaw04.ConeDepth', WHERE WHAT IT READS IS OF BULK AT MOST 1048576: true; the input reads as it did. -/
def coneDepthUptoRow : OpenClaim := { program := "yteikngjanfjmfaa", sum := "8c42af48f69e0d42dba104224aa12a5eae42b744bf0c9342956e4a0bff1c5234", func := "orrery/orrerylaw04.ConeDepth", spec := "coneDepth", unfollowed := true, recurses := true, plainKeys := false, apart := false, narrowed := true }
def ConeDepthUptoSaid : Prop := coneDepthUptoRow.holds Try.pinned (OpenSpec.upto coneDepthSpec)

/-- 'orrerylaw04.ConeSupport', WHERE WHAT IT READS IS OF BULK AT MOST 1048576: true; the input reads as it did. -/
def coneSupportUptoRow : OpenClaim := { program := "yteikngjanfjmfaa", sum := "8c42af48f69e0d42dba104224aa12a5eae42b744bf0c9342956e4a0bff1c5234", func := "orrery/orrerylaw04.ConeSupport", spec := "coneSupport", unfollowed := true, recurses := true, plainKeys := false, apart := false, narrowed := true }
def ConeSupportUptoSaid : Prop := coneSupportUptoRow.holds Try.pinned (OpenSpec.upto coneSupportSpec)

/-- 'orrerylaw04.ConeWords', WHERE WHAT IT READS IS OF BULK AT MOST 1048576: true; the input reads as it did. -/
def coneWordsUptoRow : OpenClaim := { program := "yteikngjanfjmfaa", sum := "8c42af48f69e0d42dba104224aa12a5eae42b744bf0c9342956e4a0bff1c5234", func := "orrery/orrerylaw04.ConeWords", spec := "coneWords", inPlace := ["maps.clone"], unfollowed := true, recurses := true, plainKeys := false, apart := false, narrowed := true }
def ConeWordsUptoSaid : Prop := coneWordsUptoRow.holds Try.pinned (OpenSpec.upto coneWordsSpec)

/-- 'orrerylaw04.ConeKnown', WHERE WHAT IT READS IS OF BULK AT MOST 1048576: true; the input reads as it did. -/
def coneKnownUptoRow : OpenClaim := { program := "yteikngjanfjmfaa", sum := "8c42af48f69e0d42dba104224aa12a5eae42b744bf0c9342956e4a0bff1c5234", func := "orrery/orrerylaw04.ConeKnown", spec := "coneKnown", inPlace := ["maps.clone"], unfollowed := true, recurses := true, plainKeys := false, apart := false, narrowed := true }
def ConeKnownUptoSaid : Prop := coneKnownUptoRow.holds Try.pinned (OpenSpec.upto coneKnownSpec)

end Rows
end Go.Proofs.Yteikngjanfjmfaa
