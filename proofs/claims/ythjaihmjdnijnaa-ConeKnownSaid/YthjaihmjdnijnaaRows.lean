/-
  No cell of these rows narrows 'for every input' (looked for: loops, veiled, ifaces, maps, wideKeys, modest, calm, conditions, laid).
  DERIVED. THE GIVEN ROWS OF THIS SEAT. 4 by the template 'for every input the law returns true; each argument reads behind the call as it read before'; 0 by the template 'total and deterministic' (their statements: YthjaihmjdnijnaaTotals.lean).
  GIVEN WITH THE SEED: the statements are not yours to turn. If you find one false, say at which input.
  Laid BY PROGRAM, IN A SANDBOX (cutbox-rows.mjs): the forced cells as the released guide's own fill.sh prints them over the translation 12d7b2bea495240a… (all of the seat's roots in one cut). By AI agents, Wed Nov 11 2026. No macro, syntax, notation, axiom, sorry.
-/
import Derived.Test.YthjaihmjdnijnaaChecked
import GoSem.Claim
import GoSem.ClaimJoined
import GoSem.ClaimMapViews
import Derived.JoinedTies
import Derived.KernelRfl
namespace Go.Proofs.Ythjaihmjdnijnaa
/- THE CELL 'sum', in the pinned program and in every row, IS THE sha256 OF THE DUMP (.gsa) THAT YthjaihmjdnijnaaProg.lean LOADS. Nothing in Lean hashes anything: it is a label: what it is worth is what the hold of that sum in a sandbox is worth. -/
noncomputable def Try.pinned : Pinned := { name := "ythjaihmjdnijnaa", sum := "12d7b2bea495240aa6abc81df0c7ea8a5f32c851829a30dd4d6bf163f9136309", checked := Try.checked }
namespace Rows
def none {H : Type} : Left H := { results := [], args := [] }

/-- 'orrerylaw04.ConeDepth': WHATEVER THE INPUT: true; the input reads as it did. -/
def coneDepthSpec : ChangeSpec := { name := "coneDepth", fn := fun _ => fun
  | [d1, d2, d3] => { results := [.lit (.bool true)], args := [d1, d2, d3] }
  | _ => none }
def coneDepthRow : OpenClaim := { program := "ythjaihmjdnijnaa", sum := "12d7b2bea495240aa6abc81df0c7ea8a5f32c851829a30dd4d6bf163f9136309", func := "orrery/orrerylaw04.ConeDepth", spec := "coneDepth", unfollowed := true, recurses := true, plainKeys := false, apart := false }
def ConeDepthSaid : Prop := coneDepthRow.holds Try.pinned (OpenSpec.ofChange coneDepthSpec)

/-- ITS FALSE NEIGHBOUR: 'it returns false'. Refute it at one input. -/
def coneDepthWrong : ChangeSpec := { name := "coneDepth", fn := fun _ => fun
  | [d1, d2, d3] => { results := [.lit (.bool false)], args := [d1, d2, d3] }
  | _ => none }
def ConeDepthWrongFalsely : Prop := coneDepthRow.holds Try.pinned (OpenSpec.ofChange coneDepthWrong)

/-- 'orrerylaw04.ConeSupport': WHATEVER THE INPUT: true; the input reads as it did. -/
def coneSupportSpec : ChangeSpec := { name := "coneSupport", fn := fun _ => fun
  | [d1, d2, d3, d4, d5] => { results := [.lit (.bool true)], args := [d1, d2, d3, d4, d5] }
  | _ => none }
def coneSupportRow : OpenClaim := { program := "ythjaihmjdnijnaa", sum := "12d7b2bea495240aa6abc81df0c7ea8a5f32c851829a30dd4d6bf163f9136309", func := "orrery/orrerylaw04.ConeSupport", spec := "coneSupport", unfollowed := true, recurses := true, plainKeys := false, apart := false }
def ConeSupportSaid : Prop := coneSupportRow.holds Try.pinned (OpenSpec.ofChange coneSupportSpec)

/-- ITS FALSE NEIGHBOUR: 'it returns false'. Refute it at one input. -/
def coneSupportWrong : ChangeSpec := { name := "coneSupport", fn := fun _ => fun
  | [d1, d2, d3, d4, d5] => { results := [.lit (.bool false)], args := [d1, d2, d3, d4, d5] }
  | _ => none }
def ConeSupportWrongFalsely : Prop := coneSupportRow.holds Try.pinned (OpenSpec.ofChange coneSupportWrong)

/-- 'orrerylaw04.ConeWords': WHATEVER THE INPUT: true; the input reads as it did. -/
def coneWordsSpec : ChangeSpec := { name := "coneWords", fn := fun _ => fun
  | [d1, d2] => { results := [.lit (.bool true)], args := [d1, d2] }
  | _ => none }
def coneWordsRow : OpenClaim := { program := "ythjaihmjdnijnaa", sum := "12d7b2bea495240aa6abc81df0c7ea8a5f32c851829a30dd4d6bf163f9136309", func := "orrery/orrerylaw04.ConeWords", spec := "coneWords", inPlace := ["maps.clone"], unfollowed := true, recurses := true, plainKeys := false, apart := false }
def ConeWordsSaid : Prop := coneWordsRow.holds Try.pinned (OpenSpec.ofChange coneWordsSpec)

/-- ITS FALSE NEIGHBOUR: 'it returns false'. Refute it at one input. -/
def coneWordsWrong : ChangeSpec := { name := "coneWords", fn := fun _ => fun
  | [d1, d2] => { results := [.lit (.bool false)], args := [d1, d2] }
  | _ => none }
def ConeWordsWrongFalsely : Prop := coneWordsRow.holds Try.pinned (OpenSpec.ofChange coneWordsWrong)

/-- 'orrerylaw04.ConeKnown': WHATEVER THE INPUT: true; the input reads as it did. -/
def coneKnownSpec : ChangeSpec := { name := "coneKnown", fn := fun _ => fun
  | [] => { results := [.lit (.bool true)], args := [] }
  | _ => none }
def coneKnownRow : OpenClaim := { program := "ythjaihmjdnijnaa", sum := "12d7b2bea495240aa6abc81df0c7ea8a5f32c851829a30dd4d6bf163f9136309", func := "orrery/orrerylaw04.ConeKnown", spec := "coneKnown", inPlace := ["maps.clone"], unfollowed := true, recurses := true, plainKeys := false, apart := false }
def ConeKnownSaid : Prop := coneKnownRow.holds Try.pinned (OpenSpec.ofChange coneKnownSpec)

/-- ITS FALSE NEIGHBOUR: 'it returns false'. Refute it at one input. -/
def coneKnownWrong : ChangeSpec := { name := "coneKnown", fn := fun _ => fun
  | [] => { results := [.lit (.bool false)], args := [] }
  | _ => none }
def ConeKnownWrongFalsely : Prop := coneKnownRow.holds Try.pinned (OpenSpec.ofChange coneKnownWrong)

/- THE SECOND FORM. 'bulk': how many values and letters a reading holds, each counted each time it is reached (what is shared counts as often as it is met; a slice's spare places count too). A statement '..UptoSaid' is the law's where the arguments, and the package variables that the reading takes, are together of bulk at most 1048576: NARROWER than '..Said'. Prove '..Said' where nothing that the law and all that it calls make is longer than what came in: it says more and counts as full. Else prove '..UptoSaid'. A law counts once. -/
mutual
def uptoBulk {H : Type} : DataW H → Nat
  | .lit (.string bytes) => bytes.length + 1
  | .lit _ => 1
  | .nil => 1
  | .ptr d => uptoBulk d + 1
  | .slice elems spare => uptoBulkAll elems + uptoBulkAll spare + 1
  | .agg parts => uptoBulkAll parts + 1
  | .iface _ d => uptoBulk d + 1
  | .map entries => uptoBulkEntries entries + 1
  | .held _ => 1
def uptoBulkAll {H : Type} : List (DataW H) → Nat
  | [] => 0
  | d :: r => uptoBulk d + uptoBulkAll r
def uptoBulkEntries {H : Type} : List (Lit × DataW H) → Nat
  | [] => 0
  | x :: r => uptoBulkEntry x + uptoBulkEntries r
def uptoBulkEntry {H : Type} : Lit × DataW H → Nat
  | (.string bytes, d) => bytes.length + uptoBulk d + 1
  | (_, d) => uptoBulk d + 1
 end
def uptoSmall : (H : Type) → List (DataW H) → Bool := fun _ ds => decide (uptoBulkAll ds ≤ 1048576)
def OpenSpec.upto (s : _root_.Go.ChangeSpec) : _root_.Go.OpenSpec := { _root_.Go.OpenSpec.ofChange s with cond := some uptoSmall }

/-- 'orrerylaw04.ConeDepth', WHERE WHAT IT READS IS OF BULK AT MOST 1048576: true; the input reads as it did. -/
def coneDepthUptoRow : OpenClaim := { program := "ythjaihmjdnijnaa", sum := "12d7b2bea495240aa6abc81df0c7ea8a5f32c851829a30dd4d6bf163f9136309", func := "orrery/orrerylaw04.ConeDepth", spec := "coneDepth", unfollowed := true, recurses := true, plainKeys := false, apart := false, narrowed := true }
def ConeDepthUptoSaid : Prop := coneDepthUptoRow.holds Try.pinned (OpenSpec.upto coneDepthSpec)

/-- 'orrerylaw04.ConeSupport', WHERE WHAT IT READS IS OF BULK AT MOST 1048576: true; the input reads as it did. -/
def coneSupportUptoRow : OpenClaim := { program := "ythjaihmjdnijnaa", sum := "12d7b2bea495240aa6abc81df0c7ea8a5f32c851829a30dd4d6bf163f9136309", func := "orrery/orrerylaw04.ConeSupport", spec := "coneSupport", unfollowed := true, recurses := true, plainKeys := false, apart := false, narrowed := true }
def ConeSupportUptoSaid : Prop := coneSupportUptoRow.holds Try.pinned (OpenSpec.upto coneSupportSpec)

/-- 'orrerylaw04.ConeWords', WHERE WHAT IT READS IS OF BULK AT MOST 1048576: true; the input reads as it did. -/
def coneWordsUptoRow : OpenClaim := { program := "ythjaihmjdnijnaa", sum := "12d7b2bea495240aa6abc81df0c7ea8a5f32c851829a30dd4d6bf163f9136309", func := "orrery/orrerylaw04.ConeWords", spec := "coneWords", inPlace := ["maps.clone"], unfollowed := true, recurses := true, plainKeys := false, apart := false, narrowed := true }
def ConeWordsUptoSaid : Prop := coneWordsUptoRow.holds Try.pinned (OpenSpec.upto coneWordsSpec)

/-- 'orrerylaw04.ConeKnown', WHERE WHAT IT READS IS OF BULK AT MOST 1048576: true; the input reads as it did. -/
def coneKnownUptoRow : OpenClaim := { program := "ythjaihmjdnijnaa", sum := "12d7b2bea495240aa6abc81df0c7ea8a5f32c851829a30dd4d6bf163f9136309", func := "orrery/orrerylaw04.ConeKnown", spec := "coneKnown", inPlace := ["maps.clone"], unfollowed := true, recurses := true, plainKeys := false, apart := false, narrowed := true }
def ConeKnownUptoSaid : Prop := coneKnownUptoRow.holds Try.pinned (OpenSpec.upto coneKnownSpec)

end Rows
end Go.Proofs.Ythjaihmjdnijnaa
