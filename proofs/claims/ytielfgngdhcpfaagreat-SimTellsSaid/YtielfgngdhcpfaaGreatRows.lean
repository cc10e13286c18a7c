/-
  No cell of these rows narrows 'for every input' (looked for: loops, veiled, ifaces, maps, wideKeys, modest, calm, conditions, laid).
  DERIVED. THE GIVEN ROWS OF THIS SEAT. 4 by the template 'for every input the law returns true; each argument reads behind the call as it read before'; 0 by the template 'total and deterministic' (their statements: YtielfgngdhcpfaaGreatTotals.lean).
  GIVEN WITH THE SEED: the statements are not yours to turn. If you find one false, say at which input.
  Laid BY PROGRAM, IN A SANDBOX (cutbox-rows.mjs): the forced cells as the released guide's own fill.sh prints them over the translation 407c1b2cbabc4690… (all of the seat's roots in one cut). By AI agents, Wed Nov 11 2026. No macro, syntax, notation, axiom, sorry.
-/
import Derived.Test.YtielfgngdhcpfaaGreatChecked
import GoSem.Claim
import GoSem.ClaimJoined
import GoSem.ClaimMapViews
import Derived.JoinedTies
import Derived.KernelRfl
namespace Go.Proofs.YtielfgngdhcpfaaGreat
/- THE CELL 'sum', in the pinned program and in every row, IS THE sha256 OF THE DUMP (.gsa) THAT YtielfgngdhcpfaaGreatProg.lean LOADS. Nothing in Lean hashes anything: it is a label: what it is worth is what the hold of that sum in a sandbox is worth. -/
noncomputable def Tryz.pinned : Pinned := { name := "ytielfgngdhcpfaagreat", sum := "407c1b2cbabc4690a143996ba309024ba1dfab04c6b222043f2ce2c2190a733c", checked := Tryz.checked }
namespace Rows
def none {H : Type} : Left H := { results := [], args := [] }

/-- 'orrerylaw08.SimLanes': WHATEVER THE INPUT: true; the input reads as it did. -/
def simLanesSpec : ChangeSpec := { name := "simLanes", fn := fun _ => fun
  | [d1, d2, d3, d4, d5] => { results := [.lit (.bool true)], args := [d1, d2, d3, d4, d5] }
  | _ => none }
def simLanesRow : OpenClaim := { program := "ytielfgngdhcpfaagreat", sum := "407c1b2cbabc4690a143996ba309024ba1dfab04c6b222043f2ce2c2190a733c", func := "orrery/orrerylaw08.SimLanes", spec := "simLanes", inPlace := ["internal/bytealg.IndexByteString", "internal/bytealg.IndexString", "maps.clone"], unfollowed := true, recurses := true, named := ["internal/bytealg.MaxLen"], plainKeys := false, apart := false }
def SimLanesSaid : Prop := simLanesRow.holds Tryz.pinned (OpenSpec.ofChange simLanesSpec)

/-- ITS FALSE NEIGHBOUR: 'it returns false'. Refute it at one input. -/
def simLanesWrong : ChangeSpec := { name := "simLanes", fn := fun _ => fun
  | [d1, d2, d3, d4, d5] => { results := [.lit (.bool false)], args := [d1, d2, d3, d4, d5] }
  | _ => none }
def SimLanesWrongFalsely : Prop := simLanesRow.holds Tryz.pinned (OpenSpec.ofChange simLanesWrong)

/-- 'orrerylaw08.SimAgain': WHATEVER THE INPUT: true; the input reads as it did. -/
def simAgainSpec : ChangeSpec := { name := "simAgain", fn := fun _ => fun
  | [d1, d2, d3, d4] => { results := [.lit (.bool true)], args := [d1, d2, d3, d4] }
  | _ => none }
def simAgainRow : OpenClaim := { program := "ytielfgngdhcpfaagreat", sum := "407c1b2cbabc4690a143996ba309024ba1dfab04c6b222043f2ce2c2190a733c", func := "orrery/orrerylaw08.SimAgain", spec := "simAgain", inPlace := ["internal/bytealg.IndexByteString", "internal/bytealg.IndexString", "maps.clone"], unfollowed := true, recurses := true, named := ["internal/bytealg.MaxLen"], plainKeys := false, apart := false }
def SimAgainSaid : Prop := simAgainRow.holds Tryz.pinned (OpenSpec.ofChange simAgainSpec)

/-- ITS FALSE NEIGHBOUR: 'it returns false'. Refute it at one input. -/
def simAgainWrong : ChangeSpec := { name := "simAgain", fn := fun _ => fun
  | [d1, d2, d3, d4] => { results := [.lit (.bool false)], args := [d1, d2, d3, d4] }
  | _ => none }
def SimAgainWrongFalsely : Prop := simAgainRow.holds Tryz.pinned (OpenSpec.ofChange simAgainWrong)

/-- 'orrerylaw08.SimSolves': WHATEVER THE INPUT: true; the input reads as it did. -/
def simSolvesSpec : ChangeSpec := { name := "simSolves", fn := fun _ => fun
  | [d1, d2, d3] => { results := [.lit (.bool true)], args := [d1, d2, d3] }
  | _ => none }
def simSolvesRow : OpenClaim := { program := "ytielfgngdhcpfaagreat", sum := "407c1b2cbabc4690a143996ba309024ba1dfab04c6b222043f2ce2c2190a733c", func := "orrery/orrerylaw08.SimSolves", spec := "simSolves", inPlace := ["internal/bytealg.IndexByteString", "internal/bytealg.IndexString", "maps.clone"], unfollowed := true, recurses := true, named := ["internal/bytealg.MaxLen"], plainKeys := false, apart := false }
def SimSolvesSaid : Prop := simSolvesRow.holds Tryz.pinned (OpenSpec.ofChange simSolvesSpec)

/-- ITS FALSE NEIGHBOUR: 'it returns false'. Refute it at one input. -/
def simSolvesWrong : ChangeSpec := { name := "simSolves", fn := fun _ => fun
  | [d1, d2, d3] => { results := [.lit (.bool false)], args := [d1, d2, d3] }
  | _ => none }
def SimSolvesWrongFalsely : Prop := simSolvesRow.holds Tryz.pinned (OpenSpec.ofChange simSolvesWrong)

/-- 'orrerylaw08.SimTells': WHATEVER THE INPUT: true; the input reads as it did. -/
def simTellsSpec : ChangeSpec := { name := "simTells", fn := fun _ => fun
  | [d1, d2, d3] => { results := [.lit (.bool true)], args := [d1, d2, d3] }
  | _ => none }
def simTellsRow : OpenClaim := { program := "ytielfgngdhcpfaagreat", sum := "407c1b2cbabc4690a143996ba309024ba1dfab04c6b222043f2ce2c2190a733c", func := "orrery/orrerylaw08.SimTells", spec := "simTells", inPlace := ["internal/bytealg.IndexByteString", "internal/bytealg.IndexString", "maps.clone"], unfollowed := true, recurses := true, named := ["internal/bytealg.MaxLen"], plainKeys := false, apart := false }
def SimTellsSaid : Prop := simTellsRow.holds Tryz.pinned (OpenSpec.ofChange simTellsSpec)

/-- ITS FALSE NEIGHBOUR: 'it returns false'. Refute it at one input. -/
def simTellsWrong : ChangeSpec := { name := "simTells", fn := fun _ => fun
  | [d1, d2, d3] => { results := [.lit (.bool false)], args := [d1, d2, d3] }
  | _ => none }
def SimTellsWrongFalsely : Prop := simTellsRow.holds Tryz.pinned (OpenSpec.ofChange simTellsWrong)

/- THE SECOND FORM. 'bulk': how many values and letters a reading holds, each counted each time it is reached (what is shared counts as often as it is met; a slice's spare places count too). A statement '..UptoSaid' is the law's where the arguments, and the package variables that the reading takes, are together of bulk at most 1048576: NARROWER than '..Said'. Prove '..Said' where nothing that the law and all that it calls make is longer than what came in: it says more and counts as full. Else prove '..UptoSaid'. A law counts once. -/
mutual
def uptoBulk {H : Type} : DataW H → Nat
  | .lit (.string bytes) => bytes.length + 1
  | .lit _ => 1
  | .nil => 1
  | .ptr d => uptoBulk d + 1
  | .slice elems spare => uptoBulkAll elems + uptoBulkAll spare + 1
  | .agg parts => uptoBulkAll parts + 1
  | .iface _ d => uptoBulk d + 1
  | .map entries => uptoBulkEntries entries + 1
  | .held _ => 1
def uptoBulkAll {H : Type} : List (DataW H) → Nat
  | [] => 0
  | d :: r => uptoBulk d + uptoBulkAll r
def uptoBulkEntries {H : Type} : List (Lit × DataW H) → Nat
  | [] => 0
  | x :: r => uptoBulkEntry x + uptoBulkEntries r
def uptoBulkEntry {H : Type} : Lit × DataW H → Nat
  | (.string bytes, d) => bytes.length + uptoBulk d + 1
  | (_, d) => uptoBulk d + 1
 end
def uptoSmall : (H : Type) → List (DataW H) → Bool := fun _ ds => decide (uptoBulkAll ds ≤ 1048576)
def OpenSpec.upto (s : _root_.Go.ChangeSpec) : _root_.Go.OpenSpec := { _root_.Go.OpenSpec.ofChange s with cond := some uptoSmall }

/-- 'orrerylaw08.SimLanes', WHERE WHAT IT READS IS OF BULK AT MOST 1048576: true; the input reads as it did. -/
def simLanesUptoRow : OpenClaim := { program := "ytielfgngdhcpfaagreat", sum := "407c1b2cbabc4690a143996ba309024ba1dfab04c6b222043f2ce2c2190a733c", func := "orrery/orrerylaw08.SimLanes", spec := "simLanes", inPlace := ["internal/bytealg.IndexByteString", "internal/bytealg.IndexString", "maps.clone"], unfollowed := true, recurses := true, named := ["internal/bytealg.MaxLen"], plainKeys := false, apart := false, narrowed := true }
def SimLanesUptoSaid : Prop := simLanesUptoRow.holds Tryz.pinned (OpenSpec.upto simLanesSpec)

/-- 'orrerylaw08.SimAgain', WHERE WHAT IT READS IS OF BULK AT MOST 1048576: true; the input reads as it did. -/
def simAgainUptoRow : OpenClaim := { program := "ytielfgngdhcpfaagreat", sum := "407c1b2cbabc4690a143996ba309024ba1dfab04c6b222043f2ce2c2190a733c", func := "orrery/orrerylaw08.SimAgain", spec := "simAgain", inPlace := ["internal/bytealg.IndexByteString", "internal/bytealg.IndexString", "maps.clone"], unfollowed := true, recurses := true, named := ["internal/bytealg.MaxLen"], plainKeys := false, apart := false, narrowed := true }
def SimAgainUptoSaid : Prop := simAgainUptoRow.holds Tryz.pinned (OpenSpec.upto simAgainSpec)

/-- 'orrerylaw08.SimSolves', WHERE WHAT IT READS IS OF BULK AT MOST 1048576: true; the input reads as it did. -/
def simSolvesUptoRow : OpenClaim := { program := "ytielfgngdhcpfaagreat", sum := "407c1b2cbabc4690a143996ba309024ba1dfab04c6b222043f2ce2c2190a733c", func := "orrery/orrerylaw08.SimSolves", spec := "simSolves", inPlace := ["internal/bytealg.IndexByteString", "internal/bytealg.IndexString", "maps.clone"], unfollowed := true, recurses := true, named := ["internal/bytealg.MaxLen"], plainKeys := false, apart := false, narrowed := true }
def SimSolvesUptoSaid : Prop := simSolvesUptoRow.holds Tryz.pinned (OpenSpec.upto simSolvesSpec)

/-- 'orrerylaw08.SimTells', WHERE WHAT IT READS IS OF BULK AT MOST 1048576: true; the input reads as it did. -/
def simTellsUptoRow : OpenClaim := { program := "ytielfgngdhcpfaagreat", sum := "407c1b2cbabc4690a143996ba309024ba1dfab04c6b222043f2ce2c2190a733c", func := "orrery/orrerylaw08.SimTells", spec := "simTells", inPlace := ["internal/bytealg.IndexByteString", "internal/bytealg.IndexString", "maps.clone"], unfollowed := true, recurses := true, named := ["internal/bytealg.MaxLen"], plainKeys := false, apart := false, narrowed := true }
def SimTellsUptoSaid : Prop := simTellsUptoRow.holds Tryz.pinned (OpenSpec.upto simTellsSpec)

end Rows
end Go.Proofs.YtielfgngdhcpfaaGreat
