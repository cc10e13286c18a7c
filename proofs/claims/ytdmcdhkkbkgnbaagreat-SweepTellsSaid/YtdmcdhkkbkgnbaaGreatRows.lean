/-
  No cell of these rows narrows 'for every input' (looked for: loops, veiled, ifaces, maps, wideKeys, modest, calm, conditions, laid).
  DERIVED. THE GIVEN ROWS OF THIS SEAT. 4 by the template 'for every input the law returns true; each argument reads behind the call as it read before'; 0 by the template 'total and deterministic' (their statements: YtdmcdhkkbkgnbaaGreatTotals.lean).
  GIVEN WITH THE SEED: the statements are not yours to turn. If you find one false, say at which input.
  Laid BY PROGRAM, IN A SANDBOX (cutbox-rows.mjs): the forced cells as the released guide's own fill.sh prints them over the translation 51cf8c89796b394a… (all of the seat's roots in one cut). By AI agents, Wed Nov 11 2026. No macro, syntax, notation, axiom, sorry.
-/
import Derived.Test.YtdmcdhkkbkgnbaaGreatChecked
import GoSem.Claim
import GoSem.ClaimJoined
import GoSem.ClaimMapViews
import Derived.JoinedTies
import Derived.KernelRfl
namespace Go.Proofs.YtdmcdhkkbkgnbaaGreat
/- THE CELL 'sum', in the pinned program and in every row, IS THE sha256 OF THE DUMP (.gsa) THAT YtdmcdhkkbkgnbaaGreatProg.lean LOADS. Nothing in Lean hashes anything: it is a label: what it is worth is what the hold of that sum in a sandbox is worth. -/
noncomputable def Tryz.pinned : Pinned := { name := "ytdmcdhkkbkgnbaagreat", sum := "51cf8c89796b394a2390f80b27156d5349316bc0000941a17b07fe5369479e6a", checked := Tryz.checked }
namespace Rows
def none {H : Type} : Left H := { results := [], args := [] }

/-- 'orrerylaw30.SweepTells': WHATEVER THE INPUT: true; the input reads as it did. -/
def sweepTellsSpec : ChangeSpec := { name := "sweepTells", fn := fun _ => fun
  | [d1, d2] => { results := [.lit (.bool true)], args := [d1, d2] }
  | _ => none }
def sweepTellsRow : OpenClaim := { program := "ytdmcdhkkbkgnbaagreat", sum := "51cf8c89796b394a2390f80b27156d5349316bc0000941a17b07fe5369479e6a", func := "orrery/orrerylaw30.SweepTells", spec := "sweepTells", inPlace := ["internal/bytealg.IndexByteString", "internal/bytealg.IndexString"], unfollowed := true, recurses := true, named := ["internal/bytealg.MaxLen"], plainKeys := false, apart := false }
def SweepTellsSaid : Prop := sweepTellsRow.holds Tryz.pinned (OpenSpec.ofChange sweepTellsSpec)

/-- ITS FALSE NEIGHBOUR: 'it returns false'. Refute it at one input. -/
def sweepTellsWrong : ChangeSpec := { name := "sweepTells", fn := fun _ => fun
  | [d1, d2] => { results := [.lit (.bool false)], args := [d1, d2] }
  | _ => none }
def SweepTellsWrongFalsely : Prop := sweepTellsRow.holds Tryz.pinned (OpenSpec.ofChange sweepTellsWrong)

/-- 'orrerylaw30.SweepLeft': WHATEVER THE INPUT: true; the input reads as it did. -/
def sweepLeftSpec : ChangeSpec := { name := "sweepLeft", fn := fun _ => fun
  | [d1, d2] => { results := [.lit (.bool true)], args := [d1, d2] }
  | _ => none }
def sweepLeftRow : OpenClaim := { program := "ytdmcdhkkbkgnbaagreat", sum := "51cf8c89796b394a2390f80b27156d5349316bc0000941a17b07fe5369479e6a", func := "orrery/orrerylaw30.SweepLeft", spec := "sweepLeft", inPlace := ["internal/bytealg.IndexByteString", "internal/bytealg.IndexString"], unfollowed := true, recurses := true, named := ["internal/bytealg.MaxLen"], plainKeys := false, apart := false }
def SweepLeftSaid : Prop := sweepLeftRow.holds Tryz.pinned (OpenSpec.ofChange sweepLeftSpec)

/-- ITS FALSE NEIGHBOUR: 'it returns false'. Refute it at one input. -/
def sweepLeftWrong : ChangeSpec := { name := "sweepLeft", fn := fun _ => fun
  | [d1, d2] => { results := [.lit (.bool false)], args := [d1, d2] }
  | _ => none }
def SweepLeftWrongFalsely : Prop := sweepLeftRow.holds Tryz.pinned (OpenSpec.ofChange sweepLeftWrong)

/-- 'orrerylaw30.SweepNeeds': WHATEVER THE INPUT: true; the input reads as it did. -/
def sweepNeedsSpec : ChangeSpec := { name := "sweepNeeds", fn := fun _ => fun
  | [d1, d2] => { results := [.lit (.bool true)], args := [d1, d2] }
  | _ => none }
def sweepNeedsRow : OpenClaim := { program := "ytdmcdhkkbkgnbaagreat", sum := "51cf8c89796b394a2390f80b27156d5349316bc0000941a17b07fe5369479e6a", func := "orrery/orrerylaw30.SweepNeeds", spec := "sweepNeeds", inPlace := ["internal/bytealg.IndexByteString", "internal/bytealg.IndexString", "maps.clone"], unfollowed := true, recurses := true, named := ["internal/bytealg.MaxLen"], plainKeys := false, apart := false }
def SweepNeedsSaid : Prop := sweepNeedsRow.holds Tryz.pinned (OpenSpec.ofChange sweepNeedsSpec)

/-- ITS FALSE NEIGHBOUR: 'it returns false'. Refute it at one input. -/
def sweepNeedsWrong : ChangeSpec := { name := "sweepNeeds", fn := fun _ => fun
  | [d1, d2] => { results := [.lit (.bool false)], args := [d1, d2] }
  | _ => none }
def SweepNeedsWrongFalsely : Prop := sweepNeedsRow.holds Tryz.pinned (OpenSpec.ofChange sweepNeedsWrong)

/-- 'orrerylaw30.SweepTraces': WHATEVER THE INPUT: true; the input reads as it did. -/
def sweepTracesSpec : ChangeSpec := { name := "sweepTraces", fn := fun _ => fun
  | [d1, d2, d3] => { results := [.lit (.bool true)], args := [d1, d2, d3] }
  | _ => none }
def sweepTracesRow : OpenClaim := { program := "ytdmcdhkkbkgnbaagreat", sum := "51cf8c89796b394a2390f80b27156d5349316bc0000941a17b07fe5369479e6a", func := "orrery/orrerylaw30.SweepTraces", spec := "sweepTraces", inPlace := ["internal/bytealg.IndexByteString", "internal/bytealg.IndexString", "maps.clone"], unfollowed := true, recurses := true, named := ["internal/bytealg.MaxLen"], plainKeys := false, apart := false }
def SweepTracesSaid : Prop := sweepTracesRow.holds Tryz.pinned (OpenSpec.ofChange sweepTracesSpec)

/-- ITS FALSE NEIGHBOUR: 'it returns false'. Refute it at one input. -/
def sweepTracesWrong : ChangeSpec := { name := "sweepTraces", fn := fun _ => fun
  | [d1, d2, d3] => { results := [.lit (.bool false)], args := [d1, d2, d3] }
  | _ => none }
def SweepTracesWrongFalsely : Prop := sweepTracesRow.holds Tryz.pinned (OpenSpec.ofChange sweepTracesWrong)

/- THE SECOND FORM. 'bulk': how many values and letters a reading holds, each counted each time it is reached (what is shared counts as often as it is met; a slice's spare places count too). A statement '..UptoSaid' is the law's where the arguments, and the package variables that the reading takes, are together of bulk at most 1048576: NARROWER than '..Said'. Prove '..Said' where nothing that the law and all that it calls make is longer than what came in: it says more and counts as full. Else prove '..UptoSaid'. A law counts once. -/
mutual
def uptoBulk {H : Type} : DataW H → Nat
  | .lit (.string bytes) => bytes.length + 1
  | .lit _ => 1
  | .nil => 1
  | .ptr d => uptoBulk d + 1
  | .slice elems spare => uptoBulkAll elems + uptoBulkAll spare + 1
  | .agg parts => uptoBulkAll parts + 1
  | .iface _ d => uptoBulk d + 1
  | .map entries => uptoBulkEntries entries + 1
  | .held _ => 1
def uptoBulkAll {H : Type} : List (DataW H) → Nat
  | [] => 0
  | d :: r => uptoBulk d + uptoBulkAll r
def uptoBulkEntries {H : Type} : List (Lit × DataW H) → Nat
  | [] => 0
  | x :: r => uptoBulkEntry x + uptoBulkEntries r
def uptoBulkEntry {H : Type} : Lit × DataW H → Nat
  | (.string bytes, d) => bytes.length + uptoBulk d + 1
  | (_, d) => uptoBulk d + 1
 end
def uptoSmall : (H : Type) → List (DataW H) → Bool := fun _ ds => decide (uptoBulkAll ds ≤ 1048576)
def OpenSpec.upto (s : _root_.Go.ChangeSpec) : _root_.Go.OpenSpec := { _root_.Go.OpenSpec.ofChange s with cond := some uptoSmall }

/-- 'orrerylaw30.SweepTells', WHERE WHAT IT READS IS OF BULK AT MOST 1048576: true; the input reads as it did. -/
def sweepTellsUptoRow : OpenClaim := { program := "ytdmcdhkkbkgnbaagreat", sum := "51cf8c89796b394a2390f80b27156d5349316bc0000941a17b07fe5369479e6a", func := "orrery/orrerylaw30.SweepTells", spec := "sweepTells", inPlace := ["internal/bytealg.IndexByteString", "internal/bytealg.IndexString"], unfollowed := true, recurses := true, named := ["internal/bytealg.MaxLen"], plainKeys := false, apart := false, narrowed := true }
def SweepTellsUptoSaid : Prop := sweepTellsUptoRow.holds Tryz.pinned (OpenSpec.upto sweepTellsSpec)

/-- 'orrerylaw30.SweepLeft', WHERE WHAT IT READS IS OF BULK AT MOST 1048576: true; the input reads as it did. -/
def sweepLeftUptoRow : OpenClaim := { program := "ytdmcdhkkbkgnbaagreat", sum := "51cf8c89796b394a2390f80b27156d5349316bc0000941a17b07fe5369479e6a", func := "orrery/orrerylaw30.SweepLeft", spec := "sweepLeft", inPlace := ["internal/bytealg.IndexByteString", "internal/bytealg.IndexString"], unfollowed := true, recurses := true, named := ["internal/bytealg.MaxLen"], plainKeys := false, apart := false, narrowed := true }
def SweepLeftUptoSaid : Prop := sweepLeftUptoRow.holds Tryz.pinned (OpenSpec.upto sweepLeftSpec)

/-- 'orrerylaw30.SweepNeeds', WHERE WHAT IT READS IS OF BULK AT MOST 1048576: true; the input reads as it did. -/
def sweepNeedsUptoRow : OpenClaim := { program := "ytdmcdhkkbkgnbaagreat", sum := "51cf8c89796b394a2390f80b27156d5349316bc0000941a17b07fe5369479e6a", func := "orrery/orrerylaw30.SweepNeeds", spec := "sweepNeeds", inPlace := ["internal/bytealg.IndexByteString", "internal/bytealg.IndexString", "maps.clone"], unfollowed := true, recurses := true, named := ["internal/bytealg.MaxLen"], plainKeys := false, apart := false, narrowed := true }
def SweepNeedsUptoSaid : Prop := sweepNeedsUptoRow.holds Tryz.pinned (OpenSpec.upto sweepNeedsSpec)

/-- 'orrerylaw30.SweepTraces', WHERE WHAT IT READS IS OF BULK AT MOST 1048576: true; the input reads as it did. -/
def sweepTracesUptoRow : OpenClaim := { program := "ytdmcdhkkbkgnbaagreat", sum := "51cf8c89796b394a2390f80b27156d5349316bc0000941a17b07fe5369479e6a", func := "orrery/orrerylaw30.SweepTraces", spec := "sweepTraces", inPlace := ["internal/bytealg.IndexByteString", "internal/bytealg.IndexString", "maps.clone"], unfollowed := true, recurses := true, named := ["internal/bytealg.MaxLen"], plainKeys := false, apart := false, narrowed := true }
def SweepTracesUptoSaid : Prop := sweepTracesUptoRow.holds Tryz.pinned (OpenSpec.upto sweepTracesSpec)

end Rows
end Go.Proofs.YtdmcdhkkbkgnbaaGreat
