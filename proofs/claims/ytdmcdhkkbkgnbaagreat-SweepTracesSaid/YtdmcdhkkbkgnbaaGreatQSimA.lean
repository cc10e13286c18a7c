/-
  Package sim: Regs, Cycles, Copy, Words.
-/
import Derived.Test.YtdmcdhkkbkgnbaaGreatQSim
namespace Go.Proofs.YtdmcdhkkbkgnbaaGreat
open Go.ChangeShapes Go.WideShapes Go.ChangeAt Go.RowKit
open Go.Maps (Keyed)
open Go.WideMaps
set_option linter.unusedVariables false
set_option linter.unusedSimpArgs false

variable {w w' : World} {s p n : Nat} {F R S : List Nat} {g : Gr} {N : Nt} {σ : Sm}
/-- a simulation more that goes on from here -/
def SimCopy (w : World) (R : List Nat) (σ : Sm) (e : Ending) (w' : World) : Prop := ∃ s' F', e = .returned (.pointer (some ⟨s', 0, none⟩)) ∧ SimAt w' s' F' R σ ∧ Kept [] w w' ∧ ∀ b ∈ F', w.heap.size ≤ b
/-- what Words answers -/
def askS (σ : Sm) (l : List Nat) : Nat := if l.any (fun x => decide (σ.N.g.nodes.length ≤ x / 2)) then 1 else if σ.cy = 0 then 6 else 0
def SimWords (σ : Sm) (l : List Nat) (m : Nat) (w : World) (e : Ending) (w' : World) : Prop :=
  ∃ a n c, e = .returned (.tuple #[.slice a n c, .int .i64 (askS σ l : Int)]) ∧ Kept [] w w' ∧ (askS σ l = 0 → n = m ∧ Own w' 79 a n c (nats .u64 (l.map (wd σ.ws))) ∧ ∀ b ∈ ft a, w.heap.size ≤ b)
end Go.Proofs.YtdmcdhkkbkgnbaaGreat
