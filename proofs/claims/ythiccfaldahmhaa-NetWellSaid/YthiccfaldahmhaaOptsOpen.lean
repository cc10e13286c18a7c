/-
  Opening a law's argument: a graph's options.
-/
import Derived.Test.YthiccfaldahmhaaOpen
namespace Go.Proofs.Ythiccfaldahmhaa
open Go.ChangeShapes Go.WideShapes Go.ChangeAt Go.RowKit Go.Deep Go.Joins
set_option linter.unusedVariables false

section
variable {H : Type} {enc : TypeId × Value → H} {W : World} {base : Nat} {v : Value} {d : DataW H} {ps : List MemPlace}
set_option maxRecDepth 100000 in
theorem open_opts (hv : Value.okWide Try.prog W .any base 23 v) (h : DataW.Trod enc Try.prog W 0 (fun _ => true) true 23 v d ps) (hz : Sized Try.prog 23 d) : ∃ a b : Bool, v = .agg #[.bool a, .bool b] :=
  open_bools2 Try.underlying23 (by kernel_rfl) (by kernel_rfl) Try.underlying4 Try.underlying4 hv h
end
end Go.Proofs.Ythiccfaldahmhaa
