/-
  Package trace: Get: a table out of a text; what is wrong of it is given up by a panic, which a deferred closure recovers.
-/
import Derived.Test.YtjgcfncganleoaaDoorTrcY
import Derived.Defers
import Derived.Recover
namespace Go.Proofs.YtjgcfncganleoaaDoor
open Go.ChangeShapes Go.WideShapes Go.ChangeAt Go.RowKit
set_option linter.unusedVariables false
set_option linter.unusedSimpArgs false

variable {w w' w1 W : World}
set_option maxRecDepth 100000 in
theorem get1_idle (p q : Addr) (w : World) :
    CallsD Tryd.prog 56 #[.pointer (some p), .pointer (some q)] .returning w fun e u' w' => e = .returned (.tuple #[]) ∧ u' = .returning ∧ w' = w := by
  refine callsD_of_wpS Tryd.func56 rfl fun c₀ cs hu => ?_
  apply wpS_seq
  apply wpS_region
  simp [wpOpsS, go_sem, recoverD, hu, Tryd.ntmps56, Exit.thenS]
  refine wpS_of_wp ?_
  go_wp2_with fail
  cases c₀
  simp_all [bodyPostS, results, Tryd.results56]
set_option maxHeartbeats 1600000 in
set_option maxRecDepth 100000 in
theorem get1_pan (p q : Nat) (k : Int) (older : List PanicEntry) (w : World) (hp : w.heap[p]? = some (.cells #[.slice none 0 0, .slice none 0 0] 25 (0, 0))) (hq : w.heap[q]? = some (.cells #[.int .i64 0] 45 (0, 0))) (hpq : p ≠ q) :
    CallsD Tryd.prog 56 #[.pointer (some ⟨p, 0, none⟩), .pointer (some ⟨q, 0, none⟩)] (.panicking ({ v := .iface 45 (.int .i64 k), recovered := false } :: older)) w fun e u' w' => e = .returned (.tuple #[]) ∧ u' = .panicking ({ v := .iface 45 (.int .i64 k), recovered := true } :: older) ∧ w' = ((w.setCell ⟨p, 0, none⟩ (.slice none 0 0)).setCell ⟨p, 1, none⟩ (.slice none 0 0)).setCell ⟨q, 0, none⟩ (.int .i64 k) := by
  have hne1 : ¬ p = q := hpq
  have hne2 : ¬ q = p := Ne.symm hpq
  have c0 : w.cell? ⟨p, 0, none⟩ = some (.slice none 0 0) := blk_cell hp 0
  have c1 : w.cell? ⟨p, 1, none⟩ = some (.slice none 0 0) := blk_cell hp 1
  have f0 := blk_free hp 0
  have f1 := blk_free hp 1
  have c2 : w.cell? ⟨q, 0, none⟩ = some (.int .i64 0) := blk_cell hq 0
  have f2 := blk_free hq 0
  have hta : ∀ w, (Instr.typeAssert (.iface 45 (.int .i64 k)) 20 45 true).run Tryd.prog w = .ok (.tuple #[.int .i64 k, .bool true]) w := fun _ => by kernel_rfl
  clear hp hq
  refine callsD_of_wpS Tryd.func56 rfl fun c₀ cs hu => ?_
  apply wpS_seq
  apply wpS_region
  simp [wpOpsS, go_sem, recoverD, hu, Tryd.ntmps56, Exit.thenS]
  refine wpS_of_wp ?_
  have ht : (#[Value.pointer (some ⟨p, 0, none⟩), Value.pointer (some ⟨q, 0, none⟩)] ++ (Array.replicate 11 undef).setIfInBounds 3 (Value.iface 45 (Value.int IntKind.i64 k)) : Array Value) = #[Value.pointer (some ⟨p, 0, none⟩), Value.pointer (some ⟨q, 0, none⟩), undef, undef, undef, Value.iface 45 (Value.int IntKind.i64 k), undef, undef, undef, undef, undef, undef, undef] := rfl
  rw [ht]
  clear ht hu
  go_wp2_with fail
  cases c₀
  simp_all [bodyPostS, results, Tryd.results56]
end Go.Proofs.YtjgcfncganleoaaDoor
