/-
  Contracts on known numbers; the chapter's rows (tells) of law 02.
-/
import Derived.Test.YtnjoklcddodfeaaDoorLitRows
import Derived.Deep.RegionWith
namespace Go.Proofs.YtnjoklcddodfeaaDoor
open Go.ChangeShapes Go.WideShapes Go.ChangeAt Go.RowKit
set_option linter.unusedVariables false

theorem c_of (n : Int) (t : Bool) (v : Nat) (x : Int) (e : Int) (hx : x = v) (hv : ofV n t = v) (he : ofE n = e) (w : World) : Calls Tryd.prog 20 #[.int .i64 n, .bool t] w fun e' w' => e' = .returned (.tuple #[.int .u32 x, .int .i64 e]) ∧ w = w' := by
  subst hx hv he; exact lit_of n t w
theorem c_fold (a b : Nat) (x y : Int) (hx : x = a) (hy : y = b) (v : Nat) (u : Int) (t : Bool) (hu : u = v) (ha : a < 4294967296) (hb : b < 4294967296) (hv : foldV a b = v) (ht : foldB a b = t) (w : World) : Calls Tryd.prog 59 #[.int .u32 x, .int .u32 y] w fun e' w' => e' = .returned (.tuple #[.int .u32 u, .bool t]) ∧ w = w' := by
  subst hx hy hu hv ht; exact lit_fold a b w ha hb
theorem c_node (l : Nat) (x : Int) (hx : x = l) (v : Nat) (u : Int) (hu : u = v) (hl : l < 4294967296) (hv : l / 2 = v) (w : World) : Calls Tryd.prog 49 #[.int .u32 x] w fun e' w' => e' = .returned (.int .i64 u) ∧ w = w' := by
  subst hx hu hv; exact lit_node l w hl
theorem c_not (l : Nat) (x : Int) (hx : x = l) (v : Nat) (u : Int) (hu : u = v) (hl : l < 4294967296) (hv : ntL l = v) (w : World) : Calls Tryd.prog 55 #[.int .u32 x] w fun e' w' => e' = .returned (.int .u32 u) ∧ w = w' := by
  subst hx hu hv; exact lit_not l w hl

def allW : Nat := 18446744073709551615
theorem allW_ne : ((allW : Int) != 18446744073709551615) = false := by decide
def nwI (n : Int) : Int := bits .xor .u64 IntKind.u64.max n
theorem nwI_nat (v : Nat) (h : v < 18446744073709551616) : nwI (v : Int) = ((noW v : Nat) : Int) := notw_spell v h
@[go_sem high] theorem unary_not_u64 (n : Int) : Op.unary .xor (.int .u64 n) = pure (.int .u64 (nwI n)) := rfl
theorem of_node (x : Nat) (h : x < 33554432) : ofV ((x : Int) / 2) (decide (x % 2 = 1)) = x := by
  unfold ofV ifL ntL
  rw [if_pos (by omega), show ((x : Int) / 2).toNat = x / 2 by omega]
  by_cases hx : x % 2 = 1
  · simp [hx]; omega
  · simp [hx]; omega

end Go.Proofs.YtnjoklcddodfeaaDoor
