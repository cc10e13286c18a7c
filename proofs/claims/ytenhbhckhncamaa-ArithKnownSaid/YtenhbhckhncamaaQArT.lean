/-
  Package arith, plain: types, what may not be.
-/
import Derived.Test.YtenhbhckhncamaaP14
namespace Go.Proofs.Ytenhbhckhncamaa
set_option linter.unusedVariables false
set_option linter.unusedSimpArgs false

/-- a type -/
structure Ty where
  b : Bool
  s : Bool
  w : Int
def tyV (t : Ty) : Value := .agg #[.bool t.b, .bool t.s, .int .i64 t.w]
def mayT (t : Ty) : Bool := if t.b then !t.s && decide (t.w = 1) else decide (1 ≤ t.w) && decide (t.w ≤ 64)
/-- as many bits -/
def tyN (t : Ty) : Nat := t.w.toNat
theorem may_in {t : Ty} (h : mayT t = true) : 1 ≤ t.w ∧ t.w ≤ 64 := by
  unfold mayT at h
  split at h
  · simp at h; omega
  · simp at h; omega
theorem may_n {t : Ty} (h : mayT t = true) : t.w = (tyN t : Int) ∧ 1 ≤ tyN t ∧ tyN t ≤ 64 := by
  have := may_in h
  unfold tyN
  omega
def isT (t : Ty) (n : Nat) : Bool := mayT t && decide (n < 2 ^ tyN t)
/-- errors -/
def oneE (op : Int) (t : Ty) : Nat := if mayT t = true ∧ (op = 1 ∨ (op = 2 ∧ t.b = false)) then 0 else 1
def twoE (op : Int) (t : Ty) : Nat := if mayT t = true ∧ 1 ≤ op ∧ op ≤ 12 ∧ (t.b = false ∨ op ≤ 3 ∨ op = 7 ∨ op = 8) then 0 else 1
def shiftE (t : Ty) (by' : Int) : Nat := if mayT t = true ∧ t.b = false ∧ -63 ≤ by' ∧ by' ≤ 63 then 0 else 1
def convE (t u : Ty) : Nat := if mayT t = true ∧ mayT u = true ∧ (u.b = false ∨ t.b = true) then 0 else 1
def allE (op : Int) (t : Ty) : Nat := if mayT t = true ∧ (op = 1 ∨ op = 2 ∨ op = 3 ∨ ((op = 4 ∨ op = 6) ∧ t.b = false)) then 0 else 1
/-- what stands for no rows -/
def allN (op : Int) (t : Ty) : Nat := if op = 1 then 2 ^ tyN t - 1 else if op = 6 then 1 else 0
/-- a row moved -/
def shiftL (t : Ty) (la : List Nat) (by' : Int) : List Nat :=
  (List.range la.length).map fun (k : Nat) => if (k : Int) - by' < 0 then 0 else if (la.length : Int) ≤ (k : Int) - by' then (if t.s then la.getD (la.length - 1) 0 else 0) else la.getD ((k : Int) - by').toNat 0
/-- a row in another type -/
def convL (t : Ty) (la : List Nat) (m : Nat) : List Nat := (List.range m).map fun k => if k < la.length then la.getD k 0 else if t.s then la.getD (la.length - 1) 0 else 0
def bitsN (n w : Nat) : List Nat := (List.range w).map fun i => n / 2 ^ i % 2
end Go.Proofs.Ytenhbhckhncamaa
