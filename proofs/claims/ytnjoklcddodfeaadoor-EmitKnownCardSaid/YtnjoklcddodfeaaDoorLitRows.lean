/-
  Contracts of package lit: rows of literals (Const, Number, Turn, Over).
-/
import Derived.Test.YtnjoklcddodfeaaDoorLit
import Derived.Deep.QuietTactic
import Derived.BigQuiet
namespace Go.Proofs.YtnjoklcddodfeaaDoor
open Go.ChangeShapes Go.WideShapes Go.ChangeAt Go.RowKit
set_option linter.unusedVariables false

theorem lit_info : (Tryd.prog.info? 41).map (fun i => (i.zero, i.size, i.bytes)) = some (some (.int .u32 0), 1, 4) := by kernel_rfl

def constL (n k : Nat) : List Nat := (List.range k).map fun i => n / 2 ^ i % 2
theorem constL_succ (n k : Nat) : constL n (k + 1) = constL n k ++ [n / 2 ^ k % 2] := by simp [constL, List.range_succ]
theorem constL_length (n k : Nat) : (constL n k).length = k := by simp [constL]
theorem shr_spell (n k : Nat) : n / 2 ^ k / 2 = n / 2 ^ (k + 1) := by rw [Nat.div_div_eq_div_mul, Nat.pow_succ]
theorem bits_and1w (n : Nat) (h : n < 18446744073709551616) : bits .and .u64 (n : Int) 1 = ((n % 2 : Nat) : Int) := by
  rw [show (1 : Int) = ((1 : Nat) : Int) from rfl, u64_and_nat _ _ h (by omega), nat_mask1]


/-- the number whose bits a row of constants is -/
def numV : List Nat → Nat
  | [] => 0
  | b :: r => b + 2 * numV r
def numR (row : List Nat) : Nat := if decide (row.length ≤ 64) && row.all (· ≤ 1) then numV row else 0
def numB (row : List Nat) : Bool := decide (row.length ≤ 64) && row.all (· ≤ 1)
theorem numR_eq (row : List Nat) : numR row = if numB row then numV row else 0 := rfl
theorem numV_snoc (l : List Nat) (b : Nat) : numV (l ++ [b]) = numV l + b * 2 ^ l.length := by
  induction l with
  | nil => simp [numV]
  | cons x l ih =>
    have h2 : b * (2 ^ l.length * 2) = 2 * (b * 2 ^ l.length) := by rw [← Nat.mul_assoc, Nat.mul_comm]
    simp only [List.cons_append, numV, ih, List.length_cons, Nat.pow_succ]
    omega
theorem numV_lt (l : List Nat) (h : ∀ b ∈ l, b ≤ 1) : numV l < 2 ^ l.length := by
  induction l with
  | nil => simp [numV]
  | cons x l ih =>
    have h1 := ih fun b hb => h b (List.mem_cons_of_mem _ hb)
    have h2 := h x (List.mem_cons_self)
    simp only [numV, List.length_cons, Nat.pow_succ]
    omega
theorem numV_constL (n k : Nat) : numV (constL n k) = n % 2 ^ k := by
  induction k with
  | zero => simp [constL, numV, Nat.mod_one]
  | succ k ih => rw [constL_succ, numV_snoc, ih, constL_length, Nat.mod_pow_succ, Nat.mul_comm]
theorem take_snoc {α : Type} (l : List α) (k : Nat) (h : k < l.length) : l.take (k + 1) = l.take k ++ [l[k]] := by
  rw [List.take_succ_eq_append_getElem h]
theorem num_spell (v b k : Nat) (hv : v < 2 ^ k) (hb : b ≤ 1) (hk : k < 64) : bits .or .u64 (v : Int) (IntKind.u64.wrap ((b : Int) * 2 ^ k)) = ((v + b * 2 ^ k : Nat) : Int) := by
  have h1 : 2 ^ k ≤ 2 ^ 63 := Nat.pow_le_pow_right (by omega) (by omega)
  have h2 : b * 2 ^ k < 18446744073709551616 := by
    have : b * 2 ^ k ≤ 1 * 2 ^ k := Nat.mul_le_mul_right _ hb
    omega
  have h3 : IntKind.u64.wrap ((b : Int) * 2 ^ k) = ((b * 2 ^ k : Nat) : Int) := by
    rw [IntKind.wrap_u64]
    push_cast
    have : ((b * 2 ^ k : Nat) : Int) < 18446744073709551616 := by omega
    push_cast at this
    have h0 : (0 : Int) ≤ (b : Int) * 2 ^ k := by
      have : (0 : Int) ≤ ((b * 2 ^ k : Nat) : Int) := by omega
      push_cast at this
      exact this
    omega
  rw [h3, u64_or_nat _ _ (by omega) h2, Nat.or_comm, nat_join k _ _ (by simp) hv, Nat.add_comm]




def overL (bys : List Nat) (l : Nat) : Nat := ifL (bys.getD (l / 2) 0) (decide (l % 2 = 1))

theorem cell_alloc {w : World} {a : Addr} {v : Value} (h : w.cell? a = some v) (o : Obj) : (w.alloc o).cell? a = some v := ((Kept.refl [] w).alloc o).cell h (by simp)

end Go.Proofs.YtnjoklcddodfeaaDoor
