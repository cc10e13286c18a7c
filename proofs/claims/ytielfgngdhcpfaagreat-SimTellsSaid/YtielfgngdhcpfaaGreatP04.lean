/-
  Contracts of package lit: rows of literals (Const, Number, Turn, Over).
  Contracts of package lit: literals, their words, folds.
-/
import Derived.Test.YtielfgngdhcpfaaGreatP01
import Derived.Test.YtielfgngdhcpfaaGreatP00
import Derived.Outline
import Derived.Deep.QuietTactic
import Derived.BigQuiet
namespace Go.Proofs.YtielfgngdhcpfaaGreat
open Go.ChangeShapes Go.WideShapes Go.ChangeAt Go.RowKit
set_option linter.unusedVariables false

theorem lit_not (l : Nat) (w : World) (h : l < 4294967296) : Calls Tryz.prog 25 #[.int .u32 l] w fun e w' => e = .returned (.int .u32 (ntL l : Nat)) ∧ w = w' := by
  have hx := Lib.hid (bits_xor1 l h)
  go_enter Tryz.func25, Tryz.ntmps25
  go_wp2
  go_ret
  exact ⟨by rw [← hx.out]; rfl, rfl⟩
theorem lit_node (l : Nat) (w : World) (h : l < 4294967296) : Calls Tryz.prog 40 #[.int .u32 l] w fun e w' => e = .returned (.int .i64 (l / 2 : Nat)) ∧ w = w' := by
  go_enter Tryz.func40, Tryz.ntmps40
  go_wp2
  go_ret
  exact ⟨rfl, rfl⟩
theorem lit_if (l : Nat) (t : Bool) (w : World) (h : l < 4294967296) : Calls Tryz.prog 54 #[.int .u32 l, .bool t] w fun e w' => e = .returned (.int .u32 (ifL l t : Nat)) ∧ w = w' := by
  cases t
  · go_enter Tryz.func54, Tryz.ntmps54
    go_wp2
    go_ret
    exact ⟨rfl, rfl⟩
  · go_enter Tryz.func54, Tryz.ntmps54
    go_wp2_with (go_at_call 25; refine (lit_not l _ h).mono ?_; rintro e w' ⟨rfl, rfl⟩)
    go_ret
    exact ⟨rfl, rfl⟩
theorem lit_if_i (x : Int) (t : Bool) (w : World) (h0 : 0 ≤ x) (h : x < 4294967296) : Calls Tryz.prog 54 #[.int .u32 x, .bool t] w fun e w' => e = .returned (.int .u32 (ifL x.toNat t : Nat)) ∧ w = w' := by
  obtain ⟨l, rfl⟩ := Int.eq_ofNat_of_zero_le h0
  rw [Int.toNat_natCast]
  exact lit_if l t w (by omega)
theorem lit_pair (a b : Nat) (w : World) : Calls Tryz.prog 108 #[.int .u32 a, .int .u32 b] w fun e w' => e = .returned (.tuple #[.int .u32 (max a b : Nat), .int .u32 (min a b : Nat)]) ∧ w = w' := by
  rcases Nat.lt_trichotomy a b with h | h | h
  · go_enter Tryz.func108, Tryz.ntmps108
    go_wp2
    go_ret2
    rw [Nat.max_eq_right (by omega), Nat.min_eq_left (by omega)]
    exact ⟨rfl, rfl⟩
  · subst h
    go_enter Tryz.func108, Tryz.ntmps108
    go_wp2
    go_ret2
    rw [Nat.max_self, Nat.min_self]
    exact ⟨rfl, rfl⟩
  · go_enter Tryz.func108, Tryz.ntmps108
    go_wp2
    go_ret2
    rw [Nat.max_eq_left (by omega), Nat.min_eq_right (by omega)]
    exact ⟨rfl, rfl⟩
theorem lit_word (l : Nat) (a : Option Addr) (c n : Nat) (ws : List Nat) (w : World) (hn : ws.length = n) (hl : l < 4294967296) (hs : SlN w .u64 a ws) (hw : Words ws) :
    Calls Tryz.prog 43 #[.int .u32 l, .slice a n c] w fun e w' => e = .returned (.int .u64 (wd ws l : Nat)) ∧ w = w' := by
  subst hn
  have hx := Lib.hid (fun v hv => word_spell v l hv hl)
  by_cases h0 : l / 2 = 0
  · go_enter Tryz.func43, Tryz.ntmps43
    go_wp2
    go_ret
    refine ⟨?_, rfl⟩
    have := hx.out 0 (by omega)
    rw [show wd ws l = (if l % 2 = 1 then noW 0 else 0) by simp [wd, nodeW, h0], ← this]
    rfl
  · by_cases h1 : l / 2 < ws.length
    · obtain ⟨ad, rfl, hc⟩ := hs _ h1
      have hv := hw _ (List.getElem_mem h1)
      go_enter Tryz.func43, Tryz.ntmps43
      go_wp2
      go_ret
      refine ⟨?_, rfl⟩
      have := hx.out _ hv
      rw [show wd ws l = (if l % 2 = 1 then noW ws[l / 2] else ws[l / 2]) by simp [wd, nodeW, h0, h1], ← this]
      rfl
    · go_enter Tryz.func43, Tryz.ntmps43
      go_wp2
      go_ret
      refine ⟨?_, rfl⟩
      have := hx.out 0 (by omega)
      rw [show wd ws l = (if l % 2 = 1 then noW 0 else 0) by simp [wd, nodeW, h0, h1], ← this]
      rfl
theorem lit_fold (a b : Nat) (w : World) (ha : a < 4294967296) (hb : b < 4294967296) :
    Calls Tryz.prog 107 #[.int .u32 a, .int .u32 b] w fun e w' => e = .returned (.tuple #[.int .u32 (foldV a b : Nat), .bool (foldB a b)]) ∧ w = w' := by
  have hm : Hid (min a b < 4294967296) := Lib.hid (by omega)
  have hfin := Lib.hid (show foldV a b = (if min a b = 0 ∨ max a b = ntL (min a b) then 0 else if min a b = 1 ∨ max a b = min a b then max a b else 0) ∧ foldB a b = decide (min a b = 0 ∨ max a b = ntL (min a b) ∨ min a b = 1 ∨ max a b = min a b) by
    have : a = b ↔ max a b = min a b := by omega
    unfold foldV foldB
    simp only [this]
    exact ⟨trivial, trivial⟩)
  clear ha hb
  have hp := Lib.hid (fun w => lit_pair a b w)
  generalize max a b = x at *
  generalize min a b = y at *
  by_cases h0 : y = 0
  · subst h0
    go_enter Tryz.func107, Tryz.ntmps107
    go_wp2_with (go_at_call 108; refine (hp.out _).mono ?_; rintro e w' ⟨rfl, rfl⟩)
    go_ret2
    rw [hfin.out.1, hfin.out.2]
    simp
  · have k0 : ((y : Int) == 0) = false := by simp; omega
    by_cases h1 : x = ntL y
    · have k1 : ((x : Int) == (ntL y : Int)) = true := by simp [h1]
      have k1' := Lib.hid h1; clear h1
      go_enter Tryz.func107, Tryz.ntmps107
      go_wp2_with (first
        | (go_at_call 108; refine (hp.out _).mono ?_; rintro e w' ⟨rfl, rfl⟩)
        | (go_at_call 25; refine (lit_not _ _ hm.out).mono ?_; rintro e w' ⟨rfl, rfl⟩))
      go_ret2
      rw [hfin.out.1, hfin.out.2]
      simp [k1'.out]
    · have k1 : ((x : Int) == (ntL y : Int)) = false := by simp; omega
      have k1' := Lib.hid h1; clear h1
      by_cases h2 : y = 1
      · subst h2
        go_enter Tryz.func107, Tryz.ntmps107
        go_wp2_with (first
          | (go_at_call 108; refine (hp.out _).mono ?_; rintro e w' ⟨rfl, rfl⟩)
          | (go_at_call 25; refine (lit_not _ _ hm.out).mono ?_; rintro e w' ⟨rfl, rfl⟩))
        go_ret2
        rw [hfin.out.1, hfin.out.2]
        simp [k1'.out]
      · have k2 : ((y : Int) == 1) = false := by simp; omega
        by_cases h3 : x = y
        · subst h3
          go_enter Tryz.func107, Tryz.ntmps107
          go_wp2_with (first
            | (go_at_call 108; refine (hp.out _).mono ?_; rintro e w' ⟨rfl, rfl⟩)
            | (go_at_call 25; refine (lit_not _ _ hm.out).mono ?_; rintro e w' ⟨rfl, rfl⟩))
          go_ret2
          rw [hfin.out.1, hfin.out.2]
          simp [h0, k1'.out]
        · have k3 : ((x : Int) == (y : Int)) = false := by simp; omega
          go_enter Tryz.func107, Tryz.ntmps107
          go_wp2_with (first
            | (go_at_call 108; refine (hp.out _).mono ?_; rintro e w' ⟨rfl, rfl⟩)
            | (go_at_call 25; refine (lit_not _ _ hm.out).mono ?_; rintro e w' ⟨rfl, rfl⟩))
          go_ret2
          rw [hfin.out.1, hfin.out.2]
          simp [h0, k1'.out, h2, h3]
def ofV (n : Int) (t : Bool) : Nat := if 0 ≤ n ∧ n ≤ 16777216 then ifL (2 * n.toNat) t else 0
def ofE (n : Int) : Int := if 0 ≤ n ∧ n ≤ 16777216 then 0 else 1
theorem lit_of (n : Int) (t : Bool) (w : World) :
    Calls Tryz.prog 23 #[.int .i64 n, .bool t] w fun e w' => e = .returned (.tuple #[.int .u32 (ofV n t : Nat), .int .i64 (ofE n)]) ∧ w = w' := by
  by_cases h0 : n < 0
  · go_enter Tryz.func23, Tryz.ntmps23
    go_wp2
    go_ret2
    rw [show ofV n t = 0 by simp [ofV]; omega, show ofE n = 1 by simp [ofE]; omega]
    exact ⟨rfl, rfl⟩
  · by_cases h1 : 16777216 < n
    · go_enter Tryz.func23, Tryz.ntmps23
      go_wp2
      go_ret2
      rw [show ofV n t = 0 by simp [ofV]; omega, show ofE n = 1 by simp [ofE]; omega]
      exact ⟨rfl, rfl⟩
    · obtain ⟨k, rfl⟩ : ∃ k : Nat, n = k := ⟨n.toNat, by omega⟩
      have hv := Lib.hid (show ofV k t = ifL (2 * k) t by simp [ofV]; omega)
      have he := Lib.hid (show ofE k = 0 by simp [ofE]; omega)
      go_enter Tryz.func23, Tryz.ntmps23
      go_wp2_with (go_at_call 54; refine (lit_if_i _ t _ (by omega) (by omega)).mono ?_; rintro e w' ⟨rfl, rfl⟩)
      go_ret2
      rw [hv.out, he.out, show ((k : Int) * 2).toNat = 2 * k by omega]
      exact ⟨rfl, rfl⟩
end Go.Proofs.YtielfgngdhcpfaaGreat

namespace Go.Proofs.YtielfgngdhcpfaaGreat
open Go.ChangeShapes Go.WideShapes Go.ChangeAt Go.RowKit
set_option linter.unusedVariables false

theorem lit_info : (Tryz.prog.info? 59).map (fun i => (i.zero, i.size, i.bytes)) = some (some (.int .u32 0), 1, 4) := by kernel_rfl

def constL (n k : Nat) : List Nat := (List.range k).map fun i => n / 2 ^ i % 2
theorem constL_succ (n k : Nat) : constL n (k + 1) = constL n k ++ [n / 2 ^ k % 2] := by simp [constL, List.range_succ]
theorem constL_length (n k : Nat) : (constL n k).length = k := by simp [constL]
theorem shr_spell (n k : Nat) : n / 2 ^ k / 2 = n / 2 ^ (k + 1) := by rw [Nat.div_div_eq_div_mul, Nat.pow_succ]
theorem bits_and1w (n : Nat) (h : n < 18446744073709551616) : bits .and .u64 (n : Int) 1 = ((n % 2 : Nat) : Int) := by
  rw [show (1 : Int) = ((1 : Nat) : Int) from rfl, u64_and_nat _ _ h (by omega), nat_mask1]


/-- the number whose bits a row of constants is -/
def numV : List Nat → Nat
  | [] => 0
  | b :: r => b + 2 * numV r
def numR (row : List Nat) : Nat := if decide (row.length ≤ 64) && row.all (· ≤ 1) then numV row else 0
def numB (row : List Nat) : Bool := decide (row.length ≤ 64) && row.all (· ≤ 1)
theorem numR_eq (row : List Nat) : numR row = if numB row then numV row else 0 := rfl
theorem numV_snoc (l : List Nat) (b : Nat) : numV (l ++ [b]) = numV l + b * 2 ^ l.length := by
  induction l with
  | nil => simp [numV]
  | cons x l ih =>
    have h2 : b * (2 ^ l.length * 2) = 2 * (b * 2 ^ l.length) := by rw [← Nat.mul_assoc, Nat.mul_comm]
    simp only [List.cons_append, numV, ih, List.length_cons, Nat.pow_succ]
    omega
theorem numV_lt (l : List Nat) (h : ∀ b ∈ l, b ≤ 1) : numV l < 2 ^ l.length := by
  induction l with
  | nil => simp [numV]
  | cons x l ih =>
    have h1 := ih fun b hb => h b (List.mem_cons_of_mem _ hb)
    have h2 := h x (List.mem_cons_self)
    simp only [numV, List.length_cons, Nat.pow_succ]
    omega
theorem numV_constL (n k : Nat) : numV (constL n k) = n % 2 ^ k := by
  induction k with
  | zero => simp [constL, numV, Nat.mod_one]
  | succ k ih => rw [constL_succ, numV_snoc, ih, constL_length, Nat.mod_pow_succ, Nat.mul_comm]
theorem take_snoc {α : Type} (l : List α) (k : Nat) (h : k < l.length) : l.take (k + 1) = l.take k ++ [l[k]] := by
  rw [List.take_succ_eq_append_getElem h]
theorem num_spell (v b k : Nat) (hv : v < 2 ^ k) (hb : b ≤ 1) (hk : k < 64) : bits .or .u64 (v : Int) (IntKind.u64.wrap ((b : Int) * 2 ^ k)) = ((v + b * 2 ^ k : Nat) : Int) := by
  have h1 : 2 ^ k ≤ 2 ^ 63 := Nat.pow_le_pow_right (by omega) (by omega)
  have h2 : b * 2 ^ k < 18446744073709551616 := by
    have : b * 2 ^ k ≤ 1 * 2 ^ k := Nat.mul_le_mul_right _ hb
    omega
  have h3 : IntKind.u64.wrap ((b : Int) * 2 ^ k) = ((b * 2 ^ k : Nat) : Int) := by
    rw [IntKind.wrap_u64]
    push_cast
    have : ((b * 2 ^ k : Nat) : Int) < 18446744073709551616 := by omega
    push_cast at this
    have h0 : (0 : Int) ≤ (b : Int) * 2 ^ k := by
      have : (0 : Int) ≤ ((b * 2 ^ k : Nat) : Int) := by omega
      push_cast at this
      exact this
    omega
  rw [h3, u64_or_nat _ _ (by omega) h2, Nat.or_comm, nat_join k _ _ (by simp) hv, Nat.add_comm]




def overL (bys : List Nat) (l : Nat) : Nat := ifL (bys.getD (l / 2) 0) (decide (l % 2 = 1))

theorem cell_alloc {w : World} {a : Addr} {v : Value} (h : w.cell? a = some v) (o : Obj) : (w.alloc o).cell? a = some v := ((Kept.refl [] w).alloc o).cell h (by simp)

end Go.Proofs.YtielfgngdhcpfaaGreat
